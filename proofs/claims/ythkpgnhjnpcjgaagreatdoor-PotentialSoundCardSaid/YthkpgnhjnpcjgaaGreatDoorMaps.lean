/- Maps as lists of pairs in the order in which the keys came: what look-ups and stores do, over any key type that is read as a key. -/
import Derived.Maps.RangeRun
import Derived.Maps.Keyed
import Derived.OwnWalkIn
import Derived.RangeFuncCalls
import Derived.Test.YthkpgnhjnpcjgaaGreatDoorPl
import Derived.TacticsInMore
namespace Go.Proofs.Kb
open Go Go.RowKit
open Go.Maps (Keyed)
open Pl (mget mput)

variable {κ ν : Type}

/-- the entries of a map in the order in which they came -/
def entriesFrom (ek : κ → Value) (ev : ν → Value) : Nat → List (κ × ν) → List MapEntry
  | _, [] => []
  | i, (k, v) :: m => ⟨ek k, ev v, i⟩ :: entriesFrom ek ev (i + 1) m

def mobj (ek : κ → Value) (ev : ν → Value) (m : List (κ × ν)) : Obj := .map (entriesFrom ek ev 0 m).toArray m.length

/-- block b is the map m, whose keys all differ -/
structure MapAt (ek : κ → Value) (ev : ν → Value) (w : World) (b : Nat) (m : List (κ × ν)) : Prop where
  obj : w.heap[b]? = some (mobj ek ev m)
  nodup : (m.map (·.1)).Nodup

/-- keys of a type: how they are laid down, and which of them can be read -/
structure KeyEnc (P : Program) (kt : TypeId) (ek : κ → Value) (good : κ → Prop) : Prop where
  keyed : Keyed P kt
  ok : ∀ k, good k → ∃ l, keyOf P kt (ek k) = some l
  inj : ∀ a b, ek a = ek b → a = b

theorem entriesFrom_length (ek : κ → Value) (ev : ν → Value) : ∀ (i : Nat) (m : List (κ × ν)), (entriesFrom ek ev i m).length = m.length
  | _, [] => rfl
  | i, _ :: m => by simp [entriesFrom, entriesFrom_length ek ev (i + 1) m]

theorem entriesFrom_get (ek : κ → Value) (ev : ν → Value) : ∀ (i : Nat) (m : List (κ × ν)) (j : Nat), (entriesFrom ek ev i m)[j]? = (m[j]?).map fun e => ⟨ek e.1, ev e.2, i + j⟩
  | _, [], j => by simp [entriesFrom]
  | i, (k, v) :: m, 0 => by simp [entriesFrom]
  | i, (k, v) :: m, j + 1 => by
    simp only [entriesFrom, List.getElem?_cons_succ, entriesFrom_get ek ev (i + 1) m j]
    cases m[j]? with
    | none => rfl
    | some e => simp; omega

theorem entriesFrom_append (ek : κ → Value) (ev : ν → Value) : ∀ (i : Nat) (m : List (κ × ν)) (k : κ) (v : ν), entriesFrom ek ev i (m ++ [(k, v)]) = entriesFrom ek ev i m ++ [⟨ek k, ev v, i + m.length⟩]
  | i, [], k, v => by simp [entriesFrom]
  | i, (k', v') :: m, k, v => by simp [entriesFrom, entriesFrom_append ek ev (i + 1) m k v]; omega

theorem entriesFrom_set (ek : κ → Value) (ev : ν → Value) : ∀ (i : Nat) (m : List (κ × ν)) (j : Nat) (k : κ) (v : ν), entriesFrom ek ev i (m.set j (k, v)) = (entriesFrom ek ev i m).set j ⟨ek k, ev v, i + j⟩
  | _, [], j, k, v => by simp [entriesFrom]
  | i, (k', v') :: m, 0, k, v => by simp [entriesFrom]
  | i, (k', v') :: m, j + 1, k, v => by
    simp only [List.set_cons_succ, entriesFrom, entriesFrom_set ek ev (i + 1) m j k v, Nat.add_assoc, Nat.add_comm 1 j]

theorem mem_entriesFrom {ek : κ → Value} {ev : ν → Value} {i : Nat} {m : List (κ × ν)} {x : MapEntry} (h : x ∈ entriesFrom ek ev i m) : ∃ e ∈ m, x.key = ek e.1 ∧ x.val = ev e.2 ∧ x.born < i + m.length := by
  obtain ⟨j, hj⟩ := List.mem_iff_getElem?.1 h
  rw [entriesFrom_get] at hj
  cases hm : m[j]? with
  | none => rw [hm] at hj; simp at hj
  | some e =>
    rw [hm] at hj
    simp at hj
    subst hj
    have := (List.getElem?_eq_some_iff.1 hm).1
    exact ⟨e, List.mem_of_getElem? hm, rfl, rfl, by simp; omega⟩

theorem MapAt.lt {ek : κ → Value} {ev : ν → Value} {w : World} {b : Nat} {m : List (κ × ν)} (h : MapAt ek ev w b m) : b < w.heap.size := (Array.getElem?_eq_some_iff.1 h.obj).1

theorem MapAt.same {ek : κ → Value} {ev : ν → Value} {w w' : World} {b : Nat} {m : List (κ × ν)} (h : MapAt ek ev w b m) (e : w'.heap[b]? = w.heap[b]?) : MapAt ek ev w' b m := ⟨e.trans h.obj, h.nodup⟩

theorem MapAt.new (ek : κ → Value) (ev : ν → Value) (w : World) : MapAt ek ev (w.alloc (.map #[] 0)) w.heap.size [] :=
  ⟨World.alloc_heap_new w _, by simp⟩

variable [DecidableEq κ]

theorem mget_of_getElem {m : List (κ × ν)} (hn : (m.map (·.1)).Nodup) {j : Nat} {e : κ × ν} (h : m[j]? = some e) : mget m e.1 = some e.2 := by
  induction m generalizing j with
  | nil => simp at h
  | cons x m ih =>
    simp only [List.map_cons, List.nodup_cons] at hn
    cases j with
    | zero => simp at h; subst h; simp [mget]
    | succ j =>
      simp at h
      have hne : x.1 ≠ e.1 := fun hx => hn.1 (by rw [hx]; exact List.mem_map.2 ⟨e, List.mem_of_getElem? h, rfl⟩)
      have := ih hn.2 h
      unfold mget at this ⊢
      simpa [hne] using this

theorem mget_none {m : List (κ × ν)} {k : κ} (h : ∀ e ∈ m, e.1 ≠ k) : mget m k = none := by
  unfold mget
  rw [List.find?_eq_none.2 (by simpa using h)]
  rfl

theorem mput_set {m : List (κ × ν)} (hn : (m.map (·.1)).Nodup) {j : Nat} {e : κ × ν} (h : m[j]? = some e) (v : ν) : mput m e.1 v = m.set j (e.1, v) := by
  have hany : m.any (fun x => decide (x.1 = e.1)) = true := by
    simp only [List.any_eq_true, decide_eq_true_eq]
    exact ⟨e, List.mem_of_getElem? h, rfl⟩
  unfold mput
  rw [if_pos hany]
  clear hany
  induction m generalizing j with
  | nil => simp at h
  | cons x m ih =>
    simp only [List.map_cons, List.nodup_cons] at hn
    cases j with
    | zero =>
      simp at h
      subst h
      simp only [List.map_cons, if_true, List.set_cons_zero, List.cons.injEq, true_and]
      refine (List.map_congr_left fun y hy => ?_).trans (List.map_id _)
      have hne : y.1 ≠ x.1 := fun hx => hn.1 (by rw [← hx]; exact List.mem_map.2 ⟨y, hy, rfl⟩)
      simp [hne]
    | succ j =>
      simp at h
      have hne : x.1 ≠ e.1 := fun hx => hn.1 (by rw [hx]; exact List.mem_map.2 ⟨e, List.mem_of_getElem? h, rfl⟩)
      simp only [List.map_cons, hne, if_false, List.set_cons_succ, List.cons.injEq, true_and]
      exact ih hn.2 h

theorem mput_new {m : List (κ × ν)} {k : κ} (h : ∀ e ∈ m, e.1 ≠ k) (v : ν) : mput m k v = m ++ [(k, v)] := by
  unfold mput
  rw [if_neg (by simp only [List.any_eq_true, decide_eq_true_eq]; rintro ⟨e, he, hk⟩; exact h e he hk)]

theorem mput_nodup {m : List (κ × ν)} (hn : (m.map (·.1)).Nodup) (k : κ) (v : ν) : ((mput m k v).map (·.1)).Nodup := by
  unfold mput
  split
  · have : (m.map fun e => if e.1 = k then (k, v) else e).map (·.1) = m.map (·.1) := by
      rw [List.map_map]
      refine List.map_congr_left fun e _ => ?_
      by_cases h : e.1 = k <;> simp [h]
    rw [this]; exact hn
  · rename_i h
    simp only [List.any_eq_true, decide_eq_true_eq] at h
    rw [List.map_append, List.nodup_append]
    refine ⟨hn, by simp, ?_⟩
    intro x hx y hy
    simp at hy
    subst hy
    obtain ⟨e, he, rfl⟩ := List.mem_map.1 hx
    intro heq
    exact h ⟨e, he, heq⟩

section run
variable {P : Program} {kt vt t : TypeId} {ek : κ → Value} {ev : ν → Value} {good : κ → Prop} {w : World} {b : Nat} {m : List (κ × ν)}

omit [DecidableEq κ] in
theorem MapAt.find (_h : MapAt ek ev w b m) (K : KeyEnc P kt ek good) (hm : ∀ e ∈ m, good e.1) {k : κ} (hk : good k) :
    ((Instr.findKey kt (ek k) (entriesFrom ek ev 0 m)).run P w = .ok none w ∧ ∀ e ∈ m, e.1 ≠ k) ∨
    ∃ j e, (Instr.findKey kt (ek k) (entriesFrom ek ev 0 m)).run P w = .ok (some (j, ev e.2)) w ∧ m[j]? = some e ∧ e.1 = k := by
  obtain ⟨l, hl⟩ := K.ok k hk
  rcases K.keyed.find w hl (entriesFrom ek ev 0 m) (fun x hx => by
    obtain ⟨e, he, h1, _⟩ := mem_entriesFrom hx
    rw [h1]; exact K.ok _ (hm e he)) with ⟨h1, h2⟩ | ⟨j, e0, h1, h2, h3⟩
  · refine Or.inl ⟨h1, fun e he hek => ?_⟩
    obtain ⟨j, hj⟩ := List.mem_iff_getElem?.1 he
    exact h2 ⟨ek e.1, ev e.2, 0 + j⟩ (List.mem_of_getElem? (by rw [entriesFrom_get, hj]; rfl)) (by rw [hek])
  · rw [entriesFrom_get] at h2
    cases hm' : m[j]? with
    | none => rw [hm'] at h2; simp at h2
    | some e =>
      rw [hm'] at h2
      simp at h2
      subst h2
      exact Or.inr ⟨j, e, h1, hm', K.inj _ _ h3⟩

theorem MapAt.lookup (h : MapAt ek ev w b m) (K : KeyEnc P kt ek good) (ht : P.underlying t = some (.map kt vt)) {z : Value} (hz : (zeroValue vt).run P w = .ok z w)
    (hm : ∀ e ∈ m, good e.1) {k : κ} (hk : good k) (c : Bool) :
    (Instr.lookup t (.map (some b)) (ek k) c).run P w = .ok (if c then .tuple #[((mget m k).map ev).getD z, .bool (mget m k).isSome] else ((mget m k).map ev).getD z) w := by
  obtain ⟨l, hl⟩ := K.ok k hk
  have hb : w.heap[b]? = some (.map (entriesFrom ek ev 0 m).toArray m.length) := h.obj
  rcases h.find K hm hk with ⟨h1, h2⟩ | ⟨j, e, h1, h2, rfl⟩
  · rw [mget_none h2]
    simp [Instr.lookup, run_underlying ht, MapKept.run_getObj_map hb, K.keyed.check w _ hl, h1, hz, Result.andThen]
  · rw [mget_of_getElem h.nodup h2]
    simp [Instr.lookup, run_underlying ht, MapKept.run_getObj_map hb, K.keyed.check w _ hl, h1, Result.andThen]

theorem MapAt.update (h : MapAt ek ev w b m) (K : KeyEnc P kt ek good) (ht : P.underlying t = some (.map kt vt))
    (hm : ∀ e ∈ m, good e.1) {k : κ} (hk : good k) (v : ν) :
    (Instr.mapUpdate t (.map (some b)) (ek k) (ev v)).run P w = .ok () (w.putObj b (mobj ek ev (mput m k v))) := by
  obtain ⟨l, hl⟩ := K.ok k hk
  have hb : w.heap[b]? = some (.map (entriesFrom ek ev 0 m).toArray m.length) := h.obj
  rcases h.find K hm hk with ⟨h1, h2⟩ | ⟨j, e, h1, h2, rfl⟩
  · rw [mput_new h2]
    have e1 : mobj ek ev (m ++ [(k, v)]) = .map ((entriesFrom ek ev 0 m).toArray.push ⟨ek k, ev v, m.length⟩) (m.length + 1) := by
      simp [mobj, entriesFrom_append]
    simp [Instr.mapUpdate, run_underlying ht, MapKept.run_getObj_map hb, K.keyed.check w false hl, h1, MapKept.run_setObj_map _ hb, Result.andThen, e1, World.putObj]
  · rw [mput_set h.nodup h2]
    have hj : (entriesFrom ek ev 0 m)[j]? = some ⟨ek e.1, ev e.2, 0 + j⟩ := by rw [entriesFrom_get, h2]; rfl
    have hjl := (List.getElem?_eq_some_iff.1 hj).1
    have e1 : mobj ek ev (m.set j (e.1, v)) = .map ((entriesFrom ek ev 0 m).toArray.modify j fun x => { x with key := ek e.1, val := ev v }) m.length := by
      simp only [mobj, entriesFrom_set, List.length_set]
      congr 1
      apply Array.ext'
      rw [Array.toList_modify]
      have hj' := (List.getElem?_eq_some_iff.1 hj).2
      refine List.ext_getElem? fun i => ?_
      rw [List.getElem?_modify, List.getElem?_set]
      by_cases hi : j = i
      · subst hi
        simp [hjl, hj']
      · simp [hi]
    simp [Instr.mapUpdate, run_underlying ht, MapKept.run_getObj_map hb, K.keyed.check w false hl, h1, hj, K.keyed.stays w hl, MapKept.run_setObj_map _ hb, Result.andThen, e1, World.putObj]

theorem MapAt.put (h : MapAt ek ev w b m) (k : κ) (v : ν) : MapAt ek ev (w.putObj b (mobj ek ev (mput m k v))) b (mput m k v) :=
  ⟨World.putObj_heap_same (Array.getElem?_eq_some_iff.1 h.obj).1, mput_nodup h.nodup k v⟩



end run
/-- an iterator over map m in block r: the indices of the entries that have come -/
def iterObj (b n : Nat) (seen : List Nat) : Obj := .mapIter (some b) n seen.toArray n

section iter
variable {P : Program} {ek : κ → Value} {ev : ν → Value} {w : World} {b r : Nat} {m : List (κ × ν)}

omit [DecidableEq κ] in
theorem MapAt.range {kt vt t : TypeId} (h : MapAt ek ev w b m) (ht : P.underlying t = some (.map kt vt)) :
    (Instr.range t (.map (some b))).run P w = .ok (.pointer (some ⟨w.heap.size, 0, none⟩)) (w.alloc (iterObj b m.length [])) :=
  run_range_map w t kt vt b _ _ ht h.obj

omit [DecidableEq κ] in
theorem MapAt.next (h : MapAt ek ev w b m) {seen : List Nat} (hr : w.heap[r]? = some (iterObj b m.length seen)) (ty : TypeId) :
    ((∀ j, j < m.length → j ∈ seen) ∧ (Instr.next (.pointer (some ⟨r, 0, none⟩)) false ty).run P w = .ok (.tuple #[.bool false]) w) ∨
    ∃ j e w1, m[j]? = some e ∧ j ∉ seen ∧ (w1 = w ∨ w1 = w.drew) ∧
      (Instr.next (.pointer (some ⟨r, 0, none⟩)) false ty).run P w = .ok (.tuple #[.bool true, ek e.1, ev e.2]) (w1.putObj r (iterObj b m.length (seen ++ [j]))) := by
  have hold : ∀ x ∈ (entriesFrom ek ev 0 m).toArray.toList, x.born < m.length := fun x hx => by
    obtain ⟨_, _, _, _, h4⟩ := mem_entriesFrom (show x ∈ entriesFrom ek ev 0 m by simpa using hx)
    omega
  rcases run_next_at (P := P) w ty r b m.length m.length seen.toArray _ _ hr h.obj hold (Nat.le_refl _) with ⟨h0, hrun⟩ | ⟨e, he, w1, hw1, hrun⟩
  · refine Or.inl ⟨fun j hj => ?_, hrun⟩
    have hmem : (⟨ek m[j].1, ev m[j].2, 0 + j⟩ : MapEntry) ∈ entriesFrom ek ev 0 m := List.mem_of_getElem? (i := j) (by rw [entriesFrom_get]; simp [hj])
    have hl : leftOf (entriesFrom ek ev 0 m).toArray seen.toArray = #[] := Array.eq_empty_of_size_eq_zero h0
    unfold leftOf at hl
    rw [Array.filter_eq_empty_iff] at hl
    have := hl _ (by simpa using hmem)
    simpa using this
  · unfold leftOf at he
    simp only [Array.toList_filter, List.mem_filter] at he
    obtain ⟨he1, he2⟩ := he
    obtain ⟨j, hj⟩ := List.mem_iff_getElem?.1 he1
    rw [entriesFrom_get] at hj
    cases hm : m[j]? with
    | none => rw [hm] at hj; simp at hj
    | some x =>
      rw [hm] at hj
      simp at hj
      subst hj
      refine Or.inr ⟨j, x, w1, hm, by simpa using he2, hw1, ?_⟩
      rw [hrun]
      have : seen.toArray.push j = (seen ++ [j]).toArray := by simp
      simp only [iterObj, ← this]
      rfl

omit [DecidableEq κ] in
theorem MapAt.entry (h : MapAt ek ev w b m) {seen : List Nat} {j : Nat} (hr : w.heap[r]? = some (iterObj b m.length (seen ++ [j]))) {e : κ × ν} (he : m[j]? = some e) :
    (Instr.entry (.pointer (some ⟨r, 0, none⟩))).run P w = .ok (.tuple #[ek e.1, ev e.2]) w := by
  have hborn : ∀ (i : Nat) (m : List (κ × ν)), (entriesFrom ek ev i m).map (·.born) = List.range' i m.length := by
    intro i m
    induction m generalizing i with
    | nil => rfl
    | cons x m ih => simp [entriesFrom, ih, List.range'_succ]
  have hmem : (⟨ek e.1, ev e.2, 0 + j⟩ : MapEntry) ∈ entriesFrom ek ev 0 m := List.mem_of_getElem? (i := j) (by rw [entriesFrom_get, he]; rfl)
  have := run_entry_at (P := P) w r b m.length seen.toArray _ _ (⟨ek e.1, ev e.2, 0 + j⟩ : MapEntry) (by rw [hr]; simp [iterObj]) h.obj hmem (by simp only [hborn]; exact List.nodup_range')
  exact this
end iter
end Go.Proofs.Kb
