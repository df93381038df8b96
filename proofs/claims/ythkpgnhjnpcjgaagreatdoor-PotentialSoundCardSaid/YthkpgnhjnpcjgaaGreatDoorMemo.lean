/- Plain laws: how many states there are; the certificate out of what is known, in whatever order it comes. -/
import Derived.Test.YthkpgnhjnpcjgaaGreatDoorChk0
namespace Pl

theorem nodup_sub {α : Type} [DecidableEq α] : ∀ (l m : List α), l.Nodup → (∀ x ∈ l, x ∈ m) → l.length ≤ m.length
  | [], _, _, _ => Nat.zero_le _
  | x :: l, m, hn, h => by
    rw [List.nodup_cons] at hn
    have hx := h x (by simp)
    have := nodup_sub l (m.erase x) hn.2 (fun y hy => by
      have hne : y ≠ x := fun e => hn.1 (e ▸ hy)
      exact (List.mem_erase_of_ne hne).2 (h y (by simp [hy])))
    rw [List.length_erase_of_mem hx] at this
    have := List.length_pos_of_mem hx
    simp only [List.length_cons]
    omega

theorem fromM_keys {p : Two} (G : State → Prop) (hG : ∀ s, G s → ∀ m ∈ moves p s, G m.2) : ∀ (n : Nat) (s : State) (m : Memo), G s → (∀ e ∈ m, G e.1) → ∀ e ∈ (fromM p n s m).2, G e.1
  | 0, _, _, _, h => h
  | n + 1, s, m, hs, hm => by
    unfold fromM
    cases hg : mget m s with
    | some v => exact hm
    | none =>
      have key : ∀ (l : List (Int × State)) (z : Int) (m : Memo), (∀ x ∈ l, G x.2) → (∀ e ∈ m, G e.1) → ∀ e ∈ (fromL (fromM p n) l z m).2, G e.1 := by
        intro l
        induction l with
        | nil => exact fun z m _ hm => hm
        | cons x l ih =>
          intro z m hx hm
          obtain ⟨c, t⟩ := x
          exact ih _ _ (fun y hy => hx y (by simp [hy])) (fromM_keys G hG n t m (hx (c, t) (by simp)) hm)
      intro e he
      rcases mput_mem he with he | rfl
      · exact key _ _ m (fun x hx => hG s hs x hx) hm e he
      · exact hs

/-- what may be ahead -/
def aheads (p : Two) : List Str := [] :: p.rules.flatMap fun r => [r.to, r.to.drop 1, r.to.drop 2, r.to.drop 3]

theorem aheads_rule {p : Two} {r : Rule} (hr : r ∈ p.rules) (h3 : r.to.length ≤ 3) (k : Nat) : r.to.drop k ∈ aheads p := by
  unfold aheads
  rcases k with _ | _ | _ | _ | k
  · exact List.mem_cons_of_mem _ (List.mem_flatMap.2 ⟨r, hr, by simp⟩)
  · exact List.mem_cons_of_mem _ (List.mem_flatMap.2 ⟨r, hr, by simp⟩)
  · exact List.mem_cons_of_mem _ (List.mem_flatMap.2 ⟨r, hr, by simp⟩)
  · exact List.mem_cons_of_mem _ (List.mem_flatMap.2 ⟨r, hr, by simp⟩)
  · rw [List.drop_eq_nil_of_le (by omega)]; simp

theorem aheads_drop {p : Two} (h3 : ∀ r ∈ p.rules, r.to.length ≤ 3) {a : Str} (ha : a ∈ aheads p) (k : Nat) : a.drop k ∈ aheads p := by
  rcases List.mem_cons.1 ha with rfl | ha
  · simp [aheads]
  · obtain ⟨r, hr, hm⟩ := List.mem_flatMap.1 ha
    simp only [List.mem_cons, List.not_mem_nil, or_false] at hm
    rcases hm with rfl | rfl | rfl | rfl
    · exact aheads_rule hr (h3 r hr) k
    all_goals (rw [List.drop_drop]; exact aheads_rule hr (h3 r hr) _)

theorem aheads_move {p : Two} (h3 : ∀ r ∈ p.rules, r.to.length ≤ 3) {s : State} (hs : s.ahead ∈ aheads p) {m : Int × State} (hm : m ∈ moves p s) : m.2.ahead ∈ aheads p := by
  obtain ⟨r, hr, hmv⟩ := List.mem_filterMap.1 hm
  unfold Pl.move at hmv
  split at hmv
  · cases hmv
  · split at hmv
    · rename_i ah rt hh
      cases hmv
      have : ah ∈ aheads p := by
        unfold Pl.ahead at hh
        split at hh
        · cases hh; exact aheads_drop h3 hs _
        · split at hh
          · cases hh; exact aheads_rule hr (h3 r hr) _
          · cases hh
      split <;> exact this
    · cases hmv

/-- all states that there may be -/
def allStates (p : Two) : List State := (List.range 13).flatMap fun (i : Nat) => (List.range 13).flatMap fun (j : Nat) => (aheads p).flatMap fun a => [⟨i, j, a, false⟩, ⟨i, j, a, true⟩]

theorem allStates_length (p : Two) : (allStates p).length = 13 * (13 * ((1 + p.rules.length * 4) * 2)) := by
  have h : ∀ (β : Type) (n : Nat) (f : Nat → List β) (c : Nat), (∀ i, (f i).length = c) → ((List.range n).flatMap f).length = n * c := by
    intro β n f c hc
    induction n with
    | zero => simp
    | succ n ih => rw [List.range_succ, List.flatMap_append, List.length_append, ih]; simp [hc]; rw [Nat.add_mul]; omega
  have h2 : ∀ (α β : Type) (l : List α) (f : α → List β) (c : Nat), (∀ i, (f i).length = c) → (l.flatMap f).length = l.length * c := by
    intro α β l f c hc
    induction l with
    | nil => simp
    | cons x l ih => rw [List.flatMap_cons, List.length_append, ih, hc, List.length_cons, Nat.add_mul]; omega
  unfold allStates
  refine h _ _ _ _ fun i => h _ _ _ _ fun j => ?_
  rw [h2 _ _ _ _ 2 (fun a => rfl)]
  unfold aheads
  rw [List.length_cons, h2 _ _ _ _ 4 (fun a => rfl)]
  omega

theorem known_length {p : Two} (h3 : ∀ r ∈ p.rules, r.to.length ≤ 3) (h80 : p.rules.length ≤ 80) (hl : p.l.length ≤ 12) (hm : p.m.length ≤ 12) (hn : ((known p).2.map (·.1)).Nodup) : (known p).2.length ≤ 108498 := by
  have hG : ∀ e ∈ (known p).2, OkState p e.1 ∧ e.1.ahead ∈ aheads p := by
    refine fromM_keys (fun s => OkState p s ∧ s.ahead ∈ aheads p) (fun s hs m hm => ⟨(moves_ok hs.1 hm).1, aheads_move h3 hs.2 hm⟩) _ _ _ ⟨start_ok p, by simp [aheads, State.start]⟩ (fun e he => by cases he)
  have := nodup_sub _ (allStates p) hn (fun s hs => by
    obtain ⟨e, he, rfl⟩ := List.mem_map.1 hs
    obtain ⟨⟨i0, i1, j0, j1⟩, ha⟩ := hG e he
    obtain ⟨⟨si, sj, sa, sr⟩, v⟩ := e
    simp only at i0 i1 j0 j1 ha
    refine List.mem_flatMap.2 ⟨si.toNat, List.mem_range.2 (by omega), List.mem_flatMap.2 ⟨sj.toNat, List.mem_range.2 (by omega), List.mem_flatMap.2 ⟨sa, ha, ?_⟩⟩⟩
    have e1 : (si.toNat : Int) = si := by omega
    have e2 : (sj.toNat : Int) = sj := by omega
    rw [e1, e2]
    cases sr <;> simp)
  rw [allStates_length, List.length_map] at this
  omega

/-- the element of a certificate out of what is known of a state -/
def potOf (bound : Int) (e : State × Int) : Option Pot := if 0 < min e.2 bound then some ⟨e.1.i, e.1.j, e.1.ahead, e.1.right, min e.2 bound⟩ else none

theorem potsOf_is (bound : Int) (m : Memo) : potsOf bound m = m.filterMap (potOf bound) := rfl

/-- entries in the order in which they came -/
def inOrder (bound : Int) (m : Memo) (seen : List Nat) : List Pot := seen.filterMap fun i => (m[i]?).bind (potOf bound)

theorem inOrder_all {bound : Int} {m : Memo} {seen : List Nat} (hn : seen.Nodup) (hlt : ∀ i ∈ seen, i < m.length) (hall : ∀ i, i < m.length → i ∈ seen) : (inOrder bound m seen).Perm (potsOf bound m) := by
  have hp : seen.Perm (List.range m.length) := by
    refine (List.perm_ext_iff_of_nodup hn List.nodup_range).2 fun i => ?_
    rw [List.mem_range]
    exact ⟨hlt i, hall i⟩
  have h2 : inOrder bound m (List.range m.length) = potsOf bound m := by
    rw [potsOf_is]
    unfold inOrder
    have : ∀ (m : Memo), (List.range m.length).filterMap (fun i => (m[i]?).bind (potOf bound)) = m.filterMap (potOf bound) := by
      intro m
      induction m with
      | nil => rfl
      | cons e m ih =>
        rw [List.length_cons, List.range_succ_eq_map, List.filterMap_cons, List.filterMap_map, List.filterMap_cons]
        simp only [List.getElem?_cons_zero, Option.bind_some]
        have : (List.range m.length).filterMap ((fun i => ((e :: m)[i]?).bind (potOf bound)) ∘ Nat.succ) = m.filterMap (potOf bound) := by
          rw [← ih]
          rfl
        rw [this]
    exact this m
  rw [← h2]
  exact hp.filterMap _

theorem inOrder_length {bound : Int} {m : Memo} {seen : List Nat} (hn : seen.Nodup) (hlt : ∀ i ∈ seen, i < m.length) : (inOrder bound m seen).length ≤ m.length := by
  have h1 : (inOrder bound m seen).length ≤ seen.length := List.length_filterMap_le _ _
  have h2 := nodup_sub seen (List.range m.length) hn (fun i hi => List.mem_range.2 (hlt i hi))
  rw [List.length_range] at h2
  omega

theorem inOrder_snoc (bound : Int) (m : Memo) (seen : List Nat) {j : Nat} {e : State × Int} (h : m[j]? = some e) : inOrder bound m (seen ++ [j]) = inOrder bound m seen ++ (potOf bound e).toList := by
  unfold inOrder
  rw [List.filterMap_append]
  congr 1
  rw [List.filterMap_cons, h]
  simp only [Option.bind_some, List.filterMap_nil]
  cases potOf bound e <;> rfl
end Pl
