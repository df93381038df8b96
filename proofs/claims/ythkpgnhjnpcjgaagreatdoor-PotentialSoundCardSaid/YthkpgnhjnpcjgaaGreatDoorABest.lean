/- Package align: the first of the cheapest derivations. -/
import Derived.Test.YthkpgnhjnpcjgaaGreatDoorACost2
import Derived.Test.YthkpgnhjnpcjgaaGreatDoorABPl
import Derived.Test.YthkpgnhjnpcjgaaGreatDoorCheck
import Derived.Test.YthkpgnhjnpcjgaaGreatDoorRow
namespace Go.Proofs.Kb
open Go Go.RowKit Go.Lib Pl
attribute [local go_sem] Oper.semAt_some run_makeMap

/-- numbers as cells -/
def encInt (n : Int) : List Value := [.int .i64 n]

/-- v is a derivation by value -/
def DerivAt (N : Nat) (w : World) (v : Value) (d : Deriv) : Prop := ∃ vl vr, v = .agg #[.int .i64 d.cost, vl, vr, .string ⟨d.form.toArray⟩] ∧ SlAt 1 encInt N w vl d.left ∧ SlAt 1 encInt N w vr d.right

def BestPost (t : Table) (a : Int) (x : Str) (b : Int) (y : Str) (w : World) (e : Ending) (w' : World) : Prop :=
  ∃ v, e = .returned (.tuple #[v, .int .i64 (ABest t a x b y).2]) ∧ DerivAt w'.heap.size w' v (ABest t a x b y).1 ∧ Ext none' w w'

theorem load_deriv {w : World} {b : Nat} {x0 x1 x2 x3 : Value} {t : TypeId} (h : w.heap[b]? = some (.cells #[x0, x1, x2, x3] t (0, 0))) : (loadVar 47 ⟨b, 0, none⟩).run Tryz.prog w = .ok (.agg #[x0, x1, x2, x3]) w :=
  run_loadVar_row (P := Tryz.prog) w b t 47 #[x0, x1, x2, x3] (0, 0) _ h Tryz.underlying47 rfl (by kernel_rfl)

theorem intsNil (N : Nat) (w : World) : SlAt 1 encInt N w (.slice none 0 0) [] := ⟨_, 0, rfl, by simp, by decide, fun h => absurd rfl h⟩

/-- what stands at the head of the search: S: the block of the state, S + 1 that of the derivation -/
structure BI (p : Two) (res : Deriv) (S : Nat) (wB : World) (g : Nat) (s : State) (d : Deriv) (vl vr : Value) (is : List Nat) (W : World) : Prop where
  way : OnWay p s
  fuel : left p s < g
  res : bestF p.words (known p).2 g s d = res
  st : W.heap[S]? = some (.cells #[.int .i64 s.i, .int .i64 s.j, .string ⟨s.ahead.toArray⟩, .bool s.right] 95)
  dv : W.heap[S + 1]? = some (.cells #[.int .i64 d.cost, vl, vr, .string ⟨d.form.toArray⟩] 47)
  ol : W.ownsRow (S + 2) 3 1 vl d.left.length (d.left.map fun n => .int .i64 n)
  or : W.ownsRow (S + 2) 3 1 vr d.right.length (d.right.map fun n => .int .i64 n)
  apart : ∀ b, vl.ownBlock = some b → vr.ownBlock ≠ some b
  len : d.left.length + d.right.length + left p s ≤ 24
  frm : d.form.length ≤ 3 * d.left.length
  ext : Ext (fun i => i = S ∨ i = S + 1) wB W
  size : S + 2 ≤ W.heap.size
  nodup : is.Nodup
  marks : ∀ k ∈ is, S + 2 ≤ k ∧ W.heap[k]? = some (.deferred (some []))

/-- what stands where a tight move was found -/
structure BXof (p : Two) (s : State) (d : Deriv) (xs : List ((ARule × Value) × State)) (S : Nat) (vl0 vr0 : Value) (wm : World) (W : World) (k : Nat) (y : (ARule × Value) × State) (vl vr : Value) : Prop where
  at' : xs[k]? = some y
  first : ∀ i x, i < k → xs[i]? = some x → Pl.tight (known p).2 s (x.1.1, x.2) = false
  hit : Pl.tight (known p).2 s (y.1.1, y.2) = true
  st : W.heap[S]? = some (.cells #[.int .i64 y.2.i, .int .i64 y.2.j, .string ⟨y.2.ahead.toArray⟩, .bool y.2.right] 95)
  dv : W.heap[S + 1]? = some (.cells #[.int .i64 (d.step s (y.1.1, y.2)).cost, vl, vr, .string ⟨(d.step s (y.1.1, y.2)).form.toArray⟩] 47)
  ol : W.ownsRow (S + 2) 3 1 vl (d.step s (y.1.1, y.2)).left.length ((d.step s (y.1.1, y.2)).left.map fun n => .int .i64 n)
  or : W.ownsRow (S + 2) 3 1 vr (d.step s (y.1.1, y.2)).right.length ((d.step s (y.1.1, y.2)).right.map fun n => .int .i64 n)
  apart : ∀ b, vl.ownBlock = some b → vr.ownBlock ≠ some b
  frm : (d.step s (y.1.1, y.2)).form.length ≤ 3 * (d.step s (y.1.1, y.2)).left.length
  out : ∀ b, vl.ownBlock = some b ∨ vr.ownBlock = some b → b ≠ wm.heap.size + 1
  ext : Ext (fun i => i = S ∨ i = S + 1 ∨ vl0.ownBlock = some i ∨ vr0.ownBlock = some i) wm W

def BX (p : Two) (s : State) (d : Deriv) (xs : List ((ARule × Value) × State)) (S : Nat) (vl0 vr0 : Value) (wm : World) (W : World) : Prop := ∃ k y vl vr, BXof p s d xs S vl0 vr0 wm W k y vl vr

theorem ints_of_own {w : World} {base : Nat} {v : Value} {l : List Int} (h : w.ownsRow base 3 1 v l.length (l.map fun n => .int .i64 n)) : SlAt 1 encInt w.heap.size w v l := by
  rcases h.2 with ⟨rfl, h0⟩ | ⟨g, cap, cur, rfl, _, hg, hc, hm, hs, ht⟩
  · obtain rfl : l = [] := List.length_eq_zero_iff.1 h0
    exact intsNil _ _
  · refine ⟨_, cap, rfl, hc, hm, fun _ => ⟨g, 0, rfl, (Array.getElem?_eq_some_iff.1 hg).1, fun j x hj i u hu => ?_⟩⟩
    have hi : i = 0 := by have := (List.getElem?_eq_some_iff.1 hu).1; simp [encInt] at this; exact this
    subst hi
    simp only [encInt, List.getElem?_cons_zero, Option.some.injEq] at hu
    subst hu
    have h1 : (l.map fun n => Value.int .i64 n)[j]? = some (.int .i64 x) := by rw [List.getElem?_map, hj]; rfl
    rw [← ht, List.getElem?_take] at h1
    split at h1
    · rw [Nat.zero_add, Nat.mul_one, Nat.add_zero]
      exact cellAt hg j (by simpa using h1)
    · cases h1

theorem own_keep {w w' : World} {base e size n : Nat} {v : Value} {xs : List Value} (h : w.ownsRow base e size v n xs) (hs : ∀ g, v.ownBlock = some g → w'.heap[g]? = w.heap[g]?) : w'.ownsRow base e size v n xs := by
  refine ⟨h.1, ?_⟩
  rcases h.2 with hn | ⟨g, cap, cur, hv, hbg, hg, rest⟩
  · exact .inl hn
  · exact .inr ⟨g, cap, cur, hv, hbg, (hs g (by rw [hv]; rfl)).trans hg, rest⟩

theorem BX.keep {p : Two} {s : State} {d : Deriv} {xs : List ((ARule × Value) × State)} {S : Nat} {vl0 vr0 : Value} {wm A B : World} (h : BX p s d xs S vl0 vr0 wm A) (he : Ext (fun b => none' b ∨ b = wm.heap.size + 1) A B) (hS : S + 2 ≤ wm.heap.size) : BX p s d xs S vl0 vr0 wm B := by
  obtain ⟨k, y, vl, vr, h⟩ := h
  have hsz := h.ext.size
  refine ⟨k, y, vl, vr, h.at', h.first, h.hit, (he.same _ (by omega) (fun h => by rcases h with h | h; exact h; omega)).trans h.st, (he.same _ (by omega) (fun h => by rcases h with h | h; exact h; omega)).trans h.dv, ?_, ?_, h.apart, h.frm, h.out, h.ext.later he (fun i hi hx => by rcases hx with hx | hx; exact hx.elim; omega)⟩
  · exact own_keep h.ol (fun g hg => he.same g (h.ol.lt g hg).2 (fun hx => by rcases hx with hx | hx; exact hx; exact h.out g (.inl hg) hx))
  · exact own_keep h.or (fun g hg => he.same g (h.or.lt g hg).2 (fun hx => by rcases hx with hx | hx; exact hx; exact h.out g (.inr hg) hx))

theorem own_not_mark {w : World} {base e size n : Nat} {v : Value} {xs : List Value} (h : w.ownsRow base e size v n xs) {k : Nat} (hk : w.heap[k]? = some (.deferred (some []))) : v.ownBlock ≠ some k := by
  intro hb
  rcases h.2 with ⟨rfl, _⟩ | ⟨g, cap, cur, rfl, _, hg, _⟩
  · cases hb
  · cases hb
    rw [hk] at hg
    cases hg

theorem info_int : (Tryz.prog.info? 3).map (fun i => (i.zero, i.size, i.bytes)) = some (some (.int .i64 0), 1, 8) := by kernel_rfl

theorem wpIn_append_own_at {ro : Option Nat} {n : Nat} {P : Program} {o : Oper} {a : Act} {w : World} {K : Act → World → Prop} {Q : Exit → Act → World → Prop} (s x : Operand) (t : TypeId) (hop : o.op = Op.call { callee := Callee.builtin Builtin.append, args := #[s, x], argTypes := #[t, t] })
    (base : Nat) (e : TypeId) (i : TypeInfo) (z : Value) (size bytes : Nat) (h1 : P.underlying t = some (.slice e)) (h2 : P.info? e = some i) (h3 : i.zero = some z) (h4 : i.size = size) (h5 : i.bytes = bytes) (h6 : z.cells.size = size) (h7 : 0 < size)
    (v : Value) (k : Nat) (xs : List Value) (hs : a.eval s = v) (hown : w.ownsRow base e size v k xs) (ad : Addr) (m c : Nat) (news : List Value) (hx : a.eval x = .slice (some ad) m c) (hn : news.length = m * size)
    (hc : ∀ j u, news[j]? = some u → w.cell? (ad.add j) = some u) (h1c : ∀ u ∈ news, u.oneCell' = true) (b1 : k + m ≤ maxLen) (b2 : (k + m) * bytes ≤ 140737488355328) (b3 : base ≤ w.heap.size)
    (hK : ∀ v' w', w'.ownsRow base e size v' (k + m) (xs ++ news) → w.grownBy w' v.ownBlock → (v'.ownBlock = v.ownBlock ∨ v'.ownBlock = some w.heap.size) → K (a.put o.dst v') w') : o.wpIn (Fz ro) n P a w K Q := by
  obtain ⟨v', w', hrun, r1, r2, -, r4⟩ := run_append_own_at (P := P) (w := w) base t o.type e i z size bytes h1 h2 h3 h4 h5 h6 h7 v k xs hown ad m c news hn hc h1c b1 b2 b3
  refine wpIn_value v' w' (fun c e => by rw [hop] at e; cases e) ?_ (hK v' w' r1 r2 r4)
  simp [execOp, hop, resolve, invoke, builtin, hs, hx, hrun, Result.andThen]

theorem sideRules_to {k : Int} : ∀ (l : List Rule) (i : Nat), (∀ r ∈ l, r.to.length ≤ 3) → ∀ r ∈ sideRules k i l, r.to.length ≤ 3
  | [], _, _, r, h => by cases h
  | q :: l, i, hl, r, h => by
    rcases List.mem_append.1 h with h | h
    · unfold aruleOf at h
      split at h
      · cases hL : Letters k q.frm with
        | none => rw [hL] at h; cases h
        | some f =>
          rw [hL] at h
          simp only [Option.map_some, Option.toList_some, List.mem_singleton] at h
          subst h
          exact hl q List.mem_cons_self
      · cases h
    · exact sideRules_to l (i + 1) (fun r hr => hl r (List.mem_cons_of_mem _ hr)) r h

theorem amoves_to {p : Two} (h : ∀ r ∈ p.rules, r.to.length ≤ 3) {s : State} {r : ARule} {t : State} (hm : (r, t) ∈ amoves p.words s) : r.to.length ≤ 3 := by
  obtain ⟨q, hq, hqm⟩ := List.mem_filterMap.1 hm
  have e : q = r := by
    unfold amove at hqm
    obtain ⟨_, hqm⟩ := Option.ite_none_right_eq_some.1 hqm
    cases ha : aahead s.ahead q.to s.right (aleft p.words s) with
    | none => rw [ha] at hqm; cases hqm
    | some z =>
      rw [ha] at hqm
      simp only [Option.some.injEq, Prod.mk.injEq] at hqm
      exact hqm.1
  subst e
  by_cases hL : aleft p.words s = true
  · rw [if_pos hL] at hq
    exact sideRules_to _ _ h _ hq
  · rw [if_neg hL] at hq
    exact sideRules_to _ _ h _ hq

theorem load_ints (p : Addr) (v : Value) (w : World) (h : w.cell? p = some v) : (loadVar 45 p).run Tryz.prog w = .ok v w := by go_simp
theorem load_strv (p : Addr) (v : Value) (w : World) (h : w.cell? p = some v) : (loadVar 9 p).run Tryz.prog w = .ok v w := by go_simp
theorem store_ints (b j : Nat) (s : Option Addr) (m c : Nat) (u : Value) (w : World) (hu : w.cell? ⟨b, j, none⟩ = some u) (hf : w.frozen? ⟨b, j, none⟩ = false) : (storeVar 45 ⟨b, j, none⟩ (.slice s m c)).run Tryz.prog w = .ok () (w.setCell ⟨b, j, none⟩ (.slice s m c)) := by
  go_simp
theorem store_str (b j : Nat) (x : ByteArray) (u : Value) (w : World) (hu : w.cell? ⟨b, j, none⟩ = some u) (hf : w.frozen? ⟨b, j, none⟩ = false) : (storeVar 9 ⟨b, j, none⟩ (.string x)).run Tryz.prog w = .ok () (w.setCell ⟨b, j, none⟩ (.string x)) := by
  go_simp
theorem add_str (l m : List UInt8) (hl : l.length + m.length ≤ 9223372036854775807) (x y : Operand) (w : World) : (do eqGuard .add 9 x y (.string ⟨l.toArray⟩) (.string ⟨m.toArray⟩); binOp .add 9 (.string ⟨l.toArray⟩) (.string ⟨m.toArray⟩) : Sem Value).run Tryz.prog w = .ok (.string ⟨(l ++ m).toArray⟩) w := by
  have h : (⟨l.toArray⟩ : ByteArray) ++ (⟨m.toArray⟩ : ByteArray) = ⟨(l ++ m).toArray⟩ := by
    apply ByteArray.ext
    simp
  go_simp
theorem neq_int (m n : Int) (x y : Operand) (w : World) : (do eqGuard .neq 3 x y (.int .i64 m) (.int .i64 n); binOp .neq 3 (.int .i64 m) (.int .i64 n) : Sem Value).run Tryz.prog w = .ok (.bool (!decide (m = n))) w := by
  by_cases h : m = n <;> go_simp
theorem load_amemo (p : Addr) (v : Value) (w : World) (h : w.cell? p = some v) : (loadVar 92 p).run Tryz.prog w = .ok v w := by go_simp

theorem frame_is (t : Array Value) : t = ((List.range t.size).map fun i => t.getD i undef).toArray := by
  apply Array.ext
  · simp
  · intro i h1 h2
    simp [h1]

theorem frame_89 (f : Nat → Value) : ((List.range 89).map f).toArray = #[f 0, f 1, f 2, f 3, f 4, f 5, f 6, f 7, f 8, f 9, f 10, f 11, f 12, f 13, f 14, f 15, f 16, f 17, f 18, f 19, f 20, f 21, f 22, f 23, f 24, f 25, f 26, f 27, f 28, f 29, f 30, f 31, f 32, f 33, f 34, f 35, f 36, f 37, f 38, f 39, f 40, f 41, f 42, f 43, f 44, f 45, f 46, f 47, f 48, f 49, f 50, f 51, f 52, f 53, f 54, f 55, f 56, f 57, f 58, f 59, f 60, f 61, f 62, f 63, f 64, f 65, f 66, f 67, f 68, f 69, f 70, f 71, f 72, f 73, f 74, f 75, f 76, f 77, f 78, f 79, f 80, f 81, f 82, f 83, f 84, f 85, f 86, f 87, f 88] := by kernel_rfl

/-- the frame at the head of the search: what its slots hold that count -/
def FrB (A5 A10 A11 A12 A14 A15 A16 : Value) (t : Array Value) : Prop := ∃ f : Nat → Value, t = #[f 0, f 1, f 2, f 3, f 4, A5, f 6, f 7, f 8, f 9, A10, A11, A12, f 13, A14, A15, A16, f 17, f 18, f 19, f 20, f 21, f 22, f 23, f 24, f 25, f 26, f 27, f 28, f 29, f 30, f 31, f 32, f 33, f 34, f 35, f 36, f 37, f 38, f 39, f 40, f 41, f 42, f 43, f 44, f 45, f 46, f 47, f 48, f 49, f 50, f 51, f 52, f 53, f 54, f 55, f 56, f 57, f 58, f 59, f 60, f 61, f 62, f 63, f 64, f 65, f 66, f 67, f 68, f 69, f 70, f 71, f 72, f 73, f 74, f 75, f 76, f 77, f 78, f 79, f 80, f 81, f 82, f 83, f 84, f 85, f 86, f 87, f 88]

theorem frB_of {A5 A10 A11 A12 A14 A15 A16 : Value} (t : Array Value) (h : t.size = 89) (h5 : t[5]? = some A5) (h10 : t[10]? = some A10) (h11 : t[11]? = some A11) (h12 : t[12]? = some A12) (h14 : t[14]? = some A14) (h15 : t[15]? = some A15) (h16 : t[16]? = some A16) : FrB A5 A10 A11 A12 A14 A15 A16 t := by
  have e := frame_is t
  rw [h, frame_89 (fun i => t.getD i undef)] at e
  refine ⟨fun i => t.getD i undef, e.trans ?_⟩
  have e5 : t.getD 5 undef = A5 := by rw [Array.getD_eq_getD_getElem?, h5]; rfl
  have e10 : t.getD 10 undef = A10 := by rw [Array.getD_eq_getD_getElem?, h10]; rfl
  have e11 : t.getD 11 undef = A11 := by rw [Array.getD_eq_getD_getElem?, h11]; rfl
  have e12 : t.getD 12 undef = A12 := by rw [Array.getD_eq_getD_getElem?, h12]; rfl
  have e14 : t.getD 14 undef = A14 := by rw [Array.getD_eq_getD_getElem?, h14]; rfl
  have e15 : t.getD 15 undef = A15 := by rw [Array.getD_eq_getD_getElem?, h15]; rfl
  have e16 : t.getD 16 undef = A16 := by rw [Array.getD_eq_getD_getElem?, h16]; rfl
  rw [e5, e10, e11, e12, e14, e15, e16]

theorem build_int {o : Oper} {a : Act} {w : World} {k : Tmp} {n : Int} (ho : o.op = .buildSlice 45 1 #[(0, .tmp k)]) (hx : a.tmps[k]?.getD undef = .int .i64 n) : (execOp a.eval o).run Tryz.prog w = .ok (.value (.slice (some ⟨w.heap.size, 0, none⟩) 1 1)) (w.alloc (.cells #[.int .i64 n] 3)) := by
  unfold execOp
  simp only [ho]
  go_simp

set_option maxRecDepth 100000 in
set_option maxHeartbeats 8000000 in
theorem best_any (N : Nat) (v : Value) (t : Table) (a : Int) (x : ByteArray) (b : Int) (y : ByteArray) (w : World) (hv : TabAt N w v t) (hr9 : t.rules.length ≤ 10000) (hx : x.size < 35184372088832) (hy : y.size < 35184372088832) (hN : N ≤ w.heap.size) (hT : Tabs N w) :
    Calls Tryz.prog 19 #[v, .int .i64 a, .string x, .int .i64 b, .string y] w (BestPost t a x.data.toList b y.data.toList w) := by
  have hv0 := Lib.hid hv
  obtain ⟨vr, vd, ve, rfl, hr, hd, he, hgood⟩ := hv
  obtain ⟨ra, rc, rfl, -⟩ := hr
  obtain ⟨da, dc, rfl, -⟩ := hd
  obtain ⟨ea, ec, rfl, -⟩ := he
  obtain ⟨w0, hw0⟩ : ∃ w0, w0 = (w.alloc (.cells #[.slice ra t.rules.length rc, .slice da t.drops.length dc, .slice ea t.ends.length ec, .int .i64 t.drop, .int .i64 t.order, .int .i64 t.initial] 25)).alloc (.cells #[.int .i64 0, .slice none 0 0, .slice none 0 0, .string ⟨#[]⟩] 47) := ⟨_, rfl⟩
  have E0 : Ext none' w w0 := by rw [hw0]; exact ((Ext.refl none' w).alloc _).alloc _
  have s0 : w0.heap.size = w.heap.size + 2 := by rw [hw0]; simp
  have kT0 : w0.heap[w.heap.size]? = some (.cells #[.slice ra t.rules.length rc, .slice da t.drops.length dc, .slice ea t.ends.length ec, .int .i64 t.drop, .int .i64 t.order, .int .i64 t.initial] 25) := by rw [hw0]; exact keepAt (newAt _ rfl) _
  have kD0 : w0.heap[w.heap.size + 1]? = some (.cells #[.int .i64 0, .slice none 0 0, .slice none 0 0, .string ⟨#[]⟩] 47) := by rw [hw0]; exact newAt _ (by simp)
  have op := open_any N _ t a x b y w0 (hv0.out.keep (E0.same0 hN)) hr9 hx hy (Nat.le_trans hN E0.size) (hT.keep (E0.same0 hN))
  have OP := Lib.hid op
  have HW0 := Lib.hid hw0
  have q0 := cellAt kT0 0 rfl
  have q1 := cellAt kT0 1 rfl
  have q2 := cellAt kT0 2 rfl
  have q3 := cellAt kT0 3 rfl
  have q4 := cellAt kT0 4 rfl
  have q5 := cellAt kT0 5 rfl
  clear op hw0
  refine (callsIn_wide (n := 1)).1 ?_
  refine callsIn_of_wp_marks Tryz.func19 rfl trivial ?_ rfl
  simp only [Tryz.ntmps19, List.size_toArray, List.length_cons, List.length_nil, Nat.reduceAdd, Nat.reduceSub, Array.replicate_succ, Array.replicate_zero, List.push_toArray, List.append_toArray, List.nil_append, List.cons_append]
  gi_upto_region 1 with fail
  rw [← HW0.out]
  gi_wp2_with fail
  clear q0 q1 q2 q3 q4 q5
  refine ⟨trivial, callsIn_of_calls (ro := none) (OP.out.mono ?_)⟩
  rintro e w1 ⟨l1, r1, l2, r2, n1, c1, m1, d1, n2, c2, m2, d2, rfl, hwords, E1⟩
  have kD1 : w1.heap[w.heap.size + 1]? = some (.cells #[.int .i64 0, .slice none 0 0, .slice none 0 0, .string ⟨#[]⟩] 47) := (E1.same _ (by omega) (fun h => h)).trans kD0
  obtain ⟨wA, hwA⟩ : ∃ wA, wA = w1.alloc (.cells #[.slice l1 n1 c1, .slice r1 m1 d1, .slice l2 n2 c2, .slice r2 m2 d2] 89) := ⟨_, rfl⟩
  have EA : Ext none' w1 wA := by rw [hwA]; exact (Ext.refl none' w1).alloc _
  have kwA : wA.heap[w1.heap.size]? = some (.cells #[.slice l1 n1 c1, .slice r1 m1 d1, .slice l2 n2 c2, .slice r2 m2 d2] 89) := by rw [hwA]; exact newAt _ rfl
  have zA : wA.heap.size = w1.heap.size + 1 := by rw [hwA]; simp
  have kDA : wA.heap[w.heap.size + 1]? = some (.cells #[.int .i64 0, .slice none 0 0, .slice none 0 0, .string ⟨#[]⟩] 47) := (EA.same _ (by have := E1.size; omega) (fun h => h)).trans kD1
  have HWA := Lib.hid hwA
  have ZA := Lib.hid zA
  have E0A : Ext none' w wA := E0.trans (E1.trans EA)
  have y1 := E1.size
  clear hwA zA kD1 kD0 kT0
  cases htwo : two t a x.data.toList b y.data.toList with
  | none =>
    have HAB := Lib.hid (show ABest t a x.data.toList b y.data.toList = (Deriv.zero, 1) by unfold ABest; rw [htwo])
    clear htwo
    gi_upto_region 3 with fail
    rw [← HWA.out]
    have c0 := cellAt kDA 0 rfl
    have c1 := cellAt kDA 1 rfl
    have c2 := cellAt kDA 2 rfl
    have c3 := cellAt kDA 3 rfl
    have f0 := frozen_of kDA 0
    have f1 := frozen_of kDA 1
    have f2 := frozen_of kDA 2
    have f3 := frozen_of kDA 3
    gi_wp2_with fail
    have kd := set_block (set_block (set_block (set_block kDA 0 (.int .i64 0)) 1 (.slice none 0 0)) 2 (.slice none 0 0)) 3 (.string ⟨#[]⟩)
    refine ⟨_, results_cell_tmp (t := 10) (u := 11) (ty := 47) (x := .int .i64 1) (a := ⟨w.heap.size + 1, 0, none⟩) (by kernel_rfl) _ _ _ (by kernel_rfl) (load_deriv kd) (by kernel_rfl), _, by rw [HAB.out], ?_, ?_⟩
    · rw [HAB.out]; exact ⟨_, _, rfl, intsNil _ _, intsNil _ _⟩
    · exact (((E0A.setCell _ _ (.inl (Nat.le_succ _))).setCell _ _ (.inl (Nat.le_succ _))).setCell _ _ (.inl (Nat.le_succ _))).setCell _ _ (.inl (Nat.le_succ _))
  | some p =>
    have hoA := two_align htwo
    have hc := two_costs htwo
    have hfm := two_forms htwo
    have hwd := (hwords p htwo).keep (EA.same0 (Nat.le_refl _))
    have HTWO := Lib.hid htwo
    have cc := costs_any w1.heap.size p _ _ _ _ wA hoA hwd EA.size
    have CC := Lib.hid cc
    clear htwo cc hwords
    gi_upto_region 4 with fail
    rw [← HWA.out]
    have q0 : wA.cell? ⟨w1.heap.size, 0, none⟩ = some (.slice l1 n1 c1) := cellAt kwA 0 rfl
    have q1 : wA.cell? ⟨w1.heap.size, 1, none⟩ = some (.slice r1 m1 d1) := cellAt kwA 1 rfl
    have q2 : wA.cell? ⟨w1.heap.size, 2, none⟩ = some (.slice l2 n2 c2) := cellAt kwA 2 rfl
    have q3 : wA.cell? ⟨w1.heap.size, 3, none⟩ = some (.slice r2 m2 d2) := cellAt kwA 3 rfl
    gi_wp2_with fail
    clear q0 q1 q2 q3
    refine ⟨trivial, callsIn_of_calls (ro := none) (CC.out.mono ?_)⟩
    rintro e w2 ⟨mb, rfl, hM, hmm, E2, hmb⟩
    gi_upto_region 6 with fail
    obtain ⟨wB, hwB⟩ : ∃ wB, wB = (w2.alloc (.cells #[.map (some mb)] 92)).alloc (.cells #[.int .i64 0, .int .i64 0, .string ⟨#[]⟩, .bool false] 95) := ⟨_, rfl⟩
    rw [← hwB]
    have zB : wB.heap.size = w2.heap.size + 2 := by rw [hwB]; simp
    have EB : Ext none' w2 wB := by rw [hwB]; exact ((Ext.refl none' w2).alloc _).alloc _
    have kkB : Boxed wB w2.heap.size 92 (.map (some mb)) := by rw [hwB]; exact keepAt (newAt _ rfl) _
    have ksB : wB.heap[w2.heap.size + 1]? = some (.cells #[.int .i64 0, .int .i64 0, .string ⟨#[]⟩, .bool false] 95) := by rw [hwB]; exact newAt _ (by simp)
    have y2 := E2.size
    have yA := EA.size
    clear hwB
    have E2B := E2.trans EB
    have kwB : wB.heap[w1.heap.size]? = some (.cells #[.slice l1 n1 c1, .slice r1 m1 d1, .slice l2 n2 c2, .slice r2 m2 d2] 89) := (E2B.same _ (by have := ZA.out; omega) (fun h => h)).trans kwA
    have kDB : wB.heap[w.heap.size + 1]? = some (.cells #[.int .i64 0, .slice none 0 0, .slice none 0 0, .string ⟨#[]⟩] 47) := (E2B.same _ (by omega) (fun h => h)).trans kDA
    have hMB := EB.map0 hM
    have hlk := fun (W' : World) (hW : Ext none' wB W') => (hW.map0 hMB).lookup astate_keys Tryz.underlying92 (zero_int W') hmm.keys (k := State.start) ⟨⟨by decide, by decide⟩, ⟨by decide, by decide⟩, by decide⟩ false
    have hge0 : ((mget (known p).2 State.start).map encCost).getD (.int .i64 0) = .int .i64 (known p).1 := by
      rw [← costAt_start]; unfold costAt; cases mget (known p).2 State.start <;> rfl
    rw [hge0] at hlk
    simp only [Bool.false_eq_true, if_false, encState, encS, State.start] at hlk
    have HLK := Lib.hid hlk
    have l0 := hlk wB (Ext.refl _ _)
    clear hlk hge0
    have k0 : wB.cell? ⟨w2.heap.size, 0, none⟩ = some (.map (some mb)) := kkB.cell
    have t0 : wB.cell? ⟨w2.heap.size + 1, 0, none⟩ = some (.int .i64 0) := cellAt ksB 0 rfl
    have t1 : wB.cell? ⟨w2.heap.size + 1, 1, none⟩ = some (.int .i64 0) := cellAt ksB 1 rfl
    have t2 : wB.cell? ⟨w2.heap.size + 1, 2, none⟩ = some (.string ⟨#[]⟩) := cellAt ksB 2 rfl
    have t3 : wB.cell? ⟨w2.heap.size + 1, 3, none⟩ = some (.bool false) := cellAt ksB 3 rfl
    obtain ⟨kn, hkn⟩ : ∃ kn, kn = (known p).1 := ⟨_, rfl⟩
    rw [← hkn] at l0
    by_cases hnev : never ≤ (known p).1
    · have HAB := Lib.hid (show ABest t a x.data.toList b y.data.toList = (Deriv.zero, 11) by unfold ABest; rw [HTWO.out]; simp only; rw [if_pos hnev])
      have b1 : decide ((1099511627776 : Int) ≤ kn) = true := by rw [hkn]; simpa [never] using hnev
      clear hnev hkn
      have c0 := cellAt kDB 0 rfl
      have c1 := cellAt kDB 1 rfl
      have c2 := cellAt kDB 2 rfl
      have c3 := cellAt kDB 3 rfl
      have f0 := frozen_of kDB 0
      have f1 := frozen_of kDB 1
      have f2 := frozen_of kDB 2
      have f3 := frozen_of kDB 3
      gi_wp2_with fail
      have kd := set_block (set_block (set_block (set_block kDB 0 (.int .i64 0)) 1 (.slice none 0 0)) 2 (.slice none 0 0)) 3 (.string ⟨#[]⟩)
      refine ⟨_, results_cell_tmp (t := 10) (u := 11) (ty := 47) (x := .int .i64 11) (a := ⟨w.heap.size + 1, 0, none⟩) (by kernel_rfl) _ _ _ (by kernel_rfl) (load_deriv kd) (by kernel_rfl), _, by rw [HAB.out], ?_, ?_⟩
      · rw [HAB.out]; exact ⟨_, _, rfl, intsNil _ _, intsNil _ _⟩
      · exact ((((E0A.trans E2B).setCell _ _ (.inl (Nat.le_succ _))).setCell _ _ (.inl (Nat.le_succ _))).setCell _ _ (.inl (Nat.le_succ _))).setCell _ _ (.inl (Nat.le_succ _))
    · have b1 : decide ((1099511627776 : Int) ≤ kn) = false := by rw [hkn]; simpa [never] using hnev
      have HNEV := Lib.hid hnev
      have HKN := Lib.hid hkn
      clear hnev hkn
      gi_upto_region 8 with fail
      clear b1
      have hoff : OkAlign p := hoA
      have hl24 : left p State.start ≤ 24 := by
        have h1 := hoA.words.l.2
        have h2 := hoA.words.m.2
        have e1 : p.words.l = p.l := rfl
        have e2 : p.words.m = p.m := rfl
        rw [e1] at h1
        rw [e2] at h2
        unfold left State.start
        simp only
        omega
      have hway : OnWay p State.start := way_start (by rw [← (known_V p).1]; have := HNEV.out; omega)
      obtain ⟨res, hres⟩ : ∃ res, res = bestF p.words (known p).2 (depth p) State.start ⟨(known p).1, [], [], []⟩ := ⟨_, rfl⟩
      have hAB : ABest t a x.data.toList b y.data.toList = (res, 0) := by
        unfold ABest
        rw [HTWO.out]
        simp only
        rw [if_neg HNEV.out, hres]
      have HAB := Lib.hid hAB
      have HRES := Lib.hid hres
      have hnw : n1 = p.words.l.length ∧ n2 = p.words.m.length := by
        obtain ⟨u1, u2, u3, u4, hu, g1, g2, g3, g4⟩ := hwd
        simp only [Value.agg.injEq, Array.mk.injEq, List.cons.injEq] at hu
        obtain ⟨rfl, rfl, rfl, rfl, -⟩ := hu
        obtain ⟨a1, cc1, h1, _⟩ := g1
        obtain ⟨a3, cc3, h3, _⟩ := g3
        simp only [Value.slice.injEq] at h1 h3
        exact ⟨h1.2.1, h3.2.1⟩
      have HNW := Lib.hid hnw
      clear hAB hres hnw
      gi_wp2_with fail
      obtain ⟨wC, hwC⟩ : ∃ wC, wC = wB.alloc (.cells #[.int .i64 kn, .slice none 0 0, .slice none 0 0, .string ⟨#[]⟩] 47) := ⟨_, rfl⟩
      rw [← hwC]
      have EC : Ext none' wB wC := by rw [hwC]; exact (Ext.refl none' wB).alloc _
      have zC : wC.heap.size = w2.heap.size + 3 := by rw [hwC]; simp [zB]
      have kdC : wC.heap[w2.heap.size + 2]? = some (.cells #[.int .i64 kn, .slice none 0 0, .slice none 0 0, .string ⟨#[]⟩] 47) := by rw [hwC]; exact newAt _ zB
      have ksC : wC.heap[w2.heap.size + 1]? = some (.cells #[.int .i64 0, .int .i64 0, .string ⟨#[]⟩, .bool false] 95) := (EC.same _ (by omega) (fun h => h)).trans ksB
      have EwC : Ext none' w wC := E0A.trans (E2B.trans EC)
      have kwC : wC.heap[w1.heap.size]? = some (.cells #[.slice l1 n1 c1, .slice r1 m1 d1, .slice l2 n2 c2, .slice r2 m2 d2] 89) := (EC.same _ (by have := ZA.out; omega) (fun h => h)).trans kwB
      have kkC : Boxed wC w2.heap.size 92 (.map (some mb)) := (EC.same _ (by omega) (fun h => h)).trans kkB
      have kDC : wC.heap[w.heap.size + 1]? = some (.cells #[.int .i64 0, .slice none 0 0, .slice none 0 0, .string ⟨#[]⟩] 47) := (EC.same _ (by omega) (fun h => h)).trans kDB
      have hMC := EC.map0 hMB
      have hwC2 := hwd.keep ((E2B.trans EC).same0 (by omega))
      have hmbl := hM.lt
      clear hwC k0 t0 t1 t2 t3 l0
      refine wpIn_loop_ghost_k (fun g a' w' => ∃ (s : State) (d : Deriv) (vl vr : Value) (is : List Nat), BI p res (w2.heap.size + 1) wC g s d vl vr is w' ∧ FrB (.pointer (some ⟨w.heap.size, 0, none⟩)) (.pointer (some ⟨w.heap.size + 1, 0, none⟩)) (.int .i64 0) (.pointer (some ⟨w1.heap.size, 0, none⟩)) (.pointer (some ⟨w2.heap.size, 0, none⟩)) (.pointer (some ⟨w2.heap.size + 1, 0, none⟩)) (.pointer (some ⟨w2.heap.size + 2, 0, none⟩)) a'.tmps ∧ a'.defers = is.map mark) (depth p) ?h0 ?round
      case h0 =>
        refine ⟨State.start, ⟨(known p).1, [], [], []⟩, .slice none 0 0, .slice none 0 0, [], ⟨hway, by unfold left depth State.start; simp only; omega, HRES.out.symm, ksC, by rw [← HKN.out]; exact kdC, World.ownsRow_nil _ _ _ _, World.ownsRow_nil _ _ _ _, (fun b h => by cases h), by simpa using hl24, Nat.le_refl _, Ext.refl _ _, by omega, .nil, (fun _ h => by cases h)⟩, frB_of _ rfl rfl rfl rfl rfl rfl rfl rfl, rfl⟩
      case round =>
      rintro g ⟨tm, df⟩ W ⟨s, d, vl, vr, is, hB, ⟨f, hf⟩, hdf⟩ J8 K8 hJ8 hK8
      simp only at hf hdf
      subst hf hdf
      obtain ⟨hOW, hfuel, hbres, hst, hdv, hol, hor, hap, hlen, hfrm, hext, hsz, hnd, hmk⟩ := hB
      obtain ⟨la', ln', lc', rfl⟩ := own_slice hol
      obtain ⟨ra', rn', rc', rfl⟩ := own_slice hor
      have kwW : W.heap[w1.heap.size]? = some (.cells #[.slice l1 n1 c1, .slice r1 m1 d1, .slice l2 n2 c2, .slice r2 m2 d2] 89) := (hext.same _ (by have := ZA.out; omega) (by have := ZA.out; omega)).trans kwC
      have kkW : Boxed W w2.heap.size 92 (.map (some mb)) := (hext.same _ (by omega) (by omega)).trans kkC
      have kDW : W.heap[w.heap.size + 1]? = some (.cells #[.int .i64 0, .slice none 0 0, .slice none 0 0, .string ⟨#[]⟩] 47) := (hext.same _ (by omega) (by omega)).trans kDC
      have q0 : W.cell? ⟨w1.heap.size, 0, none⟩ = some (.slice l1 n1 c1) := cellAt kwW 0 rfl
      have q1 : W.cell? ⟨w1.heap.size, 1, none⟩ = some (.slice r1 m1 d1) := cellAt kwW 1 rfl
      have q2 : W.cell? ⟨w1.heap.size, 2, none⟩ = some (.slice l2 n2 c2) := cellAt kwW 2 rfl
      have q3 : W.cell? ⟨w1.heap.size, 3, none⟩ = some (.slice r2 m2 d2) := cellAt kwW 3 rfl
      have s0' : W.cell? ⟨w2.heap.size + 1, 0, none⟩ = some (.int .i64 s.i) := cellAt hst 0 rfl
      have s1' : W.cell? ⟨w2.heap.size + 1, 1, none⟩ = some (.int .i64 s.j) := cellAt hst 1 rfl
      have s2' : W.cell? ⟨w2.heap.size + 1, 2, none⟩ = some (.string ⟨s.ahead.toArray⟩) := cellAt hst 2 rfl
      have s3' : W.cell? ⟨w2.heap.size + 1, 3, none⟩ = some (.bool s.right) := cellAt hst 3 rfl
      have cd := fun V => done_any l1 r1 l2 r2 n1 c1 m1 d1 n2 c2 m2 d2 s V
      have htw : (decide (s.i = (n1 : Int)) && decide (s.j = (n2 : Int)) && decide (s.ahead = [])) = p.words.two s := by rw [HNW.out.1, HNW.out.2]; rfl
      rw [htw] at cd
      simp only [cellsState, encS] at cd
      have CD := Lib.hid cd
      have HS := Lib.hid hst
      have HD := Lib.hid hdv
      have HMK := Lib.hid hmk
      have HND := Lib.hid hnd
      have HRE := Lib.hid hbres
      clear cd htw hst hdv hmk hnd hbres
      gi_wp2_with fail
      refine ⟨trivial, callsIn_of_calls (ro := none) ((CD.out _).mono ?_)⟩
      rintro e w3 ⟨rfl, hw3⟩
      have E3 : Ext none' W w3 := by rw [hw3]; exact ((Ext.refl none' W).alloc _).alloc _
      have hisl : ∀ k ∈ is, k < W.heap.size := fun k hk => (Array.getElem?_eq_some_iff.1 (HMK.out k hk).2).1
      have hol3 := own_keep hol (w' := w3) (fun g hg => E3.same g (hol.lt g hg).2 (fun h => h))
      have hor3 := own_keep hor (w' := w3) (fun g hg => E3.same g (hor.lt g hg).2 (fun h => h))
      have kd3 : w3.heap[w2.heap.size + 2]? = some (.cells #[.int .i64 d.cost, .slice la' ln' lc', .slice ra' rn' rc', .string ⟨d.form.toArray⟩] 47) := (E3.same _ (by omega) (fun h => h)).trans HD.out
      have ks3 : w3.heap[w2.heap.size + 1]? = some (.cells #[.int .i64 s.i, .int .i64 s.j, .string ⟨s.ahead.toArray⟩, .bool s.right] 95) := (E3.same _ (by omega) (fun h => h)).trans HS.out
      clear hw3 q0 q1 q2 q3 s0' s1' s2' s3'
      cases htwo : p.words.two s with
      | true =>
        have hd : d = res := by
          have h1 := HRE.out
          cases g with
          | zero => omega
          | succ g => unfold bestF at h1; rw [htwo] at h1; simpa using h1
        have HDR := Lib.hid hd
        clear hd htwo
        have kD3 : w3.heap[w.heap.size + 1]? = some (.cells #[.int .i64 0, .slice none 0 0, .slice none 0 0, .string ⟨#[]⟩] 47) := (E3.same _ (by omega) (fun h => h)).trans kDW
        have a0 : w3.cell? ⟨w2.heap.size + 2, 0, none⟩ = some (.int .i64 d.cost) := cellAt kd3 0 rfl
        have a1 : w3.cell? ⟨w2.heap.size + 2, 1, none⟩ = some (.slice la' ln' lc') := cellAt kd3 1 rfl
        have a2 : w3.cell? ⟨w2.heap.size + 2, 2, none⟩ = some (.slice ra' rn' rc') := cellAt kd3 2 rfl
        have a3 : w3.cell? ⟨w2.heap.size + 2, 3, none⟩ = some (.string ⟨d.form.toArray⟩) := cellAt kd3 3 rfl
        have c0 := cellAt kD3 0 rfl
        have c1 := cellAt kD3 1 rfl
        have c2 := cellAt kD3 2 rfl
        have c3 := cellAt kD3 3 rfl
        have f0 := frozen_of kD3 0
        have f1 := frozen_of kD3 1
        have f2 := frozen_of kD3 2
        have f3 := frozen_of kD3 3
        gi_wp2_with fail
        have kf := set_block (set_block (set_block (set_block kD3 0 (.int .i64 d.cost)) 1 (.slice la' ln' lc')) 2 (.slice ra' rn' rc')) 3 (.string ⟨d.form.toArray⟩)
        have EF := ((((E3.mono (fun _ _ h => h.elim) : Ext (one (w.heap.size + 1)) W w3).setCell ⟨w.heap.size + 1, 0, none⟩ (.int .i64 d.cost) (.inr rfl)).setCell ⟨w.heap.size + 1, 1, none⟩ (.slice la' ln' lc') (.inr rfl)).setCell ⟨w.heap.size + 1, 2, none⟩ (.slice ra' rn' rc') (.inr rfl)).setCell ⟨w.heap.size + 1, 3, none⟩ (.string ⟨d.form.toArray⟩) (.inr rfl)
        refine leaves_marks is _ HND.out (fun k hk => ?_) (fun w9 he9 => ?_)
        · have h1 := HMK.out k hk
          exact (EF.same k (hisl k hk) (by unfold one; omega)).trans h1.2
        · have EF9 := EF.size
          have kf9 := (he9.same (w.heap.size + 1) (Array.getElem?_eq_some_iff.1 kf).1 (fun hk => by have := HMK.out _ hk; omega)).trans kf
          have ow9 : Ext none' w w9 := ((EwC.later hext (fun i hi hx => by omega)).later EF (fun i hi hx => by have hx : i = w.heap.size + 1 := hx; omega)).later he9 (fun i hi hk => by have := HMK.out _ hk; omega)
          have keepOwn : ∀ gb, w2.heap.size + 3 ≤ gb → gb < W.heap.size → (∀ k ∈ is, gb ≠ k) → w9.heap[gb]? = W.heap[gb]? := fun gb h1 h2 h3 => (he9.same gb (Nat.lt_of_lt_of_le h2 EF9) (fun hk => h3 gb hk rfl)).trans (EF.same gb h2 (by unfold one; omega))
          have hl9 := own_keep hol (w' := w9) (fun gb hgb => keepOwn gb (by have := (hol.lt gb hgb).1; omega) (hol.lt gb hgb).2 (fun k hk e => own_not_mark hol (HMK.out k hk).2 (by rw [← e]; exact hgb)))
          have hr9' := own_keep hor (w' := w9) (fun gb hgb => keepOwn gb (by have := (hor.lt gb hgb).1; omega) (hor.lt gb hgb).2 (fun k hk e => own_not_mark hor (HMK.out k hk).2 (by rw [← e]; exact hgb)))
          refine ⟨_, results_cell_tmp (t := 10) (u := 11) (ty := 47) (x := .int .i64 0) (a := ⟨w.heap.size + 1, 0, none⟩) (by kernel_rfl) _ _ _ (by kernel_rfl) (load_deriv kf9) (by kernel_rfl), _, by rw [HAB.out], ?_, ow9⟩
          rw [HAB.out, ← HDR.out]
          exact ⟨_, _, rfl, ints_of_own hl9, ints_of_own hr9'⟩
      | false =>
        have hne : s ≠ p.fin := by
          intro e
          rw [two_fin hOW.right, e] at htwo
          simp at htwo
        have HNE := Lib.hid hne
        have HTW := Lib.hid htwo
        obtain ⟨hcs, hos⟩ := known_at hOW.keyed
        clear hne htwo
        have kw3 : w3.heap[w1.heap.size]? = some (.cells #[.slice l1 n1 c1, .slice r1 m1 d1, .slice l2 n2 c2, .slice r2 m2 d2] 89) := (E3.same _ (by have := ZA.out; omega) (fun h => h)).trans kwW
        have q0 : w3.cell? ⟨w1.heap.size, 0, none⟩ = some (.slice l1 n1 c1) := cellAt kw3 0 rfl
        have q1 : w3.cell? ⟨w1.heap.size, 1, none⟩ = some (.slice r1 m1 d1) := cellAt kw3 1 rfl
        have q2 : w3.cell? ⟨w1.heap.size, 2, none⟩ = some (.slice l2 n2 c2) := cellAt kw3 2 rfl
        have q3 : w3.cell? ⟨w1.heap.size, 3, none⟩ = some (.slice r2 m2 d2) := cellAt kw3 3 rfl
        have s0' : w3.cell? ⟨w2.heap.size + 1, 0, none⟩ = some (.int .i64 s.i) := cellAt ks3 0 rfl
        have s1' : w3.cell? ⟨w2.heap.size + 1, 1, none⟩ = some (.int .i64 s.j) := cellAt ks3 1 rfl
        have s2' : w3.cell? ⟨w2.heap.size + 1, 2, none⟩ = some (.string ⟨s.ahead.toArray⟩) := cellAt ks3 2 rfl
        have s3' : w3.cell? ⟨w2.heap.size + 1, 3, none⟩ = some (.bool s.right) := cellAt ks3 3 rfl
        gi_wp2_with fail
        refine ⟨trivial, callsIn_of_calls (ro := none) ((amoves_any #[.slice l1 n1 c1, .slice r1 m1 d1, .slice l2 n2 c2, .slice r2 m2 d2] #[.int .i64 s.i, .int .i64 s.j, .string ⟨s.ahead.toArray⟩, .bool s.right] rfl rfl w3).mono ?_)⟩
        rintro e wm ⟨rfl, hwm⟩
        have zm : wm.heap.size = w3.heap.size + 2 := by rw [hwm]; simp
        have Em : Ext none' w3 wm := by rw [hwm]; exact ((Ext.refl none' w3).alloc _).alloc _
        have km0 : wm.heap[w3.heap.size]? = some (.cells #[.slice l1 n1 c1, .slice r1 m1 d1, .slice l2 n2 c2, .slice r2 m2 d2] 89) := by rw [hwm]; exact keepAt (newAt _ rfl) _
        have km1 : wm.heap[w3.heap.size + 1]? = some (.cells (cellsState s) 95) := by rw [hwm]; exact newAt _ (by simp)
        clear hwm q0 q1 q2 q3 s0' s1' s2' s3'
        have EWm := E3.trans Em
        have z3 := E3.size
        have EwW : Ext none' w W := EwC.later hext (fun i hi hx => by omega)
        have hwdm : WordsAt w1.heap.size wm (.agg #[.slice l1 n1 c1, .slice r1 m1 d1, .slice l2 n2 c2, .slice r2 m2 d2]) p.words := hwC2.keep (fun i hi => (EWm.same i (by omega) (fun h => h)).trans (hext.same i (by omega) (by omega)))
        obtain ⟨xs, hxs, hxv, hit⟩ := amoves_iter w1.heap.size p.words s _ _ _ _ wm w3.heap.size (w3.heap.size + 1) (fun _ => False) hwdm hoff.words ⟨hos.i0, hos.i1, hos.j0, hos.j1⟩ (by omega) km0 km1 (fun _ _ h => h) (fun h => h) (fun h => h)
        have ksm : wm.heap[w2.heap.size + 1]? = some (.cells #[.int .i64 s.i, .int .i64 s.j, .string ⟨s.ahead.toArray⟩, .bool s.right] 95) := (Em.same _ (by omega) (fun h => h)).trans ks3
        have kdm : wm.heap[w2.heap.size + 2]? = some (.cells #[.int .i64 d.cost, .slice la' ln' lc', .slice ra' rn' rc', .string ⟨d.form.toArray⟩] 47) := (Em.same _ (by omega) (fun h => h)).trans kd3
        have kkm : Boxed wm w2.heap.size 92 (.map (some mb)) := (EWm.same _ kkW.lt (fun h => h)).trans kkW
        have hMm : MapAt encState encCost wm mb (known p).2 := hMC.same ((EWm.same _ (by omega) (fun h => h)).trans (hext.same _ (by omega) (by omega)))
        have hxn : ∀ (k : Nat) (x : (ARule × Value) × State), xs[k]? = some x → (amoves p.words s)[k]? = some (x.1.1, x.2) := by
          intro k x hx
          rw [← hxs, List.getElem?_map, hx]; rfl
        have HXN := Lib.hid hxn
        have HXS := Lib.hid hxs
        have HXV := Lib.hid hxv
        clear hxn hxs hxv
        gi_wp2_with fail
        refine wp_rangeFunc2 (X := none') (O0 := fun _ => False) (gf := 67) (lb := #[.pointer (some ⟨w3.heap.size + 1, 0, none⟩), .pointer (some ⟨w3.heap.size, 0, none⟩)])
          (by simp [Act.eval]) (enters_of Tryz.func67 (by kernel_rfl) rfl) (fun _ h => h.elim) hit (fun b hb => hb.elim) (fun _ => rfl)
          (fun k _ V => (∀ (i : Nat) (x : (ARule × Value) × State), i < k → xs[i]? = some x → Pl.tight (known p).2 s (x.1.1, x.2) = false) ∧ Ext none' wm V)
          (fun c V => c = .exit 2 ∧ BX p s d xs (w2.heap.size + 1) (.slice la' ln' lc') (.slice ra' rn' rc') wm V) ?hI ?hIx ?hz ?hbody ?hdone ?hstop
        case hI =>
          rintro k _ A B ⟨h1, h2⟩ he
          exact ⟨h1, h2.later he (fun i hi hx => by rcases hx with hx | hx; exact hx; omega)⟩
        case hIx =>
          rintro c A B ⟨h1, h2⟩ he
          exact ⟨h1, h2.keep he (by omega)⟩
        case hz => exact fun V he _ => ⟨fun i x hi => absurd hi (by omega), he⟩
        case hdone =>
          rintro _ B ⟨hall, -⟩ -
          exfalso
          obtain ⟨m, hm, ht⟩ := tight_some hoff.two hOW HNE.out
          rw [← HXS.out] at hm
          obtain ⟨x, hx, rfl⟩ := List.mem_map.1 hm
          obtain ⟨i, hi⟩ := List.getElem?_of_mem hx
          have := hall i x (List.getElem?_eq_some_iff.1 hi).1 hi
          rw [this] at ht
          cases ht
        case hbody =>
          rintro k hk O V hlt ⟨hall, hEV⟩
          have hgx := List.getElem?_eq_getElem hk
          generalize xs[k] = y at hgx ⊢
          obtain ⟨fa, fn, fc, hfv⟩ := HXV.out y (List.mem_of_getElem? hgx)
          have hay := HXN.out k y hgx
          obtain ⟨⟨r, fv⟩, nx⟩ := y
          simp only at hfv hay
          subst hfv
          have hmem := List.mem_of_getElem? hay
          have hmv : (r.cost, nx) ∈ moves p s := by rw [← amoves_is hoff.two hos]; exact List.mem_map.2 ⟨(r, nx), hmem, rfl⟩
          obtain ⟨rl, hrl, hmvr⟩ := List.mem_filterMap.1 hmv
          obtain ⟨hok1, -, hrc, hah⟩ := move_ok hos hmvr
          have hrc9 : 0 ≤ r.cost ∧ r.cost ≤ 1000 := by have := hc rl hrl; have h7 : r.cost = rl.cost := hrc; omega
          clear hrc
          have hto := (hfm rl hrl).1
          have hrto : r.to.length ≤ 3 := amoves_to (fun q hq => (hfm q hq).1) hmem
          have hfl0 : d.form.length + r.to.length ≤ 9223372036854775807 := by omega
          have HFL := Lib.hid hfl0
          have HRT := Lib.hid hrto
          have HFR := Lib.hid hfrm
          have hnb : ∀ gb, (Value.slice la' ln' lc').ownBlock = some gb → gb ≠ V.heap.size := fun gb hgb => by have := (hol.lt gb hgb).2; have := EWm.size; have := hEV.size; omega
          have HNB := Lib.hid hnb
          clear hrto hnb hfl0
          have hah3 := hOW.ahead
          have hgn : goodState nx := good_of_ok hok1 (by omega) hoff.words.l.2 hoff.words.m.2
          have hgs : goodState s := good_of_ok hos hOW.ahead hoff.words.l.2 hoff.words.m.2
          obtain ⟨u0, u1⟩ := costAt_range (fun r hr => (hc r hr).1) nx (p := p)
          have hlkf := fun (st : State) (hst : goodState st) (V' : World) (hV : Ext none' wm V') => (hV.map0 hMm).lookup astate_keys Tryz.underlying92 (zero_int V') hmm.keys (k := st) hst false
          have hcv : ∀ st : State, ((mget (known p).2 st).map encCost).getD (.int .i64 0) = .int .i64 (costAt (known p).2 st) := fun st => by unfold costAt; cases mget (known p).2 st <;> rfl
          simp only [hcv, Bool.false_eq_true, if_false, encState, encS] at hlkf
          have lk1 := hlkf nx hgn
          have lk2 := hlkf s hgs
          have htg : Pl.tight (known p).2 s (r, nx) = decide (r.cost + costAt (known p).2 nx = costAt (known p).2 s) := rfl
          generalize costAt (known p).2 nx = cn at *
          generalize costAt (known p).2 s = csv at *
          have LK1 := Lib.hid lk1
          have LK2 := Lib.hid lk2
          have HALL := Lib.hid hall
          have HTG := Lib.hid htg
          have HGX := Lib.hid hgx
          have hnv : never = 1099511627776 := rfl
          have hwrap : IntKind.i64.wrap (r.cost + cn) = r.cost + cn := wrap_of (by omega) (by omega)
          clear lk1 lk2 hlkf hall htg hgx hcv hay hmem hmv hmvr hk
          simp only [encMove, encState, encS]
          gi_wp2_with fail
          have zV := hEV.size
          refine ⟨(Below.heap_alloc _ _ _ (by simp; omega)).trans (Below.heap_alloc V _ _ (by omega)), (Below.heap_alloc _ _ _ (by simp; omega)).trans (Below.heap_alloc V _ _ (by omega)), fun V2 he2 hr2 => ?_⟩
          obtain ⟨rr2, hr2⟩ := hr2
          have hE0 : Ext (fun i => i = wm.heap.size + 1) V V2 := (((Ext.refl _ V).alloc _).alloc _).trans he2
          have hE2 : Ext none' wm V2 := hEV.later hE0 (fun i hi hx => by omega)
          have kr : V2.heap[V.heap.size]? = some (.cells #[.int .i64 r.index, .int .i64 r.cost, .slice fa fn fc, .string ⟨r.to.toArray⟩] 101) := (he2.same _ (by simp; omega) (by omega)).trans (keepAt (newAt (w := V) _ rfl) _)
          have kt : V2.heap[V.heap.size + 1]? = some (.cells #[.int .i64 nx.i, .int .i64 nx.j, .string ⟨nx.ahead.toArray⟩, .bool nx.right] 95) := (he2.same _ (by simp) (by omega)).trans (newAt _ (by simp))
          have zV2 := he2.size
          simp only [World.size_alloc] at zV2
          have kk2 : Boxed V2 w2.heap.size 92 (.map (some mb)) := (hE2.same _ kkm.lt (fun h => h)).trans kkm
          have ks2 : V2.heap[w2.heap.size + 1]? = some (.cells #[.int .i64 s.i, .int .i64 s.j, .string ⟨s.ahead.toArray⟩, .bool s.right] 95) := (hE2.same _ (by omega) (fun h => h)).trans ksm
          have kd2 : V2.heap[w2.heap.size + 2]? = some (.cells #[.int .i64 d.cost, .slice la' ln' lc', .slice ra' rn' rc', .string ⟨d.form.toArray⟩] 47) := (hE2.same _ (by omega) (fun h => h)).trans kdm
          have EWV2 : Ext none' W V2 := EWm.trans hE2
          have ol2 := own_keep hol (w' := V2) (fun gb hgb => EWV2.same gb (hol.lt gb hgb).2 (fun h => h))
          have or2 := own_keep hor (w' := V2) (fun gb hgb => EWV2.same gb (hor.lt gb hgb).2 (fun h => h))
          gi_upto_region 13 with fail
          obtain ⟨V3, hV3⟩ : ∃ V3, V3 = V2.drew := ⟨_, rfl⟩
          have e23 : Ext none' V2 V3 := by rw [hV3]; exact (Ext.refl none' V2).drew
          refine wp_region_N 10 (fun _ x y => Ext none' x y) rfl (by kernel_rfl) ?_
          change wpAnyS _ _ _ _ _ _ _ _ _ _ V2.drew
          rw [← hV3]
          clear hV3
          refine wpAnyS_p 0 (some 52) (.pointer (some ⟨V.heap.size, 1, none⟩)) (by kernel_rfl) (by kernel_rfl) (fun _ _ _ h => h) (fun x => Ext.refl _ x) (by kernel_rfl) (by kernel_rfl) ?_
          refine wpAnyS_t 1 (fun Z => Ext none' V2 Z) (fun _ => true) (some 53) (.int .i64 r.cost) (by kernel_rfl) (by kernel_rfl) (fun _ _ _ h => h) (fun j x y _ ho hx => hx.trans ho) (fun x => Ext.refl _ x) e23 (by kernel_rfl) (fun o ho Z hV => by cases ho; exact exec_load_cell _ _ rfl ⟨V.heap.size, 1, none⟩ (by kernel_rfl) _ (fun w h => load_int _ _ w h) (cellAt ((hV.same _ (Array.getElem?_eq_some_iff.1 kr).1 (fun h => h)).trans kr) 1 rfl)) ?_
          refine wpAnyS_t 2 (fun Z => Ext none' V2 Z) (fun _ => true) (some 54) (.map (some mb)) (by kernel_rfl) (by kernel_rfl) (fun _ _ _ h => h) (fun j x y _ ho hx => hx.trans ho) (fun x => Ext.refl _ x) e23 (by kernel_rfl) (fun o ho Z hV => by cases ho; exact exec_load_cell _ _ rfl ⟨w2.heap.size, 0, none⟩ (by kernel_rfl) _ (fun w h => load_amemo _ _ w h) (Boxed.cell ((hV.same _ kk2.lt (fun h => h)).trans kk2))) ?_
          refine wpAnyS_t 3 (fun Z => Ext none' V2 Z) (fun _ => true) (some 55) (.agg #[.int .i64 nx.i, .int .i64 nx.j, .string ⟨nx.ahead.toArray⟩, .bool nx.right]) (by kernel_rfl) (by kernel_rfl) (fun _ _ _ h => h) (fun j x y _ ho hx => hx.trans ho) (fun x => Ext.refl _ x) e23 (by kernel_rfl) (fun o ho Z hV => by cases ho; exact exec_load_row _ _ rfl _ (by kernel_rfl) _ _ _ ((hV.same _ (Array.getElem?_eq_some_iff.1 kt).1 (fun h => h)).trans kt) Tryz.underlying95 rfl (by kernel_rfl)) ?_
          refine wpAnyS_t 4 (fun Z => Ext none' V2 Z) (fun _ => true) (some 56) (.int .i64 cn) (by kernel_rfl) (by kernel_rfl) (fun _ _ _ h => h) (fun j x y _ ho hx => hx.trans ho) (fun x => Ext.refl _ x) e23 (by kernel_rfl) (fun o ho Z hV => by cases ho; exact exec_lookup _ _ _ _ rfl (.map (some mb)) (.agg #[.int .i64 nx.i, .int .i64 nx.j, .string ⟨nx.ahead.toArray⟩, .bool nx.right]) (by kernel_rfl) (by kernel_rfl) _ (LK1.out Z (hE2.trans hV))) ?_
          refine wpAnyS_t 5 (fun Z => Ext none' V2 Z) (fun _ => true) (some 57) (.int .i64 (r.cost + cn)) (by kernel_rfl) (by kernel_rfl) (fun _ _ _ h => h) (fun j x y _ ho hx => hx.trans ho) (fun x => Ext.refl _ x) e23 (by kernel_rfl) (fun o ho Z hV => by cases ho; exact exec_bin _ _ _ _ _ rfl _ _ _ (by kernel_rfl) (by kernel_rfl) (add_int _ _ hwrap _ _ _)) ?_
          refine wpAnyS_t 6 (fun Z => Ext none' V2 Z) (fun _ => true) (some 58) (.map (some mb)) (by kernel_rfl) (by kernel_rfl) (fun _ _ _ h => h) (fun j x y _ ho hx => hx.trans ho) (fun x => Ext.refl _ x) e23 (by kernel_rfl) (fun o ho Z hV => by cases ho; exact exec_load_cell _ _ rfl ⟨w2.heap.size, 0, none⟩ (by kernel_rfl) _ (fun w h => load_amemo _ _ w h) (Boxed.cell ((hV.same _ kk2.lt (fun h => h)).trans kk2))) ?_
          refine wpAnyS_t 7 (fun Z => Ext none' V2 Z) (fun _ => true) (some 59) (.agg #[.int .i64 s.i, .int .i64 s.j, .string ⟨s.ahead.toArray⟩, .bool s.right]) (by kernel_rfl) (by kernel_rfl) (fun _ _ _ h => h) (fun j x y _ ho hx => hx.trans ho) (fun x => Ext.refl _ x) e23 (by kernel_rfl) (fun o ho Z hV => by cases ho; exact exec_load_row _ _ rfl _ (by kernel_rfl) _ _ _ ((hV.same _ (Array.getElem?_eq_some_iff.1 ks2).1 (fun h => h)).trans ks2) Tryz.underlying95 rfl (by kernel_rfl)) ?_
          refine wpAnyS_t 8 (fun Z => Ext none' V2 Z) (fun _ => true) (some 60) (.int .i64 csv) (by kernel_rfl) (by kernel_rfl) (fun _ _ _ h => h) (fun j x y _ ho hx => hx.trans ho) (fun x => Ext.refl _ x) e23 (by kernel_rfl) (fun o ho Z hV => by cases ho; exact exec_lookup _ _ _ _ rfl (.map (some mb)) (.agg #[.int .i64 s.i, .int .i64 s.j, .string ⟨s.ahead.toArray⟩, .bool s.right]) (by kernel_rfl) (by kernel_rfl) _ (LK2.out Z (hE2.trans hV))) ?_
          refine wpAnyS_t 9 (fun Z => Ext none' V2 Z) (fun _ => true) (some 61) (.bool (!decide (r.cost + cn = csv))) (by kernel_rfl) (by kernel_rfl) (fun _ _ _ h => h) (fun j x y _ ho hx => hx.trans ho) (fun x => Ext.refl _ x) e23 (by kernel_rfl) (fun o ho Z hV => by cases ho; exact exec_bin _ _ _ _ _ rfl _ _ _ (by kernel_rfl) (by kernel_rfl) (neq_int _ _ _ _ _)) ?_
          refine wpAnyS_doneN (by kernel_rfl) ?_ _
          simp only [Act.put, List.setIfInBounds_toArray, List.set_cons_succ, List.set_cons_zero]
          by_cases htt : r.cost + cn = csv
          · have b1 : (!decide (r.cost + cn = csv)) = false := by simp [htt]
            have HT9 := Lib.hid (HTG.out.trans (decide_eq_true htt))
            rw [b1]
            have kr3 : V3.heap[V.heap.size]? = some (.cells #[.int .i64 r.index, .int .i64 r.cost, .slice fa fn fc, .string ⟨r.to.toArray⟩] 101) := (e23.same _ (Array.getElem?_eq_some_iff.1 kr).1 (fun h => h)).trans kr
            have kt3 : V3.heap[V.heap.size + 1]? = some (.cells #[.int .i64 nx.i, .int .i64 nx.j, .string ⟨nx.ahead.toArray⟩, .bool nx.right] 95) := (e23.same _ (Array.getElem?_eq_some_iff.1 kt).1 (fun h => h)).trans kt
            have ks3' : V3.heap[w2.heap.size + 1]? = some (.cells #[.int .i64 s.i, .int .i64 s.j, .string ⟨s.ahead.toArray⟩, .bool s.right] 95) := (e23.same _ (Array.getElem?_eq_some_iff.1 ks2).1 (fun h => h)).trans ks2
            have kd3' : V3.heap[w2.heap.size + 2]? = some (.cells #[.int .i64 d.cost, .slice la' ln' lc', .slice ra' rn' rc', .string ⟨d.form.toArray⟩] 47) := (e23.same _ (Array.getElem?_eq_some_iff.1 kd2).1 (fun h => h)).trans kd2
            have EWV3 : Ext none' W V3 := EWV2.trans e23
            have Em3 : Ext none' wm V3 := hE2.trans e23
            have e03 : Ext (fun i => i = wm.heap.size + 1) V V3 := hE0.trans (e23.mono (fun _ _ h => h.elim))
            have ol3 := own_keep hol (w' := V3) (fun gb hgb => EWV3.same gb (hol.lt gb hgb).2 (fun h => h))
            have or3 := own_keep hor (w' := V3) (fun gb hgb => EWV3.same gb (hor.lt gb hgb).2 (fun h => h))
            have z23 := e23.size
            have x0 : V3.cell? ⟨V.heap.size + 1, 0, none⟩ = some (.int .i64 nx.i) := cellAt kt3 0 rfl
            have y0 : V3.cell? ⟨w2.heap.size + 1, 0, none⟩ = some (.int .i64 s.i) := cellAt ks3' 0 rfl
            clear htt b1 kr kt ks2 kd2 ol2 or2
            obtain ⟨i0, hi0, hz0, hz1, hz2⟩ := info_parts info_int
            have hllen : d.left.length ≤ 24 ∧ d.right.length ≤ 24 := by omega
            by_cases hlt2 : s.i < nx.i
            · have b2 : decide (s.i < nx.i) = true := by simpa using hlt2
              gi_upto_region 15 with fail
              clear x0 y0 b2
              have HLT2 := Lib.hid hlt2
              have HLL := Lib.hid hllen
              clear hlt2 hllen
              obtain ⟨V4, hV4⟩ : ∃ V4, V4 = V3.drew := ⟨_, rfl⟩
              have e34 : Ext none' V3 V4 := by rw [hV4]; exact (Ext.refl none' V3).drew
              have ol4 := own_keep ol3 (w' := V4) (fun gb hgb => e34.same gb (ol3.lt gb hgb).2 (fun h => h))
              have or4 := own_keep or3 (w' := V4) (fun gb hgb => e34.same gb (or3.lt gb hgb).2 (fun h => h))
              have kd4 : V4.heap[w2.heap.size + 2]? = some (.cells #[.int .i64 d.cost, .slice la' ln' lc', .slice ra' rn' rc', .string ⟨d.form.toArray⟩] 47) := (e34.same _ (Array.getElem?_eq_some_iff.1 kd3').1 (fun h => h)).trans kd3'
              have kr4 : V4.heap[V.heap.size]? = some (.cells #[.int .i64 r.index, .int .i64 r.cost, .slice fa fn fc, .string ⟨r.to.toArray⟩] 101) := (e34.same _ (Array.getElem?_eq_some_iff.1 kr3).1 (fun h => h)).trans kr3
              refine wp_region_N 15 (fun j x y => y.heap[V.heap.size]? = x.heap[V.heap.size]? ∧ (j ≠ 12 → j ≠ 14 → y.heap[w2.heap.size + 2]? = x.heap[w2.heap.size + 2]?)) rfl (by kernel_rfl) ?_
              change wpAnyS _ _ _ _ _ _ _ _ _ _ V3.drew
              rw [← hV4]
              clear hV4
              refine wpAnyS_p 0 (some 67) (.pointer (some ⟨w2.heap.size + 2, 1, none⟩)) (by kernel_rfl) (by kernel_rfl) (fun _ _ _ h => h) (fun _ => ⟨rfl, fun _ _ => rfl⟩) (by kernel_rfl) (by kernel_rfl) ?_
              refine wpAnyS_t 1 (fun Z => Z.heap[w2.heap.size + 2]? = V4.heap[w2.heap.size + 2]?) (fun j => j != 12 && j != 14) (some 68) (.slice la' ln' lc') (by kernel_rfl) (by kernel_rfl) (fun _ _ _ h => h) (fun j x y hE ho hx => (ho.2 (by simp at hE; exact hE.1) (by simp at hE; exact hE.2)).trans hx) (fun _ => ⟨rfl, fun _ _ => rfl⟩) rfl (by kernel_rfl) (fun o ho Z hV => by cases ho; exact exec_load_cell _ _ rfl ⟨w2.heap.size + 2, 1, none⟩ (by kernel_rfl) _ (fun w h => load_ints _ _ w h) (cellAt (hV.trans kd4) 1 rfl)) ?_
              refine wpAnyS_p 2 (some 69) (.pointer (some ⟨V.heap.size, 0, none⟩)) (by kernel_rfl) (by kernel_rfl) (fun _ _ _ h => h) (fun _ => ⟨rfl, fun _ _ => rfl⟩) (by kernel_rfl) (by kernel_rfl) ?_
              refine wpAnyS_t 3 (fun Z => Z.heap[V.heap.size]? = V4.heap[V.heap.size]?) (fun _ => true) (some 70) (.int .i64 r.index) (by kernel_rfl) (by kernel_rfl) (fun _ _ _ h => h) (fun j x y hE ho hx => ho.1.trans hx) (fun _ => ⟨rfl, fun _ _ => rfl⟩) rfl (by kernel_rfl) (fun o ho Z hV => by cases ho; exact exec_load_cell _ _ rfl ⟨V.heap.size, 0, none⟩ (by kernel_rfl) _ (fun w h => load_int _ _ w h) (cellAt (hV.trans kr4) 0 rfl)) ?_
              refine wpAnyS_p 6 (some 73) (.pointer (some ⟨w2.heap.size + 2, 3, none⟩)) (by kernel_rfl) (by kernel_rfl) (fun _ _ _ h => h) (fun _ => ⟨rfl, fun _ _ => rfl⟩) (by kernel_rfl) (by kernel_rfl) ?_
              refine wpAnyS_t 7 (fun Z => Z.heap[w2.heap.size + 2]? = V4.heap[w2.heap.size + 2]?) (fun j => j != 12 && j != 14) (some 74) (.string ⟨d.form.toArray⟩) (by kernel_rfl) (by kernel_rfl) (fun _ _ _ h => h) (fun j x y hE ho hx => (ho.2 (by simp at hE; exact hE.1) (by simp at hE; exact hE.2)).trans hx) (fun _ => ⟨rfl, fun _ _ => rfl⟩) rfl (by kernel_rfl) (fun o ho Z hV => by cases ho; exact exec_load_cell _ _ rfl ⟨w2.heap.size + 2, 3, none⟩ (by kernel_rfl) _ (fun w h => load_strv _ _ w h) (cellAt (hV.trans kd4) 3 rfl)) ?_
              refine wpAnyS_p 8 (some 75) (.pointer (some ⟨V.heap.size, 3, none⟩)) (by kernel_rfl) (by kernel_rfl) (fun _ _ _ h => h) (fun _ => ⟨rfl, fun _ _ => rfl⟩) (by kernel_rfl) (by kernel_rfl) ?_
              refine wpAnyS_t 9 (fun Z => Z.heap[V.heap.size]? = V4.heap[V.heap.size]?) (fun _ => true) (some 76) (.string ⟨r.to.toArray⟩) (by kernel_rfl) (by kernel_rfl) (fun _ _ _ h => h) (fun j x y hE ho hx => ho.1.trans hx) (fun _ => ⟨rfl, fun _ _ => rfl⟩) rfl (by kernel_rfl) (fun o ho Z hV => by cases ho; exact exec_load_cell _ _ rfl ⟨V.heap.size, 3, none⟩ (by kernel_rfl) _ (fun w h => load_strv _ _ w h) (cellAt (hV.trans kr4) 3 rfl)) ?_
              refine wpAnyS_t 10 (fun _ => True) (fun _ => true) (some 77) (.string ⟨(d.form ++ r.to).toArray⟩) (by kernel_rfl) (by kernel_rfl) (fun _ _ _ h => h) (fun _ _ _ _ _ _ => trivial) (fun _ => ⟨rfl, fun _ _ => rfl⟩) trivial (by kernel_rfl) (fun o ho W _ => by cases ho; exact exec_bin _ _ _ _ _ rfl _ _ _ (by kernel_rfl) (by kernel_rfl) (add_str d.form r.to HFL.out _ _ W)) ?_
              refine wpAnyS_1 4 (some 71) (.buildSlice 45 1 #[(0, .tmp 70)]) (by kernel_rfl) (by kernel_rfl) (by kernel_rfl) (by kernel_rfl) fun o hod ho KK hK => ?_
              refine wpIn_value _ _ (fun c e => by rw [ho] at e; cases e) (build_int (n := r.index) ho (by kernel_rfl)) ?_
              rw [hod]
              refine hK _ _ ⟨⟨Below.heap_alloc _ _ _ (Array.getElem?_eq_some_iff.1 kr4).1, fun _ _ => Below.heap_alloc _ _ _ (Array.getElem?_eq_some_iff.1 kd4).1⟩, ?_⟩
              clear hK ho hod
              have hnc := new_cells V4 [.int .i64 r.index] 3 rfl
              obtain ⟨V5, hV5⟩ : ∃ V5, V5 = V4.alloc (.cells #[.int .i64 r.index] 3) := ⟨_, rfl⟩
              have e45 : Ext none' V4 V5 := by rw [hV5]; exact (Ext.refl none' V4).alloc _
              have hz5 : V5.heap.size = V4.heap.size + 1 := by rw [hV5]; simp
              have HZ5 := Lib.hid hz5
              clear hz5
              have hnc5 : ∀ (j : Nat) (u : Value), ([.int .i64 r.index] : List Value)[j]? = some u → V5.cell? ((⟨V4.heap.size, 0, none⟩ : Addr).add j) = some u := by rw [hV5]; exact hnc
              rw [← hV5]
              clear hV5 hnc
              have ol5 := own_keep ol4 (w' := V5) (fun gb hgb => e45.same gb (ol4.lt gb hgb).2 (fun h => h))
              have or5 := own_keep or4 (w' := V5) (fun gb hgb => e45.same gb (or4.lt gb hgb).2 (fun h => h))
              refine wpAnyS_1 5 (some 72) (.call { callee := .builtin .append, args := #[.tmp 68, .tmp 71], argTypes := #[45, 45] }) (by kernel_rfl) (by kernel_rfl) (by kernel_rfl) (by kernel_rfl) fun o hod ho KK hK => ?_
              refine wpIn_append_own_at _ _ _ ho (w2.heap.size + 1 + 2) 3 i0 _ 1 8 Tryz.underlying45 hi0 hz0 hz1 hz2 rfl (by decide) _ _ _ (by kernel_rfl) ol5 ⟨V4.heap.size, 0, none⟩ 1 1 [.int .i64 r.index] (by kernel_rfl) rfl hnc5 (by simp [Value.oneCell']) (by have := HLL.out; unfold maxLen; omega) (by have := HLL.out; omega) (by have := e45.size; have := e34.size; have := e23.size; omega) ?_
              intro v6 V6 hown6 hg6 hat6
              rw [hod]
              have hrow6 := fun gb (hgb : (Value.slice la' ln' lc').ownBlock = some gb) => ol5.lt gb hgb
              refine hK _ _ ⟨⟨hg6.block _ (by have := e45.size; have := e34.size; have := (Array.getElem?_eq_some_iff.1 kr3).1; omega) (fun e => HNB.out _ e.symm rfl), fun _ _ => hg6.block _ (by have := e45.size; have := e34.size; have := (Array.getElem?_eq_some_iff.1 kd3').1; omega) (fun e => by have := (hrow6 _ e.symm).1; omega)⟩, ?_⟩
              clear hK ho hod
              obtain ⟨va, vn, vc, rfl⟩ := own_slice hown6
              have kd6 : V6.heap[w2.heap.size + 2]? = some (.cells #[.int .i64 d.cost, .slice la' ln' lc', .slice ra' rn' rc', .string ⟨d.form.toArray⟩] 47) := (hg6.block _ (by have := e45.size; have := e34.size; have := (Array.getElem?_eq_some_iff.1 kd3').1; omega) (fun e => by have := (hrow6 _ e.symm).1; omega)).trans ((e45.same _ (Array.getElem?_eq_some_iff.1 kd4).1 (fun h => h)).trans kd4)
              refine wpAnyS_p 11 (some 78) (.pointer (some ⟨w2.heap.size + 2, 1, none⟩)) (by kernel_rfl) (by kernel_rfl) (fun _ _ _ h => h) (fun _ => ⟨rfl, fun _ _ => rfl⟩) (by kernel_rfl) (by kernel_rfl) ?_
              refine wpAnyS_1 12 none (.store 45 (.tmp 78) (.tmp 72)) (by kernel_rfl) (by kernel_rfl) (by kernel_rfl) (by kernel_rfl) fun o hod ho KK hK => ?_
              refine wpIn_store _ _ _ ho ⟨w2.heap.size + 2, 1, none⟩ (.slice va vn vc) (by kernel_rfl) (by kernel_rfl) _ (store_ints _ _ _ _ _ _ _ (cellAt kd6 1 rfl) (frozen_of kd6 1)) ?_
              rw [hod]
              refine hK _ _ ⟨⟨set_other _ _ _ (by have := EWm.size; have := E3.size; have := hEV.size; omega), fun h _ => absurd rfl h⟩, ?_⟩
              clear hK ho hod
              have kd7 := set_block kd6 1 (.slice va vn vc)
              refine wpAnyS_p 13 (some 79) (.pointer (some ⟨w2.heap.size + 2, 3, none⟩)) (by kernel_rfl) (by kernel_rfl) (fun _ _ _ h => h) (fun _ => ⟨rfl, fun _ _ => rfl⟩) (by kernel_rfl) (by kernel_rfl) ?_
              refine wpAnyS_1 14 none (.store 9 (.tmp 79) (.tmp 77)) (by kernel_rfl) (by kernel_rfl) (by kernel_rfl) (by kernel_rfl) fun o hod ho KK hK => ?_
              refine wpIn_store _ _ _ ho ⟨w2.heap.size + 2, 3, none⟩ (.string ⟨(d.form ++ r.to).toArray⟩) (by kernel_rfl) (by kernel_rfl) _ (store_str _ _ _ _ _ (cellAt kd7 3 rfl) (frozen_of kd7 3)) ?_
              rw [hod]
              refine hK _ _ ⟨⟨set_other _ _ _ (by have := EWm.size; have := E3.size; have := hEV.size; omega), fun _ h => absurd rfl h⟩, ?_⟩
              clear hK ho hod
              have kd8 := set_block kd7 3 (.string ⟨(d.form ++ r.to).toArray⟩)
              refine wpAnyS_doneN (by kernel_rfl) ?_ _
              simp only [Act.put, List.setIfInBounds_toArray, List.set_cons_succ, List.set_cons_zero]
              obtain ⟨V7, hV7⟩ : ∃ V7, V7 = (V6.setCell ⟨w2.heap.size + 2, 1, none⟩ (.slice va vn vc)).setCell ⟨w2.heap.size + 2, 3, none⟩ (.string ⟨(d.form ++ r.to).toArray⟩) := ⟨_, rfl⟩
              rw [← hV7] at kd8 ⊢
              have e36 : Ext (fun i => i = w2.heap.size + 2 ∨ (Value.slice la' ln' lc').ownBlock = some i ∨ (Value.slice ra' rn' rc').ownBlock = some i) V3 V6 := ((e34.trans e45).mono (fun _ _ h => h.elim)).trans (Ext.of_grownBy hg6 (fun j hj => .inr (.inl hj)))
              have e37 : Ext (fun i => i = w2.heap.size + 2 ∨ (Value.slice la' ln' lc').ownBlock = some i ∨ (Value.slice ra' rn' rc').ownBlock = some i) V3 V7 := by rw [hV7]; exact (e36.setCell _ _ (.inr (.inl rfl))).setCell _ _ (.inr (.inl rfl))
              have ol7 : V7.ownsRow (w2.heap.size + 1 + 2) 3 1 (.slice va vn vc) (d.left.length + 1) (d.left.map (fun n => .int .i64 n) ++ [.int .i64 r.index]) := by
                rw [hV7]; exact own_set (own_set hown6 _ _ (by omega)) _ _ (by omega)
              have or6 := own_keep or5 (w' := V6) (fun gb hgb => hg6.block gb (or5.lt gb hgb).2 (fun e => hap gb e.symm hgb))
              have or7 : V7.ownsRow (w2.heap.size + 1 + 2) 3 1 (.slice ra' rn' rc') d.right.length (d.right.map (fun n => .int .i64 n)) := by
                rw [hV7]; exact own_set (own_set or6 _ _ (by omega)) _ _ (by omega)
              have hat7 : (Value.slice va vn vc).ownBlock = (Value.slice la' ln' lc').ownBlock ∨ (Value.slice va vn vc).ownBlock = some V5.heap.size := hat6
              clear hV7 kd6 kd7 hown6 hg6 hat6 ol5 or5 ol4 or4 kd4 kr4 hrow6 or6 e36
              have kt7 : V7.heap[V.heap.size + 1]? = some (.cells #[.int .i64 nx.i, .int .i64 nx.j, .string ⟨nx.ahead.toArray⟩, .bool nx.right] 95) := (e37.same _ (Array.getElem?_eq_some_iff.1 kt3).1 (fun hx => by rcases hx with hx | hx | hx; have := EWm.size; have := hEV.size; omega; have := (hol.lt _ hx).2; have := EWm.size; have := hEV.size; omega; have := (hor.lt _ hx).2; have := EWm.size; have := hEV.size; omega)).trans kt3
              have ks7 : V7.heap[w2.heap.size + 1]? = some (.cells #[.int .i64 s.i, .int .i64 s.j, .string ⟨s.ahead.toArray⟩, .bool s.right] 95) := (e37.same _ (Array.getElem?_eq_some_iff.1 ks3').1 (fun hx => by rcases hx with hx | hx | hx; omega; have := (hol.lt _ hx).1; omega; have := (hor.lt _ hx).1; omega)).trans ks3'
              have t0 := cellAt kt7 0 rfl
              have t1 := cellAt kt7 1 rfl
              have t2 := cellAt kt7 2 rfl
              have t3 := cellAt kt7 3 rfl
              have u0 := cellAt ks7 0 rfl
              have u1 := cellAt ks7 1 rfl
              have u2 := cellAt ks7 2 rfl
              have u3 := cellAt ks7 3 rfl
              have g0 := frozen_of ks7 0
              have g1 := frozen_of ks7 1
              have g2 := frozen_of ks7 2
              have g3 := frozen_of ks7 3
              gi_wp2_with fail
              have st8 := set_block (set_block (set_block (set_block ks7 0 (.int .i64 nx.i)) 1 (.int .i64 nx.j)) 2 (.string ⟨nx.ahead.toArray⟩)) 3 (.bool nx.right)
              have e78 := ((((Ext.refl (one (w2.heap.size + 1)) V7).setCell ⟨w2.heap.size + 1, 0, none⟩ (.int .i64 nx.i) (.inr rfl)).setCell ⟨w2.heap.size + 1, 1, none⟩ (.int .i64 nx.j) (.inr rfl)).setCell ⟨w2.heap.size + 1, 2, none⟩ (.string ⟨nx.ahead.toArray⟩) (.inr rfl)).setCell ⟨w2.heap.size + 1, 3, none⟩ (.bool nx.right) (.inr rfl)
              have hwl2 : wm.heap.size + 1 < V2.heap.size := (Array.getElem?_eq_some_iff.1 hr2).1
              have kd9 := (e78.same (w2.heap.size + 2) (Array.getElem?_eq_some_iff.1 kd8).1 (by unfold one; omega)).trans kd8
              have ol8 := own_keep ol7 (fun gb hgb => e78.same gb (ol7.lt gb hgb).2 (fun hx => by have := (ol7.lt gb hgb).1; have hx : gb = w2.heap.size + 1 := hx; omega))
              have or8 := own_keep or7 (fun gb hgb => e78.same gb (or7.lt gb hgb).2 (fun hx => by have := (or7.lt gb hgb).1; have hx : gb = w2.heap.size + 1 := hx; omega))
              have hds : d.step s (r, nx) = ⟨d.cost, d.left ++ [r.index], d.right, d.form ++ r.to⟩ := by simp only [Deriv.step, if_pos HLT2.out]
              have oldk : ∀ gb, W.heap.size ≤ gb → gb < V2.heap.size → V7.heap[gb]? = V2.heap[gb]? := fun gb h1 h2 => (e37.same gb (by omega) (fun hx => by rcases hx with hx | hx | hx; omega; have := (hol.lt gb hx).2; omega; have := (hor.lt gb hx).2; omega)).trans (e23.same gb h2 (fun h => h))
              have z78 := e37.size
              refine ⟨(e78.same _ (by omega) (by unfold one; have := EWm.size; omega)).trans (oldk _ (by have := EWm.size; omega) (by omega)), (e78.same _ (by omega) (by unfold one; have := EWm.size; omega)).trans (oldk _ (by have := EWm.size; omega) (by omega)), rfl, k, ((r, .slice fa fn fc), nx), .slice va vn vc, .slice ra' rn' rc', ⟨HGX.out, HALL.out, HT9.out, st8, ?_, ?_, ?_, fun gb hgb e => by rcases hat7 with h | h; exact hap gb (h.symm.trans hgb) e; have h1 := (hor.lt gb e).2; rw [hgb] at h; cases h; have := EWm.size; have := hEV.size; have := e45.size; have := e34.size; omega, ?_, fun gb hgb => by rcases hgb with hgb | hgb; (rcases hat7 with h | h; (have h1 := (hol.lt gb (h.symm.trans hgb)).2; have := EWm.size; omega); (rw [hgb] at h; cases h; have := e45.size; have := e34.size; have := hwl2; omega)); (have h1 := (hor.lt gb hgb).2; have := EWm.size; omega), ?_⟩⟩
              · show _ = some (Obj.cells #[.int .i64 (d.step s (r, nx)).cost, .slice va vn vc, .slice ra' rn' rc', .string ⟨(d.step s (r, nx)).form.toArray⟩] 47)
                rw [hds]
                exact kd9
              · show World.ownsRow _ _ _ _ _ (d.step s (r, nx)).left.length ((d.step s (r, nx)).left.map fun n => .int .i64 n)
                rw [hds]
                exact by simpa using ol8
              · show World.ownsRow _ _ _ _ _ (d.step s (r, nx)).right.length ((d.step s (r, nx)).right.map fun n => .int .i64 n)
                rw [hds]
                exact or8
              · show (d.step s (r, nx)).form.length ≤ 3 * (d.step s (r, nx)).left.length
                rw [hds]
                exact by simp only [List.length_append, List.length_singleton]; have := HFR.out; have := HRT.out; omega
              · exact (((Em3.mono (fun _ _ h => h.elim) : Ext (fun i => i = w2.heap.size + 1 ∨ i = w2.heap.size + 1 + 1 ∨ (Value.slice la' ln' lc').ownBlock = some i ∨ (Value.slice ra' rn' rc').ownBlock = some i) wm V3).trans (e37.mono (fun _ _ h => .inr h))).trans (e78.mono (fun _ _ h => .inl h)))
            · have b2 : decide (s.i < nx.i) = false := by simpa using hlt2
              have HLT2 := Lib.hid hlt2
              clear hlt2
              have a2 : V3.cell? ⟨w2.heap.size + 2, 2, none⟩ = some (.slice ra' rn' rc') := cellAt kd3' 2 rfl
              have g0 : V3.cell? ⟨V.heap.size, 0, none⟩ = some (.int .i64 r.index) := cellAt kr3 0 rfl
              gi_upto_region 17 with (refine wpListIn_append_own_at _ rfl _ _ 45 rfl (w2.heap.size + 1 + 2) 3 i0 _ 1 8 Tryz.underlying45 hi0 hz0 hz1 hz2 rfl (by decide) _ _ _ rfl (or3.alloc _) ⟨V3.heap.size, 0, none⟩ 1 1 [.int .i64 r.index] rfl rfl (new_cells _ _ _ rfl) (by simp [Value.oneCell']) (by unfold maxLen; omega) (by omega) (by simp; omega) ?_; intro v' V5 hown' hgrow _ hat; have k5 := (hgrow.block (w2.heap.size + 2) (by simp; omega) (fun e => by have := or3.lt _ e.symm; omega)).trans (keepAt kd3' _); have c5 : V5.cell? ⟨w2.heap.size + 2, 2, none⟩ = some (.slice ra' rn' rc') := cellAt k5 2 rfl; have f5 := frozen_of k5 2; obtain ⟨va, vn, vc, rfl⟩ := own_slice hown')
              have HAT := Lib.hid hat
              obtain ⟨V7, hV7⟩ : ∃ V7, V7 = V5.setCell ⟨w2.heap.size + 2, 2, none⟩ (.slice va vn vc) := ⟨_, rfl⟩
              have kd8 := set_block k5 2 (.slice va vn vc)
              rw [← hV7] at kd8 ⊢
              have e37 : Ext (fun i => i = w2.heap.size + 2 ∨ (Value.slice la' ln' lc').ownBlock = some i ∨ (Value.slice ra' rn' rc').ownBlock = some i) V3 V7 := by
                rw [hV7]
                exact ((((Ext.refl none' V3).alloc _).mono (fun _ _ h => h.elim)).trans (Ext.of_grownBy hgrow (fun j hj => .inr (.inr hj)))).setCell _ _ (.inr (.inl rfl))
              have or7 : V7.ownsRow (w2.heap.size + 1 + 2) 3 1 (.slice va vn vc) (d.right.length + 1) (d.right.map (fun n => .int .i64 n) ++ [.int .i64 r.index]) := by
                rw [hV7]; exact own_set hown' _ _ (by omega)
              have ol6 := own_keep ol3 (w' := V5) (fun gb hgb => (hgrow.block gb (by have := (ol3.lt gb hgb).2; simp; omega) (fun e => hap gb hgb e.symm)).trans (Below.heap_alloc _ _ _ (ol3.lt gb hgb).2))
              have ol7 : V7.ownsRow (w2.heap.size + 1 + 2) 3 1 (.slice la' ln' lc') d.left.length (d.left.map (fun n => .int .i64 n)) := by
                rw [hV7]; exact own_set ol6 _ _ (by omega)
              have hat7 : (Value.slice va vn vc).ownBlock = (Value.slice ra' rn' rc').ownBlock ∨ (Value.slice va vn vc).ownBlock = some (V3.heap.size + 1) := by
                rcases HAT.out with h | h
                · exact .inl h
                · exact .inr (by rw [h]; simp)
              clear hV7 k5 hown' hgrow hat HAT ol6 c5 f5
              have kt7 : V7.heap[V.heap.size + 1]? = some (.cells #[.int .i64 nx.i, .int .i64 nx.j, .string ⟨nx.ahead.toArray⟩, .bool nx.right] 95) := (e37.same _ (Array.getElem?_eq_some_iff.1 kt3).1 (fun hx => by rcases hx with hx | hx | hx; have := EWm.size; have := hEV.size; omega; have := (hol.lt _ hx).2; have := EWm.size; have := hEV.size; omega; have := (hor.lt _ hx).2; have := EWm.size; have := hEV.size; omega)).trans kt3
              have ks7 : V7.heap[w2.heap.size + 1]? = some (.cells #[.int .i64 s.i, .int .i64 s.j, .string ⟨s.ahead.toArray⟩, .bool s.right] 95) := (e37.same _ (Array.getElem?_eq_some_iff.1 ks3').1 (fun hx => by rcases hx with hx | hx | hx; omega; have := (hol.lt _ hx).1; omega; have := (hor.lt _ hx).1; omega)).trans ks3'
              have t0 := cellAt kt7 0 rfl
              have t1 := cellAt kt7 1 rfl
              have t2 := cellAt kt7 2 rfl
              have t3 := cellAt kt7 3 rfl
              have u0 := cellAt ks7 0 rfl
              have u1 := cellAt ks7 1 rfl
              have u2 := cellAt ks7 2 rfl
              have u3 := cellAt ks7 3 rfl
              have g0 := frozen_of ks7 0
              have g1 := frozen_of ks7 1
              have g2 := frozen_of ks7 2
              have g3 := frozen_of ks7 3
              gi_wp2_with fail
              have st8 := set_block (set_block (set_block (set_block ks7 0 (.int .i64 nx.i)) 1 (.int .i64 nx.j)) 2 (.string ⟨nx.ahead.toArray⟩)) 3 (.bool nx.right)
              have e78 := ((((Ext.refl (one (w2.heap.size + 1)) V7).setCell ⟨w2.heap.size + 1, 0, none⟩ (.int .i64 nx.i) (.inr rfl)).setCell ⟨w2.heap.size + 1, 1, none⟩ (.int .i64 nx.j) (.inr rfl)).setCell ⟨w2.heap.size + 1, 2, none⟩ (.string ⟨nx.ahead.toArray⟩) (.inr rfl)).setCell ⟨w2.heap.size + 1, 3, none⟩ (.bool nx.right) (.inr rfl)
              have hwl2 : wm.heap.size + 1 < V2.heap.size := (Array.getElem?_eq_some_iff.1 hr2).1
              have kd9 := (e78.same (w2.heap.size + 2) (Array.getElem?_eq_some_iff.1 kd8).1 (by unfold one; omega)).trans kd8
              have ol8 := own_keep ol7 (fun gb hgb => e78.same gb (ol7.lt gb hgb).2 (fun hx => by have := (ol7.lt gb hgb).1; have hx : gb = w2.heap.size + 1 := hx; omega))
              have or8 := own_keep or7 (fun gb hgb => e78.same gb (or7.lt gb hgb).2 (fun hx => by have := (or7.lt gb hgb).1; have hx : gb = w2.heap.size + 1 := hx; omega))
              have hds : d.step s (r, nx) = ⟨d.cost, d.left, d.right ++ [r.index], d.form⟩ := by simp only [Deriv.step, if_neg (show ¬ s.i < nx.i by have := HLT2.out; omega)]
              have oldk : ∀ gb, W.heap.size ≤ gb → gb < V2.heap.size → V7.heap[gb]? = V2.heap[gb]? := fun gb h1 h2 => (e37.same gb (by omega) (fun hx => by rcases hx with hx | hx | hx; omega; have := (hol.lt gb hx).2; omega; have := (hor.lt gb hx).2; omega)).trans (e23.same gb h2 (fun h => h))
              have z78 := e37.size
              refine ⟨(e78.same _ (by omega) (by unfold one; have := EWm.size; omega)).trans (oldk _ (by have := EWm.size; omega) (by omega)), (e78.same _ (by omega) (by unfold one; have := EWm.size; omega)).trans (oldk _ (by have := EWm.size; omega) (by omega)), rfl, k, ((r, .slice fa fn fc), nx), .slice la' ln' lc', .slice va vn vc, ⟨HGX.out, HALL.out, HT9.out, st8, ?_, ?_, ?_, fun gb hgb e => by rcases hat7 with h | h; exact hap gb hgb (h.symm.trans e); have h1 := (hol.lt gb hgb).2; rw [e] at h; cases h; have := EWm.size; have := hEV.size; omega, ?_, fun gb hgb => by rcases hgb with hgb | hgb; (have h1 := (hol.lt gb hgb).2; have := EWm.size; omega); (rcases hat7 with h | h; (have h1 := (hor.lt gb (h.symm.trans hgb)).2; have := EWm.size; omega); (rw [hgb] at h; cases h; have := hwl2; omega)), ?_⟩⟩
              · show _ = some (Obj.cells #[.int .i64 (d.step s (r, nx)).cost, .slice la' ln' lc', .slice va vn vc, .string ⟨(d.step s (r, nx)).form.toArray⟩] 47)
                rw [hds]
                exact kd9
              · show World.ownsRow _ _ _ _ _ (d.step s (r, nx)).left.length ((d.step s (r, nx)).left.map fun n => .int .i64 n)
                rw [hds]
                exact ol8
              · show World.ownsRow _ _ _ _ _ (d.step s (r, nx)).right.length ((d.step s (r, nx)).right.map fun n => .int .i64 n)
                rw [hds]
                exact by simpa using or8
              · show (d.step s (r, nx)).form.length ≤ 3 * (d.step s (r, nx)).left.length
                rw [hds]
                exact HFR.out
              · exact (((Em3.mono (fun _ _ h => h.elim) : Ext (fun i => i = w2.heap.size + 1 ∨ i = w2.heap.size + 1 + 1 ∨ (Value.slice la' ln' lc').ownBlock = some i ∨ (Value.slice ra' rn' rc').ownBlock = some i) wm V3).trans (e37.mono (fun _ _ h => .inr h))).trans (e78.mono (fun _ _ h => .inl h)))
          · have b1 : (!decide (r.cost + cn = csv)) = true := by simp [htt]
            have HT9 := Lib.hid (HTG.out.trans (decide_eq_false htt))
            rw [b1]
            have HE23 := Lib.hid (hE2.trans e23)
            have e03 : Ext (fun i => i = wm.heap.size + 1) V V3 := hE0.trans (e23.mono (fun _ _ h => h.elim))
            clear htt b1
            gi_wp2_with fail
            refine ⟨e23.same _ (by omega) (fun h => h), e23.same _ (by omega) (fun h => h), ⟨O, ⟨fun i x hi hx => ?_, HE23.out⟩, fun i h => .inl h⟩, e03.size, fun i hi hil _ => e03.same i hi hil⟩
            rcases Nat.lt_succ_iff_lt_or_eq.1 hi with h1 | h1
            · exact HALL.out i x h1 hx
            · subst h1
              rw [HGX.out] at hx
              cases hx
              exact HT9.out
        case hstop =>
          rintro c B ⟨rfl, k, ⟨⟨r, fv⟩, nx⟩, vl, vr, hX⟩ hD
          gi_wp2_with fail
          have hmem : (r, nx) ∈ amoves p.words s := List.mem_of_getElem? (HXN.out _ _ hX.at')
          obtain ⟨hwy, hlt⟩ := way_on hc hfm hoff.two hOW hmem hX.hit
          have hlt : left p nx < left p s := hlt
          have hwy : OnWay p nx := hwy
          have hfind : (amoves p.words s).find? (Pl.tight (known p).2 s) = some (r, nx) := find_first _ k _ (HXN.out _ _ hX.at') (fun i z hi hz => by
            rw [← HXS.out, List.getElem?_map] at hz
            cases hxi : xs[i]? with
            | none => rw [hxi] at hz; cases hz
            | some q =>
              rw [hxi] at hz
              simp only [Option.map_some, Option.some.injEq] at hz
              subst hz
              exact hX.first i q hi hxi) hX.hit
          have hlen2 : (d.step s (r, nx)).left.length + (d.step s (r, nx)).right.length = d.left.length + d.right.length + 1 := by
            unfold Deriv.step
            split <;> simp <;> omega
          have hres : bestF p.words (known p).2 (g - 1) nx (d.step s (r, nx)) = res := by
            have h1 := HRE.out
            obtain ⟨g', rfl⟩ : ∃ g', g = g' + 1 := ⟨g - 1, by omega⟩
            unfold bestF at h1
            rw [HTW.out, hfind] at h1
            simpa using h1
          have eWB : Ext (fun i => i = w2.heap.size + 1 ∨ i = w2.heap.size + 1 + 1 ∨ (Value.slice la' ln' lc').ownBlock = some i ∨ (Value.slice ra' rn' rc').ownBlock = some i) W B := (EWm.mono (fun _ _ h => h.elim)).trans hX.ext
          refine Handed.intro (g - 1) (by omega) (hJ8 _ _ _ ⟨nx, d.step s (r, nx), vl, vr, wm.heap.size :: is, ⟨hwy, by omega, hres, hX.st, hX.dv, hX.ol, hX.or, hX.apart, by omega, hX.frm, ?_, by have := eWB.size; omega, ?_, ?_⟩, frB_of _ rfl rfl rfl rfl rfl rfl rfl rfl, rfl⟩)
          · exact hext.later eWB (fun i hi hx => by
              rcases hx with hx | hx | hx | hx
              · exact .inl hx
              · exact .inr hx
              · have := (hol.lt i hx).1; omega
              · have := (hor.lt i hx).1; omega)
          · exact List.nodup_cons.2 ⟨fun h => by have := hisl _ h; have := EWm.size; omega, HND.out⟩
          · intro i hi
            rcases List.mem_cons.1 hi with rfl | hi
            · exact ⟨by have := EWm.size; omega, hD⟩
            · have h1 := HMK.out i hi
              exact ⟨h1.1, (eWB.same i (hisl i hi) (fun hx => by
                rcases hx with hx | hx | hx | hx
                · omega
                · omega
                · exact own_not_mark hol h1.2 hx
                · exact own_not_mark hor h1.2 hx)).trans h1.2⟩
end Go.Proofs.Kb
