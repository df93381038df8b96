/- The law's first test: the chapter's examples. -/
import Derived.Test.YthkpgnhjnpcjgaaGreatDoorMake
import Derived.Test.YthkpgnhjnpcjgaaGreatDoorSame
namespace Go.Proofs.Kb
open Go Go.RowKit Go.Lib Pl
attribute [local go_sem] Oper.semAt_some run_makeMap

theorem flat_at {α : Type} {enc : α → List Value} {k : Nat} (hk : ∀ x, (enc x).length = k) : ∀ (l : List α) (j : Nat) (x : α), l[j]? = some x → ∀ (i : Nat) (u : Value), (enc x)[i]? = some u → ((l.map enc).flatten)[j * k + i]? = some u
  | [], j, x, h, _, _, _ => by simp at h
  | y :: l, 0, x, h, i, u, hu => by
    simp only [List.getElem?_cons_zero, Option.some.injEq] at h
    subst h
    rw [List.map_cons, List.flatten_cons, Nat.zero_mul, Nat.zero_add, List.getElem?_append_left (List.getElem?_eq_some_iff.1 hu).1]
    exact hu
  | y :: l, j + 1, x, h, i, u, hu => by
    rw [List.getElem?_cons_succ] at h
    rw [List.map_cons, List.flatten_cons, List.getElem?_append_right (by rw [hk, Nat.add_mul]; omega), hk]
    have := flat_at hk l j x h i u hu
    rw [show (j + 1) * k + i - k = j * k + i by rw [Nat.add_mul]; omega]
    exact this

theorem SlAt.of_row {α : Type} {enc : α → List Value} {k : Nat} (hk : ∀ x, (enc x).length = k) (l : List α) {w : World} {b N : Nat} {t : TypeId} {cs : Array Value} (h : w.heap[b]? = some (.cells cs t (0, 0))) (hcs : cs = ((l.map enc).flatten).toArray) (hb : b < N) (hl : l.length ≤ maxLen) :
    SlAt k enc N w (.slice (some ⟨b, 0, none⟩) l.length l.length) l := by
  subst hcs
  refine ⟨some ⟨b, 0, none⟩, l.length, rfl, Nat.le_refl _, hl, fun _ => ⟨b, 0, rfl, hb, fun j x hj i u hu => ?_⟩⟩
  refine cellAt h _ ?_
  have := flat_at hk l j x hj i u hu
  simpa using this

theorem SlAt.none {α : Type} (k : Nat) (enc : α → List Value) (N : Nat) (w : World) : SlAt k enc N w (.slice none 0 0) [] := ⟨_, 0, rfl, by simp, by decide, fun h => absurd rfl h⟩

theorem Tabs.up {N N' : Nat} {w : World} (h : Tabs N w) (hN : N ≤ N') : Tabs N' w := by
  obtain ⟨⟨h1, h2, h3⟩, ⟨R, oR, cap, hR, hc⟩, hu⟩ := h
  exact ⟨⟨by omega, by omega, by omega⟩, ⟨R, oR, cap, by omega, hc⟩, hu⟩

theorem SlAt.later {α : Type} {enc : α → List Value} {k N N' : Nat} {w w' : World} {v : Value} {l : List α} (h : SlAt k enc N w v l) (hs : Same N w w') (hN : N ≤ N') : SlAt k enc N' w' v l := (h.keep hs).up hN

theorem own_empty (w : World) (e : TypeId) (size : Nat) : (w.alloc (.cells #[] e)).ownsRow w.heap.size e size (.slice (some ⟨w.heap.size, 0, none⟩) 0 0) 0 [] := by
  refine ⟨by simp, .inr ⟨w.heap.size, 0, #[], rfl, Nat.le_refl _, World.alloc_heap_new w _, Nat.le_refl _, by decide, by simp, by simp⟩⟩

theorem cell_at_alloc {w : World} {b : Nat} {cs : Array Value} {t : TypeId} {o : Obj} (h : w.heap[b]? = some (.cells cs t (0, 0))) {j : Nat} {u : Value} (hu : cs.toList[j]? = some u) : (w.alloc o).cell? ((⟨b, 0, none⟩ : Addr).add j) = some u := by
  have := cellAt (heapKeep h o) j (v := u) (by simpa using hu)
  unfold Addr.add
  split
  · rename_i h0; subst h0; exact this
  · simpa using this

theorem own_some {w : World} {base e size n : Nat} {v : Value} {xs : List Value} (h : w.ownsRow base e size v n xs) (hn : n ≠ 0) : ∃ g cap cur, v = .slice (some ⟨g, 0, none⟩) n cap ∧ base ≤ g ∧ w.heap[g]? = some (.cells cur e (0, 0)) ∧ n ≤ cap ∧ cap ≤ maxLen ∧ cur.size = cap * size ∧ cur.toList.take (n * size) = xs := by
  rcases h.2 with ⟨_, h0⟩ | h1
  · exact absurd h0 hn
  · exact h1

theorem own_at {cur : Array Value} {n : Nat} {xs : List Value} (h : cur.toList.take n = xs) (j : Nat) (hj : j < n) {u : Value} (hu : xs[j]? = some u) : cur[j]? = some u := by
  rw [← h, List.getElem?_take, if_pos hj] at hu
  simpa using hu

theorem setCell_heap {w : World} {b : Nat} {cs : Array Value} {t : TypeId} {fr : Nat × Nat} (h : w.heap[b]? = some (.cells cs t fr)) (j : Nat) (v : Value) : (w.setCell ⟨b, j, none⟩ v).heap[b]? = some (.cells (cs.set! j v) t fr) := by
  simp [World.setCell, Array.getElem?_modify, h]

theorem bad_at {cur : Array Value} {cap : Nat} (h : cur.toList.take ((0 + 4) * 5) = [] ++ (#[.int .i64 0, .int .i64 0, .string ⟨#[]⟩, .bool false, .int .i64 2, .int .i64 1, .int .i64 0, .string ⟨#[97]⟩, .bool false, .int .i64 2, .int .i64 1, .int .i64 1, .string ⟨#[]⟩, .bool false, .int .i64 2, .int .i64 2, .int .i64 1, .string ⟨#[98]⟩, .bool false, .int .i64 2] : Array Value).toList) (hs : cur.size = cap * 5) {j : Nat} {u : Value} (hu : (([⟨0, 0, [], false, 2⟩, ⟨1, 0, [97], false, 2⟩, ⟨1, 1, [], false, 2⟩, ⟨2, 1, [98], false, 1⟩] : List Pot).map encPot).flatten[j]? = some u) : (cur.set! 19 (.int .i64 1))[j]? = some u := by
  have hj : j < 20 := by
    have := (List.getElem?_eq_some_iff.1 hu).1
    exact this
  have hc := fun {u : Value} (hu : (([] : List Value) ++ (#[.int .i64 0, .int .i64 0, .string ⟨#[]⟩, .bool false, .int .i64 2, .int .i64 1, .int .i64 0, .string ⟨#[97]⟩, .bool false, .int .i64 2, .int .i64 1, .int .i64 1, .string ⟨#[]⟩, .bool false, .int .i64 2, .int .i64 2, .int .i64 1, .string ⟨#[98]⟩, .bool false, .int .i64 2] : Array Value).toList)[j]? = some u) => own_at h j hj hu
  have h20 : 19 < cur.size := by
    have := congrArg List.length h
    simp at this
    omega
  by_cases h19 : j = 19
  · subst h19
    have : u = .int .i64 1 := by
      have : some u = some (.int .i64 1) := hu.symm
      exact Option.some.inj this
    subst this
    simp [Array.set!, h20]
  · have e : (([⟨0, 0, [], false, 2⟩, ⟨1, 0, [97], false, 2⟩, ⟨1, 1, [], false, 2⟩, ⟨2, 1, [98], false, 1⟩] : List Pot).map encPot).flatten[j]? = (([] : List Value) ++ (#[.int .i64 0, .int .i64 0, .string ⟨#[]⟩, .bool false, .int .i64 2, .int .i64 1, .int .i64 0, .string ⟨#[97]⟩, .bool false, .int .i64 2, .int .i64 1, .int .i64 1, .string ⟨#[]⟩, .bool false, .int .i64 2, .int .i64 2, .int .i64 1, .string ⟨#[98]⟩, .bool false, .int .i64 2] : Array Value).toList)[j]? := by
      have : j = 0 ∨ j = 1 ∨ j = 2 ∨ j = 3 ∨ j = 4 ∨ j = 5 ∨ j = 6 ∨ j = 7 ∨ j = 8 ∨ j = 9 ∨ j = 10 ∨ j = 11 ∨ j = 12 ∨ j = 13 ∨ j = 14 ∨ j = 15 ∨ j = 16 ∨ j = 17 ∨ j = 18 := by omega
      rcases this with rfl | rfl | rfl | rfl | rfl | rfl | rfl | rfl | rfl | rfl | rfl | rfl | rfl | rfl | rfl | rfl | rfl | rfl | rfl <;> rfl
    rw [e] at hu
    have hne : ¬ 19 = j := fun e => h19 e.symm
    simp only [Array.set!, Array.getElem?_setIfInBounds, hne, if_false]
    exact hc hu

theorem TabAt.up {N N' : Nat} {w : World} {v : Value} {t : Table} (h : TabAt N w v t) (hN : N ≤ N') : TabAt N' w v t := by
  obtain ⟨vr, vd, ve, rfl, h1, h2, h3, h4⟩ := h
  exact ⟨vr, vd, ve, rfl, h1.up hN, h2.up hN, h3.up hN, h4⟩

theorem exec_slice {P : Program} {o : Oper} {a : Act} {w : World} (t : TypeId) (x : Operand) (lo hi mx : Option Operand) (ho : o.op = .slice t x lo hi mx) (xv : Value) (l' h' m' : Option Value) (hx : a.eval x = xv) (hl : lo.map a.eval = l') (hh : hi.map a.eval = h') (hm : mx.map a.eval = m') (v : Value)
    (h : (Instr.sliceAt t xv l' h' m').run P w = .ok v w) : (execOp a.eval o).run P w = .ok (.value v) w := by
  unfold execOp
  simp only [ho, hx, hl, hh, hm]
  simp only [Sem.run_bind]
  rw [h]
  rfl

theorem slice_pot (b : Nat) (w : World) : (Instr.sliceAt 26 (.slice (some ⟨b, 0, none⟩) 4 4) (some (.int .i64 1)) none none).run Tryz.prog w = .ok (.slice (some ⟨b, 5, none⟩) 3 3) w := by go_simp

theorem sample_good : GoodTable Pl.sample := by
  refine ⟨fun r hr => ?_, fun d hd => (by cases hd), fun d hd => (by cases hd)⟩
  simp only [Pl.sample, List.mem_cons, List.not_mem_nil, or_false] at hr
  rcases hr with rfl | rfl | rfl <;> exact ⟨⟨by decide, by decide⟩, by decide, by decide⟩

set_option maxRecDepth 100000 in
theorem sample_any (w : World) : Calls Tryz.prog 22 #[] w fun e w' => ∃ tb, e = .returned (.agg #[.slice (some ⟨tb, 0, none⟩) 3 3, .slice none 0 0, .slice none 0 0, .int .i64 0, .int .i64 0, .int .i64 0]) ∧
    TabAt w'.heap.size w' (.agg #[.slice (some ⟨tb, 0, none⟩) 3 3, .slice none 0 0, .slice none 0 0, .int .i64 0, .int .i64 0, .int .i64 0]) Pl.sample ∧ Ext none' w w' := by
  go_enter Tryz.func22, Tryz.ntmps22
  go_wp2_with fail
  have k0 : ((w.alloc (.cells #[.slice (some ⟨w.heap.size + 1, 0, none⟩) 3 3, .slice none 0 0, .slice none 0 0, .int .i64 0, .int .i64 0, .int .i64 0] 25)).alloc (.cells #[.int .i64 1, .string ⟨#[97]⟩, .string ⟨#[97]⟩, .int .i64 0, .int .i64 1, .string ⟨#[98]⟩, .string ⟨#[98]⟩, .int .i64 0, .int .i64 1, .string ⟨#[99]⟩, .string ⟨#[98]⟩, .int .i64 2] 41)).heap[w.heap.size]? = some (.cells #[.slice (some ⟨w.heap.size + 1, 0, none⟩) 3 3, .slice none 0 0, .slice none 0 0, .int .i64 0, .int .i64 0, .int .i64 0] 25) := heapKeep (heapNew _ rfl) _
  have k1 : ((w.alloc (.cells #[.slice (some ⟨w.heap.size + 1, 0, none⟩) 3 3, .slice none 0 0, .slice none 0 0, .int .i64 0, .int .i64 0, .int .i64 0] 25)).alloc (.cells #[.int .i64 1, .string ⟨#[97]⟩, .string ⟨#[97]⟩, .int .i64 0, .int .i64 1, .string ⟨#[98]⟩, .string ⟨#[98]⟩, .int .i64 0, .int .i64 1, .string ⟨#[99]⟩, .string ⟨#[98]⟩, .int .i64 2] 41)).heap[w.heap.size + 1]? = some (.cells #[.int .i64 1, .string ⟨#[97]⟩, .string ⟨#[97]⟩, .int .i64 0, .int .i64 1, .string ⟨#[98]⟩, .string ⟨#[98]⟩, .int .i64 0, .int .i64 1, .string ⟨#[99]⟩, .string ⟨#[98]⟩, .int .i64 2] 41) := heapNew _ (by simp)
  have ld := run_loadVar_row (P := Tryz.prog) _ w.heap.size _ 25 _ _ _ k0 Tryz.underlying25 rfl (by kernel_rfl)
  exact bodyPost_ret (results_cell (t := 0) (a := ⟨w.heap.size, 0, none⟩) rfl _ _ _ rfl ld) rfl ⟨w.heap.size + 1, rfl, ⟨_, _, _, rfl, SlAt.of_row (enc := encRule) (k := 4) (fun _ => rfl) Pl.sample.rules k1 (by rfl) (by simp) (by decide), SlAt.none _ _ _ _, SlAt.none _ _ _ _, sample_good⟩, ((Ext.refl none' w).alloc _).alloc _⟩

set_option maxRecDepth 100000 in
set_option maxHeartbeats 8000000 in
theorem head_any (N : Nat) (w : World) (hN : N ≤ w.heap.size) (hT : Tabs N w) : Calls Tryz.prog 12 #[] w fun e w' => e = .returned (.bool true) ∧ Ext none' w w' := by
  have samp := sample_any w
  refine (callsIn_wide (n := 1)).1 ?_
  refine callsIn_of_wp Tryz.func12 rfl trivial ?_ rfl
  simp only [Tryz.ntmps12, List.size_toArray, List.length_nil, Nat.reduceSub, Array.replicate_succ, Array.replicate_zero, List.push_toArray, List.append_toArray, List.nil_append, List.cons_append]
  gi_wp2_with fail
  refine ⟨trivial, callsIn_of_calls (ro := none) (samp.mono ?_)⟩
  rintro e w1 ⟨tb, rfl, htab, hE1⟩
  have HTAB := Lib.hid htab
  clear htab samp
  have s1 := hE1.size
  obtain ⟨w2, hw2⟩ : ∃ w2, w2 = w1.alloc (.cells #[.slice (some ⟨tb, 0, none⟩) 3 3, .slice none 0 0, .slice none 0 0, .int .i64 0, .int .i64 0, .int .i64 0] 25) := ⟨_, rfl⟩
  have hE2 : Ext none' w1 w2 := by rw [hw2]; exact (Ext.refl _ w1).alloc _
  have kT : w2.heap[w1.heap.size]? = some (.cells #[.slice (some ⟨tb, 0, none⟩) 3 3, .slice none 0 0, .slice none 0 0, .int .i64 0, .int .i64 0, .int .i64 0] 25) := by rw [hw2]; exact heapNew _ rfl
  have HW2 := Lib.hid hw2
  clear hw2
  have s2 := hE2.size
  have tab : ∀ W, Ext none' w1 W → TabAt w1.heap.size W (.agg #[.slice (some ⟨tb, 0, none⟩) 3 3, .slice none 0 0, .slice none 0 0, .int .i64 0, .int .i64 0, .int .i64 0]) Pl.sample := fun W h => HTAB.out.keep (h.same0 (Nat.le_refl _))
  have tbs : ∀ W, Ext none' w1 W → Tabs w1.heap.size W := fun W h => (hT.keep ((hE1.trans h).same0 hN)).up (Nat.le_trans hN hE1.size)
  have ktab : ∀ W, Ext none' w2 W → W.heap[w1.heap.size]? = some (.cells #[.slice (some ⟨tb, 0, none⟩) 3 3, .slice none 0 0, .slice none 0 0, .int .i64 0, .int .i64 0, .int .i64 0] 25) := fun W h => (h.same _ (Array.getElem?_eq_some_iff.1 kT).1 (fun h => h)).trans kT
  have q0 : w2.cell? ⟨w1.heap.size, 0, none⟩ = some (.slice (some ⟨tb, 0, none⟩) 3 3) := cellAt (ktab w2 (Ext.refl _ _)) 0 rfl
  have q1 : w2.cell? ⟨w1.heap.size, 1, none⟩ = some (.slice none 0 0) := cellAt (ktab w2 (Ext.refl _ _)) 1 rfl
  have q2 : w2.cell? ⟨w1.heap.size, 2, none⟩ = some (.slice none 0 0) := cellAt (ktab w2 (Ext.refl _ _)) 2 rfl
  have q3 : w2.cell? ⟨w1.heap.size, 3, none⟩ = some (.int .i64 0) := cellAt (ktab w2 (Ext.refl _ _)) 3 rfl
  have q4 : w2.cell? ⟨w1.heap.size, 4, none⟩ = some (.int .i64 0) := cellAt (ktab w2 (Ext.refl _ _)) 4 rfl
  have q5 : w2.cell? ⟨w1.heap.size, 5, none⟩ = some (.int .i64 0) := cellAt (ktab w2 (Ext.refl _ _)) 5 rfl
  have m3 := make_any w1.heap.size (.agg #[.slice (some ⟨tb, 0, none⟩) 3 3, .slice none 0 0, .slice none 0 0, .int .i64 0, .int .i64 0, .int .i64 0]) Pl.sample 1 ⟨#[97, 98]⟩ 1 ⟨#[97, 99]⟩ 2 w2 (tab w2 hE2) (by decide) (by decide) (hE2).size (tbs w2 hE2)
  rw [show Pl.Make Pl.sample 1 (⟨#[97, 98]⟩ : ByteArray).data.toList 1 (⟨#[97, 99]⟩ : ByteArray).data.toList 2 = (want, 0) from ex1] at m3
  have M3 := Lib.hid m3
  clear m3
  gi_wp2_with fail
  rw [← HW2.out]
  refine ⟨trivial, callsIn_of_calls (ro := none) (M3.out.mono ?_)⟩
  rintro e w3 ⟨v3, rfl, hl3, hE3⟩
  obtain ⟨a3, c3, rfl, -⟩ := id hl3
  clear q0 q1 q2 q3 q4 q5
  have q0 : w3.cell? ⟨w1.heap.size, 0, none⟩ = some (.slice (some ⟨tb, 0, none⟩) 3 3) := cellAt (ktab w3 (hE3)) 0 rfl
  have q1 : w3.cell? ⟨w1.heap.size, 1, none⟩ = some (.slice none 0 0) := cellAt (ktab w3 (hE3)) 1 rfl
  have q2 : w3.cell? ⟨w1.heap.size, 2, none⟩ = some (.slice none 0 0) := cellAt (ktab w3 (hE3)) 2 rfl
  have q3 : w3.cell? ⟨w1.heap.size, 3, none⟩ = some (.int .i64 0) := cellAt (ktab w3 (hE3)) 3 rfl
  have q4 : w3.cell? ⟨w1.heap.size, 4, none⟩ = some (.int .i64 0) := cellAt (ktab w3 (hE3)) 4 rfl
  have q5 : w3.cell? ⟨w1.heap.size, 5, none⟩ = some (.int .i64 0) := cellAt (ktab w3 (hE3)) 5 rfl
  have m4 := make_any w1.heap.size (.agg #[.slice (some ⟨tb, 0, none⟩) 3 3, .slice none 0 0, .slice none 0 0, .int .i64 0, .int .i64 0, .int .i64 0]) Pl.sample 1 ⟨#[97, 98]⟩ 1 ⟨#[97, 99]⟩ 3 w3 (tab w3 (hE2.trans hE3)) (by decide) (by decide) ((hE2.trans hE3)).size (tbs w3 (hE2.trans hE3))
  rw [show Pl.Make Pl.sample 1 (⟨#[97, 98]⟩ : ByteArray).data.toList 1 (⟨#[97, 99]⟩ : ByteArray).data.toList 3 = ([], 11) from ex2] at m4
  have M4 := Lib.hid m4
  clear m4
  gi_wp2_with fail
  refine ⟨trivial, callsIn_of_calls (ro := none) (M4.out.mono ?_)⟩
  rintro e w4 ⟨v4, rfl, hl4, hE4⟩
  obtain ⟨a4, c4, rfl, -⟩ := id hl4
  clear q0 q1 q2 q3 q4 q5
  have q0 : w4.cell? ⟨w1.heap.size, 0, none⟩ = some (.slice (some ⟨tb, 0, none⟩) 3 3) := cellAt (ktab w4 (hE3.trans hE4)) 0 rfl
  have q1 : w4.cell? ⟨w1.heap.size, 1, none⟩ = some (.slice none 0 0) := cellAt (ktab w4 (hE3.trans hE4)) 1 rfl
  have q2 : w4.cell? ⟨w1.heap.size, 2, none⟩ = some (.slice none 0 0) := cellAt (ktab w4 (hE3.trans hE4)) 2 rfl
  have q3 : w4.cell? ⟨w1.heap.size, 3, none⟩ = some (.int .i64 0) := cellAt (ktab w4 (hE3.trans hE4)) 3 rfl
  have q4 : w4.cell? ⟨w1.heap.size, 4, none⟩ = some (.int .i64 0) := cellAt (ktab w4 (hE3.trans hE4)) 4 rfl
  have q5 : w4.cell? ⟨w1.heap.size, 5, none⟩ = some (.int .i64 0) := cellAt (ktab w4 (hE3.trans hE4)) 5 rfl
  have m5 := make_any w1.heap.size (.agg #[.slice (some ⟨tb, 0, none⟩) 3 3, .slice none 0 0, .slice none 0 0, .int .i64 0, .int .i64 0, .int .i64 0]) Pl.sample 1 ⟨#[97]⟩ 1 ⟨#[98]⟩ 5 w4 (tab w4 (hE2.trans (hE3.trans hE4))) (by decide) (by decide) ((hE2.trans (hE3.trans hE4))).size (tbs w4 (hE2.trans (hE3.trans hE4)))
  rw [show Pl.Make Pl.sample 1 (⟨#[97]⟩ : ByteArray).data.toList 1 (⟨#[98]⟩ : ByteArray).data.toList 5 = ([⟨0, 0, [], false, 5⟩, ⟨1, 0, [97], false, 5⟩], 0) from ex3] at m5
  have M5 := Lib.hid m5
  clear m5
  gi_wp2_with fail
  refine ⟨trivial, callsIn_of_calls (ro := none) (M5.out.mono ?_)⟩
  rintro e w5 ⟨v5, rfl, hl5, hE5⟩
  obtain ⟨a5, c5, rfl, -⟩ := id hl5
  clear q0 q1 q2 q3 q4 q5
  have q0 : w5.cell? ⟨w1.heap.size, 0, none⟩ = some (.slice (some ⟨tb, 0, none⟩) 3 3) := cellAt (ktab w5 (hE3.trans (hE4.trans hE5))) 0 rfl
  have q1 : w5.cell? ⟨w1.heap.size, 1, none⟩ = some (.slice none 0 0) := cellAt (ktab w5 (hE3.trans (hE4.trans hE5))) 1 rfl
  have q2 : w5.cell? ⟨w1.heap.size, 2, none⟩ = some (.slice none 0 0) := cellAt (ktab w5 (hE3.trans (hE4.trans hE5))) 2 rfl
  have q3 : w5.cell? ⟨w1.heap.size, 3, none⟩ = some (.int .i64 0) := cellAt (ktab w5 (hE3.trans (hE4.trans hE5))) 3 rfl
  have q4 : w5.cell? ⟨w1.heap.size, 4, none⟩ = some (.int .i64 0) := cellAt (ktab w5 (hE3.trans (hE4.trans hE5))) 4 rfl
  have q5 : w5.cell? ⟨w1.heap.size, 5, none⟩ = some (.int .i64 0) := cellAt (ktab w5 (hE3.trans (hE4.trans hE5))) 5 rfl
  have m6 := make_any w1.heap.size (.agg #[.slice (some ⟨tb, 0, none⟩) 3 3, .slice none 0 0, .slice none 0 0, .int .i64 0, .int .i64 0, .int .i64 0]) Pl.sample 1 ⟨#[97]⟩ 1 ⟨#[99]⟩ 0 w5 (tab w5 (hE2.trans (hE3.trans (hE4.trans hE5)))) (by decide) (by decide) ((hE2.trans (hE3.trans (hE4.trans hE5)))).size (tbs w5 (hE2.trans (hE3.trans (hE4.trans hE5))))
  rw [show Pl.Make Pl.sample 1 (⟨#[97]⟩ : ByteArray).data.toList 1 (⟨#[99]⟩ : ByteArray).data.toList 0 = ([], 0) from ex4] at m6
  have M6 := Lib.hid m6
  clear m6
  gi_wp2_with fail
  refine ⟨trivial, callsIn_of_calls (ro := none) (M6.out.mono ?_)⟩
  rintro e w6 ⟨v6, rfl, hl6, hE6⟩
  obtain ⟨a6, c6, rfl, -⟩ := id hl6
  clear q0 q1 q2 q3 q4 q5
  gi_wp2_with fail
  obtain ⟨w7, hw7⟩ : ∃ w7, w7 = w6.alloc (.cells #[.int .i64 0, .int .i64 0, .string ⟨#[]⟩, .bool false, .int .i64 2, .int .i64 1, .int .i64 0, .string ⟨#[97]⟩, .bool false, .int .i64 2, .int .i64 1, .int .i64 1, .string ⟨#[]⟩, .bool false, .int .i64 2, .int .i64 2, .int .i64 1, .string ⟨#[98]⟩, .bool false, .int .i64 2] 37) := ⟨_, rfl⟩
  rw [← hw7]
  have hE7 : Ext none' w6 w7 := by rw [hw7]; exact (Ext.refl _ w6).alloc _
  have s7 : w7.heap.size = w6.heap.size + 1 := by rw [hw7]; simp
  have k7 : w7.heap[w6.heap.size]? = some (.cells #[.int .i64 0, .int .i64 0, .string ⟨#[]⟩, .bool false, .int .i64 2, .int .i64 1, .int .i64 0, .string ⟨#[97]⟩, .bool false, .int .i64 2, .int .i64 1, .int .i64 1, .string ⟨#[]⟩, .bool false, .int .i64 2, .int .i64 2, .int .i64 1, .string ⟨#[98]⟩, .bool false, .int .i64 2] 37) := by rw [hw7]; exact heapNew _ rfl
  clear hw7
  have hl7 : SlAt 5 encPot w7.heap.size w7 (.slice (some ⟨w6.heap.size, 0, none⟩) 4 4) want := SlAt.of_row (enc := encPot) (k := 5) (fun _ => rfl) want k7 (by rfl) (by omega) (by decide)
  have hE37 : Ext none' w3 w7 := hE4.trans (hE5.trans (hE6.trans hE7))
  refine ⟨trivial, callsIn_of_calls (ro := none) ((same_any w7.heap.size _ _ want want w7 (hl3.later (hE37.same0 (Nat.le_refl _)) hE37.size) hl7).mono ?_)⟩
  rintro e w8 ⟨rfl, hE8⟩
  rw [show decide (want = want) = true by simp]
  gi_wp2_with fail
  obtain ⟨w9, hw9⟩ : ∃ w9, w9 = w8.alloc (.cells #[.int .i64 0, .int .i64 0, .string ⟨#[]⟩, .bool false, .int .i64 5, .int .i64 1, .int .i64 0, .string ⟨#[97]⟩, .bool false, .int .i64 5] 37) := ⟨_, rfl⟩
  rw [← hw9]
  have hE9 : Ext none' w8 w9 := by rw [hw9]; exact (Ext.refl _ w8).alloc _
  have s9 : w9.heap.size = w8.heap.size + 1 := by rw [hw9]; simp
  have k9 : w9.heap[w8.heap.size]? = some (.cells #[.int .i64 0, .int .i64 0, .string ⟨#[]⟩, .bool false, .int .i64 5, .int .i64 1, .int .i64 0, .string ⟨#[97]⟩, .bool false, .int .i64 5] 37) := by rw [hw9]; exact heapNew _ rfl
  clear hw9
  have hl9 : SlAt 5 encPot w9.heap.size w9 (.slice (some ⟨w8.heap.size, 0, none⟩) 2 2) [⟨0, 0, [], false, 5⟩, ⟨1, 0, [97], false, 5⟩] := SlAt.of_row (enc := encPot) (k := 5) (fun _ => rfl) [⟨0, 0, [], false, 5⟩, ⟨1, 0, [97], false, 5⟩] k9 (by rfl) (by omega) (by decide)
  have hE59 : Ext none' w5 w9 := hE6.trans (hE7.trans (hE8.trans hE9))
  refine ⟨trivial, callsIn_of_calls (ro := none) ((same_any w9.heap.size _ _ _ _ w9 (hl5.later (hE59.same0 (Nat.le_refl _)) hE59.size) hl9).mono ?_)⟩
  rintro e w10 ⟨rfl, hE10⟩
  rw [decide_eq_true (rfl : ([⟨0, 0, [], false, 5⟩, ⟨1, 0, [97], false, 5⟩] : List Pot) = [⟨0, 0, [], false, 5⟩, ⟨1, 0, [97], false, 5⟩])]
  have hE710 : Ext none' w7 w10 := hE8.trans (hE9.trans hE10)
  have kw : w10.heap[w6.heap.size]? = some (.cells #[.int .i64 0, .int .i64 0, .string ⟨#[]⟩, .bool false, .int .i64 2, .int .i64 1, .int .i64 0, .string ⟨#[97]⟩, .bool false, .int .i64 2, .int .i64 1, .int .i64 1, .string ⟨#[]⟩, .bool false, .int .i64 2, .int .i64 2, .int .i64 1, .string ⟨#[98]⟩, .bool false, .int .i64 2] 37) := (hE710.same _ (by omega) (fun h => h)).trans k7
  obtain ⟨i0, hi0, hz0, hz1, hz2⟩ := info_parts info_pot
  have s10 := hE710.size
  gi_upto_region 9 with fail
  gi_upto_region 10 with (refine wpListIn_append_own _ rfl _ _ 26 rfl w10.heap.size 37 i0 _ 5 48 Tryz.underlying26 hi0 hz0 hz1 hz2 rfl (by decide) (.slice (some ⟨w10.heap.size, 0, none⟩) 0 0) 0 [] rfl (own_empty _ _ _) ⟨w6.heap.size, 0, none⟩ 4 4 #[.int .i64 0, .int .i64 0, .string ⟨#[]⟩, .bool false, .int .i64 2, .int .i64 1, .int .i64 0, .string ⟨#[97]⟩, .bool false, .int .i64 2, .int .i64 1, .int .i64 1, .string ⟨#[]⟩, .bool false, .int .i64 2, .int .i64 2, .int .i64 1, .string ⟨#[98]⟩, .bool false, .int .i64 2].toList rfl rfl (fun j u hu => cell_at_alloc kw hu) (by simp [Value.oneCell']) (by decide) (by decide) (by simp) ?_; intro v' w12 hown' hgrow _; obtain ⟨g', cap', cur, rfl, hg0, hgh, hgc, hgm, hgs, hgt⟩ := own_some hown' (by decide); have hc4 : 4 ≤ cap' := hgc; have f19 : w12.cell? ⟨g', 19, none⟩ = some (.int .i64 2) := cellAt hgh 19 (own_at hgt 19 (by decide) rfl); have f19' : w12.frozen? ⟨g', 19, none⟩ = false := by simp [World.frozen?, hgh])
  gi_upto_region 11 with fail
  obtain ⟨w13, hw13⟩ : ∃ w13, w13 = w12.setCell ⟨g', 19, none⟩ (.int .i64 1) := ⟨_, rfl⟩
  rw [← hw13]
  have hgE : Ext (fun b => w10.heap.size ≤ b) (w10.alloc (.cells #[] 37)) w12 := Ext.of_grownBy hgrow (fun b hb => Nat.le_of_eq (Option.some.inj hb))
  have hE1012 : Ext none' w10 w12 := ((Ext.refl none' w10).alloc (.cells #[] 37)).later hgE (fun i hi hx => by have hx : w10.heap.size ≤ i := hx; omega)
  have hE1013 : Ext none' w10 w13 := by rw [hw13]; exact hE1012.setCell ⟨g', 19, none⟩ _ (.inl hg0)
  have kb13 : w13.heap[g']? = some (.cells (cur.set! 19 (.int .i64 1)) 37) := by rw [hw13]; exact setCell_heap hgh 19 _
  have hE613 : Ext none' w7 w13 := hE710.trans hE1013
  have hE213 : Ext none' w2 w13 := hE3.trans (hE4.trans (hE5.trans (hE6.trans (hE7.trans hE613))))
  have hE113 : Ext none' w1 w13 := hE2.trans hE213
  have kt13 := ktab w13 hE213
  have kw13 : w13.heap[w6.heap.size]? = some (.cells #[.int .i64 0, .int .i64 0, .string ⟨#[]⟩, .bool false, .int .i64 2, .int .i64 1, .int .i64 0, .string ⟨#[97]⟩, .bool false, .int .i64 2, .int .i64 1, .int .i64 1, .string ⟨#[]⟩, .bool false, .int .i64 2, .int .i64 2, .int .i64 1, .string ⟨#[98]⟩, .bool false, .int .i64 2] 37) := (hE613.same _ (by omega) (fun h => h)).trans k7
  have s13 := hE1013.size
  have s113 := hE113.size
  have st13 : w1.heap.size < w13.heap.size := (Array.getElem?_eq_some_iff.1 kt13).1
  have sg13 : g' < w13.heap.size := (Array.getElem?_eq_some_iff.1 kb13).1
  clear hw13
  have tab13 : ∀ W, Ext none' w13 W → TabAt w13.heap.size W (.agg #[.slice (some ⟨tb, 0, none⟩) 3 3, .slice none 0 0, .slice none 0 0, .int .i64 0, .int .i64 0, .int .i64 0]) Pl.sample := fun W h => (tab W (hE113.trans h)).up s113
  have tbs13 : ∀ W, Ext none' w13 W → Tabs w13.heap.size W := fun W h => (tbs W (hE113.trans h)).up s113
  have hlw : SlAt 5 encPot w13.heap.size w13 (.slice (some ⟨w6.heap.size, 0, none⟩) 4 4) want := SlAt.of_row (enc := encPot) (k := 5) (fun _ => rfl) want kw13 (by rfl) (by omega) (by decide)
  have hlt : SlAt 5 encPot w13.heap.size w13 (.slice (some ⟨w6.heap.size, 5, none⟩) 3 3) want.tail := by
    refine ⟨some ⟨w6.heap.size, 5, none⟩, 3, rfl, by decide, by decide, fun _ => ⟨w6.heap.size, 5, rfl, by omega, fun j x hj i u hu => ?_⟩⟩
    obtain ⟨aw, cw, hvw, _, _, hxw⟩ := hlw
    obtain ⟨bw, ow, haw, _, hcw⟩ := hxw (by decide)
    cases hvw
    cases haw
    have := hcw (j + 1) x (by simpa [Pl.want] using hj) i u hu
    rw [show 0 + (j + 1) * 5 + i = 5 + j * 5 + i by omega] at this
    exact this
  have hlb : SlAt 5 encPot w13.heap.size w13 (.slice (some ⟨g', 0, none⟩) 4 cap') [⟨0, 0, [], false, 2⟩, ⟨1, 0, [97], false, 2⟩, ⟨1, 1, [], false, 2⟩, ⟨2, 1, [98], false, 1⟩] := by
    refine ⟨some ⟨g', 0, none⟩, cap', rfl, hc4, hgm, fun _ => ⟨g', 0, rfl, sg13, fun j x hj i u hu => ?_⟩⟩
    refine cellAt kb13 _ ?_
    have hfa := flat_at (enc := encPot) (k := 5) (fun _ => rfl) [⟨0, 0, [], false, 2⟩, ⟨1, 0, [97], false, 2⟩, ⟨1, 1, [], false, 2⟩, ⟨2, 1, [98], false, 1⟩] j x hj i u hu
    rw [Nat.zero_add]
    exact bad_at hgt hgs hfa
  have q0 : w13.cell? ⟨w1.heap.size, 0, none⟩ = some (.slice (some ⟨tb, 0, none⟩) 3 3) := cellAt kt13 0 rfl
  have q1 : w13.cell? ⟨w1.heap.size, 1, none⟩ = some (.slice none 0 0) := cellAt kt13 1 rfl
  have q2 : w13.cell? ⟨w1.heap.size, 2, none⟩ = some (.slice none 0 0) := cellAt kt13 2 rfl
  have q3 : w13.cell? ⟨w1.heap.size, 3, none⟩ = some (.int .i64 0) := cellAt kt13 3 rfl
  have q4 : w13.cell? ⟨w1.heap.size, 4, none⟩ = some (.int .i64 0) := cellAt kt13 4 rfl
  have q5 : w13.cell? ⟨w1.heap.size, 5, none⟩ = some (.int .i64 0) := cellAt kt13 5 rfl
  have ck := check_any w13.heap.size (.agg #[.slice (some ⟨tb, 0, none⟩) 3 3, .slice none 0 0, .slice none 0 0, .int .i64 0, .int .i64 0, .int .i64 0]) (.slice (some ⟨w6.heap.size, 0, none⟩) 4 4) Pl.sample 1 ⟨#[97, 98]⟩ 1 ⟨#[97, 99]⟩ 2 want w13 (tab13 w13 (Ext.refl _ _)) (by decide) (by decide) hlw (fun e he => by simp only [Pl.want, List.mem_cons, List.not_mem_nil, or_false] at he; rcases he with rfl | rfl | rfl | rfl <;> exact ⟨⟨by decide, by decide⟩, ⟨by decide, by decide⟩, by decide, ⟨by decide, by decide⟩⟩) (Nat.le_refl _) (tbs13 w13 (Ext.refl _ _))
  rw [show Pl.Check Pl.sample 1 (⟨#[97, 98]⟩ : ByteArray).data.toList 1 (⟨#[97, 99]⟩ : ByteArray).data.toList 2 want = true from ex5] at ck
  have CK := Lib.hid ck
  clear ck
  gi_wp2_with fail
  clear q0 q1 q2 q3 q4 q5
  refine ⟨trivial, callsIn_of_calls (ro := none) (CK.out.mono ?_)⟩
  rintro e w14 ⟨rfl, hE14⟩
  have s14 := hE14.size
  gi_upto_region 12 with fail
  refine wp_region_N (ro := none) 19 (fun _ x y => Ext none' x y) rfl (by kernel_rfl) ?_
  obtain ⟨W3, hW3⟩ : ∃ W3, W3 = w14.drew := ⟨_, rfl⟩
  have e23 : Ext none' w13 W3 := by rw [hW3]; exact hE14.drew
  change wpAnyS _ _ _ _ _ _ _ _ _ _ w14.drew
  rw [← hW3]
  clear hW3
  refine wpAnyS_p 0 (some 81) (.bool true) (by kernel_rfl) (by kernel_rfl) (fun _ _ _ h => h) (fun x => Ext.refl _ x) (by kernel_rfl) (by kernel_rfl) ?_
  refine wpAnyS_p 1 (some 82) (.bool true) (by kernel_rfl) (by kernel_rfl) (fun _ _ _ h => h) (fun x => Ext.refl _ x) (by kernel_rfl) (by kernel_rfl) ?_
  refine wpAnyS_t 2 (fun W => Ext none' w13 W) (fun _ => true) (some 83) (.agg #[.slice (some ⟨tb, 0, none⟩) 3 3, .slice none 0 0, .slice none 0 0, .int .i64 0, .int .i64 0, .int .i64 0]) (by kernel_rfl) (by kernel_rfl) (fun _ _ _ h => h) (fun j x y _ ho hx => hx.trans ho) (fun x => Ext.refl _ x) (e23) (by kernel_rfl) (fun o ho W hW => by cases ho; exact exec_load_row _ _ rfl _ (by kernel_rfl) _ _ _ ((hW.same _ (by omega) (fun h => h)).trans kt13) Tryz.underlying25 rfl (by kernel_rfl)) ?_
  refine wpAnyS_p 3 (some 84) (.slice (some ⟨g', 0, none⟩) 4 cap') (by kernel_rfl) (by kernel_rfl) (fun _ _ _ h => h) (fun x => Ext.refl _ x) (by kernel_rfl) (by kernel_rfl) ?_
  have ck4 := check_any W3.heap.size (.agg #[.slice (some ⟨tb, 0, none⟩) 3 3, .slice none 0 0, .slice none 0 0, .int .i64 0, .int .i64 0, .int .i64 0]) (.slice (some ⟨g', 0, none⟩) 4 cap') Pl.sample 1 ⟨#[97, 98]⟩ 1 ⟨#[97, 99]⟩ 2 [⟨0, 0, [], false, 2⟩, ⟨1, 0, [97], false, 2⟩, ⟨1, 1, [], false, 2⟩, ⟨2, 1, [98], false, 1⟩] W3 ((tab13 W3 (e23)).up (e23).size) (by decide) (by decide) (hlb.later (e23.same0 (Nat.le_refl _)) e23.size) (fun e he => by simp only [List.mem_cons, List.not_mem_nil, or_false] at he; rcases he with rfl | rfl | rfl | rfl <;> exact ⟨⟨by decide, by decide⟩, ⟨by decide, by decide⟩, by decide, ⟨by decide, by decide⟩⟩) (Nat.le_refl _) ((tbs13 W3 (e23)).up (e23).size)
  rw [show Pl.Check Pl.sample 1 (⟨#[97, 98]⟩ : ByteArray).data.toList 1 (⟨#[97, 99]⟩ : ByteArray).data.toList 2 [⟨0, 0, [], false, 2⟩, ⟨1, 0, [97], false, 2⟩, ⟨1, 1, [], false, 2⟩, ⟨2, 1, [98], false, 1⟩] = false from ex6] at ck4
  refine wpAnyS_1 4 (some 85) (.call { callee := .value (.func 17), args := #[.tmp 83, .const (.int .i64 1), .const (.string ⟨#[97, 98]⟩), .const (.int .i64 1), .const (.string ⟨#[97, 99]⟩), .const (.int .i64 2), .tmp 84], argTypes := #[25, 3, 9, 3, 9, 3, 26] }) (by kernel_rfl) (by kernel_rfl) (by kernel_rfl) (by kernel_rfl) fun o hod ho K hK => ?_
  refine wpIn_call _ _ _ #[.agg #[.slice (some ⟨tb, 0, none⟩) 3 3, .slice none 0 0, .slice none 0 0, .int .i64 0, .int .i64 0, .int .i64 0], .int .i64 1, .string ⟨#[97, 98]⟩, .int .i64 1, .string ⟨#[97, 99]⟩, .int .i64 2, (.slice (some ⟨g', 0, none⟩) 4 cap')] _ hod ho (by kernel_rfl) (enters_of Tryz.func17 (by kernel_rfl) rfl) (ck4.mono ?_)
  rintro _ w15 ⟨rfl, hEw15⟩
  refine ⟨_, rfl, hK _ _ ⟨hEw15, ?_⟩⟩
  clear hK ho hod ck4
  refine wpAnyS_p 5 (some 86) (.bool true) (by kernel_rfl) (by kernel_rfl) (fun _ _ _ h => h) (fun x => Ext.refl _ x) (by kernel_rfl) (by kernel_rfl) ?_
  refine wpAnyS_p 6 (some 87) (.bool true) (by kernel_rfl) (by kernel_rfl) (fun _ _ _ h => h) (fun x => Ext.refl _ x) (by kernel_rfl) (by kernel_rfl) ?_
  refine wpAnyS_p 7 (some 88) (.bool true) (by kernel_rfl) (by kernel_rfl) (fun _ _ _ h => h) (fun x => Ext.refl _ x) (by kernel_rfl) (by kernel_rfl) ?_
  have e25 := e23.trans hEw15
  refine wpAnyS_t 8 (fun W => Ext none' w13 W) (fun _ => true) (some 89) (.agg #[.slice (some ⟨tb, 0, none⟩) 3 3, .slice none 0 0, .slice none 0 0, .int .i64 0, .int .i64 0, .int .i64 0]) (by kernel_rfl) (by kernel_rfl) (fun _ _ _ h => h) (fun j x y _ ho hx => hx.trans ho) (fun x => Ext.refl _ x) (e25) (by kernel_rfl) (fun o ho W hW => by cases ho; exact exec_load_row _ _ rfl _ (by kernel_rfl) _ _ _ ((hW.same _ (by omega) (fun h => h)).trans kt13) Tryz.underlying25 rfl (by kernel_rfl)) ?_
  refine wpAnyS_p 9 (some 90) (.slice (some ⟨w6.heap.size, 0, none⟩) 4 4) (by kernel_rfl) (by kernel_rfl) (fun _ _ _ h => h) (fun x => Ext.refl _ x) (by kernel_rfl) (by kernel_rfl) ?_
  refine wpAnyS_t 10 (fun _ => True) (fun _ => true) (some 91) (.slice (some ⟨w6.heap.size, 5, none⟩) 3 3) (by kernel_rfl) (by kernel_rfl) (fun _ _ _ h => h) (fun _ _ _ _ _ _ => trivial) (fun x => Ext.refl _ x) trivial (by kernel_rfl) (fun o ho W _ => by cases ho; exact exec_slice _ _ _ _ _ rfl _ _ _ _ (by kernel_rfl) (by kernel_rfl) rfl rfl _ (slice_pot _ W)) ?_
  have ck11 := check_any w15.heap.size (.agg #[.slice (some ⟨tb, 0, none⟩) 3 3, .slice none 0 0, .slice none 0 0, .int .i64 0, .int .i64 0, .int .i64 0]) (.slice (some ⟨w6.heap.size, 5, none⟩) 3 3) Pl.sample 1 ⟨#[97, 98]⟩ 1 ⟨#[97, 99]⟩ 2 want.tail w15 ((tab13 w15 (e25)).up (e25).size) (by decide) (by decide) (hlt.later (e25.same0 (Nat.le_refl _)) e25.size) (fun e he => by simp only [Pl.want, List.tail, List.mem_cons, List.not_mem_nil, or_false] at he; rcases he with rfl | rfl | rfl <;> exact ⟨⟨by decide, by decide⟩, ⟨by decide, by decide⟩, by decide, ⟨by decide, by decide⟩⟩) (Nat.le_refl _) ((tbs13 w15 (e25)).up (e25).size)
  rw [show Pl.Check Pl.sample 1 (⟨#[97, 98]⟩ : ByteArray).data.toList 1 (⟨#[97, 99]⟩ : ByteArray).data.toList 2 want.tail = false from ex7] at ck11
  refine wpAnyS_1 11 (some 92) (.call { callee := .value (.func 17), args := #[.tmp 89, .const (.int .i64 1), .const (.string ⟨#[97, 98]⟩), .const (.int .i64 1), .const (.string ⟨#[97, 99]⟩), .const (.int .i64 2), .tmp 91], argTypes := #[25, 3, 9, 3, 9, 3, 26] }) (by kernel_rfl) (by kernel_rfl) (by kernel_rfl) (by kernel_rfl) fun o hod ho K hK => ?_
  refine wpIn_call _ _ _ #[.agg #[.slice (some ⟨tb, 0, none⟩) 3 3, .slice none 0 0, .slice none 0 0, .int .i64 0, .int .i64 0, .int .i64 0], .int .i64 1, .string ⟨#[97, 98]⟩, .int .i64 1, .string ⟨#[97, 99]⟩, .int .i64 2, (.slice (some ⟨w6.heap.size, 5, none⟩) 3 3)] _ hod ho (by kernel_rfl) (enters_of Tryz.func17 (by kernel_rfl) rfl) (ck11.mono ?_)
  rintro _ w16 ⟨rfl, hEw16⟩
  refine ⟨_, rfl, hK _ _ ⟨hEw16, ?_⟩⟩
  clear hK ho hod ck11
  refine wpAnyS_p 12 (some 93) (.bool true) (by kernel_rfl) (by kernel_rfl) (fun _ _ _ h => h) (fun x => Ext.refl _ x) (by kernel_rfl) (by kernel_rfl) ?_
  refine wpAnyS_p 13 (some 94) (.bool true) (by kernel_rfl) (by kernel_rfl) (fun _ _ _ h => h) (fun x => Ext.refl _ x) (by kernel_rfl) (by kernel_rfl) ?_
  refine wpAnyS_p 14 (some 95) (.bool true) (by kernel_rfl) (by kernel_rfl) (fun _ _ _ h => h) (fun x => Ext.refl _ x) (by kernel_rfl) (by kernel_rfl) ?_
  have e26 := e25.trans hEw16
  refine wpAnyS_t 15 (fun W => Ext none' w13 W) (fun _ => true) (some 96) (.agg #[.slice (some ⟨tb, 0, none⟩) 3 3, .slice none 0 0, .slice none 0 0, .int .i64 0, .int .i64 0, .int .i64 0]) (by kernel_rfl) (by kernel_rfl) (fun _ _ _ h => h) (fun j x y _ ho hx => hx.trans ho) (fun x => Ext.refl _ x) (e26) (by kernel_rfl) (fun o ho W hW => by cases ho; exact exec_load_row _ _ rfl _ (by kernel_rfl) _ _ _ ((hW.same _ (by omega) (fun h => h)).trans kt13) Tryz.underlying25 rfl (by kernel_rfl)) ?_
  have ck16 := check_any w16.heap.size (.agg #[.slice (some ⟨tb, 0, none⟩) 3 3, .slice none 0 0, .slice none 0 0, .int .i64 0, .int .i64 0, .int .i64 0]) (.slice none 0 0) Pl.sample 1 ⟨#[97, 98]⟩ 1 ⟨#[97, 99]⟩ 0 [] w16 ((tab13 w16 (e26)).up (e26).size) (by decide) (by decide) (SlAt.none _ _ _ _) (fun e he => by cases he) (Nat.le_refl _) ((tbs13 w16 (e26)).up (e26).size)
  rw [show Pl.Check Pl.sample 1 (⟨#[97, 98]⟩ : ByteArray).data.toList 1 (⟨#[97, 99]⟩ : ByteArray).data.toList 0 [] = true from ex8] at ck16
  refine wpAnyS_1 16 (some 97) (.call { callee := .value (.func 17), args := #[.tmp 96, .const (.int .i64 1), .const (.string ⟨#[97, 98]⟩), .const (.int .i64 1), .const (.string ⟨#[97, 99]⟩), .const (.int .i64 0), .const (.slice none 0 0)], argTypes := #[25, 3, 9, 3, 9, 3, 26] }) (by kernel_rfl) (by kernel_rfl) (by kernel_rfl) (by kernel_rfl) fun o hod ho K hK => ?_
  refine wpIn_call _ _ _ #[.agg #[.slice (some ⟨tb, 0, none⟩) 3 3, .slice none 0 0, .slice none 0 0, .int .i64 0, .int .i64 0, .int .i64 0], .int .i64 1, .string ⟨#[97, 98]⟩, .int .i64 1, .string ⟨#[97, 99]⟩, .int .i64 0, (.slice none 0 0)] _ hod ho (by kernel_rfl) (enters_of Tryz.func17 (by kernel_rfl) rfl) (ck16.mono ?_)
  rintro _ w17 ⟨rfl, hEw17⟩
  refine ⟨_, rfl, hK _ _ ⟨hEw17, ?_⟩⟩
  clear hK ho hod ck16
  refine wpAnyS_p 17 (some 98) (.bool true) (by kernel_rfl) (by kernel_rfl) (fun _ _ _ h => h) (fun x => Ext.refl _ x) (by kernel_rfl) (by kernel_rfl) ?_
  refine wpAnyS_p 18 (some 0) (.bool true) (by kernel_rfl) (by kernel_rfl) (fun _ _ _ h => h) (fun x => Ext.refl _ x) (by kernel_rfl) (by kernel_rfl) ?_
  refine wpAnyS_doneN (by kernel_rfl) ?_ _
  simp only [Act.put, List.setIfInBounds_toArray, List.set_cons_succ, List.set_cons_zero]
  have HF := Lib.hid ((hE1.trans hE113).trans (e26.trans hEw17))
  gi_wp2_with fail
  go_ret
  exact ⟨rfl, HF.out⟩
end Go.Proofs.Kb
