/- Certificates compared; the chapter's examples as plain facts. -/
import Derived.Test.YthkpgnhjnpcjgaaGreatDoorFew
import Derived.Test.YthkpgnhjnpcjgaaGreatDoorChk0
namespace Go.Proofs.Kb
open Go Go.RowKit Go.Lib Pl
attribute [local go_sem] Oper.semAt_some run_makeMap

theorem ex1 : Pl.Make sample 1 [97, 98] 1 [97, 99] 2 = (want, 0) := by kernel_rfl
theorem ex2 : Pl.Make sample 1 [97, 98] 1 [97, 99] 3 = ([], 11) := by kernel_rfl
theorem ex3 : Pl.Make sample 1 [97] 1 [98] 5 = ([⟨0, 0, [], false, 5⟩, ⟨1, 0, [97], false, 5⟩], 0) := by kernel_rfl
theorem ex4 : Pl.Make sample 1 [97] 1 [99] 0 = ([], 0) := by kernel_rfl
theorem ex5 : Pl.Check sample 1 [97, 98] 1 [97, 99] 2 want = true := by kernel_rfl
theorem ex6 : Pl.Check sample 1 [97, 98] 1 [97, 99] 2 [⟨0, 0, [], false, 2⟩, ⟨1, 0, [97], false, 2⟩, ⟨1, 1, [], false, 2⟩, ⟨2, 1, [98], false, 1⟩] = false := by kernel_rfl
theorem ex7 : Pl.Check sample 1 [97, 98] 1 [97, 99] 2 want.tail = false := by kernel_rfl
theorem ex8 : Pl.Check sample 1 [97, 98] 1 [97, 99] 0 [] = true := by kernel_rfl

theorem neq_pot (i j h i' j' h' : Int) (a a' : ByteArray) (r r' : Bool) (w : World) :
    (binOp .neq 37 (.agg #[.int .i64 i, .int .i64 j, .string a, .bool r, .int .i64 h]) (.agg #[.int .i64 i', .int .i64 j', .string a', .bool r', .int .i64 h'])).run Tryz.prog w = .ok (.bool (!((i == i') && (j == j') && (a.toList == a'.toList) && (r == r') && (h == h')))) w := by
  by_cases h1 : i = i' <;> by_cases h2 : j = j' <;> by_cases h3 : a.toList = a'.toList <;> by_cases h4 : r = r' <;> by_cases h5 : h = h' <;> go_simp
attribute [local go_sem high] neq_pot

theorem neq_pots (d f : Pot) (x y : Operand) (w : World) : (do eqGuard .neq 37 x y (.agg #[.int .i64 d.i, .int .i64 d.j, .string ⟨d.ahead.toArray⟩, .bool d.right, .int .i64 d.h]) (.agg #[.int .i64 f.i, .int .i64 f.j, .string ⟨f.ahead.toArray⟩, .bool f.right, .int .i64 f.h]); binOp .neq 37 (.agg #[.int .i64 d.i, .int .i64 d.j, .string ⟨d.ahead.toArray⟩, .bool d.right, .int .i64 d.h]) (.agg #[.int .i64 f.i, .int .i64 f.j, .string ⟨f.ahead.toArray⟩, .bool f.right, .int .i64 f.h]) : Sem Value).run Tryz.prog w = .ok (.bool (!decide (d = f))) w := by
  have h : decide (d = f) = ((d.i == f.i) && (d.j == f.j) && (d.ahead == f.ahead) && (d.right == f.right) && (d.h == f.h)) := by
    rw [Bool.eq_iff_iff]
    cases d; cases f
    simp [and_assoc]
  rw [h]
  have e1 : ((⟨d.ahead.toArray⟩ : ByteArray).toList == (⟨f.ahead.toArray⟩ : ByteArray).toList) = (d.ahead == f.ahead) := by simp [byteArray_toList]
  rw [← e1]
  have h2 := neq_pot d.i d.j d.h f.i f.j f.h ⟨d.ahead.toArray⟩ ⟨f.ahead.toArray⟩ d.right f.right w
  go_simp

theorem cell_heap {w W : World} (h : W.heap = w.heap) {a : Addr} {v : Value} (hc : w.cell? a = some v) : W.cell? a = some v := by
  unfold World.cell? at hc ⊢
  rw [h]; exact hc

set_option maxRecDepth 100000 in
set_option maxHeartbeats 4000000 in
theorem same_any (N : Nat) (va vb : Value) (p q : List Pot) (w : World) (ha : SlAt 5 encPot N w va p) (hb : SlAt 5 encPot N w vb q) :
    Calls Tryz.prog 16 #[va, vb] w fun e w' => e = .returned (.bool (decide (p = q))) ∧ Ext none' w w' := by
  obtain ⟨aa, ac, rfl, hac, ham, hax⟩ := ha
  obtain ⟨ba, bc, rfl, hbc, hbm, hbx⟩ := hb
  have l1 : p.length ≤ 9223372036854775807 := by unfold maxLen at ham; omega
  have l2 : q.length ≤ 9223372036854775807 := by unfold maxLen at hbm; omega
  have HAX := Lib.hid hax
  have HBX := Lib.hid hbx
  clear hax hbx
  by_cases hlen : p.length = q.length
  · have b0 : ((p.length : Int) == q.length) = true := by simp [hlen]
    go_enter Tryz.func16, Tryz.ntmps16
    go_wp2_with fail
    go_loopw [5] (fun i wr => ∃ j k : Nat, i = .int .i64 j ∧ j ≤ p.length ∧ p.take j = q.take j ∧ wr = w.drewN k) (fun i _ => p.length - (intOf i).toNat)
    case atStart => exact ⟨0, 0, rfl, by omega, rfl, rfl⟩
    case round =>
      obtain ⟨j, k, rfl, hj, hA, rfl⟩ := hrel
      by_cases hjl : j < p.length
      · obtain ⟨d, hd⟩ : ∃ d, p[j]? = some d := ⟨_, List.getElem?_eq_getElem hjl⟩
        have hjq : j < q.length := by omega
        obtain ⟨f, hf⟩ : ∃ f, q[j]? = some f := ⟨_, List.getElem?_eq_getElem hjq⟩
        obtain ⟨g, o, rfl, hg, hcell⟩ := HAX.out (by intro e; rw [e] at hjl; simp at hjl)
        obtain ⟨g', o', rfl, hg', hcell'⟩ := HBX.out (by intro e; rw [e] at hjq; simp at hjq)
        have htp : p.take (j + 1) = p.take j ++ [d] := take_snoc hd
        have htq : q.take (j + 1) = q.take j ++ [f] := take_snoc hf
        by_cases hdf : d = f
        · have HT := Lib.hid (show p.take (j + 1) = q.take (j + 1) by rw [htp, htq, hA, hdf])
          have hdb : decide (d = f) = true := by simpa using hdf
          clear hA htp htq
          go_upto_region 6 with fail
          refine (wpIn_wide (n := 1)).1 ?_
          refine wp_region_N (ro := none) 9 (fun _ x y => y.heap = x.heap) rfl (by kernel_rfl) ?_
          refine wpAnyS_p 0 (some 17) (.slice (some ⟨g, o, none⟩) p.length ac) (by kernel_rfl) (by kernel_rfl) (fun _ _ _ h => h) (fun x => rfl) (by kernel_rfl) (by kernel_rfl) ?_
          refine wpAnyS_p 1 (some 18) (.int .i64 (j : Nat)) (by kernel_rfl) (by kernel_rfl) (fun _ _ _ h => h) (fun x => rfl) (by kernel_rfl) (by kernel_rfl) ?_
          refine wpAnyS_t 2 (fun W => W.heap = w.heap) (fun _ => true) (some 19) (.pointer (some ⟨g, o + j * 5, none⟩)) (by kernel_rfl) (by kernel_rfl) (fun _ _ _ h => h) (fun j x y _ ho hx => ho.trans hx) (fun x => rfl) rfl (by kernel_rfl) (fun o ho W hW => by cases ho; exact exec_index _ _ _ rfl _ _ _ (by kernel_rfl) (by kernel_rfl) (index_pot g o p.length ac j (by omega) _)) ?_
          refine wpAnyS_t 3 (fun W => W.heap = w.heap) (fun _ => true) (some 20) (.agg #[.int .i64 d.i, .int .i64 d.j, .string ⟨d.ahead.toArray⟩, .bool d.right, .int .i64 d.h]) (by kernel_rfl) (by kernel_rfl) (fun _ _ _ h => h) (fun j x y _ ho hx => ho.trans hx) (fun x => rfl) rfl (by kernel_rfl) (fun o ho W hW => by cases ho; exact exec_load _ _ rfl _ (by kernel_rfl) _ (load_pot g (o + j * 5) d W (cell_heap hW (hcell j d hd 0 _ rfl)) (cell_heap hW (hcell j d hd 1 _ rfl)) (cell_heap hW (hcell j d hd 2 _ rfl)) (cell_heap hW (hcell j d hd 3 _ rfl)) (cell_heap hW (hcell j d hd 4 _ rfl)))) ?_
          refine wpAnyS_p 4 (some 21) (.slice (some ⟨g', o', none⟩) q.length bc) (by kernel_rfl) (by kernel_rfl) (fun _ _ _ h => h) (fun x => rfl) (by kernel_rfl) (by kernel_rfl) ?_
          refine wpAnyS_p 5 (some 22) (.int .i64 (j : Nat)) (by kernel_rfl) (by kernel_rfl) (fun _ _ _ h => h) (fun x => rfl) (by kernel_rfl) (by kernel_rfl) ?_
          refine wpAnyS_t 6 (fun W => W.heap = w.heap) (fun _ => true) (some 23) (.pointer (some ⟨g', o' + j * 5, none⟩)) (by kernel_rfl) (by kernel_rfl) (fun _ _ _ h => h) (fun j x y _ ho hx => ho.trans hx) (fun x => rfl) rfl (by kernel_rfl) (fun o ho W hW => by cases ho; exact exec_index _ _ _ rfl _ _ _ (by kernel_rfl) (by kernel_rfl) (index_pot g' o' q.length bc j (by omega) _)) ?_
          refine wpAnyS_t 7 (fun W => W.heap = w.heap) (fun _ => true) (some 24) (.agg #[.int .i64 f.i, .int .i64 f.j, .string ⟨f.ahead.toArray⟩, .bool f.right, .int .i64 f.h]) (by kernel_rfl) (by kernel_rfl) (fun _ _ _ h => h) (fun j x y _ ho hx => ho.trans hx) (fun x => rfl) rfl (by kernel_rfl) (fun o ho W hW => by cases ho; exact exec_load _ _ rfl _ (by kernel_rfl) _ (load_pot g' (o' + j * 5) f W (cell_heap hW (hcell' j f hf 0 _ rfl)) (cell_heap hW (hcell' j f hf 1 _ rfl)) (cell_heap hW (hcell' j f hf 2 _ rfl)) (cell_heap hW (hcell' j f hf 3 _ rfl)) (cell_heap hW (hcell' j f hf 4 _ rfl)))) ?_
          refine wpAnyS_t 8 (fun W => W.heap = w.heap) (fun _ => true) (some 25) (.bool (!decide (d = f))) (by kernel_rfl) (by kernel_rfl) (fun _ _ _ h => h) (fun j x y _ ho hx => ho.trans hx) (fun x => rfl) rfl (by kernel_rfl) (fun o ho W hW => by cases ho; exact exec_bin _ _ _ _ _ rfl _ _ _ (by kernel_rfl) (by kernel_rfl) (neq_pots d f _ _ _)) ?_
          refine wpAnyS_doneN (by kernel_rfl) ?_ _
          rw [hdb]
          simp only [Act.put, List.setIfInBounds_toArray, List.set_cons_succ, List.set_cons_zero]
          clear hcell hcell'
          go_wp2_with fail
          exact ⟨⟨j + 1, k + 1, rfl, by omega, HT.out, rfl⟩, by simp only [intOf]; omega⟩
        · have hpq : ¬ p = q := by
            intro e
            subst e
            rw [hd] at hf
            cases hf
            exact hdf rfl
          have HPQ := Lib.hid hpq
          have hdb : decide (d = f) = false := by simpa using hdf
          clear hA htp htq hpq
          go_upto_region 6 with fail
          refine (wpIn_wide (n := 1)).1 ?_
          refine wp_region_N (ro := none) 9 (fun _ x y => y.heap = x.heap) rfl (by kernel_rfl) ?_
          refine wpAnyS_p 0 (some 17) (.slice (some ⟨g, o, none⟩) p.length ac) (by kernel_rfl) (by kernel_rfl) (fun _ _ _ h => h) (fun x => rfl) (by kernel_rfl) (by kernel_rfl) ?_
          refine wpAnyS_p 1 (some 18) (.int .i64 (j : Nat)) (by kernel_rfl) (by kernel_rfl) (fun _ _ _ h => h) (fun x => rfl) (by kernel_rfl) (by kernel_rfl) ?_
          refine wpAnyS_t 2 (fun W => W.heap = w.heap) (fun _ => true) (some 19) (.pointer (some ⟨g, o + j * 5, none⟩)) (by kernel_rfl) (by kernel_rfl) (fun _ _ _ h => h) (fun j x y _ ho hx => ho.trans hx) (fun x => rfl) rfl (by kernel_rfl) (fun o ho W hW => by cases ho; exact exec_index _ _ _ rfl _ _ _ (by kernel_rfl) (by kernel_rfl) (index_pot g o p.length ac j (by omega) _)) ?_
          refine wpAnyS_t 3 (fun W => W.heap = w.heap) (fun _ => true) (some 20) (.agg #[.int .i64 d.i, .int .i64 d.j, .string ⟨d.ahead.toArray⟩, .bool d.right, .int .i64 d.h]) (by kernel_rfl) (by kernel_rfl) (fun _ _ _ h => h) (fun j x y _ ho hx => ho.trans hx) (fun x => rfl) rfl (by kernel_rfl) (fun o ho W hW => by cases ho; exact exec_load _ _ rfl _ (by kernel_rfl) _ (load_pot g (o + j * 5) d W (cell_heap hW (hcell j d hd 0 _ rfl)) (cell_heap hW (hcell j d hd 1 _ rfl)) (cell_heap hW (hcell j d hd 2 _ rfl)) (cell_heap hW (hcell j d hd 3 _ rfl)) (cell_heap hW (hcell j d hd 4 _ rfl)))) ?_
          refine wpAnyS_p 4 (some 21) (.slice (some ⟨g', o', none⟩) q.length bc) (by kernel_rfl) (by kernel_rfl) (fun _ _ _ h => h) (fun x => rfl) (by kernel_rfl) (by kernel_rfl) ?_
          refine wpAnyS_p 5 (some 22) (.int .i64 (j : Nat)) (by kernel_rfl) (by kernel_rfl) (fun _ _ _ h => h) (fun x => rfl) (by kernel_rfl) (by kernel_rfl) ?_
          refine wpAnyS_t 6 (fun W => W.heap = w.heap) (fun _ => true) (some 23) (.pointer (some ⟨g', o' + j * 5, none⟩)) (by kernel_rfl) (by kernel_rfl) (fun _ _ _ h => h) (fun j x y _ ho hx => ho.trans hx) (fun x => rfl) rfl (by kernel_rfl) (fun o ho W hW => by cases ho; exact exec_index _ _ _ rfl _ _ _ (by kernel_rfl) (by kernel_rfl) (index_pot g' o' q.length bc j (by omega) _)) ?_
          refine wpAnyS_t 7 (fun W => W.heap = w.heap) (fun _ => true) (some 24) (.agg #[.int .i64 f.i, .int .i64 f.j, .string ⟨f.ahead.toArray⟩, .bool f.right, .int .i64 f.h]) (by kernel_rfl) (by kernel_rfl) (fun _ _ _ h => h) (fun j x y _ ho hx => ho.trans hx) (fun x => rfl) rfl (by kernel_rfl) (fun o ho W hW => by cases ho; exact exec_load _ _ rfl _ (by kernel_rfl) _ (load_pot g' (o' + j * 5) f W (cell_heap hW (hcell' j f hf 0 _ rfl)) (cell_heap hW (hcell' j f hf 1 _ rfl)) (cell_heap hW (hcell' j f hf 2 _ rfl)) (cell_heap hW (hcell' j f hf 3 _ rfl)) (cell_heap hW (hcell' j f hf 4 _ rfl)))) ?_
          refine wpAnyS_t 8 (fun W => W.heap = w.heap) (fun _ => true) (some 25) (.bool (!decide (d = f))) (by kernel_rfl) (by kernel_rfl) (fun _ _ _ h => h) (fun j x y _ ho hx => ho.trans hx) (fun x => rfl) rfl (by kernel_rfl) (fun o ho W hW => by cases ho; exact exec_bin _ _ _ _ _ rfl _ _ _ (by kernel_rfl) (by kernel_rfl) (neq_pots d f _ _ _)) ?_
          refine wpAnyS_doneN (by kernel_rfl) ?_ _
          rw [hdb]
          simp only [Act.put, List.setIfInBounds_toArray, List.set_cons_succ, List.set_cons_zero]
          clear hcell hcell'
          go_wp2_with fail
          go_ret
          exact ⟨ret_bool (by simp [HPQ.out]), ((Ext.refl none' w).drewN k).drewN 1⟩
      · obtain rfl : j = p.length := by omega
        have hpq : p = q := by
          rw [List.take_length, hlen, List.take_length] at hA
          exact hA
        have HPQ := Lib.hid hpq
        clear hA hpq
        go_wp2_with fail
        go_ret
        exact ⟨ret_bool (by simp [HPQ.out]), (Ext.refl none' w).drewN k⟩
  · have b0 : ((p.length : Int) == q.length) = false := by simp; omega
    have hpq : ¬ p = q := fun e => hlen (by rw [e])
    have HPQ := Lib.hid hpq
    clear hpq
    go_enter Tryz.func16, Tryz.ntmps16
    go_wp2_with fail
    go_ret
    exact ⟨ret_bool (by simp [HPQ.out]), Ext.refl none' w⟩
end Go.Proofs.Kb
