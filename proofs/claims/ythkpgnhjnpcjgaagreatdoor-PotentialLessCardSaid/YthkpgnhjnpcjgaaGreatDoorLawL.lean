/- The law PotentialLess, for every argument: it answers true. -/
import Derived.Test.YthkpgnhjnpcjgaaGreatDoorLawB
import Derived.Test.YthkpgnhjnpcjgaaGreatDoorLeast
namespace Go.Proofs.Kb
open Go Go.RowKit Go.Lib Pl
attribute [local go_sem] Oper.semAt_some run_makeMap

set_option maxRecDepth 100000 in
set_option maxHeartbeats 8000000 in
theorem less_law (N : Nat) (vt : Value) (t : Table) (a : Int) (x : ByteArray) (b : Int) (y : ByteArray) (raw part : Int) (w : World) (hv : TabRaw N w vt t) (hit : IntsT t) (hraw : 0 ≤ raw ∧ raw ≤ 4294967295) (hpart : 0 ≤ part ∧ part ≤ 65535)
    (hN : N ≤ w.heap.size) (hT : Tabs N w) :
    Calls Tryz.prog 4 #[vt, .int .i64 a, .string x, .int .i64 b, .string y, .int .u32 raw, .int .u16 part] w fun e w' => e = .returned (.bool true) ∧ Ext none' w w' := by
  have hv0 := Lib.hid hv
  obtain ⟨vr, vd, ve, rfl, hr, hd, he⟩ := hv
  obtain ⟨ra, rc, rfl, -⟩ := hr
  obtain ⟨da, dc, rfl, -⟩ := hd
  obtain ⟨ea, ec, rfl, -⟩ := he
  obtain ⟨w0, hw0⟩ : ∃ w0, w0 = w.alloc (.cells #[.slice ra t.rules.length rc, .slice da t.drops.length dc, .slice ea t.ends.length ec, .int .i64 t.drop, .int .i64 t.order, .int .i64 t.initial] 25) := ⟨_, rfl⟩
  have hE0 : Ext none' w w0 := by rw [hw0]; exact (Ext.refl _ w).alloc _
  have k0 : w0.heap[w.heap.size]? = some (.cells #[.slice ra t.rules.length rc, .slice da t.drops.length dc, .slice ea t.ends.length ec, .int .i64 t.drop, .int .i64 t.order, .int .i64 t.initial] 25) := by rw [hw0]; exact heapNew _ rfl
  have cell : ∀ W, Ext none' w0 W → ∀ (i : Nat) (v : Value), (#[.slice ra t.rules.length rc, .slice da t.drops.length dc, .slice ea t.ends.length ec, .int .i64 t.drop, .int .i64 t.order, .int .i64 t.initial] : Array Value)[i]? = some v → W.cell? ⟨w.heap.size, i, none⟩ = some v :=
    fun W h i v hv => cellAt ((h.same _ (Array.getElem?_eq_some_iff.1 k0).1 (fun h => h)).trans k0) i hv
  have CELL := Lib.hid cell
  have raw : ∀ W, Ext none' w0 W → TabRaw N W (.agg #[.slice ra t.rules.length rc, .slice da t.drops.length dc, .slice ea t.ends.length ec, .int .i64 t.drop, .int .i64 t.order, .int .i64 t.initial]) t := fun W h => hv0.out.keep ((hE0.trans h).same0 hN)
  have tbs : ∀ W, Ext none' w0 W → Tabs N W := fun W h => hT.keep ((hE0.trans h).same0 hN)
  have siz : ∀ W, Ext none' w0 W → N ≤ W.heap.size := fun W h => Nat.le_trans hN (hE0.trans h).size
  have hhd := head_any N w0 (siz w0 (Ext.refl _ _)) (tbs w0 (Ext.refl _ _))
  have RAW := Lib.hid raw
  have TBS := Lib.hid tbs
  have SIZ := Lib.hid siz
  have HHD := Lib.hid hhd
  have HW0 := Lib.hid hw0
  clear cell raw tbs siz hhd k0 hw0
  go_enter Tryz.func4, Tryz.ntmps4
  go_wp2_with fail
  rw [← HW0.out]
  refine HHD.out.mono ?_
  rintro e w1 ⟨rfl, hE1⟩
  have q0 := CELL.out w1 hE1 0 _ rfl
  have q1 := CELL.out w1 hE1 1 _ rfl
  have q2 := CELL.out w1 hE1 2 _ rfl
  have q3 := CELL.out w1 hE1 3 _ rfl
  have q4 := CELL.out w1 hE1 4 _ rfl
  have q5 := CELL.out w1 hE1 5 _ rfl
  have hf := fewLaw_any N _ _ t x y [] w1 (RAW.out w1 hE1) (SlAt.none _ _ _ _) (SIZ.out w1 hE1)
  obtain ⟨bf, hbf⟩ : ∃ bf, bf = (fewB t [] && shortS x.data.toList && shortS y.data.toList) := ⟨_, rfl⟩
  rw [← hbf] at hf
  have HF := Lib.hid hf
  have HBF := Lib.hid hbf
  clear hf hbf
  go_wp2_with fail
  clear q0 q1 q2 q3 q4 q5
  refine HF.out.mono ?_
  rintro e w2 ⟨rfl, hE2⟩
  have h12 := hE1.trans hE2
  cases bf with
  | false =>
    go_wp2_with fail
    go_ret
    exact ⟨rfl, hE0.trans h12⟩
  | true =>
    have hfw := HBF.out
    have hb := hfw.symm
    simp only [Bool.and_eq_true] at hb
    have hgt := few_table hb.1.1 hit
    have hx := short_size hb.1.2
    have hy := short_size hb.2
    clear hfw hb
    obtain ⟨h0, h1⟩ := hraw
    obtain ⟨h2, h3⟩ := hpart
    have m0 : 0 ≤ raw % 100000 ∧ raw % 100000 < 100000 := by omega
    have m1 : 0 ≤ part % (raw % 100000 + 1) := Int.emod_nonneg _ (by omega)
    have m2 : part % (raw % 100000 + 1) < raw % 100000 + 1 := Int.emod_lt_of_pos _ (by omega)
    go_upto_region 6 with fail
    generalize hbd : raw % 100000 + 1 = bd at *
    generalize hls : part % bd + 1 = less at *
    have n1 : 1 ≤ less ∧ less ≤ bd ∧ bd ≤ 100000 := by omega
    have q0 := CELL.out w2 h12 0 _ rfl
    have q1 := CELL.out w2 h12 1 _ rfl
    have q2 := CELL.out w2 h12 2 _ rfl
    have q3 := CELL.out w2 h12 3 _ rfl
    have q4 := CELL.out w2 h12 4 _ rfl
    have q5 := CELL.out w2 h12 5 _ rfl
    have hm := make_any N _ t a x b y bd w2 ((RAW.out w2 h12).at hgt) hx hy (SIZ.out w2 h12) (TBS.out w2 h12)
    obtain ⟨pl, err, hmk⟩ : ∃ pl err, Pl.Make t a x.data.toList b y.data.toList bd = (pl, err) := ⟨_, _, rfl⟩
    rw [hmk] at hm
    have HM := Lib.hid hm
    clear hm hbd hls m0 m1 m2 h0 h1 h2 h3
    go_wp2_with fail
    clear q0 q1 q2 q3 q4 q5
    refine HM.out.mono ?_
    rintro e w3 ⟨v3, rfl, hl3, hE3⟩
    obtain ⟨al, cl, rfl, hcl, hml, hxl⟩ := hl3
    have h13 := h12.trans hE3
    by_cases herr : err = 0
    · subst herr
      have hml2 := make_less n1.1 n1.2.1 hmk
      have q0 := CELL.out w3 h13 0 _ rfl
      have q1 := CELL.out w3 h13 1 _ rfl
      have q2 := CELL.out w3 h13 2 _ rfl
      have q3 := CELL.out w3 h13 3 _ rfl
      have q4 := CELL.out w3 h13 4 _ rfl
      have q5 := CELL.out w3 h13 5 _ rfl
      have hm := make_any N _ t a x b y less w3 ((RAW.out w3 h13).at hgt) hx hy (SIZ.out w3 h13) (TBS.out w3 h13)
      rw [hml2] at hm
      have HM2 := Lib.hid hm
      clear hm
      go_wp2_with fail
      clear q0 q1 q2 q3 q4 q5
      refine HM2.out.mono ?_
      rintro e w4 ⟨v4, rfl, hl4, hE4⟩
      obtain ⟨am, cm, rfl, hcm, hmm, hxm⟩ := hl4
      rw [List.length_map] at hcm
      simp only [List.length_map]
      have h14 := h13.trans hE4
      have hln : pl.length ≤ 9223372036854775807 := by unfold maxLen at hml; omega
      have HXL := Lib.hid hxl
      have HXM := Lib.hid hxm
      clear hxl hxm
      go_wp2_with fail
      go_loopw [22] (fun i wr => ∃ j : Nat, i = .int .i64 j ∧ j ≤ pl.length ∧ Ext none' w4 wr) (fun i _ => pl.length - (intOf i).toNat)
      case atStart => exact ⟨0, rfl, by omega, Ext.refl _ _⟩
      case round =>
        obtain ⟨j, rfl, hj, hEr⟩ := hrel
        by_cases hjl : j < pl.length
        · obtain ⟨d, hd⟩ : ∃ d, pl[j]? = some d := ⟨_, List.getElem?_eq_getElem hjl⟩
          have hdm : (pl.map (Pot.low less))[j]? = some (Pot.low less d) := by rw [List.getElem?_map, hd]; rfl
          obtain ⟨g, o, rfl, hg, hcell⟩ := HXL.out (by intro e; rw [e] at hjl; simp at hjl)
          obtain ⟨g', o', rfl, hg', hcell'⟩ := HXM.out (by intro e; have := congrArg List.length e; simp at this; rw [this] at hjl; simp at hjl)
          have h34 : Same w3.heap.size w3 wr := (hE4.trans hEr).same0 (Nat.le_refl _)
          have h44 : Same w4.heap.size w4 wr := hEr.same0 (Nat.le_refl _)
          have c0 : wr.cell? ⟨g, o + j * 5, none⟩ = some (.int .i64 d.i) := (h34.cell (a := ⟨g, _, none⟩) hg).trans (hcell j d hd 0 _ rfl)
          have c1 : wr.cell? ⟨g, o + j * 5 + 1, none⟩ = some (.int .i64 d.j) := (h34.cell (a := ⟨g, _, none⟩) hg).trans (hcell j d hd 1 _ rfl)
          have c2 : wr.cell? ⟨g, o + j * 5 + 2, none⟩ = some (.string ⟨d.ahead.toArray⟩) := (h34.cell (a := ⟨g, _, none⟩) hg).trans (hcell j d hd 2 _ rfl)
          have c3 : wr.cell? ⟨g, o + j * 5 + 3, none⟩ = some (.bool d.right) := (h34.cell (a := ⟨g, _, none⟩) hg).trans (hcell j d hd 3 _ rfl)
          have c4 : wr.cell? ⟨g, o + j * 5 + 4, none⟩ = some (.int .i64 d.h) := (h34.cell (a := ⟨g, _, none⟩) hg).trans (hcell j d hd 4 _ rfl)
          go_upto_region 17 with fail
          clear c0 c1 c2 c3 c4
          obtain ⟨w6, hw6⟩ : ∃ w6, w6 = wr.alloc (.cells #[.int .i64 d.i, .int .i64 d.j, .string ⟨d.ahead.toArray⟩, .bool d.right, .int .i64 (min d.h less)] 37) := ⟨_, rfl⟩
          rw [← hw6]
          have hE6 : Ext none' wr w6 := by rw [hw6]; exact (Ext.refl _ wr).alloc _
          have k6 : w6.heap[wr.heap.size]? = some (.cells #[.int .i64 d.i, .int .i64 d.j, .string ⟨d.ahead.toArray⟩, .bool d.right, .int .i64 (min d.h less)] 37) := by rw [hw6]; exact heapNew _ rfl
          clear hw6
          have h46 : Same w4.heap.size w4 w6 := (hEr.trans hE6).same0 (Nat.le_refl _)
          have d0 : w6.cell? ⟨g', o' + j * 5, none⟩ = some (.int .i64 (Pot.low less d).i) := (h46.cell (a := ⟨g', _, none⟩) hg').trans (hcell' j _ hdm 0 _ rfl)
          have d1 : w6.cell? ⟨g', o' + j * 5 + 1, none⟩ = some (.int .i64 (Pot.low less d).j) := (h46.cell (a := ⟨g', _, none⟩) hg').trans (hcell' j _ hdm 1 _ rfl)
          have d2 : w6.cell? ⟨g', o' + j * 5 + 2, none⟩ = some (.string ⟨(Pot.low less d).ahead.toArray⟩) := (h46.cell (a := ⟨g', _, none⟩) hg').trans (hcell' j _ hdm 2 _ rfl)
          have d3 : w6.cell? ⟨g', o' + j * 5 + 3, none⟩ = some (.bool (Pot.low less d).right) := (h46.cell (a := ⟨g', _, none⟩) hg').trans (hcell' j _ hdm 3 _ rfl)
          have d4 : w6.cell? ⟨g', o' + j * 5 + 4, none⟩ = some (.int .i64 (Pot.low less d).h) := (h46.cell (a := ⟨g', _, none⟩) hg').trans (hcell' j _ hdm 4 _ rfl)
          have e0 : w6.cell? ⟨wr.heap.size, 0, none⟩ = some (.int .i64 (Pot.low less d).i) := cellAt k6 0 rfl
          have e1 : w6.cell? ⟨wr.heap.size, 0 + 1, none⟩ = some (.int .i64 (Pot.low less d).j) := cellAt k6 1 rfl
          have e2 : w6.cell? ⟨wr.heap.size, 0 + 2, none⟩ = some (.string ⟨(Pot.low less d).ahead.toArray⟩) := cellAt k6 2 rfl
          have e3 : w6.cell? ⟨wr.heap.size, 0 + 3, none⟩ = some (.bool (Pot.low less d).right) := cellAt k6 3 rfl
          have e4 : w6.cell? ⟨wr.heap.size, 0 + 4, none⟩ = some (.int .i64 (Pot.low less d).h) := cellAt k6 4 rfl
          refine (wpIn_wide (n := 1)).1 ?_
          refine wp_region_N (ro := none) 6 (fun _ x y => y.heap = x.heap) rfl (by kernel_rfl) ?_
          refine wpAnyS_p 0 (some 87) (.slice (some ⟨g', o', none⟩) pl.length cm) (by kernel_rfl) (by kernel_rfl) (fun _ _ _ h => h) (fun x => rfl) (by kernel_rfl) (by kernel_rfl) ?_
          refine wpAnyS_p 1 (some 88) (.int .i64 (j : Nat)) (by kernel_rfl) (by kernel_rfl) (fun _ _ _ h => h) (fun x => rfl) (by kernel_rfl) (by kernel_rfl) ?_
          refine wpAnyS_t 2 (fun _ => True) (fun _ => true) (some 89) (.pointer (some ⟨g', o' + j * 5, none⟩)) (by kernel_rfl) (by kernel_rfl) (fun _ _ _ h => h) (fun _ _ _ _ _ _ => trivial) (fun x => rfl) trivial (by kernel_rfl) (fun o ho W _ => by cases ho; exact exec_index _ _ _ rfl _ _ _ (by kernel_rfl) (by kernel_rfl) (index_pot g' o' pl.length cm j hjl W)) ?_
          refine wpAnyS_t 3 (fun W => W.heap = w6.heap) (fun _ => true) (some 90) (.agg #[.int .i64 d.i, .int .i64 d.j, .string ⟨d.ahead.toArray⟩, .bool d.right, .int .i64 (min d.h less)]) (by kernel_rfl) (by kernel_rfl) (fun _ _ _ h => h) (fun j x y _ ho hx => ho.trans hx) (fun x => rfl) rfl (by kernel_rfl) (fun o ho W hW => by cases ho; exact exec_load _ _ rfl _ (by kernel_rfl) _ (load_pot g' (o' + j * 5) (Pot.low less d) W (cell_heap hW d0) (cell_heap hW d1) (cell_heap hW d2) (cell_heap hW d3) (cell_heap hW d4))) ?_
          refine wpAnyS_t 4 (fun W => W.heap = w6.heap) (fun _ => true) (some 91) (.agg #[.int .i64 d.i, .int .i64 d.j, .string ⟨d.ahead.toArray⟩, .bool d.right, .int .i64 (min d.h less)]) (by kernel_rfl) (by kernel_rfl) (fun _ _ _ h => h) (fun j x y _ ho hx => ho.trans hx) (fun x => rfl) rfl (by kernel_rfl) (fun o ho W hW => by cases ho; exact exec_load _ _ rfl _ (by kernel_rfl) _ (load_pot wr.heap.size 0 (Pot.low less d) W (cell_heap hW e0) (cell_heap hW e1) (cell_heap hW e2) (cell_heap hW e3) (cell_heap hW e4))) ?_
          refine wpAnyS_t 5 (fun _ => True) (fun _ => true) (some 92) (.bool (!decide (Pot.low less d = Pot.low less d))) (by kernel_rfl) (by kernel_rfl) (fun _ _ _ h => h) (fun _ _ _ _ _ _ => trivial) (fun x => rfl) trivial (by kernel_rfl) (fun o ho W _ => by cases ho; exact exec_bin _ _ _ _ _ rfl _ _ _ (by kernel_rfl) (by kernel_rfl) (neq_pots (Pot.low less d) (Pot.low less d) _ _ _)) ?_
          refine wpAnyS_doneN (by kernel_rfl) ?_ _
          rw [show decide (Pot.low less d = Pot.low less d) = true by simp]
          simp only [Act.put, List.setIfInBounds_toArray, List.set_cons_succ, List.set_cons_zero]
          have HF := Lib.hid (hEr.trans hE6)
          clear d0 d1 d2 d3 d4 e0 e1 e2 e3 e4 k6 hcell hcell'
          go_wp2_with fail
          exact ⟨⟨j + 1, rfl, by omega, HF.out.drewN 1⟩, by simp only [intOf]; omega⟩
        · obtain rfl : j = pl.length := by omega
          go_wp2_with fail
          go_ret
          exact ⟨rfl, hE0.trans (h14.trans hEr)⟩
    · have b1 : (err == 0) = false := by simpa using herr
      go_wp2_with fail
      go_ret
      exact ⟨rfl, hE0.trans h13⟩
end Go.Proofs.Kb
