/- The law PotentialSound, for every argument: it answers true. -/
import Derived.Test.YthkpgnhjnpcjgaaGreatDoorLawC
import Derived.Test.YthkpgnhjnpcjgaaGreatDoorACheck
namespace Go.Proofs.Kb
open Go Go.RowKit Go.Lib Pl
attribute [local go_sem] Oper.semAt_some run_makeMap

set_option maxRecDepth 100000 in
set_option maxHeartbeats 8000000 in
theorem sound_law (N : Nat) (vt vl vd : Value) (t : Table) (a : Int) (x : ByteArray) (b : Int) (y : ByteArray) (bound : Int) (l : List Pot) (d : Deriv) (w : World) (hv : TabRaw N w vt t) (hl : SlAt 5 encPot N w vl l) (hdv : DerivAt N w vd d) (hit : IntsT t) (hil : IntsL l)
    (hN : N ≤ w.heap.size) (hT : Tabs N w) :
    Calls Tryz.prog 11 #[vt, .int .i64 a, .string x, .int .i64 b, .string y, .int .i64 bound, vl, vd] w fun e w' => e = .returned (.bool true) ∧ Ext none' w w' := by
  have hv0 := Lib.hid hv
  have hl0 := Lib.hid hl
  obtain ⟨vr, vd, ve, rfl, hr, hd, he⟩ := hv
  obtain ⟨ra, rc, rfl, -⟩ := hr
  obtain ⟨da, dc, rfl, -⟩ := hd
  obtain ⟨ea, ec, rfl, -⟩ := he
  obtain ⟨la, lc, rfl, -⟩ := hl
  have HDV := Lib.hid hdv
  obtain ⟨dla, dlc, dra, drc, rfl⟩ := deriv_parts hdv
  obtain ⟨w0, hw0⟩ : ∃ w0, w0 = (w.alloc (.cells #[.slice ra t.rules.length rc, .slice da t.drops.length dc, .slice ea t.ends.length ec, .int .i64 t.drop, .int .i64 t.order, .int .i64 t.initial] 25)).alloc (.cells #[.int .i64 d.cost, .slice dla d.left.length dlc, .slice dra d.right.length drc, .string ⟨d.form.toArray⟩] 47) := ⟨_, rfl⟩
  have hE0 : Ext none' w w0 := by rw [hw0]; exact ((Ext.refl _ w).alloc _).alloc _
  have k0 : w0.heap[w.heap.size]? = some (.cells #[.slice ra t.rules.length rc, .slice da t.drops.length dc, .slice ea t.ends.length ec, .int .i64 t.drop, .int .i64 t.order, .int .i64 t.initial] 25) := by rw [hw0]; exact keepAt (newAt _ rfl) _
  have kd0 : w0.heap[w.heap.size + 1]? = some (.cells #[.int .i64 d.cost, .slice dla d.left.length dlc, .slice dra d.right.length drc, .string ⟨d.form.toArray⟩] 47) := by rw [hw0]; exact newAt _ (by simp)
  have dcell : ∀ W, Ext none' w0 W → ∀ (i : Nat) (v : Value), (#[.int .i64 d.cost, .slice dla d.left.length dlc, .slice dra d.right.length drc, .string ⟨d.form.toArray⟩] : Array Value)[i]? = some v → W.cell? ⟨w.heap.size + 1, i, none⟩ = some v :=
    fun W h i v hv => cellAt ((h.same _ (Array.getElem?_eq_some_iff.1 kd0).1 (fun h => h)).trans kd0) i hv
  have DC := Lib.hid dcell
  have dvk : ∀ W, Ext none' w0 W → DerivAt N W (.agg #[.int .i64 d.cost, .slice dla d.left.length dlc, .slice dra d.right.length drc, .string ⟨d.form.toArray⟩]) d := fun W h => by
    obtain ⟨dl, dr, e, g1, g2⟩ := HDV.out
    exact ⟨dl, dr, e, g1.keep ((hE0.trans h).same0 hN), g2.keep ((hE0.trans h).same0 hN)⟩
  have DVK := Lib.hid dvk
  have cell : ∀ W, Ext none' w0 W → ∀ (i : Nat) (v : Value), (#[.slice ra t.rules.length rc, .slice da t.drops.length dc, .slice ea t.ends.length ec, .int .i64 t.drop, .int .i64 t.order, .int .i64 t.initial] : Array Value)[i]? = some v → W.cell? ⟨w.heap.size, i, none⟩ = some v :=
    fun W h i v hv => cellAt ((h.same _ (Array.getElem?_eq_some_iff.1 k0).1 (fun h => h)).trans k0) i hv
  have CELL := Lib.hid cell
  have raw : ∀ W, Ext none' w0 W → TabRaw N W (.agg #[.slice ra t.rules.length rc, .slice da t.drops.length dc, .slice ea t.ends.length ec, .int .i64 t.drop, .int .i64 t.order, .int .i64 t.initial]) t := fun W h => hv0.out.keep ((hE0.trans h).same0 hN)
  have lst : ∀ W, Ext none' w0 W → SlAt 5 encPot N W (.slice la l.length lc) l := fun W h => hl0.out.keep ((hE0.trans h).same0 hN)
  have tbs : ∀ W, Ext none' w0 W → Tabs N W := fun W h => hT.keep ((hE0.trans h).same0 hN)
  have siz : ∀ W, Ext none' w0 W → N ≤ W.heap.size := fun W h => Nat.le_trans hN (hE0.trans h).size
  have hhd := head_any N w0 (siz w0 (Ext.refl _ _)) (tbs w0 (Ext.refl _ _))
  have RAW := Lib.hid raw
  have LST := Lib.hid lst
  have TBS := Lib.hid tbs
  have SIZ := Lib.hid siz
  have HHD := Lib.hid hhd
  have HW0 := Lib.hid hw0
  clear cell dcell dvk kd0 raw lst tbs siz hhd k0 hw0
  go_enter Tryz.func11, Tryz.ntmps11
  go_wp2_with fail
  rw [← HW0.out]
  refine HHD.out.mono ?_
  rintro e w1 ⟨rfl, hE1⟩
  have q0 := CELL.out w1 hE1 0 _ rfl
  have q1 := CELL.out w1 hE1 1 _ rfl
  have q2 := CELL.out w1 hE1 2 _ rfl
  have q3 := CELL.out w1 hE1 3 _ rfl
  have q4 := CELL.out w1 hE1 4 _ rfl
  have q5 := CELL.out w1 hE1 5 _ rfl
  have hf := fewLaw_any N _ _ t x y l w1 (RAW.out w1 hE1) (LST.out w1 hE1) (SIZ.out w1 hE1)
  obtain ⟨bf, hbf⟩ : ∃ bf, bf = (fewB t l && shortS x.data.toList && shortS y.data.toList) := ⟨_, rfl⟩
  rw [← hbf] at hf
  have HF := Lib.hid hf
  have HBF := Lib.hid hbf
  clear hf hbf
  have x0 := DC.out w1 hE1 0 _ rfl
  have x1 := DC.out w1 hE1 1 _ rfl
  have x2 := DC.out w1 hE1 2 _ rfl
  have x3 := DC.out w1 hE1 3 _ rfl
  go_wp2_with fail
  clear q0 q1 q2 q3 q4 q5 x0 x1 x2 x3
  refine HF.out.mono ?_
  rintro e w2 ⟨rfl, hE2⟩
  have h12 := hE1.trans hE2
  cases bf with
  | false =>
    go_wp2_with fail
    go_ret
    exact ⟨rfl, hE0.trans h12⟩
  | true =>
    have hfw := HBF.out
    have hb := hfw.symm
    simp only [Bool.and_eq_true] at hb
    have hgt := few_table hb.1.1 hit
    have hgp := few_pots hb.1.1 hil
    have hfp := few_parts hb.1.1
    have hx := short_size hb.1.2
    have hy := short_size hb.2
    clear hfw hb
    have hr9 : t.rules.length ≤ 10000 := by have := hfp.1; omega
    have x0 := DC.out w2 h12 0 _ rfl
    have x1 := DC.out w2 h12 1 _ rfl
    have x2 := DC.out w2 h12 2 _ rfl
    have x3 := DC.out w2 h12 3 _ rfl
    have q0 := CELL.out w2 h12 0 _ rfl
    have q1 := CELL.out w2 h12 1 _ rfl
    have q2 := CELL.out w2 h12 2 _ rfl
    have q3 := CELL.out w2 h12 3 _ rfl
    have q4 := CELL.out w2 h12 4 _ rfl
    have q5 := CELL.out w2 h12 5 _ rfl
    have hc := check_any N _ _ t a x b y bound l w2 ((RAW.out w2 h12).at hgt) hx hy (LST.out w2 h12) hgp (SIZ.out w2 h12) (TBS.out w2 h12)
    obtain ⟨bc, hbc⟩ : ∃ bc, bc = Pl.Check t a x.data.toList b y.data.toList bound l := ⟨_, rfl⟩
    rw [← hbc] at hc
    have HC := Lib.hid hc
    have HBC := Lib.hid hbc
    clear hc hbc
    by_cases g1 : 100 < d.left.length
    · have b1 : decide (100 < (d.left.length : Int)) = true := by rw [decide_eq_true_iff]; omega
      go_wp2_with fail
      go_ret
      exact ⟨rfl, hE0.trans h12⟩
    have b1 : decide (100 < (d.left.length : Int)) = false := by rw [decide_eq_false_iff_not]; omega
    by_cases g2 : 100 < d.right.length
    · have b2 : decide (100 < (d.right.length : Int)) = true := by rw [decide_eq_true_iff]; omega
      go_wp2_with fail
      go_ret
      exact ⟨rfl, hE0.trans h12⟩
    have b2 : decide (100 < (d.right.length : Int)) = false := by rw [decide_eq_false_iff_not]; omega
    by_cases g3 : 300 < d.form.length
    · have b3 : decide (300 < (d.form.length : Int)) = true := by rw [decide_eq_true_iff]; omega
      go_wp2_with fail
      go_ret
      exact ⟨rfl, hE0.trans h12⟩
    have b3 : decide (300 < (d.form.length : Int)) = false := by rw [decide_eq_false_iff_not]; omega
    go_wp2_with fail
    clear q0 q1 q2 q3 q4 q5 x0 x1 x2 x3
    refine HC.out.mono ?_
    rintro e w3 ⟨rfl, hE3⟩
    have h13 := h12.trans hE3
    cases bc with
    | false =>
      go_wp2_with fail
      go_ret
      exact ⟨rfl, hE0.trans h13⟩
    | true =>
      obtain ⟨hs1, hs2⟩ := check_sound HBC.out.symm
      obtain ⟨best, be, hab⟩ : ∃ best be, ABest t a x.data.toList b y.data.toList = (best, be) := ⟨_, _, rfl⟩
      have hbst := best_any N _ t a x b y w3 ((RAW.out w3 h13).at hgt) hr9 hx hy (SIZ.out w3 h13) (TBS.out w3 h13)
      unfold BestPost at hbst
      rw [hab] at hbst hs1
      simp only at hs1
      have HB := Lib.hid hbst
      have HS2 := Lib.hid hs2
      have HS1 := Lib.hid hs1
      clear hbst hab hs1 hs2
      have q0 := CELL.out w3 h13 0 _ rfl
      have q1 := CELL.out w3 h13 1 _ rfl
      have q2 := CELL.out w3 h13 2 _ rfl
      have q3 := CELL.out w3 h13 3 _ rfl
      have q4 := CELL.out w3 h13 4 _ rfl
      have q5 := CELL.out w3 h13 5 _ rfl
      go_wp2_with fail
      clear q0 q1 q2 q3 q4 q5
      refine HB.out.mono ?_
      rintro e w4 ⟨v4, rfl, hd4, hE4⟩
      obtain ⟨xa, xc, xa', xc', rfl⟩ := deriv_parts hd4
      clear hd4
      have h14 := h13.trans hE4
      go_upto_region 5 with fail
      obtain ⟨w5, hw5⟩ : ∃ w5, w5 = w4.alloc (.cells #[.int .i64 best.cost, .slice xa best.left.length xc, .slice xa' best.right.length xc', .string ⟨best.form.toArray⟩] 47) := ⟨_, rfl⟩
      rw [← hw5]
      have hE5 : Ext none' w4 w5 := by rw [hw5]; exact (Ext.refl none' w4).alloc _
      have k5 : w5.heap[w4.heap.size]? = some (.cells #[.int .i64 best.cost, .slice xa best.left.length xc, .slice xa' best.right.length xc', .string ⟨best.form.toArray⟩] 47) := by rw [hw5]; exact heapNew _ rfl
      have z0 := cellAt k5 0 rfl
      clear hw5 k5
      have h15 := h14.trans hE5
      have x0 := DC.out w5 h15 0 _ rfl
      have x1 := DC.out w5 h15 1 _ rfl
      have x2 := DC.out w5 h15 2 _ rfl
      have x3 := DC.out w5 h15 3 _ rfl
      have q0 := CELL.out w5 h15 0 _ rfl
      have q1 := CELL.out w5 h15 1 _ rfl
      have q2 := CELL.out w5 h15 2 _ rfl
      have q3 := CELL.out w5 h15 3 _ rfl
      have q4 := CELL.out w5 h15 4 _ rfl
      have q5 := CELL.out w5 h15 5 _ rfl
      have hk := acheck_any N _ _ t a x b y d w5 ((RAW.out w5 h15).at hgt) (DVK.out w5 h15) hr9 hx hy (SIZ.out w5 h15) (TBS.out w5 h15)
      obtain ⟨bk, hbk⟩ : ∃ bk, bk = ACheck t a x.data.toList b y.data.toList d := ⟨_, rfl⟩
      rw [← hbk] at hk
      have HK := Lib.hid hk
      have HBK := Lib.hid hbk
      clear hk hbk
      have tail : ∀ (w6 : World), Ext none' w5 w6 → Ext none' w w6 := fun w6 h => hE0.trans (h15.trans h)
      rcases HS1.out with ⟨hbe, hle⟩ | hbe
      · subst hbe
        have b4 : decide (best.cost < bound) = false := by rw [decide_eq_false_iff_not]; omega
        go_wp2_with fail
        refine HK.out.mono ?_
        rintro e w6 ⟨rfl, hE6⟩
        cases bk with
        | false =>
          go_wp2_with fail
          go_ret
          exact ⟨rfl, tail w6 hE6⟩
        | true =>
          have hge := HS2.out d HBK.out.symm
          have b5 : decide (bound ≤ d.cost) = true := by simpa using hge
          have y0 := DC.out w6 (h15.trans hE6) 0 _ rfl
          go_wp2_with fail
          go_ret
          exact ⟨rfl, tail w6 hE6⟩
      · subst hbe
        go_wp2_with fail
        refine HK.out.mono ?_
        rintro e w6 ⟨rfl, hE6⟩
        cases bk with
        | false =>
          go_wp2_with fail
          go_ret
          exact ⟨rfl, tail w6 hE6⟩
        | true =>
          have hge := HS2.out d HBK.out.symm
          have b5 : decide (bound ≤ d.cost) = true := by simpa using hge
          have y0 := DC.out w6 (h15.trans hE6) 0 _ rfl
          go_wp2_with fail
          go_ret
          exact ⟨rfl, tail w6 hE6⟩
end Go.Proofs.Kb
