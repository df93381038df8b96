/- The law PotentialTurned, for every argument: it answers true. -/
import Derived.Test.YthkpgnhjnpcjgaaGreatDoorLawB
import Derived.Test.YthkpgnhjnpcjgaaGreatDoorLeast
namespace Go.Proofs.Kb
open Go Go.RowKit Go.Lib Pl
attribute [local go_sem] Oper.semAt_some run_makeMap

set_option maxRecDepth 100000 in
set_option maxHeartbeats 8000000 in
theorem turned_law (N : Nat) (vt : Value) (t : Table) (a : Int) (x : ByteArray) (b : Int) (y : ByteArray) (bound : Int) (w : World) (hv : TabRaw N w vt t) (hit : IntsT t)
    (hN : N ≤ w.heap.size) (hT : Tabs N w) :
    Calls Tryz.prog 7 #[vt, .int .i64 a, .string x, .int .i64 b, .string y, .int .i64 bound] w fun e w' => e = .returned (.bool true) ∧ Ext none' w w' := by
  have hv0 := Lib.hid hv
  obtain ⟨vr, vd, ve, rfl, hr, hd, he⟩ := hv
  obtain ⟨ra, rc, rfl, -⟩ := hr
  obtain ⟨da, dc, rfl, -⟩ := hd
  obtain ⟨ea, ec, rfl, -⟩ := he
  obtain ⟨w0, hw0⟩ : ∃ w0, w0 = w.alloc (.cells #[.slice ra t.rules.length rc, .slice da t.drops.length dc, .slice ea t.ends.length ec, .int .i64 t.drop, .int .i64 t.order, .int .i64 t.initial] 25) := ⟨_, rfl⟩
  have hE0 : Ext none' w w0 := by rw [hw0]; exact (Ext.refl _ w).alloc _
  have k0 : w0.heap[w.heap.size]? = some (.cells #[.slice ra t.rules.length rc, .slice da t.drops.length dc, .slice ea t.ends.length ec, .int .i64 t.drop, .int .i64 t.order, .int .i64 t.initial] 25) := by rw [hw0]; exact heapNew _ rfl
  have cell : ∀ W, Ext none' w0 W → ∀ (i : Nat) (v : Value), (#[.slice ra t.rules.length rc, .slice da t.drops.length dc, .slice ea t.ends.length ec, .int .i64 t.drop, .int .i64 t.order, .int .i64 t.initial] : Array Value)[i]? = some v → W.cell? ⟨w.heap.size, i, none⟩ = some v :=
    fun W h i v hv => cellAt ((h.same _ (Array.getElem?_eq_some_iff.1 k0).1 (fun h => h)).trans k0) i hv
  have CELL := Lib.hid cell
  have raw : ∀ W, Ext none' w0 W → TabRaw N W (.agg #[.slice ra t.rules.length rc, .slice da t.drops.length dc, .slice ea t.ends.length ec, .int .i64 t.drop, .int .i64 t.order, .int .i64 t.initial]) t := fun W h => hv0.out.keep ((hE0.trans h).same0 hN)
  have tbs : ∀ W, Ext none' w0 W → Tabs N W := fun W h => hT.keep ((hE0.trans h).same0 hN)
  have siz : ∀ W, Ext none' w0 W → N ≤ W.heap.size := fun W h => Nat.le_trans hN (hE0.trans h).size
  have hhd := head_any N w0 (siz w0 (Ext.refl _ _)) (tbs w0 (Ext.refl _ _))
  have RAW := Lib.hid raw
  have TBS := Lib.hid tbs
  have SIZ := Lib.hid siz
  have HHD := Lib.hid hhd
  have HW0 := Lib.hid hw0
  clear cell raw tbs siz hhd k0 hw0
  go_enter Tryz.func7, Tryz.ntmps7
  go_wp2_with fail
  rw [← HW0.out]
  refine HHD.out.mono ?_
  rintro e w1 ⟨rfl, hE1⟩
  have q0 := CELL.out w1 hE1 0 _ rfl
  have q1 := CELL.out w1 hE1 1 _ rfl
  have q2 := CELL.out w1 hE1 2 _ rfl
  have q3 := CELL.out w1 hE1 3 _ rfl
  have q4 := CELL.out w1 hE1 4 _ rfl
  have q5 := CELL.out w1 hE1 5 _ rfl
  have hf := fewLaw_any N _ _ t x y [] w1 (RAW.out w1 hE1) (SlAt.none _ _ _ _) (SIZ.out w1 hE1)
  obtain ⟨bf, hbf⟩ : ∃ bf, bf = (fewB t [] && shortS x.data.toList && shortS y.data.toList) := ⟨_, rfl⟩
  rw [← hbf] at hf
  have HF := Lib.hid hf
  have HBF := Lib.hid hbf
  clear hf hbf
  go_wp2_with fail
  clear q0 q1 q2 q3 q4 q5
  refine HF.out.mono ?_
  rintro e w2 ⟨rfl, hE2⟩
  have h12 := hE1.trans hE2
  cases bf with
  | false =>
    go_wp2_with fail
    go_ret
    exact ⟨rfl, hE0.trans h12⟩
  | true =>
    have hfw := HBF.out
    have hb := hfw.symm
    simp only [Bool.and_eq_true] at hb
    have hgt := few_table hb.1.1 hit
    have hx := short_size hb.1.2
    have hy := short_size hb.2
    clear hfw hb
    have q0 := CELL.out w2 h12 0 _ rfl
    have q1 := CELL.out w2 h12 1 _ rfl
    have q2 := CELL.out w2 h12 2 _ rfl
    have q3 := CELL.out w2 h12 3 _ rfl
    have q4 := CELL.out w2 h12 4 _ rfl
    have q5 := CELL.out w2 h12 5 _ rfl
    have hm := make_any N _ t a x b y bound w2 ((RAW.out w2 h12).at hgt) hx hy (SIZ.out w2 h12) (TBS.out w2 h12)
    rw [make_turned t a x.data.toList b y.data.toList bound] at hm
    have HM := Lib.hid hm
    clear hm
    go_wp2_with fail
    clear q0 q1 q2 q3 q4 q5
    refine HM.out.mono ?_
    rintro e w3 ⟨v3, rfl, -, hE3⟩
    have h13 := h12.trans hE3
    have q0 := CELL.out w3 h13 0 _ rfl
    have q1 := CELL.out w3 h13 1 _ rfl
    have q2 := CELL.out w3 h13 2 _ rfl
    have q3 := CELL.out w3 h13 3 _ rfl
    have q4 := CELL.out w3 h13 4 _ rfl
    have q5 := CELL.out w3 h13 5 _ rfl
    have hm := make_any N _ t b y a x bound w3 ((RAW.out w3 h13).at hgt) hy hx (SIZ.out w3 h13) (TBS.out w3 h13)
    have HM2 := Lib.hid hm
    clear hm
    generalize (Pl.Make t b y.data.toList a x.data.toList bound).2 = err at *
    go_wp2_with fail
    clear q0 q1 q2 q3 q4 q5
    refine HM2.out.mono ?_
    rintro e w4 ⟨v4, rfl, -, hE4⟩
    go_wp2_with fail
    go_ret
    exact ⟨rfl, hE0.trans (h13.trans hE4)⟩
end Go.Proofs.Kb
