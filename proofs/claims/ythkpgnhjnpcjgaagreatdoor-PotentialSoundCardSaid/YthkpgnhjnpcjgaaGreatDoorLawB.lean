/- The law PotentialBounds, for every argument: it answers true. -/
import Derived.Test.YthkpgnhjnpcjgaaGreatDoorHead
import Derived.Test.YthkpgnhjnpcjgaaGreatDoorLaws1
namespace Go.Proofs.Kb
open Go Go.RowKit Go.Lib Pl
attribute [local go_sem] Oper.semAt_some run_makeMap

/-- all numbers are those of 64 bits -/
structure IntsT (t : Table) : Prop where
  rules : ∀ r ∈ t.rules, isInt r.script
  drops : ∀ d ∈ t.drops, isInt d.script
  ends : ∀ d ∈ t.ends, isInt d.script
def IntsL (l : List Pot) : Prop := ∀ e ∈ l, isInt e.i ∧ isInt e.j ∧ isInt e.h

theorem few_parts {t : Table} {l : List Pot} (h : fewB t l = true) : t.rules.length ≤ 60 ∧ (∀ r ∈ t.rules, r.frm.length ≤ 60 ∧ r.to.length ≤ 60) ∧ (∀ d ∈ t.drops, d.word.length ≤ 60) ∧ (∀ d ∈ t.ends, d.word.length ≤ 60) ∧ (∀ e ∈ l, e.ahead.length ≤ 60) := by
  simp only [fewB, Bool.and_eq_true, Bool.not_eq_true', Bool.or_eq_false_iff, decide_eq_false_iff_not, List.all_eq_true, shortRule, shortDrop, shortPot, shortS, decide_eq_true_eq] at h
  obtain ⟨⟨⟨⟨h1, h2⟩, h3⟩, h4⟩, h5, h6, h7, h8⟩ := h
  exact ⟨by omega, h5, h6, h7, h8⟩

theorem few_table {t : Table} {l : List Pot} (h : fewB t l = true) (hi : IntsT t) : GoodTable t := by
  obtain ⟨_, h1, h2, h3, _⟩ := few_parts h
  exact ⟨fun r hr => ⟨hi.rules r hr, by have := h1 r hr; omega, by have := h1 r hr; omega⟩, fun d hd => ⟨hi.drops d hd, by have := h2 d hd; omega⟩, fun d hd => ⟨hi.ends d hd, by have := h3 d hd; omega⟩⟩

theorem few_pots {t : Table} {l : List Pot} (h : fewB t l = true) (hi : IntsL l) : ∀ e ∈ l, goodPot e := by
  obtain ⟨_, _, _, _, h4⟩ := few_parts h
  exact fun e he => ⟨(hi e he).1, (hi e he).2.1, by have := h4 e he; omega, (hi e he).2.2⟩

theorem short_size {x : ByteArray} (h : shortS x.data.toList = true) : x.size < 35184372088832 := by
  unfold shortS at h
  have : x.data.toList.length = x.size := by simp
  simp only [decide_eq_true_eq] at h
  omega

set_option maxRecDepth 100000 in
set_option maxHeartbeats 8000000 in
theorem bounds_law (N : Nat) (vt vl : Value) (t : Table) (a : Int) (x : ByteArray) (b : Int) (y : ByteArray) (bound other : Int) (l : List Pot) (w : World) (hv : TabRaw N w vt t) (hl : SlAt 5 encPot N w vl l) (hit : IntsT t) (hil : IntsL l)
    (hN : N ≤ w.heap.size) (hT : Tabs N w) :
    Calls Tryz.prog 8 #[vt, .int .i64 a, .string x, .int .i64 b, .string y, .int .i64 bound, .int .i64 other, vl] w fun e w' => e = .returned (.bool true) ∧ Ext none' w w' := by
  have hv0 := Lib.hid hv
  have hl0 := Lib.hid hl
  obtain ⟨vr, vd, ve, rfl, hr, hd, he⟩ := hv
  obtain ⟨ra, rc, rfl, -⟩ := hr
  obtain ⟨da, dc, rfl, -⟩ := hd
  obtain ⟨ea, ec, rfl, -⟩ := he
  obtain ⟨la, lc, rfl, -⟩ := hl
  obtain ⟨w0, hw0⟩ : ∃ w0, w0 = w.alloc (.cells #[.slice ra t.rules.length rc, .slice da t.drops.length dc, .slice ea t.ends.length ec, .int .i64 t.drop, .int .i64 t.order, .int .i64 t.initial] 25) := ⟨_, rfl⟩
  have hE0 : Ext none' w w0 := by rw [hw0]; exact (Ext.refl _ w).alloc _
  have k0 : w0.heap[w.heap.size]? = some (.cells #[.slice ra t.rules.length rc, .slice da t.drops.length dc, .slice ea t.ends.length ec, .int .i64 t.drop, .int .i64 t.order, .int .i64 t.initial] 25) := by rw [hw0]; exact heapNew _ rfl
  have cell : ∀ W, Ext none' w0 W → ∀ (i : Nat) (v : Value), (#[.slice ra t.rules.length rc, .slice da t.drops.length dc, .slice ea t.ends.length ec, .int .i64 t.drop, .int .i64 t.order, .int .i64 t.initial] : Array Value)[i]? = some v → W.cell? ⟨w.heap.size, i, none⟩ = some v :=
    fun W h i v hv => cellAt ((h.same _ (Array.getElem?_eq_some_iff.1 k0).1 (fun h => h)).trans k0) i hv
  have CELL := Lib.hid cell
  have raw : ∀ W, Ext none' w0 W → TabRaw N W (.agg #[.slice ra t.rules.length rc, .slice da t.drops.length dc, .slice ea t.ends.length ec, .int .i64 t.drop, .int .i64 t.order, .int .i64 t.initial]) t := fun W h => hv0.out.keep ((hE0.trans h).same0 hN)
  have lst : ∀ W, Ext none' w0 W → SlAt 5 encPot N W (.slice la l.length lc) l := fun W h => hl0.out.keep ((hE0.trans h).same0 hN)
  have tbs : ∀ W, Ext none' w0 W → Tabs N W := fun W h => hT.keep ((hE0.trans h).same0 hN)
  have siz : ∀ W, Ext none' w0 W → N ≤ W.heap.size := fun W h => Nat.le_trans hN (hE0.trans h).size
  have hhd := head_any N w0 (siz w0 (Ext.refl _ _)) (tbs w0 (Ext.refl _ _))
  have RAW := Lib.hid raw
  have LST := Lib.hid lst
  have TBS := Lib.hid tbs
  have SIZ := Lib.hid siz
  have HHD := Lib.hid hhd
  have HW0 := Lib.hid hw0
  clear cell raw lst tbs siz hhd k0 hw0
  go_enter Tryz.func8, Tryz.ntmps8
  go_wp2_with fail
  rw [← HW0.out]
  refine HHD.out.mono ?_
  rintro e w1 ⟨rfl, hE1⟩
  have q0 := CELL.out w1 hE1 0 _ rfl
  have q1 := CELL.out w1 hE1 1 _ rfl
  have q2 := CELL.out w1 hE1 2 _ rfl
  have q3 := CELL.out w1 hE1 3 _ rfl
  have q4 := CELL.out w1 hE1 4 _ rfl
  have q5 := CELL.out w1 hE1 5 _ rfl
  have hf := fewLaw_any N _ _ t x y l w1 (RAW.out w1 hE1) (LST.out w1 hE1) (SIZ.out w1 hE1)
  obtain ⟨bf, hbf⟩ : ∃ bf, bf = (fewB t l && shortS x.data.toList && shortS y.data.toList) := ⟨_, rfl⟩
  rw [← hbf] at hf
  have HF := Lib.hid hf
  have HBF := Lib.hid hbf
  clear hf hbf
  go_wp2_with fail
  clear q0 q1 q2 q3 q4 q5
  refine HF.out.mono ?_
  rintro e w2 ⟨rfl, hE2⟩
  have h12 := hE1.trans hE2
  cases bf with
  | false =>
    go_wp2_with fail
    go_ret
    exact ⟨rfl, hE0.trans h12⟩
  | true =>
    have hfw := HBF.out
    have hb := hfw.symm
    simp only [Bool.and_eq_true] at hb
    have hgt := few_table hb.1.1 hit
    have hgp := few_pots hb.1.1 hil
    have hx := short_size hb.1.2
    have hy := short_size hb.2
    clear hfw hb
    by_cases hb1 : bound < 1
    · have b1 : decide (bound < 1) = true := by simpa using hb1
      go_wp2_with fail
      go_ret
      exact ⟨rfl, hE0.trans h12⟩
    · have b1 : decide (bound < 1) = false := by simpa using hb1
      have q0 := CELL.out w2 h12 0 _ rfl
      have q1 := CELL.out w2 h12 1 _ rfl
      have q2 := CELL.out w2 h12 2 _ rfl
      have q3 := CELL.out w2 h12 3 _ rfl
      have q4 := CELL.out w2 h12 4 _ rfl
      have q5 := CELL.out w2 h12 5 _ rfl
      have hc := check_any N _ _ t a x b y bound l w2 ((RAW.out w2 h12).at hgt) hx hy (LST.out w2 h12) hgp (SIZ.out w2 h12) (TBS.out w2 h12)
      obtain ⟨bc, hbc⟩ : ∃ bc, bc = Pl.Check t a x.data.toList b y.data.toList bound l := ⟨_, rfl⟩
      rw [← hbc] at hc
      have HC := Lib.hid hc
      have HBC := Lib.hid hbc
      clear hc hbc
      go_wp2_with fail
      clear q0 q1 q2 q3 q4 q5
      refine HC.out.mono ?_
      rintro e w3 ⟨rfl, hE3⟩
      have h13 := h12.trans hE3
      cases bc with
      | false =>
        go_wp2_with fail
        go_ret
        exact ⟨rfl, hE0.trans h13⟩
      | true =>
        have q0 := CELL.out w3 h13 0 _ rfl
        have q1 := CELL.out w3 h13 1 _ rfl
        have q2 := CELL.out w3 h13 2 _ rfl
        have q3 := CELL.out w3 h13 3 _ rfl
        have q4 := CELL.out w3 h13 4 _ rfl
        have q5 := CELL.out w3 h13 5 _ rfl
        have hc := check_any N _ _ t a x b y other l w3 ((RAW.out w3 h13).at hgt) hx hy (LST.out w3 h13) hgp (SIZ.out w3 h13) (TBS.out w3 h13)
        rw [check_bounds (by omega) HBC.out.symm] at hc
        have HC2 := Lib.hid hc
        clear hc
        go_wp2_with fail
        clear q0 q1 q2 q3 q4 q5
        refine HC2.out.mono ?_
        rintro e w4 ⟨rfl, hE4⟩
        by_cases hob : other = bound
        · have b2 : (other == bound) = true := by simpa using hob
          have b3 : decide (other = bound) = true := by simpa using hob
          rw [b3]
          clear hob b3
          go_wp2_with fail
          go_ret
          exact ⟨rfl, hE0.trans (h13.trans hE4)⟩
        · have b2 : (other == bound) = false := by simpa using hob
          have b3 : decide (other = bound) = false := by simpa using hob
          rw [b3]
          clear hob b3
          go_wp2_with fail
          go_ret
          exact ⟨rfl, hE0.trans (h13.trans hE4)⟩
end Go.Proofs.Kb
