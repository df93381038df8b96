/- The law's guard: whether the arguments are few and short. -/
import Derived.Test.YthkpgnhjnpcjgaaGreatDoorHelp
namespace Go.Proofs.Kb
open Go Go.RowKit Go.Lib Pl
attribute [local go_sem] Oper.semAt_some run_makeMap

def shortS (s : List UInt8) : Bool := decide (s.length ≤ 60)
def shortRule (r : Rule) : Bool := shortS r.frm && shortS r.to
def shortDrop (d : Drop) : Bool := shortS d.word
def shortPot (x : Pot) : Bool := shortS x.ahead
def fewB (t : Table) (l : List Pot) : Bool := !(decide (60 < t.rules.length) || decide (40 < t.drops.length) || decide (40 < t.ends.length) || decide (2000 < l.length)) && (t.rules.all shortRule && (t.drops.all shortDrop && (t.ends.all shortDrop && l.all shortPot)))

/-- v is the table t, whatever it holds -/
def TabRaw (N : Nat) (w : World) (v : Value) (t : Table) : Prop :=
  ∃ vr vd ve, v = .agg #[vr, vd, ve, .int .i64 t.drop, .int .i64 t.order, .int .i64 t.initial] ∧ SlAt 4 encRule N w vr t.rules ∧ SlAt 3 encDrop N w vd t.drops ∧ SlAt 3 encDrop N w ve t.ends

theorem TabRaw.keep {N : Nat} {w w' : World} {v : Value} {t : Table} (h : TabRaw N w v t) (hs : Same N w w') : TabRaw N w' v t := by
  obtain ⟨vr, vd, ve, rfl, h1, h2, h3⟩ := h
  exact ⟨vr, vd, ve, rfl, h1.keep hs, h2.keep hs, h3.keep hs⟩

theorem TabRaw.at {N : Nat} {w : World} {v : Value} {t : Table} (h : TabRaw N w v t) (hg : GoodTable t) : TabAt N w v t := by
  obtain ⟨vr, vd, ve, rfl, h1, h2, h3⟩ := h
  exact ⟨vr, vd, ve, rfl, h1, h2, h3, hg⟩

theorem short_any (s : ByteArray) (w : World) : Calls Tryz.prog 24 #[.string s] w fun e w' => e = .returned (.bool (shortS s.data.toList)) ∧ w' = w := by
  go_enter Tryz.func24, Tryz.ntmps24
  go_wp2_with fail
  go_ret
  refine ⟨ret_bool ?_, rfl⟩
  unfold shortS
  have : s.data.toList.length = s.size := by simp
  rw [this]
  first | rfl | (simp; done) | (rw [Bool.eq_iff_iff]; simp; omega)

theorem all_take {α : Type} {f : α → Bool} {l : List α} {j : Nat} {x : α} (h : l[j]? = some x) : (l.take (j + 1)).all f = ((l.take j).all f && f x) := by
  rw [List.take_add_one, h]
  simp

theorem all_no {α : Type} {f : α → Bool} {l : List α} {j : Nat} {x : α} (h : l[j]? = some x) (hf : f x = false) : l.all f = false := by
  cases ha : l.all f with
  | false => rfl
  | true =>
    rw [List.all_eq_true] at ha
    rw [ha x (List.mem_of_getElem? h)] at hf
    cases hf

set_option maxRecDepth 100000 in
set_option maxHeartbeats 4000000 in
theorem few_any (N : Nat) (vt vl : Value) (t : Table) (l : List Pot) (w : World) (hv : TabRaw N w vt t) (hl : SlAt 5 encPot N w vl l) (hN : N ≤ w.heap.size) :
    Calls Tryz.prog 23 #[vt, vl] w fun e w' => e = .returned (.bool (fewB t l)) ∧ Ext none' w w' := by
  obtain ⟨vr, vd, ve, rfl, hr, hd, he⟩ := hv
  obtain ⟨ra, rc, rfl, hrc, hrm, hrx⟩ := hr
  obtain ⟨da, dc, rfl, hdc, hdm, hdx⟩ := hd
  obtain ⟨ea, ec, rfl, hec, hem, hex⟩ := he
  obtain ⟨la, lc, rfl, hlc, hlm, hlx⟩ := hl
  have l1 : t.rules.length ≤ 9223372036854775807 := by unfold maxLen at hrm; omega
  have l2 : t.drops.length ≤ 9223372036854775807 := by unfold maxLen at hdm; omega
  have l3 : t.ends.length ≤ 9223372036854775807 := by unfold maxLen at hem; omega
  have l4 : l.length ≤ 9223372036854775807 := by unfold maxLen at hlm; omega
  have hE := (Ext.refl none' w).alloc (.cells #[.slice ra t.rules.length rc, .slice da t.drops.length dc, .slice ea t.ends.length ec, .int .i64 t.drop, .int .i64 t.order, .int .i64 t.initial] 25)
  by_cases hbig : 60 < t.rules.length ∨ 40 < t.drops.length ∨ 40 < t.ends.length ∨ 2000 < l.length
  · have hno : fewB t l = false := by
      unfold fewB
      have : (decide (60 < t.rules.length) || decide (40 < t.drops.length) || decide (40 < t.ends.length) || decide (2000 < l.length)) = true := by simpa [or_assoc] using hbig
      rw [this]; rfl
    have HNO := Lib.hid hno
    clear hno hrx hdx hex hlx
    go_enter Tryz.func23, Tryz.ntmps23
    go_upto_region 3 with fail
    all_goals first
      | (exfalso; omega)
      | (go_ret; exact ⟨ret_bool (by rw [HNO.out]), hE⟩)
  · have hyes : fewB t l = (t.rules.all shortRule && (t.drops.all shortDrop && (t.ends.all shortDrop && l.all shortPot))) := by
      unfold fewB
      have : (decide (60 < t.rules.length) || decide (40 < t.drops.length) || decide (40 < t.ends.length) || decide (2000 < l.length)) = false := by simp only [Bool.or_eq_false_iff, decide_eq_false_iff_not]; omega
      rw [this]; rfl
    have HY := Lib.hid hyes
    have n1 : t.rules.length ≤ 60 := by omega
    have n2 : t.drops.length ≤ 40 := by omega
    have n3 : t.ends.length ≤ 40 := by omega
    have n4 : l.length ≤ 2000 := by omega
    have HRX := Lib.hid hrx
    have HDX := Lib.hid hdx
    have HEX := Lib.hid hex
    have HLX := Lib.hid hlx
    clear hyes hrx hdx hex hlx hbig l1 l2 l3 l4
    obtain ⟨wb, hwb⟩ : ∃ wb, wb = w.alloc (.cells #[.slice ra t.rules.length rc, .slice da t.drops.length dc, .slice ea t.ends.length ec, .int .i64 t.drop, .int .i64 t.order, .int .i64 t.initial] 25) := ⟨_, rfl⟩
    rw [← hwb] at hE
    have kt : wb.heap[w.heap.size]? = some (.cells #[.slice ra t.rules.length rc, .slice da t.drops.length dc, .slice ea t.ends.length ec, .int .i64 t.drop, .int .i64 t.order, .int .i64 t.initial] 25) := by rw [hwb]; exact heapNew _ rfl
    have q0 : wb.cell? ⟨w.heap.size, 0, none⟩ = some (.slice ra t.rules.length rc) := cellAt kt 0 rfl
    have q1 : wb.cell? ⟨w.heap.size, 1, none⟩ = some (.slice da t.drops.length dc) := cellAt kt 1 rfl
    have q2 : wb.cell? ⟨w.heap.size, 2, none⟩ = some (.slice ea t.ends.length ec) := cellAt kt 2 rfl
    have hS : Same N w wb := hE.same0 hN
    have HWB := Lib.hid hwb
    clear hwb kt
    go_enter Tryz.func23, Tryz.ntmps23
    go_upto_region 3 with fail
    rw [← HWB.out]
    go_wp2_with fail
    go_loop [5] (fun i => ∃ j : Nat, i = .int .i64 j ∧ j ≤ t.rules.length ∧ (t.rules.take j).all shortRule = true) (fun i => t.rules.length - (intOf i).toNat)
    case atStart => exact ⟨0, rfl, by omega, rfl⟩
    case round =>
      obtain ⟨j, rfl, hj, hA⟩ := hrel
      by_cases hjl : j < t.rules.length
      · obtain ⟨d, hd⟩ : ∃ d, t.rules[j]? = some d := ⟨_, List.getElem?_eq_getElem hjl⟩
        obtain ⟨b, o, rfl, hb, hcell⟩ := HRX.out (by intro e; rw [e] at hjl; simp at hjl)
        have c1 : wb.cell? ⟨b, o + j * 4 + 1, none⟩ = some (.string ⟨d.frm.toArray⟩) := (hS.cell (a := ⟨b, _, none⟩) hb).trans (hcell j d hd 1 _ rfl)
        have c2 : wb.cell? ⟨b, o + j * 4 + 2, none⟩ = some (.string ⟨d.to.toArray⟩) := (hS.cell (a := ⟨b, _, none⟩) hb).trans (hcell j d hd 2 _ rfl)
        cases h1 : shortS d.frm with
        | false =>
          have H1 := Lib.hid h1
          have HR := Lib.hid (show fewB t l = false by rw [HY.out, all_no hd (by unfold shortRule; rw [h1]; rfl)]; rfl)
          clear h1
          go_wp2_with (go_at_call 24; refine (short_any _ _).mono ?_; rintro e w' ⟨rfl, hw'⟩; rw [hw', show shortS (⟨d.frm.toArray⟩ : ByteArray).data.toList = false from H1.out]; clear hw')
          go_ret
          exact ⟨ret_bool (by rw [HR.out]), hE⟩
        | true =>
          have H1 := Lib.hid h1
          cases h2 : shortS d.to with
          | false =>
            have H2 := Lib.hid h2
            have HR := Lib.hid (show fewB t l = false by rw [HY.out, all_no hd (by unfold shortRule; rw [h2, Bool.and_false])]; rfl)
            clear h1 h2
            go_wp2_with (go_at_call 24; refine (short_any _ _).mono ?_; rintro e w' ⟨rfl, hw'⟩; rw [hw']; clear hw'; first | rw [show shortS (⟨d.frm.toArray⟩ : ByteArray).data.toList = true from H1.out] | rw [show shortS (⟨d.to.toArray⟩ : ByteArray).data.toList = false from H2.out])
            go_ret
            exact ⟨ret_bool (by rw [HR.out]), hE⟩
          | true =>
            have H2 := Lib.hid h2
            have HA := Lib.hid (show (t.rules.take (j + 1)).all shortRule = true by rw [all_take hd, hA]; unfold shortRule; rw [h1, h2]; rfl)
            clear h1 h2 hA
            go_wp2_with (go_at_call 24; refine (short_any _ _).mono ?_; rintro e w' ⟨rfl, hw'⟩; rw [hw']; clear hw'; first | rw [show shortS (⟨d.frm.toArray⟩ : ByteArray).data.toList = true from H1.out] | rw [show shortS (⟨d.to.toArray⟩ : ByteArray).data.toList = true from H2.out])
            exact ⟨⟨j + 1, rfl, by omega, HA.out⟩, by simp only [intOf]; omega⟩
      · obtain rfl : j = t.rules.length := by omega
        rw [List.take_length] at hA
        have HA1 := Lib.hid hA
        clear hA hjl hj
        go_wp2_with fail
        go_loop [6] (fun i => ∃ j : Nat, i = .int .i64 j ∧ j ≤ t.drops.length ∧ (t.drops.take j).all shortDrop = true) (fun i => t.drops.length - (intOf i).toNat)
        case atStart => exact ⟨0, rfl, by omega, rfl⟩
        case round =>
          obtain ⟨j, rfl, hj, hA⟩ := hrel
          by_cases hjl : j < t.drops.length
          · obtain ⟨d, hd⟩ : ∃ d, t.drops[j]? = some d := ⟨_, List.getElem?_eq_getElem hjl⟩
            obtain ⟨b, o, rfl, hb, hcell⟩ := HDX.out (by intro e; rw [e] at hjl; simp at hjl)
            have c1 : wb.cell? ⟨b, o + j * 3 + 1, none⟩ = some (.string ⟨d.word.toArray⟩) := (hS.cell (a := ⟨b, _, none⟩) hb).trans (hcell j d hd 1 _ rfl)
            cases h1 : shortS d.word with
            | false =>
              have H1 := Lib.hid h1
              have HR := Lib.hid (show fewB t l = false by rw [HY.out, HA1.out, all_no hd (by unfold shortDrop; exact h1)]; simp)
              clear h1
              go_wp2_with (go_at_call 24; refine (short_any _ _).mono ?_; rintro e w' ⟨rfl, hw'⟩; rw [hw', show shortS (⟨d.word.toArray⟩ : ByteArray).data.toList = false from H1.out]; clear hw')
              go_ret
              exact ⟨ret_bool (by rw [HR.out]), hE⟩
            | true =>
              have H1 := Lib.hid h1
              have HA := Lib.hid (show (t.drops.take (j + 1)).all shortDrop = true by rw [all_take hd, hA]; unfold shortDrop; rw [h1]; rfl)
              clear h1 hA
              go_wp2_with (go_at_call 24; refine (short_any _ _).mono ?_; rintro e w' ⟨rfl, hw'⟩; rw [hw', show shortS (⟨d.word.toArray⟩ : ByteArray).data.toList = true from H1.out]; clear hw')
              exact ⟨⟨j + 1, rfl, by omega, HA.out⟩, by simp only [intOf]; omega⟩
          · obtain rfl : j = t.drops.length := by omega
            rw [List.take_length] at hA
            have HA6 := Lib.hid hA
            clear hA hjl hj
            go_wp2_with fail
            go_loop [7] (fun i => ∃ j : Nat, i = .int .i64 j ∧ j ≤ t.ends.length ∧ (t.ends.take j).all shortDrop = true) (fun i => t.ends.length - (intOf i).toNat)
            case atStart => exact ⟨0, rfl, by omega, rfl⟩
            case round =>
              obtain ⟨j, rfl, hj, hA⟩ := hrel
              by_cases hjl : j < t.ends.length
              · obtain ⟨d, hd⟩ : ∃ d, t.ends[j]? = some d := ⟨_, List.getElem?_eq_getElem hjl⟩
                obtain ⟨b, o, rfl, hb, hcell⟩ := HEX.out (by intro e; rw [e] at hjl; simp at hjl)
                have c1 : wb.cell? ⟨b, o + j * 3 + 1, none⟩ = some (.string ⟨d.word.toArray⟩) := (hS.cell (a := ⟨b, _, none⟩) hb).trans (hcell j d hd 1 _ rfl)
                cases h1 : shortS d.word with
                | false =>
                  have H1 := Lib.hid h1
                  have HR := Lib.hid (show fewB t l = false by rw [HY.out, HA1.out, HA6.out, all_no hd (by unfold shortDrop; exact h1)]; simp)
                  clear h1
                  go_wp2_with (go_at_call 24; refine (short_any _ _).mono ?_; rintro e w' ⟨rfl, hw'⟩; rw [hw', show shortS (⟨d.word.toArray⟩ : ByteArray).data.toList = false from H1.out]; clear hw')
                  go_ret
                  exact ⟨ret_bool (by rw [HR.out]), hE⟩
                | true =>
                  have H1 := Lib.hid h1
                  have HA := Lib.hid (show (t.ends.take (j + 1)).all shortDrop = true by rw [all_take hd, hA]; unfold shortDrop; rw [h1]; rfl)
                  clear h1 hA
                  go_wp2_with (go_at_call 24; refine (short_any _ _).mono ?_; rintro e w' ⟨rfl, hw'⟩; rw [hw', show shortS (⟨d.word.toArray⟩ : ByteArray).data.toList = true from H1.out]; clear hw')
                  exact ⟨⟨j + 1, rfl, by omega, HA.out⟩, by simp only [intOf]; omega⟩
              · obtain rfl : j = t.ends.length := by omega
                rw [List.take_length] at hA
                have HA7 := Lib.hid hA
                clear hA hjl hj
                go_wp2_with fail
                go_loop [8] (fun i => ∃ j : Nat, i = .int .i64 j ∧ j ≤ l.length ∧ (l.take j).all shortPot = true) (fun i => l.length - (intOf i).toNat)
                case atStart => exact ⟨0, rfl, by omega, rfl⟩
                case round =>
                  obtain ⟨j, rfl, hj, hA⟩ := hrel
                  by_cases hjl : j < l.length
                  · obtain ⟨d, hd⟩ : ∃ d, l[j]? = some d := ⟨_, List.getElem?_eq_getElem hjl⟩
                    obtain ⟨b, o, rfl, hb, hcell⟩ := HLX.out (by intro e; rw [e] at hjl; simp at hjl)
                    have c1 : wb.cell? ⟨b, o + j * 5 + 2, none⟩ = some (.string ⟨d.ahead.toArray⟩) := (hS.cell (a := ⟨b, _, none⟩) hb).trans (hcell j d hd 2 _ rfl)
                    cases h1 : shortS d.ahead with
                    | false =>
                      have H1 := Lib.hid h1
                      have HR := Lib.hid (show fewB t l = false by rw [HY.out, HA1.out, HA6.out, HA7.out, all_no hd (by unfold shortPot; exact h1)]; simp)
                      clear h1
                      go_wp2_with (go_at_call 24; refine (short_any _ _).mono ?_; rintro e w' ⟨rfl, hw'⟩; rw [hw', show shortS (⟨d.ahead.toArray⟩ : ByteArray).data.toList = false from H1.out]; clear hw')
                      go_ret
                      exact ⟨ret_bool (by rw [HR.out]), hE⟩
                    | true =>
                      have H1 := Lib.hid h1
                      have HA := Lib.hid (show (l.take (j + 1)).all shortPot = true by rw [all_take hd, hA]; unfold shortPot; rw [h1]; rfl)
                      clear h1 hA
                      go_wp2_with (go_at_call 24; refine (short_any _ _).mono ?_; rintro e w' ⟨rfl, hw'⟩; rw [hw', show shortS (⟨d.ahead.toArray⟩ : ByteArray).data.toList = true from H1.out]; clear hw')
                      exact ⟨⟨j + 1, rfl, by omega, HA.out⟩, by simp only [intOf]; omega⟩
                  · obtain rfl : j = l.length := by omega
                    rw [List.take_length] at hA
                    have HA8 := Lib.hid hA
                    clear hA hjl hj
                    go_wp2_with fail
                    go_ret
                    exact ⟨ret_bool (by rw [HY.out, HA1.out, HA6.out, HA7.out, HA8.out]; rfl), hE⟩

/-- v holds arguments that are few and short, or not -/
theorem fewLaw_any (N : Nat) (vt vl : Value) (t : Table) (x y : ByteArray) (l : List Pot) (w : World) (hv : TabRaw N w vt t) (hl : SlAt 5 encPot N w vl l) (hN : N ≤ w.heap.size) :
    Calls Tryz.prog 13 #[vt, .string x, .string y, vl] w fun e w' => e = .returned (.bool (fewB t l && shortS x.data.toList && shortS y.data.toList)) ∧ Ext none' w w' := by
  have hv0 := Lib.hid hv
  have hl0 := Lib.hid hl
  obtain ⟨vr, vd, ve, rfl, hr, hd, he⟩ := hv
  obtain ⟨ra, rc, rfl, -⟩ := hr
  obtain ⟨da, dc, rfl, -⟩ := hd
  obtain ⟨ea, ec, rfl, -⟩ := he
  obtain ⟨la, lc, rfl, -⟩ := hl
  have hE := (Ext.refl none' w).alloc (.cells #[.slice ra t.rules.length rc, .slice da t.drops.length dc, .slice ea t.ends.length ec, .int .i64 t.drop, .int .i64 t.order, .int .i64 t.initial] 25)
  have hf := few_any N _ _ t l _ (hv0.out.keep (hE.same0 hN)) (hl0.out.keep (hE.same0 hN)) (Nat.le_trans hN hE.size)
  obtain ⟨b0, hb0⟩ : ∃ b0, b0 = fewB t l := ⟨_, rfl⟩
  obtain ⟨b1, hb1⟩ : ∃ b1, b1 = shortS x.data.toList := ⟨_, rfl⟩
  obtain ⟨b2, hb2⟩ : ∃ b2, b2 = shortS y.data.toList := ⟨_, rfl⟩
  have h1 := fun W => short_any x W
  have h2 := fun W => short_any y W
  simp only [← hb1] at h1
  simp only [← hb2] at h2
  rw [← hb0] at hf
  rw [← hb0, ← hb1, ← hb2]
  have HF := Lib.hid hf
  have H1 := Lib.hid h1
  have H2 := Lib.hid h2
  clear hf h1 h2 hb0 hb1 hb2
  go_enter Tryz.func13, Tryz.ntmps13
  go_wp2_with fail
  refine HF.out.mono ?_
  rintro e w1 ⟨rfl, hE1⟩
  cases b0 with
  | false =>
    go_wp2_with fail
    go_ret
    exact ⟨rfl, hE.trans hE1⟩
  | true =>
    go_wp2_with fail
    refine (H1.out _).mono ?_
    rintro e w2 ⟨rfl, hw2⟩
    rw [hw2]
    clear hw2
    cases b1 with
    | false =>
      go_wp2_with fail
      go_ret
      exact ⟨rfl, hE.trans hE1⟩
    | true =>
      go_wp2_with fail
      refine (H2.out _).mono ?_
      rintro e w3 ⟨rfl, hw3⟩
      rw [hw3]
      clear hw3
      go_wp2_with fail
      go_ret
      exact ⟨rfl, hE.trans hE1⟩
end Go.Proofs.Kb
