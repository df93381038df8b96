/- The law PotentialStates, for every argument: it answers true. -/
import Derived.Test.YthkpgnhjnpcjgaaGreatDoorLawC
import Derived.Test.YthkpgnhjnpcjgaaGreatDoorRest
namespace Go.Proofs.Kb
open Go Go.RowKit Go.Lib Pl
attribute [local go_sem] Oper.semAt_some run_makeMap

theorem lss_no (m n : Int) (h : n ≤ m) (x y : Operand) (w : World) : (do eqGuard .lss 3 x y (.int .i64 m) (.int .i64 n); binOp .lss 3 (.int .i64 m) (.int .i64 n) : Sem Value).run Tryz.prog w = .ok (.bool false) w := by
  have e : decide (m < n) = false := decide_eq_false (by omega)
  go_simp

theorem flat_small {k : Int} {x : ByteArray} {l : List Str} (h : lettersOf k x.data.toList = some l) : l.flatten.length = x.size := by
  obtain ⟨h1, -⟩ := lettersOf_lower h
  obtain ⟨q1, -, -⟩ := letters_parse.1 h1
  rw [parse_flat q1]
  unfold lower
  rw [List.length_map, Array.length_toList]
  rfl

theorem drop_small {l : List Str} (n : Nat) : (l.drop n).flatten.length ≤ l.flatten.length := by
  conv => rhs; rw [← List.take_append_drop n l]
  rw [List.flatten_append, List.length_append]
  omega

theorem two_words {t : Table} {a : Int} {x : Str} {b : Int} {y : Str} {p : Two} (h : two t a x b y = some p) : lettersOf a x = some p.l ∧ lettersOf b y = some p.m := by
  unfold two at h
  cases h1 : lettersOf a x with
  | none => simp [h1] at h
  | some l =>
    cases h2 : lettersOf b y with
    | none => simp [h1, h2] at h
    | some m =>
      simp only [h1, h2] at h
      split at h
      · cases h; exact ⟨rfl, rfl⟩
      · cases h

set_option maxRecDepth 100000 in
set_option maxHeartbeats 8000000 in
theorem states_law (N : Nat) (vt vl : Value) (t : Table) (a : Int) (x : ByteArray) (b : Int) (y : ByteArray) (bound : Int) (l : List Pot) (w : World) (hv : TabRaw N w vt t) (hl : SlAt 5 encPot N w vl l) (hit : IntsT t) (hil : IntsL l)
    (hN : N ≤ w.heap.size) (hT : Tabs N w) :
    Calls Tryz.prog 10 #[vt, .int .i64 a, .string x, .int .i64 b, .string y, .int .i64 bound, vl] w fun e w' => e = .returned (.bool true) ∧ Ext none' w w' := by
  have hv0 := Lib.hid hv
  have hl0 := Lib.hid hl
  obtain ⟨vr, vd, ve, rfl, hr, hd, he⟩ := hv
  obtain ⟨ra, rc, rfl, -⟩ := hr
  obtain ⟨da, dc, rfl, -⟩ := hd
  obtain ⟨ea, ec, rfl, -⟩ := he
  obtain ⟨la, lc, rfl, -⟩ := hl
  obtain ⟨w0, hw0⟩ : ∃ w0, w0 = w.alloc (.cells #[.slice ra t.rules.length rc, .slice da t.drops.length dc, .slice ea t.ends.length ec, .int .i64 t.drop, .int .i64 t.order, .int .i64 t.initial] 25) := ⟨_, rfl⟩
  have hE0 : Ext none' w w0 := by rw [hw0]; exact (Ext.refl _ w).alloc _
  have k0 : w0.heap[w.heap.size]? = some (.cells #[.slice ra t.rules.length rc, .slice da t.drops.length dc, .slice ea t.ends.length ec, .int .i64 t.drop, .int .i64 t.order, .int .i64 t.initial] 25) := by rw [hw0]; exact heapNew _ rfl
  have cell : ∀ W, Ext none' w0 W → ∀ (i : Nat) (v : Value), (#[.slice ra t.rules.length rc, .slice da t.drops.length dc, .slice ea t.ends.length ec, .int .i64 t.drop, .int .i64 t.order, .int .i64 t.initial] : Array Value)[i]? = some v → W.cell? ⟨w.heap.size, i, none⟩ = some v :=
    fun W h i v hv => cellAt ((h.same _ (Array.getElem?_eq_some_iff.1 k0).1 (fun h => h)).trans k0) i hv
  have CELL := Lib.hid cell
  have raw : ∀ W, Ext none' w0 W → TabRaw N W (.agg #[.slice ra t.rules.length rc, .slice da t.drops.length dc, .slice ea t.ends.length ec, .int .i64 t.drop, .int .i64 t.order, .int .i64 t.initial]) t := fun W h => hv0.out.keep ((hE0.trans h).same0 hN)
  have lst : ∀ W, Ext none' w0 W → SlAt 5 encPot N W (.slice la l.length lc) l := fun W h => hl0.out.keep ((hE0.trans h).same0 hN)
  have tbs : ∀ W, Ext none' w0 W → Tabs N W := fun W h => hT.keep ((hE0.trans h).same0 hN)
  have siz : ∀ W, Ext none' w0 W → N ≤ W.heap.size := fun W h => Nat.le_trans hN (hE0.trans h).size
  have hhd := head_any N w0 (siz w0 (Ext.refl _ _)) (tbs w0 (Ext.refl _ _))
  have RAW := Lib.hid raw
  have LST := Lib.hid lst
  have TBS := Lib.hid tbs
  have SIZ := Lib.hid siz
  have HHD := Lib.hid hhd
  have HW0 := Lib.hid hw0
  clear cell raw lst tbs siz hhd k0 hw0
  go_enter Tryz.func10, Tryz.ntmps10
  go_wp2_with fail
  rw [← HW0.out]
  refine HHD.out.mono ?_
  rintro e w1 ⟨rfl, hE1⟩
  have q0 := CELL.out w1 hE1 0 _ rfl
  have q1 := CELL.out w1 hE1 1 _ rfl
  have q2 := CELL.out w1 hE1 2 _ rfl
  have q3 := CELL.out w1 hE1 3 _ rfl
  have q4 := CELL.out w1 hE1 4 _ rfl
  have q5 := CELL.out w1 hE1 5 _ rfl
  have hf := fewLaw_any N _ _ t x y l w1 (RAW.out w1 hE1) (LST.out w1 hE1) (SIZ.out w1 hE1)
  obtain ⟨bf, hbf⟩ : ∃ bf, bf = (fewB t l && shortS x.data.toList && shortS y.data.toList) := ⟨_, rfl⟩
  rw [← hbf] at hf
  have HF := Lib.hid hf
  have HBF := Lib.hid hbf
  clear hf hbf
  go_wp2_with fail
  clear q0 q1 q2 q3 q4 q5
  refine HF.out.mono ?_
  rintro e w2 ⟨rfl, hE2⟩
  have h12 := hE1.trans hE2
  cases bf with
  | false =>
    go_wp2_with fail
    go_ret
    exact ⟨rfl, hE0.trans h12⟩
  | true =>
    have hfw := HBF.out
    have hb := hfw.symm
    simp only [Bool.and_eq_true] at hb
    have hgt := few_table hb.1.1 hit
    have hgp := few_pots hb.1.1 hil
    have hfp := few_parts hb.1.1
    have hx := short_size hb.1.2
    have hy := short_size hb.2
    clear hfw hb
    have q0 := CELL.out w2 h12 0 _ rfl
    have q1 := CELL.out w2 h12 1 _ rfl
    have q2 := CELL.out w2 h12 2 _ rfl
    have q3 := CELL.out w2 h12 3 _ rfl
    have q4 := CELL.out w2 h12 4 _ rfl
    have q5 := CELL.out w2 h12 5 _ rfl
    have hc := check_any N _ _ t a x b y bound l w2 ((RAW.out w2 h12).at hgt) hx hy (LST.out w2 h12) hgp (SIZ.out w2 h12) (TBS.out w2 h12)
    obtain ⟨bc, hbc⟩ : ∃ bc, bc = Pl.Check t a x.data.toList b y.data.toList bound l := ⟨_, rfl⟩
    rw [← hbc] at hc
    have HC := Lib.hid hc
    have HBC := Lib.hid hbc
    clear hc hbc
    go_wp2_with fail
    clear q0 q1 q2 q3 q4 q5
    refine HC.out.mono ?_
    rintro e w3 ⟨rfl, hE3⟩
    have h13 := h12.trans hE3
    cases bc with
    | false =>
      go_wp2_with fail
      go_ret
      exact ⟨rfl, hE0.trans h13⟩
    | true =>
      have hck := HBC.out.symm
      obtain ⟨p, htw, hho⟩ := check_two hck
      obtain ⟨hla, hma⟩ := two_words htw
      have hfa := flat_small hla
      have hfb := flat_small hma
      unfold holds at hho
      simp only [Bool.and_eq_true] at hho
      have hlow := rising_low hho.1.1
      have hr9 : t.rules.length ≤ 10000 := by have := hfp.1; omega
      have hl3 := LST.out w3 h13
      obtain ⟨la', lc', hle', hcap, hmax, hlx⟩ := hl3
      cases hle'
      have HLX := Lib.hid hlx
      have HCK := Lib.hid hck
      have HTW := Lib.hid htw
      have HLA := Lib.hid hla
      have HMA := Lib.hid hma
      have HLOW := Lib.hid hlow
      have hln : l.length ≤ 9223372036854775807 := by unfold maxLen at hmax; omega
      clear hlx hck htw hla hma hlow hho hfp
      go_wp2_with fail
      go_loopw [16, 17] (fun n i wr => ∃ nn j : Nat, n = .int .i64 nn ∧ nn ≤ 30 ∧ i = .int .i64 j ∧ j ≤ l.length ∧ Ext none' w3 wr) (fun _ i _ => l.length - (intOf i).toNat)
      case atStart => exact ⟨0, 0, rfl, by omega, rfl, by omega, Ext.refl _ _⟩
      case round =>
        obtain ⟨nn, j, rfl, hnn, rfl, hj, hEr⟩ := hrel
        have h1r := h13.trans hEr
        have hout : Ext none' w wr := hE0.trans h1r
        by_cases hjl : j < l.length
        · have b1 : decide ((j : Int) < (l.length : Int)) = true := by rw [decide_eq_true_iff]; omega
          by_cases hn3 : nn < 30
          · have b2 : decide ((nn : Int) < 30) = true := by rw [decide_eq_true_iff]; omega
            obtain ⟨d, hd⟩ : ∃ d, l[j]? = some d := ⟨_, List.getElem?_eq_getElem hjl⟩
            have hdm := List.mem_of_getElem? hd
            obtain ⟨g, o, rfl, hg0, hcell⟩ := HLX.out (by intro e; rw [e] at hjl; simp at hjl)
            have h33 : Same w3.heap.size w3 wr := hEr.same0 (Nat.le_refl _)
            have hg := Nat.lt_of_lt_of_le hg0 (SIZ.out w3 h13)
            have c0 : wr.cell? ⟨g, o + j * 5, none⟩ = some (.int .i64 d.i) := (h33.cell (a := ⟨g, _, none⟩) hg).trans (hcell j d hd 0 _ rfl)
            have c1 : wr.cell? ⟨g, o + j * 5 + 1, none⟩ = some (.int .i64 d.j) := (h33.cell (a := ⟨g, _, none⟩) hg).trans (hcell j d hd 1 _ rfl)
            have c2 : wr.cell? ⟨g, o + j * 5 + 2, none⟩ = some (.string ⟨d.ahead.toArray⟩) := (h33.cell (a := ⟨g, _, none⟩) hg).trans (hcell j d hd 2 _ rfl)
            have c3 : wr.cell? ⟨g, o + j * 5 + 3, none⟩ = some (.bool d.right) := (h33.cell (a := ⟨g, _, none⟩) hg).trans (hcell j d hd 3 _ rfl)
            have c4 : wr.cell? ⟨g, o + j * 5 + 4, none⟩ = some (.int .i64 d.h) := (h33.cell (a := ⟨g, _, none⟩) hg).trans (hcell j d hd 4 _ rfl)
            obtain ⟨d1, d2, d3, d4, d5⟩ := HLOW.out d hdm
            obtain ⟨i', hi'⟩ : ∃ i' : Nat, d.i = (i' : Nat) := ⟨d.i.toNat, by have h0 : 0 ≤ d.i := d4.i0; omega⟩
            obtain ⟨j', hj'⟩ : ∃ j' : Nat, d.j = (j' : Nat) := ⟨d.j.toNat, by have h0 : 0 ≤ d.j := d4.j0; omega⟩
            have hil2 : i' ≤ p.l.length := by have h0 : d.i ≤ p.l.length := d4.i1; omega
            have hjl2 : j' ≤ p.m.length := by have h0 : d.j ≤ p.m.length := d4.j1; omega
            have HI := Lib.hid hi'
            have HJ := Lib.hid hj'
            clear hcell hd d4
            cases hda : d.ahead with
            | cons ch rs =>
              rw [hda] at c2
              have HDA := Lib.hid hda
              clear hda
              go_wp2_with fail
              exact ⟨⟨nn, j + 1, rfl, hnn, rfl, by omega, hEr⟩, by simp only [intOf]; omega⟩
            | nil =>
              rw [hda] at c2
              have HDA := Lib.hid hda
              rw [hi'] at c0
              rw [hj'] at c1
              have r1 := rest_yes N a x wr p.l HLA.out hx (by omega) i' hil2 (SIZ.out wr h1r) (TBS.out wr h1r)
              have R1 := Lib.hid r1
              have C1 := Lib.hid c1
              have C4 := Lib.hid c4
              clear hda hi' hj' r1 c1 c4
              go_wp2_with fail
              refine R1.out.mono ?_
              rintro e w5 ⟨rfl, hE5⟩
              have h15 := h1r.trans hE5
              have c1 : w5.cell? ⟨g, o + j * 5 + 1, none⟩ = some (.int .i64 (j' : Nat)) := (hE5.same0 (SIZ.out wr h1r)).cell (a := ⟨g, _, none⟩) hg0 |>.trans C1.out
              have r2 := rest_yes N b y w5 p.m HMA.out hy (by omega) j' hjl2 (SIZ.out w5 h15) (TBS.out w5 h15)
              have R2 := Lib.hid r2
              clear r2
              generalize hs1 : (if i' < p.l.length then (p.l.drop i').flatten else []) = s1
              generalize ho1 : decide (i' < p.l.length) = o1
              have HS1 := Lib.hid hs1
              have HO1 := Lib.hid ho1
              clear hs1 ho1 c0
              go_wp2_with fail
              refine R2.out.mono ?_
              rintro e w6 ⟨rfl, hE6⟩
              have h16 := h15.trans hE6
              have h36 := hEr.trans (hE5.trans hE6)
              generalize hs2 : (if j' < p.m.length then (p.m.drop j').flatten else []) = s2
              generalize ho2 : decide (j' < p.m.length) = o2
              have HS2 := Lib.hid hs2
              have HO2 := Lib.hid ho2
              clear hs2 ho2 c1 c2 c3
              cases o1 with
              | false =>
                go_wp2_with fail
                exact ⟨⟨nn, j + 1, rfl, hnn, rfl, by omega, h36⟩, by simp only [intOf]; omega⟩
              | true =>
                cases o2 with
                | false =>
                  go_wp2_with fail
                  exact ⟨⟨nn, j + 1, rfl, hnn, rfl, by omega, h36⟩, by simp only [intOf]; omega⟩
                | true =>
                  have hl1 := of_decide_eq_true HO1.out
                  have hl2 := of_decide_eq_true HO2.out
                  have e1 := HS1.out
                  have e2 := HS2.out
                  rw [if_pos hl1] at e1
                  rw [if_pos hl2] at e2
                  have hcs := check_states HTW.out HCK.out hdm HDA.out HI.out HJ.out hl1 hl2
                  rw [e1, e2] at hcs
                  have hz1 : s1.length ≤ x.size := by rw [← e1, ← hfa]; exact drop_small i'
                  have hz2 : s2.length ≤ y.size := by rw [← e2, ← hfb]; exact drop_small j'
                  obtain ⟨best, be, hab⟩ : ∃ best be, ABest t a s1 b s2 = (best, be) := ⟨_, _, rfl⟩
                  have hbst := best_any N _ t a ⟨s1.toArray⟩ b ⟨s2.toArray⟩ w6 ((RAW.out w6 h16).at hgt) hr9 (by show s1.toArray.size < _; rw [List.size_toArray]; omega) (by show s2.toArray.size < _; rw [List.size_toArray]; omega) (SIZ.out w6 h16) (TBS.out w6 h16)
                  unfold BestPost at hbst
                  have hbst' : Calls Tryz.prog 19 #[.agg #[.slice ra t.rules.length rc, .slice da t.drops.length dc, .slice ea t.ends.length ec, .int .i64 t.drop, .int .i64 t.order, .int .i64 t.initial], .int .i64 a, .string ⟨s1.toArray⟩, .int .i64 b, .string ⟨s2.toArray⟩] w6 (fun e w' => ∃ v, e = .returned (.tuple #[v, .int .i64 (ABest t a s1 b s2).2]) ∧ DerivAt w'.heap.size w' v (ABest t a s1 b s2).1 ∧ Ext none' w6 w') := hbst
                  rw [hab] at hbst'
                  rw [hab] at hcs
                  simp only at hcs
                  have HBS := Lib.hid hbst'
                  clear hbst hbst' hab e1 e2 hl1 hl2
                  have q0 := CELL.out w6 h16 0 _ rfl
                  have q1 := CELL.out w6 h16 1 _ rfl
                  have q2 := CELL.out w6 h16 2 _ rfl
                  have q3 := CELL.out w6 h16 3 _ rfl
                  have q4 := CELL.out w6 h16 4 _ rfl
                  have q5 := CELL.out w6 h16 5 _ rfl
                  go_wp2_with fail
                  clear q0 q1 q2 q3 q4 q5
                  refine HBS.out.mono ?_
                  rintro e w7 ⟨v7, rfl, hd7, hE7⟩
                  obtain ⟨xa, xc, xa', xc', rfl⟩ := deriv_parts hd7
                  clear hd7
                  have h17 := h16.trans hE7
                  go_upto_region 14 with fail
                  obtain ⟨w8, hw8⟩ : ∃ w8, w8 = w7.alloc (.cells #[.int .i64 best.cost, .slice xa best.left.length xc, .slice xa' best.right.length xc', .string ⟨best.form.toArray⟩] 47) := ⟨_, rfl⟩
                  rw [← hw8]
                  have hE8 : Ext none' w7 w8 := by rw [hw8]; exact (Ext.refl none' w7).alloc _
                  have k8 : w8.heap[w7.heap.size]? = some (.cells #[.int .i64 best.cost, .slice xa best.left.length xc, .slice xa' best.right.length xc', .string ⟨best.form.toArray⟩] 47) := by rw [hw8]; exact heapNew _ rfl
                  clear hw8
                  have e0 : w8.cell? ⟨w7.heap.size, 0, none⟩ = some (.int .i64 best.cost) := cellAt k8 0 rfl
                  have er8 := hE5.trans (hE6.trans (hE7.trans hE8))
                  have c4 : w8.cell? ⟨g, o + j * 5 + 4, none⟩ = some (.int .i64 d.h) := (er8.same0 (SIZ.out wr h1r)).cell (a := ⟨g, _, none⟩) hg0 |>.trans C4.out
                  have HEX := Lib.hid (hEr.trans er8)
                  clear k8
                  refine (wpIn_wide (n := 1)).1 ?_
                  refine wp_region_N (ro := none) 16 (fun _ x y => y.heap = x.heap) rfl (by kernel_rfl) ?_
                  rcases hcs with hcs | ⟨hcs, hle⟩
                  · subst hcs
                    refine wpAnyS_p 0 (some 98) (.int .i64 11) (by kernel_rfl) (by kernel_rfl) (fun _ _ _ h => h) (fun x => rfl) (by kernel_rfl) (by kernel_rfl) ?_
                    refine wpAnyS_p 1 (some 99) (.bool false) (by kernel_rfl) (by kernel_rfl) (fun _ _ _ h => h) (fun x => rfl) (by kernel_rfl) (by kernel_rfl) ?_
                    refine wpAnyS_p 2 (some 100) (.bool false) (by kernel_rfl) (by kernel_rfl) (fun _ _ _ h => h) (fun x => rfl) (by kernel_rfl) (by kernel_rfl) ?_
                    refine wpAnyS_o 3 (some 101) (by kernel_rfl) (by kernel_rfl) (fun _ _ _ h => h) (fun x => rfl) (by kernel_rfl) ?_
                    refine wpAnyS_o 4 (some 102) (by kernel_rfl) (by kernel_rfl) (fun _ _ _ h => h) (fun x => rfl) (by kernel_rfl) ?_
                    refine wpAnyS_o 5 (some 103) (by kernel_rfl) (by kernel_rfl) (fun _ _ _ h => h) (fun x => rfl) (by kernel_rfl) ?_
                    refine wpAnyS_o 6 (some 104) (by kernel_rfl) (by kernel_rfl) (fun _ _ _ h => h) (fun x => rfl) (by kernel_rfl) ?_
                    refine wpAnyS_o 7 (some 105) (by kernel_rfl) (by kernel_rfl) (fun _ _ _ h => h) (fun x => rfl) (by kernel_rfl) ?_
                    refine wpAnyS_o 8 (some 106) (by kernel_rfl) (by kernel_rfl) (fun _ _ _ h => h) (fun x => rfl) (by kernel_rfl) ?_
                    refine wpAnyS_o 9 (some 107) (by kernel_rfl) (by kernel_rfl) (fun _ _ _ h => h) (fun x => rfl) (by kernel_rfl) ?_
                    refine wpAnyS_o 10 (some 108) (by kernel_rfl) (by kernel_rfl) (fun _ _ _ h => h) (fun x => rfl) (by kernel_rfl) ?_
                    refine wpAnyS_o 11 (some 109) (by kernel_rfl) (by kernel_rfl) (fun _ _ _ h => h) (fun x => rfl) (by kernel_rfl) ?_
                    refine wpAnyS_o 12 (some 110) (by kernel_rfl) (by kernel_rfl) (fun _ _ _ h => h) (fun x => rfl) (by kernel_rfl) ?_
                    refine wpAnyS_o 13 (some 111) (by kernel_rfl) (by kernel_rfl) (fun _ _ _ h => h) (fun x => rfl) (by kernel_rfl) ?_
                    refine wpAnyS_o 14 (some 112) (by kernel_rfl) (by kernel_rfl) (fun _ _ _ h => h) (fun x => rfl) (by kernel_rfl) ?_
                    refine wpAnyS_p 15 (some 113) (.bool false) (by kernel_rfl) (by kernel_rfl) (fun _ _ _ h => h) (fun x => rfl) (by kernel_rfl) (by kernel_rfl) ?_
                    refine wpAnyS_doneN (by kernel_rfl) ?_ _
                    simp only [Act.put, List.setIfInBounds_toArray, List.set_cons_succ, List.set_cons_zero]
                    go_wp2_with fail
                    exact ⟨⟨nn + 1, j + 1, rfl, by omega, rfl, by omega, HEX.out.drewN 1⟩, by simp only [intOf]; omega⟩
                  · subst hcs
                    refine wpAnyS_p 0 (some 98) (.int .i64 0) (by kernel_rfl) (by kernel_rfl) (fun _ _ _ h => h) (fun x => rfl) (by kernel_rfl) (by kernel_rfl) ?_
                    refine wpAnyS_p 1 (some 99) (.bool true) (by kernel_rfl) (by kernel_rfl) (fun _ _ _ h => h) (fun x => rfl) (by kernel_rfl) (by kernel_rfl) ?_
                    refine wpAnyS_p 2 (some 100) (.bool true) (by kernel_rfl) (by kernel_rfl) (fun _ _ _ h => h) (fun x => rfl) (by kernel_rfl) (by kernel_rfl) ?_
                    refine wpAnyS_p 3 (some 101) (.int .i64 0) (by kernel_rfl) (by kernel_rfl) (fun _ _ _ h => h) (fun x => rfl) (by kernel_rfl) (by kernel_rfl) ?_
                    refine wpAnyS_p 4 (some 102) (.bool false) (by kernel_rfl) (by kernel_rfl) (fun _ _ _ h => h) (fun x => rfl) (by kernel_rfl) (by kernel_rfl) ?_
                    refine wpAnyS_p 5 (some 103) (.bool false) (by kernel_rfl) (by kernel_rfl) (fun _ _ _ h => h) (fun x => rfl) (by kernel_rfl) (by kernel_rfl) ?_
                    refine wpAnyS_p 6 (some 104) (.pointer (some ⟨w7.heap.size, 0, none⟩)) (by kernel_rfl) (by kernel_rfl) (fun _ _ _ h => h) (fun x => rfl) (by kernel_rfl) (by kernel_rfl) ?_
                    refine wpAnyS_t 7 (fun W => W.heap = w8.heap) (fun _ => true) (some 105) (.int .i64 best.cost) (by kernel_rfl) (by kernel_rfl) (fun _ _ _ h => h) (fun j x y _ ho hx => ho.trans hx) (fun x => rfl) rfl (by kernel_rfl) (fun o ho W hW => by cases ho; exact exec_load _ _ rfl ⟨w7.heap.size, 0, none⟩ (by kernel_rfl) _ (load_int _ _ _ (cell_heap hW e0))) ?_
                    refine wpAnyS_p 8 (some 106) (.slice (some ⟨g, o, none⟩) l.length lc) (by kernel_rfl) (by kernel_rfl) (fun _ _ _ h => h) (fun x => rfl) (by kernel_rfl) (by kernel_rfl) ?_
                    refine wpAnyS_p 9 (some 107) (.int .i64 (j : Nat)) (by kernel_rfl) (by kernel_rfl) (fun _ _ _ h => h) (fun x => rfl) (by kernel_rfl) (by kernel_rfl) ?_
                    refine wpAnyS_t 10 (fun _ => True) (fun _ => true) (some 108) (.pointer (some ⟨g, o + j * 5, none⟩)) (by kernel_rfl) (by kernel_rfl) (fun _ _ _ h => h) (fun _ _ _ _ _ _ => trivial) (fun x => rfl) trivial (by kernel_rfl) (fun o' ho W _ => by cases ho; exact exec_index _ _ _ rfl _ _ _ (by kernel_rfl) (by kernel_rfl) (index_pot g o l.length lc j hjl W)) ?_
                    refine wpAnyS_p 11 (some 109) (.pointer (some ⟨g, o + j * 5 + 4, none⟩)) (by kernel_rfl) (by kernel_rfl) (fun _ _ _ h => h) (fun x => rfl) (by kernel_rfl) (by kernel_rfl) ?_
                    refine wpAnyS_t 12 (fun W => W.heap = w8.heap) (fun _ => true) (some 110) (.int .i64 d.h) (by kernel_rfl) (by kernel_rfl) (fun _ _ _ h => h) (fun j x y _ ho hx => ho.trans hx) (fun x => rfl) rfl (by kernel_rfl) (fun o' ho W hW => by cases ho; exact exec_load _ _ rfl _ (by kernel_rfl) _ (load_int _ _ _ (cell_heap hW c4))) ?_
                    refine wpAnyS_t 13 (fun _ => True) (fun _ => true) (some 111) (.bool false) (by kernel_rfl) (by kernel_rfl) (fun _ _ _ h => h) (fun _ _ _ _ _ _ => trivial) (fun x => rfl) trivial (by kernel_rfl) (fun o' ho W _ => by cases ho; exact exec_bin _ _ _ _ _ rfl _ _ _ (by kernel_rfl) (by kernel_rfl) (lss_no _ _ hle _ _ W)) ?_
                    refine wpAnyS_p 14 (some 112) (.bool false) (by kernel_rfl) (by kernel_rfl) (fun _ _ _ h => h) (fun x => rfl) (by kernel_rfl) (by kernel_rfl) ?_
                    refine wpAnyS_p 15 (some 113) (.bool false) (by kernel_rfl) (by kernel_rfl) (fun _ _ _ h => h) (fun x => rfl) (by kernel_rfl) (by kernel_rfl) ?_
                    refine wpAnyS_doneN (by kernel_rfl) ?_ _
                    simp only [Act.put, List.setIfInBounds_toArray, List.set_cons_succ, List.set_cons_zero]
                    go_wp2_with fail
                    exact ⟨⟨nn + 1, j + 1, rfl, by omega, rfl, by omega, HEX.out.drewN 1⟩, by simp only [intOf]; omega⟩
          · have b2 : decide ((nn : Int) < 30) = false := by rw [decide_eq_false_iff_not]; omega
            go_wp2_with fail
            go_ret
            exact ⟨rfl, hout⟩
        · have b1 : decide ((j : Int) < (l.length : Int)) = false := by rw [decide_eq_false_iff_not]; omega
          go_wp2_with fail
          go_ret
          exact ⟨rfl, hout⟩
end Go.Proofs.Kb
