/- The law PotentialComplete, for every argument: it answers true. -/
import Derived.Test.YthkpgnhjnpcjgaaGreatDoorLawB
import Derived.Test.YthkpgnhjnpcjgaaGreatDoorABest
import Derived.Test.YthkpgnhjnpcjgaaGreatDoorAComp
namespace Go.Proofs.Kb
open Go Go.RowKit Go.Lib Pl
attribute [local go_sem] Oper.semAt_some run_makeMap

theorem check_good {t : Table} {a : Int} {x : Str} {b : Int} {y : Str} {bound : Int} {l : List Pot} (h : Check t a x b y bound l = true) : ∀ e ∈ l, goodPot e := by
  obtain ⟨p, hp, hh⟩ := check_two h
  have ho := two_align hp
  have h1 := ho.words.l.2
  have h2 := ho.words.m.2
  have e1 : p.words.l = p.l := rfl
  have e2 : p.words.m = p.m := rfl
  rw [e1] at h1
  rw [e2] at h2
  unfold holds at hh
  simp only [Bool.and_eq_true] at hh
  intro e he
  have := rising_proper hh.1.1 e he
  unfold proper at this
  simp only [Bool.and_eq_true, decide_eq_true_eq] at this
  unfold goodPot isInt
  omega

theorem deriv_parts {N : Nat} {w : World} {v : Value} {d : Deriv} (h : DerivAt N w v d) : ∃ a c a' c', v = .agg #[.int .i64 d.cost, .slice a d.left.length c, .slice a' d.right.length c', .string ⟨d.form.toArray⟩] := by
  obtain ⟨vl, vr, rfl, ⟨a, c, rfl, _⟩, ⟨a', c', rfl, _⟩⟩ := h
  exact ⟨_, _, _, _, rfl⟩

set_option maxRecDepth 100000 in
set_option maxHeartbeats 8000000 in
theorem complete_law (N : Nat) (vt : Value) (t : Table) (a : Int) (x : ByteArray) (b : Int) (y : ByteArray) (raw : Int) (w : World) (hv : TabRaw N w vt t) (hit : IntsT t) (hraw : 0 ≤ raw ∧ raw ≤ 4294967295)
    (hN : N ≤ w.heap.size) (hT : Tabs N w) :
    Calls Tryz.prog 9 #[vt, .int .i64 a, .string x, .int .i64 b, .string y, .int .u32 raw] w fun e w' => e = .returned (.bool true) ∧ Ext none' w w' := by
  have hv0 := Lib.hid hv
  obtain ⟨vr, vd, ve, rfl, hr, hd, he⟩ := hv
  obtain ⟨ra, rc, rfl, -⟩ := hr
  obtain ⟨da, dc, rfl, -⟩ := hd
  obtain ⟨ea, ec, rfl, -⟩ := he
  obtain ⟨w0, hw0⟩ : ∃ w0, w0 = w.alloc (.cells #[.slice ra t.rules.length rc, .slice da t.drops.length dc, .slice ea t.ends.length ec, .int .i64 t.drop, .int .i64 t.order, .int .i64 t.initial] 25) := ⟨_, rfl⟩
  have hE0 : Ext none' w w0 := by rw [hw0]; exact (Ext.refl _ w).alloc _
  have k0 : w0.heap[w.heap.size]? = some (.cells #[.slice ra t.rules.length rc, .slice da t.drops.length dc, .slice ea t.ends.length ec, .int .i64 t.drop, .int .i64 t.order, .int .i64 t.initial] 25) := by rw [hw0]; exact heapNew _ rfl
  have cell : ∀ W, Ext none' w0 W → ∀ (i : Nat) (v : Value), (#[.slice ra t.rules.length rc, .slice da t.drops.length dc, .slice ea t.ends.length ec, .int .i64 t.drop, .int .i64 t.order, .int .i64 t.initial] : Array Value)[i]? = some v → W.cell? ⟨w.heap.size, i, none⟩ = some v :=
    fun W h i v hv => cellAt ((h.same _ (Array.getElem?_eq_some_iff.1 k0).1 (fun h => h)).trans k0) i hv
  have CELL := Lib.hid cell
  have raw : ∀ W, Ext none' w0 W → TabRaw N W (.agg #[.slice ra t.rules.length rc, .slice da t.drops.length dc, .slice ea t.ends.length ec, .int .i64 t.drop, .int .i64 t.order, .int .i64 t.initial]) t := fun W h => hv0.out.keep ((hE0.trans h).same0 hN)
  have tbs : ∀ W, Ext none' w0 W → Tabs N W := fun W h => hT.keep ((hE0.trans h).same0 hN)
  have siz : ∀ W, Ext none' w0 W → N ≤ W.heap.size := fun W h => Nat.le_trans hN (hE0.trans h).size
  have hhd := head_any N w0 (siz w0 (Ext.refl _ _)) (tbs w0 (Ext.refl _ _))
  have RAW := Lib.hid raw
  have TBS := Lib.hid tbs
  have SIZ := Lib.hid siz
  have HHD := Lib.hid hhd
  have HW0 := Lib.hid hw0
  clear cell raw tbs siz hhd k0 hw0
  go_enter Tryz.func9, Tryz.ntmps9
  go_wp2_with fail
  rw [← HW0.out]
  refine HHD.out.mono ?_
  rintro e w1 ⟨rfl, hE1⟩
  have q0 := CELL.out w1 hE1 0 _ rfl
  have q1 := CELL.out w1 hE1 1 _ rfl
  have q2 := CELL.out w1 hE1 2 _ rfl
  have q3 := CELL.out w1 hE1 3 _ rfl
  have q4 := CELL.out w1 hE1 4 _ rfl
  have q5 := CELL.out w1 hE1 5 _ rfl
  have hf := fewLaw_any N _ _ t x y [] w1 (RAW.out w1 hE1) (SlAt.none _ _ _ _) (SIZ.out w1 hE1)
  obtain ⟨bf, hbf⟩ : ∃ bf, bf = (fewB t [] && shortS x.data.toList && shortS y.data.toList) := ⟨_, rfl⟩
  rw [← hbf] at hf
  have HF := Lib.hid hf
  have HBF := Lib.hid hbf
  clear hf hbf
  go_wp2_with fail
  clear q0 q1 q2 q3 q4 q5
  refine HF.out.mono ?_
  rintro e w2 ⟨rfl, hE2⟩
  have h12 := hE1.trans hE2
  cases bf with
  | false =>
    go_wp2_with fail
    go_ret
    exact ⟨rfl, hE0.trans h12⟩
  | true =>
    have hfw := HBF.out
    have hb := hfw.symm
    simp only [Bool.and_eq_true] at hb
    have hgt := few_table hb.1.1 hit
    have hx := short_size hb.1.2
    have hy := short_size hb.2
    have hr9 : t.rules.length ≤ 10000 := by have := (few_parts hb.1.1).1; omega
    clear hfw hb
    obtain ⟨h0, h1⟩ := hraw
    have q0 := CELL.out w2 h12 0 _ rfl
    have q1 := CELL.out w2 h12 1 _ rfl
    have q2 := CELL.out w2 h12 2 _ rfl
    have q3 := CELL.out w2 h12 3 _ rfl
    have q4 := CELL.out w2 h12 4 _ rfl
    have q5 := CELL.out w2 h12 5 _ rfl
    obtain ⟨best, be, hab⟩ : ∃ best be, ABest t a x.data.toList b y.data.toList = (best, be) := ⟨_, _, rfl⟩
    have hbst := best_any N _ t a x b y w2 ((RAW.out w2 h12).at hgt) hr9 hx hy (SIZ.out w2 h12) (TBS.out w2 h12)
    unfold BestPost at hbst
    rw [hab] at hbst
    have HB := Lib.hid hbst
    have HAB := Lib.hid hab
    clear hbst hab
    go_wp2_with fail
    clear q0 q1 q2 q3 q4 q5
    refine HB.out.mono ?_
    rintro e w3 ⟨v3, rfl, hd3, hE3⟩
    obtain ⟨la, lc, la', lc', rfl⟩ := deriv_parts hd3
    clear hd3
    have h13 := h12.trans hE3
    go_upto_region 5 with fail
    obtain ⟨w4, hw4⟩ : ∃ w4, w4 = w3.alloc (.cells #[.int .i64 best.cost, .slice la best.left.length lc, .slice la' best.right.length lc', .string ⟨best.form.toArray⟩] 47) := ⟨_, rfl⟩
    rw [← hw4]
    have hE4 : Ext none' w3 w4 := by rw [hw4]; exact (Ext.refl none' w3).alloc _
    have k4 : w4.heap[w3.heap.size]? = some (.cells #[.int .i64 best.cost, .slice la best.left.length lc, .slice la' best.right.length lc', .string ⟨best.form.toArray⟩] 47) := by rw [hw4]; exact heapNew _ rfl
    clear hw4
    have h14 := h13.trans hE4
    have cst : ∀ W, Ext none' w4 W → W.cell? ⟨w3.heap.size, 0, none⟩ = some (.int .i64 best.cost) := fun W h => cellAt ((h.same _ (Array.getElem?_eq_some_iff.1 k4).1 (fun h => h)).trans k4) 0 rfl
    have CST := Lib.hid cst
    clear k4 cst
    have m0 : 0 ≤ raw % 100001 ∧ raw % 100001 < 100001 := by omega
    go_upto_region 6 with fail
    generalize hbd : raw % 100001 = bd at *
    have q0 := CELL.out w4 h14 0 _ rfl
    have q1 := CELL.out w4 h14 1 _ rfl
    have q2 := CELL.out w4 h14 2 _ rfl
    have q3 := CELL.out w4 h14 3 _ rfl
    have q4 := CELL.out w4 h14 4 _ rfl
    have q5 := CELL.out w4 h14 5 _ rfl
    have hm := make_any N _ t a x b y bd w4 ((RAW.out w4 h14).at hgt) hx hy (SIZ.out w4 h14) (TBS.out w4 h14)
    obtain ⟨pl, err, hmk⟩ : ∃ pl err, Pl.Make t a x.data.toList b y.data.toList bd = (pl, err) := ⟨_, _, rfl⟩
    rw [hmk] at hm
    have HM := Lib.hid hm
    have HMK := Lib.hid hmk
    clear hm hbd h0 h1 hmk
    go_wp2_with fail
    clear q0 q1 q2 q3 q4 q5
    refine HM.out.mono ?_
    rintro e w5 ⟨v5, rfl, hl5, hE5⟩
    have hl50 := Lib.hid hl5
    obtain ⟨al, cl, rfl, hcl, hml, -⟩ := hl5
    have h15 := h14.trans hE5
    have hcc := CST.out w5 hE5
    have chk : ∀ n, Check t a x.data.toList b y.data.toList n pl = true → Calls Tryz.prog 17 #[.agg #[.slice ra t.rules.length rc, .slice da t.drops.length dc, .slice ea t.ends.length ec, .int .i64 t.drop, .int .i64 t.order, .int .i64 t.initial], .int .i64 a, .string x, .int .i64 b, .string y, .int .i64 n, .slice al pl.length cl] w5 fun e w' => e = .returned (.bool true) ∧ Ext none' w5 w' := fun n hn => by
      have := check_any w5.heap.size _ _ t a x b y n pl w5 (((RAW.out w5 h15).at hgt).up (SIZ.out w5 h15)) hx hy hl50.out (check_good hn) (Nat.le_refl _) ((TBS.out w5 h15).up (SIZ.out w5 h15))
      rwa [hn] at this
    have CHK := Lib.hid chk
    clear chk
    cases htw : two t a x.data.toList b y.data.toList with
    | none =>
      have g1 := make_none htw bd
      rw [HMK.out, HAB.out] at g1
      obtain ⟨g1, g2⟩ := g1
      cases g1
      cases g2
      go_wp2_with fail
      go_ret
      exact ⟨rfl, hE0.trans h15⟩
    | some p =>
      obtain ⟨v, hv⟩ : ∃ v, v = V p State.start := ⟨_, rfl⟩
      have g1 := make_complete htw m0.1 (by omega : bd ≤ 100000)
      rw [HMK.out, ← hv] at g1
      obtain ⟨g1, g2⟩ := g1
      have g3 := abest_is htw
      rw [HAB.out, ← hv] at g3
      have g4 := fun n (h0 : 0 ≤ n) (h1 : n ≤ 100000) => make_complete htw (bound := n) h0 h1
      rw [← hv] at g4
      rcases g3 with ⟨hvn, g3⟩ | ⟨hv24, g3, g5⟩
      · cases g3
        obtain ⟨g2, g6⟩ := g2 (by rw [hvn]; unfold never; omega)
        simp only at g2 g6
        subst g2
        have hck := CHK.out bd g6
        have q0 := CELL.out w5 h15 0 _ rfl
        have q1 := CELL.out w5 h15 1 _ rfl
        have q2 := CELL.out w5 h15 2 _ rfl
        have q3 := CELL.out w5 h15 3 _ rfl
        have q4 := CELL.out w5 h15 4 _ rfl
        have q5 := CELL.out w5 h15 5 _ rfl
        have HCK := Lib.hid hck
        clear hck
        have b9 : (never : Int) = 1099511627776 := rfl
        go_wp2_with fail
        clear q0 q1 q2 q3 q4 q5
        refine HCK.out.mono ?_
        rintro e w6 ⟨rfl, hE6⟩
        go_wp2_with fail
        go_ret
        exact ⟨rfl, hE0.trans (h15.trans hE6)⟩
      · simp only at g3 g5
        subst g3
        rw [g5] at hcc CST
        have hv0 : 0 ≤ v := by
          rw [hv]
          exact V_nonneg (fun r hr => (two_costs htw r hr).1) (left p State.start + 1) State.start (Nat.lt_succ_self _) (known_at (known_closed p).2).2
        clear hv
        by_cases hlt : v < bd
        · have g6 := g1 hlt
          cases g6
          have hcs := CST.out w5 hE5
          have m4 := g4 v hv0 (by omega)
          obtain ⟨m5, m6⟩ := m4.2 (Int.le_refl v)
          have q0 := CELL.out w5 h15 0 _ rfl
          have q1 := CELL.out w5 h15 1 _ rfl
          have q2 := CELL.out w5 h15 2 _ rfl
          have q3 := CELL.out w5 h15 3 _ rfl
          have q4 := CELL.out w5 h15 4 _ rfl
          have q5 := CELL.out w5 h15 5 _ rfl
          obtain ⟨ql, qe, hqk⟩ : ∃ ql qe, Pl.Make t a x.data.toList b y.data.toList v = (ql, qe) := ⟨_, _, rfl⟩
          rw [hqk] at m5 m6
          simp only at m5 m6
          subst m5
          have hm := make_any N _ t a x b y v w5 ((RAW.out w5 h15).at hgt) hx hy (SIZ.out w5 h15) (TBS.out w5 h15)
          rw [hqk] at hm
          have HM2 := Lib.hid hm
          have M6 := Lib.hid m6
          clear hm m4 m6 hqk
          go_wp2_with fail
          clear q0 q1 q2 q3 q4 q5
          clear hcs
          refine HM2.out.mono ?_
          rintro e w7 ⟨v7, rfl, hl7, hE7⟩
          have hl70 := Lib.hid hl7
          obtain ⟨am, cm, rfl, hcm, hmm, -⟩ := hl7
          have h17 := h15.trans hE7
          have x7 := hE5.trans hE7
          have hcs := CST.out w7 x7
          have m8 := (g4 (v + 1) (by omega) (by omega)).1 (by omega)
          have q0 := CELL.out w7 h17 0 _ rfl
          have q1 := CELL.out w7 h17 1 _ rfl
          have q2 := CELL.out w7 h17 2 _ rfl
          have q3 := CELL.out w7 h17 3 _ rfl
          have q4 := CELL.out w7 h17 4 _ rfl
          have q5 := CELL.out w7 h17 5 _ rfl
          have hm := make_any N _ t a x b y (v + 1) w7 ((RAW.out w7 h17).at hgt) hx hy (SIZ.out w7 h17) (TBS.out w7 h17)
          rw [m8] at hm
          have HM3 := Lib.hid hm
          clear hm m8
          have hwr : IntKind.i64.wrap (v + 1) = v + 1 := wrap_of (by omega) (by omega)
          go_wp2_with fail
          clear q0 q1 q2 q3 q4 q5
          clear hcs
          refine HM3.out.mono ?_
          rintro e w8 ⟨v8, rfl, hl8, hE8⟩
          obtain ⟨an, cn, rfl, -⟩ := hl8
          have h18 := h17.trans hE8
          have hcs := CST.out w8 (x7.trans hE8)
          have q0 := CELL.out w8 h18 0 _ rfl
          have q1 := CELL.out w8 h18 1 _ rfl
          have q2 := CELL.out w8 h18 2 _ rfl
          have q3 := CELL.out w8 h18 3 _ rfl
          have q4 := CELL.out w8 h18 4 _ rfl
          have q5 := CELL.out w8 h18 5 _ rfl
          have hck := check_any w8.heap.size _ _ t a x b y v ql w8 (((RAW.out w8 h18).at hgt).up (SIZ.out w8 h18)) hx hy (hl70.out.later (hE8.same0 (Nat.le_refl _)) hE8.size) (check_good M6.out) (Nat.le_refl _) ((TBS.out w8 h18).up (SIZ.out w8 h18))
          rw [M6.out] at hck
          have HCK2 := Lib.hid hck
          clear hck
          go_wp2_with fail
          clear q0 q1 q2 q3 q4 q5
          refine HCK2.out.mono ?_
          rintro e w9 ⟨rfl, hE9⟩
          go_wp2_with fail
          go_ret
          exact ⟨rfl, hE0.trans (h18.trans hE9)⟩
        · obtain ⟨g2, g6⟩ := g2 (by omega)
          simp only at g2 g6
          subst g2
          have hck := CHK.out bd g6
          have q0 := CELL.out w5 h15 0 _ rfl
          have q1 := CELL.out w5 h15 1 _ rfl
          have q2 := CELL.out w5 h15 2 _ rfl
          have q3 := CELL.out w5 h15 3 _ rfl
          have q4 := CELL.out w5 h15 4 _ rfl
          have q5 := CELL.out w5 h15 5 _ rfl
          have HCK := Lib.hid hck
          clear hck
          go_wp2_with fail
          clear q0 q1 q2 q3 q4 q5
          refine HCK.out.mono ?_
          rintro e w6 ⟨rfl, hE6⟩
          have h16 := h15.trans hE6
          have x6 := hE5.trans hE6
          have hcs := CST.out w6 x6
          have m4 := g4 v hv0 (by omega)
          obtain ⟨m5, m6⟩ := m4.2 (Int.le_refl v)
          have q0 := CELL.out w6 h16 0 _ rfl
          have q1 := CELL.out w6 h16 1 _ rfl
          have q2 := CELL.out w6 h16 2 _ rfl
          have q3 := CELL.out w6 h16 3 _ rfl
          have q4 := CELL.out w6 h16 4 _ rfl
          have q5 := CELL.out w6 h16 5 _ rfl
          obtain ⟨ql, qe, hqk⟩ : ∃ ql qe, Pl.Make t a x.data.toList b y.data.toList v = (ql, qe) := ⟨_, _, rfl⟩
          rw [hqk] at m5 m6
          simp only at m5 m6
          subst m5
          have hm := make_any N _ t a x b y v w6 ((RAW.out w6 h16).at hgt) hx hy (SIZ.out w6 h16) (TBS.out w6 h16)
          rw [hqk] at hm
          have HM2 := Lib.hid hm
          have M6 := Lib.hid m6
          clear hm m4 m6 hqk
          go_wp2_with fail
          clear q0 q1 q2 q3 q4 q5
          clear hcs
          refine HM2.out.mono ?_
          rintro e w7 ⟨v7, rfl, hl7, hE7⟩
          have hl70 := Lib.hid hl7
          obtain ⟨am, cm, rfl, hcm, hmm, -⟩ := hl7
          have h17 := h16.trans hE7
          have x7 := x6.trans hE7
          have hcs := CST.out w7 x7
          have m8 := (g4 (v + 1) (by omega) (by omega)).1 (by omega)
          have q0 := CELL.out w7 h17 0 _ rfl
          have q1 := CELL.out w7 h17 1 _ rfl
          have q2 := CELL.out w7 h17 2 _ rfl
          have q3 := CELL.out w7 h17 3 _ rfl
          have q4 := CELL.out w7 h17 4 _ rfl
          have q5 := CELL.out w7 h17 5 _ rfl
          have hm := make_any N _ t a x b y (v + 1) w7 ((RAW.out w7 h17).at hgt) hx hy (SIZ.out w7 h17) (TBS.out w7 h17)
          rw [m8] at hm
          have HM3 := Lib.hid hm
          clear hm m8
          have hwr : IntKind.i64.wrap (v + 1) = v + 1 := wrap_of (by omega) (by omega)
          go_wp2_with fail
          clear q0 q1 q2 q3 q4 q5
          clear hcs
          refine HM3.out.mono ?_
          rintro e w8 ⟨v8, rfl, hl8, hE8⟩
          obtain ⟨an, cn, rfl, -⟩ := hl8
          have h18 := h17.trans hE8
          have hcs := CST.out w8 (x7.trans hE8)
          have q0 := CELL.out w8 h18 0 _ rfl
          have q1 := CELL.out w8 h18 1 _ rfl
          have q2 := CELL.out w8 h18 2 _ rfl
          have q3 := CELL.out w8 h18 3 _ rfl
          have q4 := CELL.out w8 h18 4 _ rfl
          have q5 := CELL.out w8 h18 5 _ rfl
          have hck := check_any w8.heap.size _ _ t a x b y v ql w8 (((RAW.out w8 h18).at hgt).up (SIZ.out w8 h18)) hx hy (hl70.out.later (hE8.same0 (Nat.le_refl _)) hE8.size) (check_good M6.out) (Nat.le_refl _) ((TBS.out w8 h18).up (SIZ.out w8 h18))
          rw [M6.out] at hck
          have HCK2 := Lib.hid hck
          clear hck
          go_wp2_with fail
          clear q0 q1 q2 q3 q4 q5
          refine HCK2.out.mono ?_
          rintro e w9 ⟨rfl, hE9⟩
          go_wp2_with fail
          go_ret
          exact ⟨rfl, hE0.trans (h18.trans hE9)⟩
end Go.Proofs.Kb
