/- Package align: Check. -/
import Derived.Test.YthkpgnhjnpcjgaaGreatDoorAWrit
import Derived.Test.YthkpgnhjnpcjgaaGreatDoorABest
namespace Go.Proofs.Kb
open Go Go.RowKit Go.Lib Pl
attribute [local go_sem] Oper.semAt_some run_makeMap

theorem sideRules_cost {k : Int} : ∀ (l : List Rule) (i : Nat), (∀ r ∈ l, 0 ≤ r.cost ∧ r.cost ≤ 1000) → ∀ r ∈ sideRules k i l, 0 ≤ r.cost ∧ r.cost ≤ 1000
  | [], _, _, r, h => by cases h
  | q :: l, i, hl, r, h => by
    rcases List.mem_append.1 h with h | h
    · unfold aruleOf at h
      split at h
      · cases hL : Letters k q.frm with
        | none => rw [hL] at h; cases h
        | some f =>
          rw [hL] at h
          simp only [Option.map_some, Option.toList_some, List.mem_singleton] at h
          subst h
          exact hl q List.mem_cons_self
      · cases h
    · exact sideRules_cost l (i + 1) (fun r hr => hl r (List.mem_cons_of_mem _ hr)) r h

theorem writtenF_range {l : List Str} {rs : List ARule} (hf : ∀ r ∈ rs, 0 < r.frm.length) (hc : ∀ r ∈ rs, 0 ≤ r.cost ∧ r.cost ≤ 1000) : ∀ (is : List Int) (at' : Int) (form : Str) (cost : Int) (f : Str) (c e : Int), at' ≤ l.length → writtenF l rs is at' form cost = some (f, c, e) → at' ≤ e ∧ e ≤ l.length ∧ 0 ≤ c - cost ∧ c - cost ≤ 1000 * (e - at')
  | [], at', form, cost, f, c, e, ha, h => by
    simp only [writtenF, Option.some.injEq, Prod.mk.injEq] at h
    obtain ⟨-, rfl, rfl⟩ := h
    omega
  | i :: is, at', form, cost, f, c, e, ha, h => by
    unfold writtenF at h
    cases hfd : rs.find? (fun r => decide (r.index = i)) with
    | none => rw [hfd] at h; cases h
    | some r =>
      rw [hfd] at h
      simp only [Option.ite_none_right_eq_some] at h
      obtain ⟨hfit, h⟩ := h
      have hm := List.mem_of_find?_eq_some hfd
      have h1 := hf r hm
      have h2 := hc r hm
      unfold afits at hfit
      simp only [Bool.and_eq_true, decide_eq_true_eq] at hfit
      have := writtenF_range hf hc is _ _ _ f c e hfit.1 h
      omega

theorem written_range {l : List Str} {rs : List ARule} (hf : ∀ r ∈ rs, 0 < r.frm.length) (hc : ∀ r ∈ rs, 0 ≤ r.cost ∧ r.cost ≤ 1000) (hl : l.length ≤ 12) (is : List Int) : 0 ≤ (Pl.written l rs is).2.1 ∧ (Pl.written l rs is).2.1 ≤ 12000 := by
  unfold Pl.written
  cases h : writtenF l rs is 0 [] 0 with
  | none => simp
  | some u =>
    obtain ⟨f, c, e⟩ := u
    have := writtenF_range hf hc is 0 [] 0 f c e (by omega) h
    simp only
    omega

set_option maxRecDepth 100000 in
set_option maxHeartbeats 4000000 in
theorem acheck_any (N : Nat) (v vd : Value) (t : Table) (a : Int) (x : ByteArray) (b : Int) (y : ByteArray) (d : Deriv) (w : World) (hv : TabAt N w v t) (hd : DerivAt N w vd d) (hr9 : t.rules.length ≤ 10000) (hx : x.size < 35184372088832) (hy : y.size < 35184372088832) (hN : N ≤ w.heap.size) (hT : Tabs N w) :
    Calls Tryz.prog 21 #[v, .int .i64 a, .string x, .int .i64 b, .string y, vd] w fun e w' => e = .returned (.bool (ACheck t a x.data.toList b y.data.toList d)) ∧ Ext none' w w' := by
  have hv0 := Lib.hid hv
  obtain ⟨vr, vd', ve, rfl, hr, hd', he, hgood⟩ := hv
  obtain ⟨ra, rc, rfl, -⟩ := hr
  obtain ⟨da, dc, rfl, -⟩ := hd'
  obtain ⟨ea, ec, rfl, -⟩ := he
  obtain ⟨dl, dr, rfl, hdl, hdr⟩ := hd
  have HDL := Lib.hid hdl
  have HDR := Lib.hid hdr
  obtain ⟨dla, dlc, rfl, -⟩ := hdl
  obtain ⟨dra, drc, rfl, -⟩ := hdr
  obtain ⟨w0, hw0⟩ : ∃ w0, w0 = (w.alloc (.cells #[.slice ra t.rules.length rc, .slice da t.drops.length dc, .slice ea t.ends.length ec, .int .i64 t.drop, .int .i64 t.order, .int .i64 t.initial] 25)).alloc (.cells #[.int .i64 d.cost, .slice dla d.left.length dlc, .slice dra d.right.length drc, .string ⟨d.form.toArray⟩] 47) := ⟨_, rfl⟩
  have E0 : Ext none' w w0 := by rw [hw0]; exact ((Ext.refl none' w).alloc _).alloc _
  have s0 : w0.heap.size = w.heap.size + 2 := by rw [hw0]; simp
  have kT0 : w0.heap[w.heap.size]? = some (.cells #[.slice ra t.rules.length rc, .slice da t.drops.length dc, .slice ea t.ends.length ec, .int .i64 t.drop, .int .i64 t.order, .int .i64 t.initial] 25) := by rw [hw0]; exact keepAt (newAt _ rfl) _
  have kD0 : w0.heap[w.heap.size + 1]? = some (.cells #[.int .i64 d.cost, .slice dla d.left.length dlc, .slice dra d.right.length drc, .string ⟨d.form.toArray⟩] 47) := by rw [hw0]; exact newAt _ (by simp)
  have op := open_any N _ t a x b y w0 (hv0.out.keep (E0.same0 hN)) hr9 hx hy (Nat.le_trans hN E0.size) (hT.keep (E0.same0 hN))
  have OP := Lib.hid op
  have HW0 := Lib.hid hw0
  have q0 := cellAt kT0 0 rfl
  have q1 := cellAt kT0 1 rfl
  have q2 := cellAt kT0 2 rfl
  have q3 := cellAt kT0 3 rfl
  have q4 := cellAt kT0 4 rfl
  have q5 := cellAt kT0 5 rfl
  clear op hw0
  obtain ⟨res, hres⟩ : ∃ res, res = ACheck t a x.data.toList b y.data.toList d := ⟨_, rfl⟩
  rw [← hres]
  have HRES := Lib.hid hres
  have S0 := Lib.hid s0
  clear hres s0
  go_enter Tryz.func21, Tryz.ntmps21
  go_upto_region 1 with fail
  rw [← HW0.out]
  go_wp2_with fail
  clear q0 q1 q2 q3 q4 q5
  refine OP.out.mono ?_
  rintro e w1 ⟨l1, r1, l2, r2, n1, c1, m1, d1, n2, c2, m2, d2, rfl, hwords, E1⟩
  obtain ⟨wA, hwA⟩ : ∃ wA, wA = w1.alloc (.cells #[.slice l1 n1 c1, .slice r1 m1 d1, .slice l2 n2 c2, .slice r2 m2 d2] 89) := ⟨_, rfl⟩
  have EA : Ext none' w1 wA := by rw [hwA]; exact (Ext.refl none' w1).alloc _
  have kwA : wA.heap[w1.heap.size]? = some (.cells #[.slice l1 n1 c1, .slice r1 m1 d1, .slice l2 n2 c2, .slice r2 m2 d2] 89) := by rw [hwA]; exact newAt _ rfl
  have zA : wA.heap.size = w1.heap.size + 1 := by rw [hwA]; simp
  have kDA : wA.heap[w.heap.size + 1]? = some (.cells #[.int .i64 d.cost, .slice dla d.left.length dlc, .slice dra d.right.length drc, .string ⟨d.form.toArray⟩] 47) := ((E1.trans EA).same _ (by have := S0.out; omega) (fun h => h)).trans kD0
  have HWA := Lib.hid hwA
  have ZA := Lib.hid zA
  have E0A : Ext none' w wA := E0.trans (E1.trans EA)
  have y1 := (E0.trans E1).size
  clear hwA zA kD0 kT0
  go_upto_region 2 with fail
  rw [← HWA.out]
  cases htwo : two t a x.data.toList b y.data.toList with
  | none =>
    have hr := HRES.out
    unfold ACheck at hr
    rw [htwo] at hr
    have HR := Lib.hid hr
    clear hr htwo
    go_wp2_with fail
    go_ret
    exact ⟨by rw [HR.out]; rfl, E0A⟩
  | some p =>
    have hoA := two_align htwo
    have hc := two_costs htwo
    have hfm := two_forms htwo
    have hwd := (hwords p htwo).keep (EA.same0 (Nat.le_refl _))
    have hr := HRES.out
    unfold ACheck at hr
    rw [htwo] at hr
    have HR := Lib.hid hr
    obtain ⟨u1, u2, u3, u4, hu, g1, g2, g3, g4⟩ := hwd
    simp only [Value.agg.injEq, Array.mk.injEq, List.cons.injEq] at hu
    obtain ⟨rfl, rfl, rfl, rfl, -⟩ := hu
    have ca : ∀ r ∈ p.words.la, 0 ≤ r.cost ∧ r.cost ≤ 1000 := sideRules_cost _ _ hc
    have cb : ∀ r ∈ p.words.ma, 0 ≤ r.cost ∧ r.cost ≤ 1000 := sideRules_cost _ _ hc
    have ta : ∀ r ∈ p.words.la, r.to.length ≤ 3 := sideRules_to _ _ (fun q hq => (hfm q hq).1)
    have tb : ∀ r ∈ p.words.ma, r.to.length ≤ 3 := sideRules_to _ _ (fun q hq => (hfm q hq).1)
    have wa := written_any wA.heap.size _ _ _ p.words.l p.words.la d.left wA (g1.up EA.size) (g2.up EA.size) ((HDL.out.keep (E0A.same0 hN)).up (Nat.le_trans hN E0A.size)) hoA.words.l hoA.words.la ca ta (Nat.le_refl _)
    have ra1 := written_range (fun r hr => (hoA.words.la r hr).1) ca hoA.words.l.2 d.left
    have rb1 := written_range (fun r hr => (hoA.words.ma r hr).1) cb hoA.words.m.2 d.right
    obtain ⟨⟨fa, ka, oka⟩, hua⟩ : ∃ u, u = Pl.written p.words.l p.words.la d.left := ⟨_, rfl⟩
    obtain ⟨⟨fb, kb, okb⟩, hub⟩ : ∃ u, u = Pl.written p.words.m p.words.ma d.right := ⟨_, rfl⟩
    rw [← hua] at wa ra1
    rw [← hub] at rb1
    have WA := Lib.hid wa
    have HUB := Lib.hid hub
    have HUA := Lib.hid hua
    have q0 : wA.cell? ⟨w1.heap.size, 0, none⟩ = some (.slice l1 n1 c1) := cellAt kwA 0 rfl
    have q1 : wA.cell? ⟨w1.heap.size, 1, none⟩ = some (.slice r1 m1 d1) := cellAt kwA 1 rfl
    have x1 : wA.cell? ⟨w.heap.size + 1, 1, none⟩ = some (.slice dla d.left.length dlc) := cellAt kDA 1 rfl
    clear hr htwo hwords hua hub wa
    go_wp2_with fail
    refine WA.out.mono ?_
    rintro e w2 ⟨rfl, E2⟩
    clear q0 q1 x1
    have wb := written_any w2.heap.size _ _ _ p.words.m p.words.ma d.right w2 ((g3.keep (E2.same0 EA.size)).up (EA.trans E2).size) ((g4.keep (E2.same0 EA.size)).up (EA.trans E2).size) ((HDR.out.keep ((E0A.trans E2).same0 hN)).up (Nat.le_trans hN (E0A.trans E2).size)) hoA.words.m hoA.words.ma cb tb (Nat.le_refl _)
    rw [← HUB.out] at wb
    have WB := Lib.hid wb
    clear wb
    have kw2 : w2.heap[w1.heap.size]? = some (.cells #[.slice l1 n1 c1, .slice r1 m1 d1, .slice l2 n2 c2, .slice r2 m2 d2] 89) := (E2.same _ (by have := ZA.out; omega) (fun h => h)).trans kwA
    have kD2 : w2.heap[w.heap.size + 1]? = some (.cells #[.int .i64 d.cost, .slice dla d.left.length dlc, .slice dra d.right.length drc, .string ⟨d.form.toArray⟩] 47) := (E2.same _ (Array.getElem?_eq_some_iff.1 kDA).1 (fun h => h)).trans kDA
    have q2 : w2.cell? ⟨w1.heap.size, 2, none⟩ = some (.slice l2 n2 c2) := cellAt kw2 2 rfl
    have q3 : w2.cell? ⟨w1.heap.size, 3, none⟩ = some (.slice r2 m2 d2) := cellAt kw2 3 rfl
    have x2 : w2.cell? ⟨w.heap.size + 1, 2, none⟩ = some (.slice dra d.right.length drc) := cellAt kD2 2 rfl
    go_wp2_with fail
    refine WB.out.mono ?_
    rintro e w3 ⟨rfl, E3⟩
    clear q2 q3 x2
    have kD3 : w3.heap[w.heap.size + 1]? = some (.cells #[.int .i64 d.cost, .slice dla d.left.length dlc, .slice dra d.right.length drc, .string ⟨d.form.toArray⟩] 47) := (E3.same _ (Array.getElem?_eq_some_iff.1 kD2).1 (fun h => h)).trans kD2
    have x0 : w3.cell? ⟨w.heap.size + 1, 0, none⟩ = some (.int .i64 d.cost) := cellAt kD3 0 rfl
    have x3 : w3.cell? ⟨w.heap.size + 1, 3, none⟩ = some (.string ⟨d.form.toArray⟩) := cellAt kD3 3 rfl
    have hw : IntKind.i64.wrap (ka + kb) = ka + kb := wrap_of (by omega) (by omega)
    have hE := E0A.trans (E2.trans E3)
    have hres : res = (oka && okb && decide (fa = d.form) && decide (fb = d.form) && decide (ka + kb = d.cost)) := by
      rw [HR.out, ← HUA.out, ← HUB.out]
    have HRS := Lib.hid hres
    clear hres
    cases oka with
    | false =>
      go_wp2_with fail
      go_ret
      exact ⟨by rw [HRS.out]; rfl, hE⟩
    | true =>
      cases okb with
      | false =>
        go_wp2_with fail
        go_ret
        exact ⟨by rw [HRS.out]; rfl, hE⟩
      | true =>
        by_cases h1 : fa = d.form
        · by_cases h2 : fb = d.form
          · have HRS2 := HRS.out
            rw [decide_eq_true h1, decide_eq_true h2] at HRS2
            have HRS := Lib.hid HRS2
            clear HRS2
            subst h1
            subst h2
            go_wp2_with fail
            go_ret
            refine ⟨?_, hE⟩
            rw [HRS.out]
            rfl
          · have H1 := Lib.hid h1
            have H2 := Lib.hid h2
            go_wp2_with fail
            go_ret
            refine ⟨?_, hE⟩
            rw [HRS.out, decide_eq_true H1.out, decide_eq_false H2.out]
            rfl
        · have H1 := Lib.hid h1
          go_wp2_with fail
          go_ret
          refine ⟨?_, hE⟩
          rw [HRS.out, decide_eq_false H1.out]
          rfl
end Go.Proofs.Kb
