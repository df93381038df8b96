/- Package rewrite: Valid. -/
import Derived.Test.YthkpgnhjnpcjgaaGreatDoorValid
namespace Go.Proofs.Kb
open Go Go.RowKit Go.Lib Pl
attribute [local go_sem] Oper.semAt_some run_makeMap

structure GoodTable (t : Table) : Prop where
  rules : ∀ r ∈ t.rules, goodRule r
  drops : ∀ d ∈ t.drops, goodDrop d
  ends : ∀ d ∈ t.ends, goodDrop d

/-- v is the table t, its slices in blocks below N -/
def TabAt (N : Nat) (w : World) (v : Value) (t : Table) : Prop :=
  ∃ vr vd ve, v = .agg #[vr, vd, ve, .int .i64 t.drop, .int .i64 t.order, .int .i64 t.initial] ∧ SlAt 4 encRule N w vr t.rules ∧ SlAt 3 encDrop N w vd t.drops ∧ SlAt 3 encDrop N w ve t.ends ∧ GoodTable t

theorem TabAt.keep {N : Nat} {w w' : World} {v : Value} {t : Table} (h : TabAt N w v t) (hs : Same N w w') : TabAt N w' v t := by
  obtain ⟨vr, vd, ve, rfl, h1, h2, h3, h4⟩ := h
  exact ⟨vr, vd, ve, rfl, h1.keep hs, h2.keep hs, h3.keep hs, h4⟩

theorem cell_putObj_other {w : World} {a : Addr} (b : Nat) (o : Obj) (h : a.block ≠ b) : (w.putObj b o).cell? a = w.cell? a := by
  unfold World.cell?
  rw [World.putObj_heap_other (by first | exact h | exact fun e => h e.symm)]

set_option maxRecDepth 100000 in
set_option maxHeartbeats 2000000 in
theorem valid_any (N : Nat) (v : Value) (t : Table) (w : World) (hv : TabAt N w v t) (hN : N ≤ w.heap.size) (hT : Tabs N w) :
    Calls Tryz.prog 46 #[v] w fun e w' => e = .returned (.bool (Valid t)) ∧ Ext none' w w' := by
  obtain ⟨vr, vd, ve, rfl, hr, hd, he, ⟨gr, gd, ge⟩⟩ := hv
  obtain ⟨a, cap, rfl, hc, hm, hr⟩ := hr
  have hlen : t.rules.length ≤ 9223372036854775807 := by unfold maxLen at hm; omega
  have hd0 := hd
  have he0 := he
  obtain ⟨da, dcap, rfl, hdm⟩ := hd
  obtain ⟨ea, ecap, rfl, hem⟩ := he
  have HD0 := Lib.hid hd0
  have HE0 := Lib.hid he0
  clear hd0 he0 hdm hem
  have EX0 := (Ext.refl none' w).alloc (.cells #[.slice a t.rules.length cap, .slice da t.drops.length dcap, .slice ea t.ends.length ecap, .int .i64 t.drop, .int .i64 t.order, .int .i64 t.initial] 25)
  by_cases h1 : t.rules.length = 0
  · have HR := Lib.hid (show Valid t = false by simp [Valid, h1])
    clear hr
    rw [h1] at EX0
    go_enter Tryz.func46, Tryz.ntmps46
    go_wp2_with fail
    go_ret
    exact ⟨ret_bool HR.out.symm, EX0⟩
  by_cases h2 : 80 < t.rules.length
  · have HR := Lib.hid (show Valid t = false by simp [Valid, h2])
    clear hr
    go_enter Tryz.func46, Tryz.ntmps46
    go_wp2_with fail
    go_ret
    exact ⟨ret_bool HR.out.symm, EX0⟩
  have k1 : ((t.rules.length : Int) == 0) = false := by
    rw [beq_eq_false_iff_ne]
    omega
  have k2 : decide (80 < (t.rules.length : Int)) = false := decide_eq_false (by omega)
  cases h3 : isCost t.drop with
  | false =>
    have HR := Lib.hid (show Valid t = false by simp [Valid, h3])
    clear hr
    go_enter Tryz.func46, Tryz.ntmps46
    go_wp2_with (go_at_call 73; refine (isCost_any _ _).mono ?_; rintro e w4 ⟨rfl, hw4⟩; rw [hw4]; clear hw4; rw [h3])
    go_ret
    exact ⟨ret_bool HR.out.symm, EX0⟩
  | true =>
    cases h4 : isCost t.order with
    | false =>
      have HR := Lib.hid (show Valid t = false by simp [Valid, h4])
      clear hr
      go_enter Tryz.func46, Tryz.ntmps46
      go_wp2_with (go_at_call 73; refine (isCost_any _ _).mono ?_; rintro e w4 ⟨rfl, hw4⟩; rw [hw4]; clear hw4; first | rw [h3] | rw [h4])
      go_ret
      exact ⟨ret_bool HR.out.symm, EX0⟩
    | true =>
      cases h5 : isCost t.initial with
      | false =>
        have HR := Lib.hid (show Valid t = false by simp [Valid, h5])
        clear hr
        go_enter Tryz.func46, Tryz.ntmps46
        go_wp2_with (go_at_call 73; refine (isCost_any _ _).mono ?_; rintro e w4 ⟨rfl, hw4⟩; rw [hw4]; clear hw4; first | rw [h3] | rw [h4] | rw [h5])
        go_ret
        exact ⟨ret_bool HR.out.symm, EX0⟩
      | true =>
        have hval : Valid t = (apart Rule.key ruleOk [] t.rules && (dropsOk t.drops 12 && dropsOk t.ends 4)) := by
          unfold Valid
          rw [h3, h4, h5, decide_eq_false h1, decide_eq_false h2]
          rfl
        have HVAL := Lib.hid hval
        clear hval
        go_enter Tryz.func46, Tryz.ntmps46
        go_wp2_with (go_at_call 73; refine (isCost_any _ _).mono ?_; rintro e w4 ⟨rfl, hw4⟩; rw [hw4]; clear hw4; first | rw [h3] | rw [h4] | rw [h5])
        have hM0 := MapAt.new encKey (fun b : Bool => .bool b) (w.alloc (.cells #[.slice a t.rules.length cap, .slice da t.drops.length dcap, .slice ea t.ends.length ecap, .int .i64 t.drop, .int .i64 t.order, .int .i64 t.initial] 25))
        rw [World.size_alloc] at hM0
        have EX1 := EX0.alloc (.map #[] 0)
        go_loopw [39] (fun i wr => ∃ j : Nat, i = .int .i64 j ∧ j ≤ t.rules.length ∧ Ext none' w wr ∧ w.heap.size + 1 < wr.heap.size ∧ MapAt encKey (fun b : Bool => .bool b) wr (w.heap.size + 1) (seenMap ((t.rules.take j).map Rule.key)) ∧
            wr.cell? ⟨w.heap.size, 1, none⟩ = some (.slice da t.drops.length dcap) ∧ wr.cell? ⟨w.heap.size, 2, none⟩ = some (.slice ea t.ends.length ecap) ∧
            apart Rule.key ruleOk [] t.rules = apart Rule.key ruleOk ((t.rules.take j).map Rule.key) (t.rules.drop j)) (fun i _ => t.rules.length - (intOf i).toNat)
        case atStart =>
          exact ⟨0, rfl, by omega, EX1, by simp, hM0, by go_simp, by go_simp, rfl⟩
        case round =>
          obtain ⟨j, rfl, hj, hE, hsz, hM, hf1, hf2, hA⟩ := hrel
          by_cases hjl : j < t.rules.length
          · obtain ⟨d, hd⟩ : ∃ d, t.rules[j]? = some d := ⟨_, List.getElem?_eq_getElem hjl⟩
            obtain ⟨b, o, rfl, hb, hcell⟩ := hr (by intro e; rw [e] at hjl; simp at hjl)
            have hS : Same N w wr := hE.same0 hN
            have c0 : wr.cell? ⟨b, o + j * 4, none⟩ = some (.int .i64 d.script) := (hS.cell (a := ⟨b, _, none⟩) hb).trans (hcell j d hd 0 _ rfl)
            have c1 : wr.cell? ⟨b, o + j * 4 + 1, none⟩ = some (.string ⟨d.frm.toArray⟩) := (hS.cell (a := ⟨b, _, none⟩) hb).trans (hcell j d hd 1 _ rfl)
            have c2 : wr.cell? ⟨b, o + j * 4 + 2, none⟩ = some (.string ⟨d.to.toArray⟩) := (hS.cell (a := ⟨b, _, none⟩) hb).trans (hcell j d hd 2 _ rfl)
            have c3 : wr.cell? ⟨b, o + j * 4 + 3, none⟩ = some (.int .i64 d.cost) := (hS.cell (a := ⟨b, _, none⟩) hb).trans (hcell j d hd 3 _ rfl)
            have hdg := gr d (List.mem_of_getElem? hd)
            have hdrop : t.rules.drop j = d :: t.rules.drop (j + 1) := by
              rw [List.drop_eq_getElem_cons hjl]
              rw [List.getElem?_eq_getElem hjl] at hd
              cases hd
              rfl
            have htake : t.rules.take (j + 1) = t.rules.take j ++ [d] := by rw [List.take_add_one, hd]; rfl
            have HA := Lib.hid hA
            have HD := Lib.hid hdrop
            have HK := Lib.hid htake
            have HC := Lib.hid hcell
            clear hA hdrop htake hcell hr
            have hT1 := hT.keep hS
            have hM2 : MapAt encKey (fun b : Bool => .bool b) ((wr.alloc (.cells #[.int .i64 d.script, .string ⟨d.frm.toArray⟩, .string ⟨d.to.toArray⟩, .int .i64 d.cost] 41)).alloc (.cells #[.int .i64 d.script, .string ⟨d.frm.toArray⟩, .string ⟨d.to.toArray⟩] 142)) (w.heap.size + 1) (seenMap ((t.rules.take j).map Rule.key)) :=
              (((Ext.refl none' wr).alloc _).alloc _).map0 hM
            have hgood : ∀ e ∈ seenMap ((t.rules.take j).map Rule.key), goodKey e.1 := by
              intro e he
              obtain ⟨k, hk, rfl⟩ := List.mem_map.1 he
              obtain ⟨x, hx, rfl⟩ := List.mem_map.1 hk
              exact (gr x (List.mem_of_mem_take hx)).key
            have hlk := hM2.lookup key_keys Tryz.underlying140 (zero_bool _) hgood hdg.key false
            rw [seen_get] at hlk
            simp only [encKey, encS, Rule.key, Bool.false_eq_true, if_false] at hlk
            have hk8 : d.key = ⟨d.script, d.frm, d.to⟩ := rfl
            rw [← hk8] at hlk
            have hE2 := (((Ext.refl none' wr).alloc (.cells #[.int .i64 d.script, .string ⟨d.frm.toArray⟩, .string ⟨d.to.toArray⟩, .int .i64 d.cost] 41)).alloc (.cells #[.int .i64 d.script, .string ⟨d.frm.toArray⟩, .string ⟨d.to.toArray⟩] 142))
            have happ : apart Rule.key ruleOk [] t.rules = (!(((t.rules.take j).map Rule.key).contains d.key) && ruleOk d && apart Rule.key ruleOk ((t.rules.take j).map Rule.key ++ [d.key]) (t.rules.drop (j + 1))) := by rw [HA.out, HD.out]; rfl
            have q : ∀ w3, Ext none' ((wr.alloc (.cells #[.int .i64 d.script, .string ⟨d.frm.toArray⟩, .string ⟨d.to.toArray⟩, .int .i64 d.cost] 41)).alloc (.cells #[.int .i64 d.script, .string ⟨d.frm.toArray⟩, .string ⟨d.to.toArray⟩] 142)) w3 →
                w3.cell? ⟨wr.heap.size, 2, none⟩ = some (.string ⟨d.to.toArray⟩) ∧ w3.cell? ⟨wr.heap.size, 3, none⟩ = some (.int .i64 d.cost) ∧ w3.cell? ⟨wr.heap.size + 1, 0, none⟩ = some (.int .i64 d.script) ∧ w3.cell? ⟨wr.heap.size + 1, 1, none⟩ = some (.string ⟨d.frm.toArray⟩) ∧ w3.cell? ⟨wr.heap.size + 1, 2, none⟩ = some (.string ⟨d.to.toArray⟩) := fun w3 h3 =>
              ⟨h3.cell0 (by go_simp) (by simp; omega), h3.cell0 (by go_simp) (by simp; omega), h3.cell0 (by go_simp) (by simp), h3.cell0 (by go_simp) (by simp), h3.cell0 (by go_simp) (by simp)⟩
            cases hsb : ((t.rules.take j).map Rule.key).contains d.key with
            | true =>
              rw [hsb] at hlk happ
              have hres : Valid t = false := by rw [HVAL.out, happ]; rfl
              have HR := Lib.hid hres
              clear hres happ hsb hM2
              go_wp2_with fail
              go_ret
              exact ⟨ret_bool HR.out.symm, hE.trans hE2⟩
            | false =>
              rw [hsb] at hlk happ
              cases hfb : folded d.script d.frm 3 with
              | false =>
                have hres : Valid t = false := by rw [HVAL.out, happ, ruleOk, hfb]; simp
                have HR := Lib.hid hres
                have HF := Lib.hid hfb
                clear hres happ hsb hM2 hfb
                go_wp2_with fail
                refine (folded_any N _ _ _ _ (by exact hdg.2.1) (Nat.le_trans (Nat.le_trans hN hE.size) hE2.size) (hT1.keep (hE2.same0 (Nat.le_trans hN hE.size)))).mono ?_
                rintro e w3 ⟨rfl, hE3⟩
                rw [show folded d.script (⟨d.frm.toArray⟩ : ByteArray).data.toList 3 = false from HF.out]
                go_wp2_with fail
                go_ret
                exact ⟨ret_bool HR.out.symm, hE.trans (hE2.trans hE3)⟩
              | true =>
                cases hob : isForm d.to with
                | false =>
                  have hres : Valid t = false := by rw [HVAL.out, happ, ruleOk, hfb, hob]; simp
                  have HR := Lib.hid hres
                  have HF := Lib.hid hfb
                  have HO := Lib.hid hob
                  clear hres happ hsb hM2 hfb hob
                  go_wp2_with fail
                  refine (folded_any N _ _ _ _ (by exact hdg.2.1) (Nat.le_trans (Nat.le_trans hN hE.size) hE2.size) (hT1.keep (hE2.same0 (Nat.le_trans hN hE.size)))).mono ?_
                  rintro e w3 ⟨rfl, hE3⟩
                  rw [show folded d.script (⟨d.frm.toArray⟩ : ByteArray).data.toList 3 = true from HF.out]
                  obtain ⟨q0, q4, q1, q2, q3⟩ := q w3 hE3
                  go_wp2_with fail
                  refine (isForm_any _ _ (by exact hdg.2.2)).mono ?_
                  rintro e w5 ⟨rfl, hE5⟩
                  rw [show isForm (⟨d.to.toArray⟩ : ByteArray).data.toList = false from HO.out]
                  go_wp2_with fail
                  go_ret
                  exact ⟨ret_bool HR.out.symm, hE.trans (hE2.trans (hE3.trans hE5))⟩
                | true =>
                  cases hcb : isCost d.cost with
                  | false =>
                    have hres : Valid t = false := by rw [HVAL.out, happ, ruleOk, hfb, hob, hcb]; simp
                    have HR := Lib.hid hres
                    have HF := Lib.hid hfb
                    have HO := Lib.hid hob
                    have HC2 := Lib.hid hcb
                    clear hres happ hsb hM2 hfb hob hcb
                    go_wp2_with fail
                    refine (folded_any N _ _ _ _ (by exact hdg.2.1) (Nat.le_trans (Nat.le_trans hN hE.size) hE2.size) (hT1.keep (hE2.same0 (Nat.le_trans hN hE.size)))).mono ?_
                    rintro e w3 ⟨rfl, hE3⟩
                    rw [show folded d.script (⟨d.frm.toArray⟩ : ByteArray).data.toList 3 = true from HF.out]
                    obtain ⟨q0, q4, q1, q2, q3⟩ := q w3 hE3
                    go_wp2_with fail
                    refine (isForm_any _ _ (by exact hdg.2.2)).mono ?_
                    rintro e w5 ⟨rfl, hE5⟩
                    rw [show isForm (⟨d.to.toArray⟩ : ByteArray).data.toList = true from HO.out]
                    obtain ⟨p0, p4, p1, p2, p3⟩ := q w5 (hE3.trans hE5)
                    clear q0 q1 q2 q3 q4
                    go_wp2_with fail
                    refine (isCost_any _ _).mono ?_
                    rintro e w6 ⟨rfl, hw6⟩
                    rw [hw6]
                    clear hw6
                    rw [HC2.out]
                    go_wp2_with fail
                    go_ret
                    exact ⟨ret_bool HR.out.symm, hE.trans (hE2.trans (hE3.trans hE5))⟩
                  | true =>
                    have hA2 : apart Rule.key ruleOk [] t.rules = apart Rule.key ruleOk ((t.rules.take (j + 1)).map Rule.key) (t.rules.drop (j + 1)) := by
                      rw [happ, HK.out, List.map_append, ruleOk, hfb, hob, hcb]; simp
                    have HA2 := Lib.hid hA2
                    have HF := Lib.hid hfb
                    have HO := Lib.hid hob
                    have HC2 := Lib.hid hcb
                    have HSB := Lib.hid hsb
                    clear happ hsb hfb hob hcb hA2
                    go_wp2_with fail
                    refine (folded_any N _ _ _ _ (by exact hdg.2.1) (Nat.le_trans (Nat.le_trans hN hE.size) hE2.size) (hT1.keep (hE2.same0 (Nat.le_trans hN hE.size)))).mono ?_
                    rintro e w3 ⟨rfl, hE3⟩
                    rw [show folded d.script (⟨d.frm.toArray⟩ : ByteArray).data.toList 3 = true from HF.out]
                    obtain ⟨q0, q4, q1, q2, q3⟩ := q w3 hE3
                    go_wp2_with fail
                    refine (isForm_any _ _ (by exact hdg.2.2)).mono ?_
                    rintro e w5 ⟨rfl, hE5⟩
                    rw [show isForm (⟨d.to.toArray⟩ : ByteArray).data.toList = true from HO.out]
                    obtain ⟨p0, p4, p1, p2, p3⟩ := q w5 (hE3.trans hE5)
                    clear q0 q1 q2 q3 q4
                    go_wp2_with fail
                    refine (isCost_any _ _).mono ?_
                    rintro e w6 ⟨rfl, hw6⟩
                    rw [hw6]
                    clear hw6
                    rw [HC2.out]
                    have hM3 := (hE3.trans hE5).map0 hM2
                    have hup := hM3.update key_keys Tryz.underlying140 hgood hdg.key true
                    have hM4 := hM3.put d.key true
                    rw [seen_put _ _ HSB.out, ← show (t.rules.take (j + 1)).map Rule.key = (t.rules.take j).map Rule.key ++ [d.key] by rw [HK.out, List.map_append]; rfl] at hup hM4
                    simp only [encKey, encS, hk8] at hup
                    have hE6 := hE.trans (hE2.trans (hE3.trans hE5))
                    have hEp : Ext none' w (w5.putObj (w.heap.size + 1) (mobj encKey (fun b : Bool => .bool b) (seenMap ((t.rules.take (j + 1)).map Rule.key)))) := hE6.putObj _ _ (.inl (Nat.le_succ _))
                    have hs3 := (hE2.trans (hE3.trans hE5)).size
                    have g1 : (w5.putObj (w.heap.size + 1) (mobj encKey (fun b : Bool => .bool b) (seenMap ((t.rules.take (j + 1)).map Rule.key)))).cell? ⟨w.heap.size, 1, none⟩ = some (.slice da t.drops.length dcap) := by
                      rw [cell_putObj_other _ _ (by simp)]
                      exact (hE2.trans (hE3.trans hE5)).cell0 hf1 (by simp; omega)
                    have g2 : (w5.putObj (w.heap.size + 1) (mobj encKey (fun b : Bool => .bool b) (seenMap ((t.rules.take (j + 1)).map Rule.key)))).cell? ⟨w.heap.size, 2, none⟩ = some (.slice ea t.ends.length ecap) := by
                      rw [cell_putObj_other _ _ (by simp)]
                      exact (hE2.trans (hE3.trans hE5)).cell0 hf2 (by simp; omega)
                    clear hlk hM2 hM3 hM
                    rw [List.map_take] at hup hM4 hEp g1 g2
                    go_wp2_with fail
                    refine ⟨⟨j + 1, rfl, by omega, hEp, by simp; omega, by rw [List.map_take]; exact hM4, g1, g2, HA2.out⟩, ?_⟩
                    simp only [intOf]
                    omega
          · obtain rfl : j = t.rules.length := by omega
            have hval : Valid t = (dropsOk t.drops 12 && dropsOk t.ends 4) := by rw [HVAL.out, hA, List.drop_length]; simp [apart]
            have HR := Lib.hid hval
            clear hA hval hM hr
            have hS : Same N w wr := hE.same0 hN
            cases hdb : dropsOk t.drops 12 with
            | false =>
              have HB := Lib.hid hdb
              clear hdb
              go_wp2_with fail
              refine (checkDrops_any N _ t.drops 12 wr (HD0.out.keep hS) gd (Nat.le_trans hN hE.size) (hT.keep hS)).mono ?_
              rintro e w3 ⟨rfl, hE3⟩
              rw [HB.out]
              go_wp2_with fail
              go_ret
              exact ⟨ret_bool (by rw [HR.out, HB.out]; rfl), hE.trans hE3⟩
            | true =>
              have HB := Lib.hid hdb
              clear hdb
              go_wp2_with fail
              refine (checkDrops_any N _ t.drops 12 wr (HD0.out.keep hS) gd (Nat.le_trans hN hE.size) (hT.keep hS)).mono ?_
              rintro e w3 ⟨rfl, hE3⟩
              rw [HB.out]
              have hf3 := hE3.cell0 hf2 (by simp; omega)
              have hS3 : Same N w w3 := (hE.trans hE3).same0 hN
              go_wp2_with fail
              refine (checkDrops_any N _ t.ends 4 w3 (HE0.out.keep hS3) ge (Nat.le_trans hN (hE.trans hE3).size) (hT.keep hS3)).mono ?_
              rintro e w4 ⟨rfl, hE4⟩
              go_wp2_with fail
              go_ret
              exact ⟨ret_bool (by rw [HR.out, HB.out]; rfl), hE.trans (hE3.trans hE4)⟩
end Go.Proofs.Kb
