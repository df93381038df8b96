/- The law PotentialFewer, for every argument: it answers true. -/
import Derived.Test.YthkpgnhjnpcjgaaGreatDoorRow
namespace Go.Proofs.Kb
open Go Go.RowKit Go.Lib Pl
attribute [local go_sem] Oper.semAt_some run_makeMap

set_option maxRecDepth 100000 in
set_option maxHeartbeats 8000000 in
theorem fewer_law (N : Nat) (vt vl : Value) (t : Table) (a : Int) (x : ByteArray) (b : Int) (y : ByteArray) (bound : Int) (l : List Pot) (raw : Int) (w : World) (hv : TabRaw N w vt t) (hl : SlAt 5 encPot N w vl l) (hit : IntsT t) (hil : IntsL l) (hraw : 0 ≤ raw ∧ raw ≤ 255)
    (hN : N ≤ w.heap.size) (hT : Tabs N w) :
    Calls Tryz.prog 5 #[vt, .int .i64 a, .string x, .int .i64 b, .string y, .int .i64 bound, vl, .int .u8 raw] w fun e w' => e = .returned (.bool true) ∧ Ext none' w w' := by
  have hv0 := Lib.hid hv
  have hl0 := Lib.hid hl
  obtain ⟨vr, vd, ve, rfl, hr, hd, he⟩ := hv
  obtain ⟨ra, rc, rfl, -⟩ := hr
  obtain ⟨da, dc, rfl, -⟩ := hd
  obtain ⟨ea, ec, rfl, -⟩ := he
  obtain ⟨la, lc, rfl, -⟩ := hl
  obtain ⟨w0, hw0⟩ : ∃ w0, w0 = w.alloc (.cells #[.slice ra t.rules.length rc, .slice da t.drops.length dc, .slice ea t.ends.length ec, .int .i64 t.drop, .int .i64 t.order, .int .i64 t.initial] 25) := ⟨_, rfl⟩
  have hE0 : Ext none' w w0 := by rw [hw0]; exact (Ext.refl _ w).alloc _
  have k0 : w0.heap[w.heap.size]? = some (.cells #[.slice ra t.rules.length rc, .slice da t.drops.length dc, .slice ea t.ends.length ec, .int .i64 t.drop, .int .i64 t.order, .int .i64 t.initial] 25) := by rw [hw0]; exact heapNew _ rfl
  have cell : ∀ W, Ext none' w0 W → ∀ (i : Nat) (v : Value), (#[.slice ra t.rules.length rc, .slice da t.drops.length dc, .slice ea t.ends.length ec, .int .i64 t.drop, .int .i64 t.order, .int .i64 t.initial] : Array Value)[i]? = some v → W.cell? ⟨w.heap.size, i, none⟩ = some v :=
    fun W h i v hv => cellAt ((h.same _ (Array.getElem?_eq_some_iff.1 k0).1 (fun h => h)).trans k0) i hv
  have CELL := Lib.hid cell
  have raw : ∀ W, Ext none' w0 W → TabRaw N W (.agg #[.slice ra t.rules.length rc, .slice da t.drops.length dc, .slice ea t.ends.length ec, .int .i64 t.drop, .int .i64 t.order, .int .i64 t.initial]) t := fun W h => hv0.out.keep ((hE0.trans h).same0 hN)
  have lst : ∀ W, Ext none' w0 W → SlAt 5 encPot N W (.slice la l.length lc) l := fun W h => hl0.out.keep ((hE0.trans h).same0 hN)
  have tbs : ∀ W, Ext none' w0 W → Tabs N W := fun W h => hT.keep ((hE0.trans h).same0 hN)
  have siz : ∀ W, Ext none' w0 W → N ≤ W.heap.size := fun W h => Nat.le_trans hN (hE0.trans h).size
  have hhd := head_any N w0 (siz w0 (Ext.refl _ _)) (tbs w0 (Ext.refl _ _))
  have RAW := Lib.hid raw
  have LST := Lib.hid lst
  have TBS := Lib.hid tbs
  have SIZ := Lib.hid siz
  have HHD := Lib.hid hhd
  have HW0 := Lib.hid hw0
  clear cell raw lst tbs siz hhd k0 hw0
  go_enter Tryz.func5, Tryz.ntmps5
  go_wp2_with fail
  rw [← HW0.out]
  refine HHD.out.mono ?_
  rintro e w1 ⟨rfl, hE1⟩
  have q0 := CELL.out w1 hE1 0 _ rfl
  have q1 := CELL.out w1 hE1 1 _ rfl
  have q2 := CELL.out w1 hE1 2 _ rfl
  have q3 := CELL.out w1 hE1 3 _ rfl
  have q4 := CELL.out w1 hE1 4 _ rfl
  have q5 := CELL.out w1 hE1 5 _ rfl
  have hf := fewLaw_any N _ _ t x y l w1 (RAW.out w1 hE1) (LST.out w1 hE1) (SIZ.out w1 hE1)
  obtain ⟨bf, hbf⟩ : ∃ bf, bf = (fewB t l && shortS x.data.toList && shortS y.data.toList) := ⟨_, rfl⟩
  rw [← hbf] at hf
  have HF := Lib.hid hf
  have HBF := Lib.hid hbf
  clear hf hbf
  go_wp2_with fail
  clear q0 q1 q2 q3 q4 q5
  refine HF.out.mono ?_
  rintro e w2 ⟨rfl, hE2⟩
  have h12 := hE1.trans hE2
  cases bf with
  | false =>
    go_wp2_with fail
    go_ret
    exact ⟨rfl, hE0.trans h12⟩
  | true =>
    have hfw := HBF.out
    have hb := hfw.symm
    simp only [Bool.and_eq_true] at hb
    have hgt := few_table hb.1.1 hit
    have hgp := few_pots hb.1.1 hil
    have hfp := few_parts hb.1.1
    have hx := short_size hb.1.2
    have hy := short_size hb.2
    clear hfw hb
    by_cases hb1 : t.rules.length < 2
    · have b1 : decide ((t.rules.length : Int) < 2) = true := by rw [decide_eq_true_iff]; omega
      have q0 := CELL.out w2 h12 0 _ rfl
      go_wp2_with fail
      go_ret
      exact ⟨rfl, hE0.trans h12⟩
    · have b1 : decide ((t.rules.length : Int) < 2) = false := by rw [decide_eq_false_iff_not]; omega
      have q0 := CELL.out w2 h12 0 _ rfl
      have q1 := CELL.out w2 h12 1 _ rfl
      have q2 := CELL.out w2 h12 2 _ rfl
      have q3 := CELL.out w2 h12 3 _ rfl
      have q4 := CELL.out w2 h12 4 _ rfl
      have q5 := CELL.out w2 h12 5 _ rfl
      have hc := check_any N _ _ t a x b y bound l w2 ((RAW.out w2 h12).at hgt) hx hy (LST.out w2 h12) hgp (SIZ.out w2 h12) (TBS.out w2 h12)
      obtain ⟨bc, hbc⟩ : ∃ bc, bc = Pl.Check t a x.data.toList b y.data.toList bound l := ⟨_, rfl⟩
      rw [← hbc] at hc
      have HC := Lib.hid hc
      have HBC := Lib.hid hbc
      clear hc hbc
      go_wp2_with fail
      clear q0 q1 q2 q3 q4 q5
      refine HC.out.mono ?_
      rintro e w3 ⟨rfl, hE3⟩
      have h13 := h12.trans hE3
      cases bc with
      | false =>
        go_wp2_with fail
        go_ret
        exact ⟨rfl, hE0.trans h13⟩
      | true =>
        have q0 := CELL.out w3 h13 0 _ rfl
        have q1 := CELL.out w3 h13 1 _ rfl
        have q2 := CELL.out w3 h13 2 _ rfl
        have q3 := CELL.out w3 h13 3 _ rfl
        have q4 := CELL.out w3 h13 4 _ rfl
        have q5 := CELL.out w3 h13 5 _ rfl
        have hl60 := hfp.1
        have hlp : 0 < t.rules.length := by omega
        have g1 : ((t.rules.length : Int) == 0) = false := by rw [beq_eq_false_iff_ne]; omega
        have m0 : 0 ≤ raw % (t.rules.length : Int) := Int.emod_nonneg _ (by omega)
        have m1 : raw % (t.rules.length : Int) < t.rules.length := Int.emod_lt_of_pos _ (by omega)
        go_upto_region 6 with fail
        clear q0 q1 q2 q3 q4 q5
        obtain ⟨k, hk⟩ : ∃ k : Nat, raw % (t.rules.length : Int) = (k : Nat) := ⟨(raw % (t.rules.length : Int)).toNat, (Int.toNat_of_nonneg m0).symm⟩
        rw [hk] at m0 m1 ⊢
        clear hk g1 hraw
        have hkl : k < t.rules.length := by omega
        clear m0 m1
        have hraw := RAW.out w3 h13
        obtain ⟨vr', vd', ve', hveq, hr', -, -⟩ := hraw
        obtain ⟨a', c', e', hcap, hmax, hx'⟩ := hr'
        subst e'
        simp only [Value.agg.injEq, Array.mk.injEq, List.cons.injEq, Value.slice.injEq] at hveq
        obtain ⟨⟨rfl, -, rfl⟩, -⟩ := hveq
        obtain ⟨rb, ro, rfl, hrb, hrcell⟩ := hx' (by intro e; rw [e] at hlp; simp at hlp)
        have hcap2 : t.rules.length ≤ rc := hcap
        have s0 := hE0.size
        have s13 := h13.size
        have c30 : w3.cell? ⟨w.heap.size, 0, none⟩ = some (.slice (some ⟨rb, ro, none⟩) t.rules.length rc) := CELL.out w3 h13 0 _ rfl
        have hw0s : w.heap.size < w0.heap.size := by rw [HW0.out]; simp
        have c0 : ∀ W, Ext (fun b => w3.heap.size ≤ b) w3 W → W.cell? ⟨w.heap.size, 0, none⟩ = some (.slice (some ⟨rb, ro, none⟩) t.rules.length rc) := by
          intro W hW
          rw [← c30]
          have := hW.same w.heap.size (by omega) (by omega)
          simp only [World.cell?]
          rw [this]
        have C0 := Lib.hid c0
        have hRC := Lib.hid hrcell
        obtain ⟨w4, hw4⟩ : ∃ w4, w4 = w3.alloc (.cells #[.slice (some ⟨rb, ro, none⟩) t.rules.length rc, .slice da t.drops.length dc, .slice ea t.ends.length ec, .int .i64 t.drop, .int .i64 t.order, .int .i64 t.initial] 25) := ⟨_, rfl⟩
        rw [← hw4]
        have e34 : Ext none' w3 w4 := by rw [hw4]; exact (Ext.refl none' w3).alloc _
        have k4 : w4.heap[w3.heap.size]? = some (.cells #[.slice (some ⟨rb, ro, none⟩) t.rules.length rc, .slice da t.drops.length dc, .slice ea t.ends.length ec, .int .i64 t.drop, .int .i64 t.order, .int .i64 t.initial] 25) := by rw [hw4]; exact heapNew _ rfl
        have s4 : w4.heap.size = w3.heap.size + 1 := by rw [hw4]; simp
        clear hw4 c0 hrcell hx' c30
        refine (wpIn_wide (n := 1)).1 ?_
        refine wp_region_N (ro := none) 14 (fun _ x y => Ext (fun b => w3.heap.size ≤ b) x y) rfl (by kernel_rfl) ?_
        change wpAnyS _ _ _ _ _ _ _ _ _ _ w4.drew
        obtain ⟨w5, hw5⟩ : ∃ w5, w5 = w4.drew := ⟨_, rfl⟩
        rw [← hw5]
        have e45 : Ext none' w4 w5 := by rw [hw5]; exact (Ext.refl none' w4).drew
        have s5 := e45.size
        clear hw5
        have hS5 : Ext (fun b => w3.heap.size ≤ b) w3 w5 := (e34.trans e45).mono (fun _ _ h => h.elim)
        refine wpAnyS_p 1 (some 53) (.pointer (some ⟨w.heap.size, 0, none⟩)) (by kernel_rfl) (by kernel_rfl) (fun _ _ _ h => h) (fun x => Ext.refl _ x) (by kernel_rfl) (by kernel_rfl) ?_
        refine wpAnyS_t 2 (fun W => Ext (fun b => w3.heap.size ≤ b) w3 W) (fun _ => true) (some 54) (.slice (some ⟨rb, ro, none⟩) t.rules.length rc) (by kernel_rfl) (by kernel_rfl) (fun _ _ _ h => h) (fun j x y _ ho hx => hx.trans ho) (fun x => Ext.refl _ x) hS5 (by kernel_rfl) (fun o ho W hW => by cases ho; exact exec_load _ _ rfl ⟨w.heap.size, 0, none⟩ (by kernel_rfl) _ (load_rules _ _ _ (C0.out W hW))) ?_
        refine wpAnyS_p 3 (some 55) (.int .i64 (k : Nat)) (by kernel_rfl) (by kernel_rfl) (fun _ _ _ h => h) (fun x => Ext.refl _ x) (by kernel_rfl) (by kernel_rfl) ?_
        refine wpAnyS_t 4 (fun _ => True) (fun _ => true) (some 56) (.slice (some ⟨rb, ro, none⟩) k rc) (by kernel_rfl) (by kernel_rfl) (fun _ _ _ h => h) (fun _ _ _ _ _ _ => trivial) (fun x => Ext.refl _ x) trivial (by kernel_rfl) (fun o ho W _ => by cases ho; exact exec_slice _ _ _ _ _ rfl _ _ _ _ (by kernel_rfl) rfl (by kernel_rfl) rfl _ (slice_to rb ro t.rules.length rc k (by omega) hcap2 W)) ?_
        refine wpAnyS_p 6 (some 58) (.pointer (some ⟨w.heap.size, 0, none⟩)) (by kernel_rfl) (by kernel_rfl) (fun _ _ _ h => h) (fun x => Ext.refl _ x) (by kernel_rfl) (by kernel_rfl) ?_
        refine wpAnyS_t 7 (fun W => Ext (fun b => w3.heap.size ≤ b) w3 W) (fun _ => true) (some 59) (.slice (some ⟨rb, ro, none⟩) t.rules.length rc) (by kernel_rfl) (by kernel_rfl) (fun _ _ _ h => h) (fun j x y _ ho hx => hx.trans ho) (fun x => Ext.refl _ x) hS5 (by kernel_rfl) (fun o ho W hW => by cases ho; exact exec_load _ _ rfl ⟨w.heap.size, 0, none⟩ (by kernel_rfl) _ (load_rules _ _ _ (C0.out W hW))) ?_
        refine wpAnyS_p 8 (some 60) (.int .i64 (k : Nat)) (by kernel_rfl) (by kernel_rfl) (fun _ _ _ h => h) (fun x => Ext.refl _ x) (by kernel_rfl) (by kernel_rfl) ?_
        refine wpAnyS_t 9 (fun _ => True) (fun _ => true) (some 61) (.int .i64 ((k + 1 : Nat) : Int)) (by kernel_rfl) (by kernel_rfl) (fun _ _ _ h => h) (fun _ _ _ _ _ _ => trivial) (fun x => Ext.refl _ x) trivial (by kernel_rfl) (fun o ho W _ => by cases ho; exact exec_bin _ _ _ _ _ rfl _ _ _ (by kernel_rfl) (by kernel_rfl) (add_one k (by omega) _ _ W)) ?_
        refine wpAnyS_t 10 (fun _ => True) (fun _ => true) (some 62) (.slice (some (sliceOff rb ro rc (k + 1))) (t.rules.length - (k + 1)) (rc - (k + 1))) (by kernel_rfl) (by kernel_rfl) (fun _ _ _ h => h) (fun _ _ _ _ _ _ => trivial) (fun x => Ext.refl _ x) trivial (by kernel_rfl) (fun o ho W _ => by cases ho; exact exec_slice _ _ _ _ _ rfl _ _ _ _ (by kernel_rfl) (by kernel_rfl) rfl rfl _ (slice_from rb ro t.rules.length rc (k + 1) (by omega) hcap2 hmax W)) ?_
        refine wpAnyS_1 0 (some 52) (.buildSlice 22 0 #[]) (by kernel_rfl) (by kernel_rfl) (by kernel_rfl) (by kernel_rfl) fun o hod ho KK hK => ?_
        refine wpIn_value _ _ (fun c e => by rw [ho] at e; cases e) (build_rules ho) ?_
        rw [hod]
        refine hK _ _ ⟨((Ext.refl none' w5).alloc _).mono (fun _ _ h => h.elim), ?_⟩
        clear hK ho hod
        obtain ⟨w6, hw6⟩ : ∃ w6, w6 = w5.alloc (.cells #[] 41) := ⟨_, rfl⟩
        have hown6 : w6.ownsRow w5.heap.size 41 4 (.slice (some ⟨w5.heap.size, 0, none⟩) 0 0) 0 [] := by rw [hw6]; exact own_empty w5 _ _
        have e56 : Ext none' w5 w6 := by rw [hw6]; exact (Ext.refl none' w5).alloc _
        rw [← hw6]
        clear hw6
        have s6 := e56.size
        obtain ⟨i0, hi0, hz0, hz1, hz2⟩ := info_parts info_rule
        have cells6 : ∀ W, Ext (fun b => w3.heap.size ≤ b) w3 W → ∀ j x, t.rules[j]? = some x → ∀ i u, (encRule x)[i]? = some u → W.cell? ⟨rb, ro + j * 4 + i, none⟩ = some u := by
          intro W hW j x hj i u hu
          have h1 := hRC.out j x hj i u hu
          rw [← h1]
          have := hW.same rb (by omega) (by omega)
          simp only [World.cell?]
          rw [this]
        have hS6 : Ext (fun b => w3.heap.size ≤ b) w3 w6 := hS5.trans (e56.mono (fun _ _ h => h.elim))
        refine wpAnyS_1 5 (some 57) (.call { callee := .builtin .append, args := #[.tmp 52, .tmp 56], argTypes := #[22, 22] }) (by kernel_rfl) (by kernel_rfl) (by kernel_rfl) (by kernel_rfl) fun o hod ho KK hK => ?_
        refine wpIn_append_own _ _ _ ho w5.heap.size 41 i0 _ 4 48 Tryz.underlying22 hi0 hz0 hz1 hz2 rfl (by decide) _ 0 [] (by kernel_rfl) hown6 ⟨rb, ro, none⟩ k rc ((t.rules.take k).map encRule).flatten (by kernel_rfl) (rules_flat (t.rules.take k) k (by rw [List.length_take]; omega)) ?c1 rule_one (by unfold maxLen; omega) (by omega) (by omega) ?_
        case c1 =>
          intro j u hu
          rw [addr_add]
          exact slAt_part rule_cells (fun j x hj i u hu => cells6 w6 hS6 j x (by rw [List.getElem?_take] at hj; split at hj; exact hj; cases hj) i u hu) j u hu
        intro v7 w7 hown7 hg7
        rw [hod]
        have e67 : Ext (fun b => w5.heap.size ≤ b) w6 w7 := Ext.of_grownBy hg7 (fun b hb => (hown6.lt b hb).1)
        refine hK _ _ ⟨e67.mono (fun _ _ h => by omega), ?_⟩
        clear hK ho hod
        have hS7 : Ext (fun b => w3.heap.size ≤ b) w3 w7 := hS6.trans (e67.mono (fun _ _ h => by omega))
        have s7 := e67.size
        obtain ⟨a7, n7, c7, rfl⟩ : ∃ a n c, v7 = .slice a n c := by
          rcases hown7.2 with ⟨rfl, _⟩ | ⟨g, cap, cur, rfl, _⟩
          · exact ⟨_, _, _, rfl⟩
          · exact ⟨_, _, _, rfl⟩
        refine wpAnyS_1 11 (some 63) (.call { callee := .builtin .append, args := #[.tmp 57, .tmp 62], argTypes := #[22, 22] }) (by kernel_rfl) (by kernel_rfl) (by kernel_rfl) (by kernel_rfl) fun o hod ho KK hK => ?_
        refine wpIn_append_own _ _ _ ho w5.heap.size 41 i0 _ 4 48 Tryz.underlying22 hi0 hz0 hz1 hz2 rfl (by decide) _ _ _ (by kernel_rfl) hown7 (sliceOff rb ro rc (k + 1)) (t.rules.length - (k + 1)) (rc - (k + 1)) ((t.rules.drop (k + 1)).map encRule).flatten (by kernel_rfl) (rules_flat (t.rules.drop (k + 1)) _ (by rw [List.length_drop])) ?c2 rule_one (by unfold maxLen; omega) (by omega) (by omega) ?_
        case c2 =>
          intro j u hu
          unfold sliceOff
          split
          · exfalso
            have hd : t.rules.drop (k + 1) = [] := List.drop_eq_nil_of_le (by omega)
            rw [hd] at hu
            simp at hu
          · rw [addr_add]
            exact slAt_part rule_cells (fun j x hj i u hu => by rw [List.getElem?_drop] at hj; have := cells6 w7 hS7 (k + 1 + j) x hj i u hu; rwa [show ro + (k + 1 + j) * 4 + i = ro + (k + 1) * 4 + j * 4 + i by omega] at this) j u hu
        intro v8 w8 hown8 hg8
        rw [hod]
        have e78 : Ext (fun b => w5.heap.size ≤ b) w7 w8 := Ext.of_grownBy hg8 (fun b hb => (hown7.lt b hb).1)
        refine hK _ _ ⟨e78.mono (fun _ _ h => by omega), ?_⟩
        clear hK ho hod
        have hS8 : Ext (fun b => w3.heap.size ≤ b) w3 w8 := hS7.trans (e78.mono (fun _ _ h => by omega))
        have s8 := e78.size
        obtain ⟨a8, n8, c8, rfl⟩ : ∃ a n c, v8 = .slice a n c := by
          rcases hown8.2 with ⟨rfl, _⟩ | ⟨g, cap, cur, rfl, _⟩
          · exact ⟨_, _, _, rfl⟩
          · exact ⟨_, _, _, rfl⟩
        have e58 : Ext (fun b => w5.heap.size ≤ b) w5 w8 := (e56.mono (fun _ _ h => h.elim) : Ext (fun b => w5.heap.size ≤ b) w5 w6).trans (e67.trans e78)
        have k8 : w8.heap[w3.heap.size]? = some (.cells #[.slice (some ⟨rb, ro, none⟩) t.rules.length rc, .slice da t.drops.length dc, .slice ea t.ends.length ec, .int .i64 t.drop, .int .i64 t.order, .int .i64 t.initial] 25) := (e58.same _ (by omega) (by omega)).trans ((e45.same _ (by omega) (fun h => h)).trans k4)
        refine wpAnyS_p 12 (some 64) (.pointer (some ⟨w3.heap.size, 0, none⟩)) (by kernel_rfl) (by kernel_rfl) (fun _ _ _ h => h) (fun x => Ext.refl _ x) (by kernel_rfl) (by kernel_rfl) ?_
        refine wpAnyS_1 13 none (.store 22 (.tmp 64) (.tmp 63)) (by kernel_rfl) (by kernel_rfl) (by kernel_rfl) (by kernel_rfl) fun o hod ho KK hK => ?_
        refine wpIn_store _ _ _ ho ⟨w3.heap.size, 0, none⟩ (.slice a8 n8 c8) (by kernel_rfl) (by kernel_rfl) _ (store_rules _ _ _ _ _ _ _ (cellAt k8 0 rfl) (frozenAt k8 0)) ?_
        rw [hod]
        refine hK _ _ ⟨(Ext.refl _ w8).setCell _ _ (.inr (Nat.le_refl _)), ?_⟩
        clear hK ho hod
        refine wpAnyS_doneN (by kernel_rfl) ?_ _
        simp only [Act.put, List.setIfInBounds_toArray, List.set_cons_succ, List.set_cons_zero]
        have hE9 := hS8.setCell ⟨w3.heap.size, 0, none⟩ (.slice a8 n8 c8) (.inl (Nat.le_refl _))
        have k9 := rowSet k8 0 (.slice a8 n8 c8)
        have hown9 := own_setCell hown8 (b := w3.heap.size) 0 (.slice a8 n8 c8) (by omega)
        obtain ⟨w9, hw9⟩ : ∃ w9, w9 = w8.setCell ⟨w3.heap.size, 0, none⟩ (.slice a8 n8 c8) := ⟨_, rfl⟩
        rw [← hw9] at hE9 k9 hown9 ⊢
        clear hw9
        obtain ⟨rs, hrs⟩ : ∃ rs, rs = t.rules.take k ++ t.rules.drop (k + 1) := ⟨_, rfl⟩
        have hsl := slAt_of_own rule_cells rs (v := .slice a8 n8 c8) (w := w9) (base := w5.heap.size) (e := 41) (n := 0 + k + (t.rules.length - (k + 1))) (by rw [hrs, List.length_append, List.length_take, List.length_drop]; omega) (by rw [hrs, List.map_append, List.flatten_append]; simpa using hown9)
        have hsub : rs.Sublist t.rules := by
          rw [hrs]
          conv => rhs; rw [← List.take_append_drop k t.rules]
          refine List.Sublist.append (List.Sublist.refl _) ?_
          rw [← List.drop_drop]
          exact List.drop_sublist 1 _
        have hrne : rs ≠ [] := by
          intro e
          have := congrArg List.length (hrs.symm.trans e)
          rw [List.length_append, List.length_take, List.length_drop] at this
          simp only [List.length_nil] at this
          omega
        have hsame : Same N w3 w9 := fun i hi => hE9.same i (by omega) (by omega)
        have hN9 : N ≤ w9.heap.size := by have := hE9.size; omega
        obtain ⟨vr', vd', ve', hveq, -, hd', he'⟩ := RAW.out w3 h13
        simp only [Value.agg.injEq, Array.mk.injEq, List.cons.injEq] at hveq
        obtain ⟨-, hveq1, hveq2, -⟩ := hveq
        rw [← hveq1] at hd'
        rw [← hveq2] at he'
        have htab : TabAt w9.heap.size w9 (.agg #[.slice a8 n8 c8, .slice da t.drops.length dc, .slice ea t.ends.length ec, .int .i64 t.drop, .int .i64 t.order, .int .i64 t.initial]) { t with rules := rs } :=
          ⟨_, _, _, rfl, hsl, (hd'.keep hsame).up hN9, (he'.keep hsame).up hN9, ⟨fun r hr => hgt.rules r (hsub.subset hr), hgt.drops, hgt.ends⟩⟩
        have hc := check_any w9.heap.size _ _ { t with rules := rs } a x b y bound l w9 htab hx hy (((LST.out w3 h13).keep hsame).up hN9) hgp (Nat.le_refl _) (((TBS.out w3 h13).keep hsame).up hN9)
        rw [check_fewer hsub hrne HBC.out.symm] at hc
        have HC2 := Lib.hid hc
        have HF := Lib.hid (hE0.trans (h13.later hE9 (fun i hi hx => by have hx : w3.heap.size ≤ i := hx; omega)))
        have q0 : w9.cell? ⟨w3.heap.size, 0, none⟩ = some (.slice a8 n8 c8) := cellAt k9 0 rfl
        have q1 : w9.cell? ⟨w3.heap.size, 1, none⟩ = some (.slice da t.drops.length dc) := cellAt k9 1 rfl
        have q2 : w9.cell? ⟨w3.heap.size, 2, none⟩ = some (.slice ea t.ends.length ec) := cellAt k9 2 rfl
        have q3 : w9.cell? ⟨w3.heap.size, 3, none⟩ = some (.int .i64 t.drop) := cellAt k9 3 rfl
        have q4 : w9.cell? ⟨w3.heap.size, 4, none⟩ = some (.int .i64 t.order) := cellAt k9 4 rfl
        have q5 : w9.cell? ⟨w3.heap.size, 5, none⟩ = some (.int .i64 t.initial) := cellAt k9 5 rfl
        clear hc hrs hsl hsub hrne k9 hown9 k8 hown8 hown7 hg8 hg7 k4 cells6 htab hd' he' hveq1 hveq2
        go_wp2_with fail
        refine HC2.out.mono ?_
        rintro e w10 ⟨rfl, hE10⟩
        go_wp2_with fail
        go_ret
        exact ⟨rfl, HF.out.trans hE10⟩
end Go.Proofs.Kb
