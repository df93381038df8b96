/- The law PotentialDearer, for every argument: it answers true. -/
import Derived.Test.YthkpgnhjnpcjgaaGreatDoorRow
import Derived.Test.YthkpgnhjnpcjgaaGreatDoorALaws
namespace Go.Proofs.Kb
open Go Go.RowKit Go.Lib Pl
attribute [local go_sem] Oper.semAt_some run_makeMap

theorem index_rule (b o n c : Nat) (j : Nat) (h : j < n) (w : World) : (Instr.indexAt 22 (.slice (some ⟨b, o, none⟩) n c) (.int .i64 (j : Nat))).run Tryz.prog w = .ok (.pointer (some ⟨b, o + j * 4, none⟩)) w := by
  go_simp

theorem store_int (p : Addr) (v : Value) (n : Int) (w : World) (hu : w.cell? p = some v) (hf : w.frozen? p = false) (_hn : IntKind.i64.wrap n = n) : (storeVar 3 p (.int .i64 n)).run Tryz.prog w = .ok () (w.setCell p (.int .i64 n)) := by
  go_simp

theorem conv_u16 {o : Oper} {a : Act} {w : World} {x : Operand} (ho : o.op = .convert 35 3 x) {n : Int} (hx : a.eval x = .int .u16 n) (hn : 0 ≤ n ∧ n ≤ 65535) : (execOp a.eval o).run Tryz.prog w = .ok (.value (.int .i64 n)) w := by
  have h1 := hn.1
  have h2 := hn.2
  have _h3 : IntKind.i64.wrap n = n := wrap_of (by omega) (by omega)
  unfold execOp
  simp only [ho, hx]
  go_simp

theorem exec_min {o : Oper} {a : Act} {w : World} {x y : Operand} {m n : Int} (ho : o.op = .call { callee := .builtin .min, args := #[x, y], argTypes := #[3, 3] }) (hx : (#[x, y] : Array Operand).map a.eval = #[.int .i64 m, .int .i64 n]) : (execOp a.eval o).run Tryz.prog w = .ok (.value (.int .i64 (min m n))) w := by
  unfold execOp
  simp only [ho]
  go_simp

theorem flat_cell {l : List Rule} {j : Nat} {x : Rule} (h : l[j]? = some x) (i : Nat) (u : Value) (hu : (encRule x)[i]? = some u) : ((l.map encRule).flatten)[j * 4 + i]? = some u := flat_at rule_cells l j x h i u hu

theorem slAt_cell {l : List Rule} {w : World} {base e n g c : Nat} (hk : ∀ x : Rule, (encRule x).length = 4) (h : w.ownsRow base e 4 (.slice (some ⟨g, 0, none⟩) n c) n ((l.map encRule).flatten)) {k : Nat} {d : Rule} (hd : l[k]? = some d) : ∀ i u, (encRule d)[i]? = some u → w.cell? ⟨g, 0 + k * 4 + i, none⟩ = some u := by
  intro i u hu
  have := hk d
  rcases h.2 with ⟨h1, _⟩ | ⟨g', cap, cur, hv, _, hg, _, _, _, ht⟩
  · cases h1
  · cases hv
    have hf := flat_cell hd i u hu
    rw [← ht, List.getElem?_take] at hf
    split at hf
    · rw [Nat.zero_add]
      exact cellAt hg _ (by simpa using hf)
    · cases hf

theorem own_frozen {w : World} {base e size n g c : Nat} {xs : List Value} (h : w.ownsRow base e size (.slice (some ⟨g, 0, none⟩) n c) n xs) (i : Nat) : w.frozen? ⟨g, i, none⟩ = false := by
  rcases h.2 with ⟨h1, _⟩ | ⟨g', cap, cur, hv, _, hg, _⟩
  · cases h1
  · cases hv
    simp [World.frozen?, hg]

/-- one number of a row is turned -/
theorem slAt_dear {l : List Rule} {w : World} {base e n g c : Nat} (h : w.ownsRow base e 4 (.slice (some ⟨g, 0, none⟩) n c) n ((l.map encRule).flatten)) (hn : n = l.length) {k : Nat} {d : Rule} (hd : l[k]? = some d) (z : Int) :
    SlAt 4 encRule (w.setCell ⟨g, 0 + k * 4 + 3, none⟩ (.int .i64 z)).heap.size (w.setCell ⟨g, 0 + k * 4 + 3, none⟩ (.int .i64 z)) (.slice (some ⟨g, 0, none⟩) n c) (l.set k { d with cost := z }) := by
  have hall : ∀ (j : Nat) (x : Rule), l[j]? = some x → ∀ i u, (encRule x)[i]? = some u → w.cell? ⟨g, 0 + j * 4 + i, none⟩ = some u := fun j x hj => slAt_cell rule_cells h hj
  rcases h.2 with ⟨h1, _⟩ | ⟨g', cap, cur, hv, _, hg, hc, hm, _, _⟩
  · cases h1
  · cases hv
    refine ⟨_, c, by rw [List.length_set, hn], by rw [List.length_set]; omega, hm, fun _ => ⟨g, 0, rfl, by simpa using (Array.getElem?_eq_some_iff.1 hg).1, fun j x hj i u hu => ?_⟩⟩
    have hi : i < 4 := (List.getElem?_eq_some_iff.1 hu).1
    have hw : (w.setCell ⟨g, 0 + k * 4 + 3, none⟩ (.int .i64 z)).heap[g]? = some (.cells (cur.setIfInBounds (0 + k * 4 + 3) (.int .i64 z)) e (0, 0)) := rowSet hg _ _
    by_cases hjk : j = k ∧ i = 3
    · obtain ⟨rfl, rfl⟩ := hjk
      have h3 := hall j d hd 3 _ rfl
      have hlt : 0 + j * 4 + 3 < cur.size := by
        unfold World.cell? at h3
        rw [hg] at h3
        have h3 : cur[0 + j * 4 + 3]? = some (.int .i64 d.cost) := by simpa using h3
        exact (Array.getElem?_eq_some_iff.1 h3).1
      rw [List.getElem?_set_self (List.getElem?_eq_some_iff.1 hd).1] at hj
      cases hj
      simp only [encRule, List.getElem?_cons_succ, List.getElem?_cons_zero, Option.some.injEq] at hu
      subst hu
      refine cellAt hw _ ?_
      rw [Array.getElem?_setIfInBounds_self_of_lt hlt]
    · have hold : w.cell? ⟨g, 0 + j * 4 + i, none⟩ = some u := by
        by_cases hj2 : j = k
        · subst hj2
          rw [List.getElem?_set_self (List.getElem?_eq_some_iff.1 hd).1] at hj
          cases hj
          refine hall j d hd i u ?_
          have : i = 0 ∨ i = 1 ∨ i = 2 := by omega
          rcases this with rfl | rfl | rfl <;> exact hu
        · rw [List.getElem?_set_ne (fun e => hj2 e.symm)] at hj
          exact hall j x hj i u hu
      have h3 : cur[0 + j * 4 + i]? = some u := by
        unfold World.cell? at hold
        rw [hg] at hold
        simpa using hold
      refine cellAt hw _ ?_
      rw [Array.getElem?_setIfInBounds_ne (by omega)]
      exact h3

set_option maxRecDepth 100000 in
set_option maxHeartbeats 8000000 in
theorem dearer_law (N : Nat) (vt vl : Value) (t : Table) (a : Int) (x : ByteArray) (b : Int) (y : ByteArray) (bound : Int) (l : List Pot) (raw more : Int) (w : World) (hv : TabRaw N w vt t) (hl : SlAt 5 encPot N w vl l) (hit : IntsT t) (hil : IntsL l) (hraw : 0 ≤ raw ∧ raw ≤ 255) (hmore : 0 ≤ more ∧ more ≤ 65535)
    (hN : N ≤ w.heap.size) (hT : Tabs N w) :
    Calls Tryz.prog 6 #[vt, .int .i64 a, .string x, .int .i64 b, .string y, .int .i64 bound, vl, .int .u8 raw, .int .u16 more] w fun e w' => e = .returned (.bool true) ∧ Ext none' w w' := by
  have hv0 := Lib.hid hv
  have hl0 := Lib.hid hl
  obtain ⟨vr, vd, ve, rfl, hr, hd, he⟩ := hv
  obtain ⟨ra, rc, rfl, -⟩ := hr
  obtain ⟨da, dc, rfl, -⟩ := hd
  obtain ⟨ea, ec, rfl, -⟩ := he
  obtain ⟨la, lc, rfl, -⟩ := hl
  obtain ⟨w0, hw0⟩ : ∃ w0, w0 = w.alloc (.cells #[.slice ra t.rules.length rc, .slice da t.drops.length dc, .slice ea t.ends.length ec, .int .i64 t.drop, .int .i64 t.order, .int .i64 t.initial] 25) := ⟨_, rfl⟩
  have hE0 : Ext none' w w0 := by rw [hw0]; exact (Ext.refl _ w).alloc _
  have k0 : w0.heap[w.heap.size]? = some (.cells #[.slice ra t.rules.length rc, .slice da t.drops.length dc, .slice ea t.ends.length ec, .int .i64 t.drop, .int .i64 t.order, .int .i64 t.initial] 25) := by rw [hw0]; exact heapNew _ rfl
  have cell : ∀ W, Ext none' w0 W → ∀ (i : Nat) (v : Value), (#[.slice ra t.rules.length rc, .slice da t.drops.length dc, .slice ea t.ends.length ec, .int .i64 t.drop, .int .i64 t.order, .int .i64 t.initial] : Array Value)[i]? = some v → W.cell? ⟨w.heap.size, i, none⟩ = some v :=
    fun W h i v hv => cellAt ((h.same _ (Array.getElem?_eq_some_iff.1 k0).1 (fun h => h)).trans k0) i hv
  have CELL := Lib.hid cell
  have raw : ∀ W, Ext none' w0 W → TabRaw N W (.agg #[.slice ra t.rules.length rc, .slice da t.drops.length dc, .slice ea t.ends.length ec, .int .i64 t.drop, .int .i64 t.order, .int .i64 t.initial]) t := fun W h => hv0.out.keep ((hE0.trans h).same0 hN)
  have lst : ∀ W, Ext none' w0 W → SlAt 5 encPot N W (.slice la l.length lc) l := fun W h => hl0.out.keep ((hE0.trans h).same0 hN)
  have tbs : ∀ W, Ext none' w0 W → Tabs N W := fun W h => hT.keep ((hE0.trans h).same0 hN)
  have siz : ∀ W, Ext none' w0 W → N ≤ W.heap.size := fun W h => Nat.le_trans hN (hE0.trans h).size
  have hhd := head_any N w0 (siz w0 (Ext.refl _ _)) (tbs w0 (Ext.refl _ _))
  have RAW := Lib.hid raw
  have LST := Lib.hid lst
  have TBS := Lib.hid tbs
  have SIZ := Lib.hid siz
  have HHD := Lib.hid hhd
  have HW0 := Lib.hid hw0
  clear cell raw lst tbs siz hhd k0 hw0
  go_enter Tryz.func6, Tryz.ntmps6
  go_wp2_with fail
  rw [← HW0.out]
  refine HHD.out.mono ?_
  rintro e w1 ⟨rfl, hE1⟩
  have q0 := CELL.out w1 hE1 0 _ rfl
  have q1 := CELL.out w1 hE1 1 _ rfl
  have q2 := CELL.out w1 hE1 2 _ rfl
  have q3 := CELL.out w1 hE1 3 _ rfl
  have q4 := CELL.out w1 hE1 4 _ rfl
  have q5 := CELL.out w1 hE1 5 _ rfl
  have hf := fewLaw_any N _ _ t x y l w1 (RAW.out w1 hE1) (LST.out w1 hE1) (SIZ.out w1 hE1)
  obtain ⟨bf, hbf⟩ : ∃ bf, bf = (fewB t l && shortS x.data.toList && shortS y.data.toList) := ⟨_, rfl⟩
  rw [← hbf] at hf
  have HF := Lib.hid hf
  have HBF := Lib.hid hbf
  clear hf hbf
  go_wp2_with fail
  clear q0 q1 q2 q3 q4 q5
  refine HF.out.mono ?_
  rintro e w2 ⟨rfl, hE2⟩
  have h12 := hE1.trans hE2
  cases bf with
  | false =>
    go_wp2_with fail
    go_ret
    exact ⟨rfl, hE0.trans h12⟩
  | true =>
    have hfw := HBF.out
    have hb := hfw.symm
    simp only [Bool.and_eq_true] at hb
    have hgt := few_table hb.1.1 hit
    have hgp := few_pots hb.1.1 hil
    have hfp := few_parts hb.1.1
    have hx := short_size hb.1.2
    have hy := short_size hb.2
    clear hfw hb
    by_cases hb1 : t.rules.length = 0
    · have b1 : ((t.rules.length : Int) == 0) = true := by rw [beq_iff_eq]; omega
      have q0 := CELL.out w2 h12 0 _ rfl
      go_wp2_with fail
      go_ret
      exact ⟨rfl, hE0.trans h12⟩
    · have b1 : ((t.rules.length : Int) == 0) = false := by rw [beq_eq_false_iff_ne]; omega
      have q0 := CELL.out w2 h12 0 _ rfl
      have q1 := CELL.out w2 h12 1 _ rfl
      have q2 := CELL.out w2 h12 2 _ rfl
      have q3 := CELL.out w2 h12 3 _ rfl
      have q4 := CELL.out w2 h12 4 _ rfl
      have q5 := CELL.out w2 h12 5 _ rfl
      have hc := check_any N _ _ t a x b y bound l w2 ((RAW.out w2 h12).at hgt) hx hy (LST.out w2 h12) hgp (SIZ.out w2 h12) (TBS.out w2 h12)
      obtain ⟨bc, hbc⟩ : ∃ bc, bc = Pl.Check t a x.data.toList b y.data.toList bound l := ⟨_, rfl⟩
      rw [← hbc] at hc
      have HC := Lib.hid hc
      have HBC := Lib.hid hbc
      clear hc hbc
      go_wp2_with fail
      clear q0 q1 q2 q3 q4 q5
      refine HC.out.mono ?_
      rintro e w3 ⟨rfl, hE3⟩
      have h13 := h12.trans hE3
      cases bc with
      | false =>
        go_wp2_with fail
        go_ret
        exact ⟨rfl, hE0.trans h13⟩
      | true =>
        have q0 := CELL.out w3 h13 0 _ rfl
        have q1 := CELL.out w3 h13 1 _ rfl
        have q2 := CELL.out w3 h13 2 _ rfl
        have q3 := CELL.out w3 h13 3 _ rfl
        have q4 := CELL.out w3 h13 4 _ rfl
        have q5 := CELL.out w3 h13 5 _ rfl
        have hl60 := hfp.1
        have hlp : 0 < t.rules.length := by omega
        have m0 : 0 ≤ raw % (t.rules.length : Int) := Int.emod_nonneg _ (by omega)
        have m1 : raw % (t.rules.length : Int) < t.rules.length := Int.emod_lt_of_pos _ (by omega)
        obtain ⟨vr', vd', ve', hveq, hr', hd', he'⟩ := RAW.out w3 h13
        obtain ⟨a', c', e', hcap, hmax, hx'⟩ := hr'
        subst e'
        simp only [Value.agg.injEq, Array.mk.injEq, List.cons.injEq, Value.slice.injEq] at hveq
        obtain ⟨⟨rfl, -, rfl⟩, hveq1, hveq2, -⟩ := hveq
        rw [← hveq1] at hd'
        rw [← hveq2] at he'
        clear hveq1 hveq2
        obtain ⟨rb, ro, rfl, hrb, hrcell⟩ := hx' (by intro e; rw [e] at hlp; simp at hlp)
        have hcap2 : t.rules.length ≤ rc := hcap
        have hRC := Lib.hid hrcell
        have HD := Lib.hid hd'
        have HE := Lib.hid he'
        have s0 := hE0.size
        have s13 := h13.size
        have c30 : w3.cell? ⟨w.heap.size, 0, none⟩ = some (.slice (some ⟨rb, ro, none⟩) t.rules.length rc) := CELL.out w3 h13 0 _ rfl
        have hw0s : w.heap.size < w0.heap.size := by rw [HW0.out]; simp
        clear hx' hrcell hd' he'
        go_upto_region 6 with fail
        clear q0 q1 q2 q3 q4 q5
        obtain ⟨k, hk⟩ : ∃ k : Nat, raw % (t.rules.length : Int) = (k : Nat) := ⟨(raw % (t.rules.length : Int)).toNat, (Int.toNat_of_nonneg m0).symm⟩
        rw [hk] at m0 m1 ⊢
        clear hk hraw
        have hkl : k < t.rules.length := by omega
        clear m0 m1
        obtain ⟨w4, hw4⟩ : ∃ w4, w4 = w3.alloc (.cells #[.slice (some ⟨rb, ro, none⟩) t.rules.length rc, .slice da t.drops.length dc, .slice ea t.ends.length ec, .int .i64 t.drop, .int .i64 t.order, .int .i64 t.initial] 25) := ⟨_, rfl⟩
        rw [← hw4]
        have e34 : Ext none' w3 w4 := by rw [hw4]; exact (Ext.refl none' w3).alloc _
        have k4 : w4.heap[w3.heap.size]? = some (.cells #[.slice (some ⟨rb, ro, none⟩) t.rules.length rc, .slice da t.drops.length dc, .slice ea t.ends.length ec, .int .i64 t.drop, .int .i64 t.order, .int .i64 t.initial] 25) := by rw [hw4]; exact heapNew _ rfl
        have s4 : w4.heap.size = w3.heap.size + 1 := by rw [hw4]; simp
        clear hw4
        have c40 : (w4.alloc (.cells #[] 41)).cell? ⟨w.heap.size, 0, none⟩ = some (.slice (some ⟨rb, ro, none⟩) t.rules.length rc) := by
          rw [← c30]
          have := ((e34.alloc (.cells #[] 41)).same w.heap.size (by omega) (fun h => h))
          simp only [World.cell?]
          rw [this]
        have hown4 := own_empty w4 41 4
        obtain ⟨i0, hi0, hz0, hz1, hz2⟩ := info_parts info_rule
        have news : ∀ (j : Nat) (u : Value), ((t.rules.map encRule).flatten)[j]? = some u → (w4.alloc (.cells #[] 41)).cell? ((⟨rb, ro, none⟩ : Addr).add j) = some u := by
          intro j u hu
          rw [addr_add]
          refine slAt_part rule_cells (fun j x hj i u hu => ?_) j u hu
          rw [← hRC.out j x hj i u hu]
          have := ((e34.alloc (.cells #[] 41)).same rb (by omega) (fun h => h))
          simp only [World.cell?]
          rw [this]
        have NEWS := Lib.hid news
        have S4 := Lib.hid s4
        have hs4 : w3.heap.size < w4.heap.size := by omega
        clear c30 news s4
        go_upto_region 7 with (at_builtin; refine wpList_append_own _ rfl _ _ 22 rfl w4.heap.size 41 i0 _ 4 48 Tryz.underlying22 hi0 hz0 hz1 hz2 rfl (by decide) (.slice (some ⟨w4.heap.size, 0, none⟩) 0 0) 0 [] rfl hown4 ⟨rb, ro, none⟩ t.rules.length rc ((t.rules.map encRule).flatten) rfl (rules_flat t.rules _ rfl) NEWS.out rule_one (by unfold maxLen; omega) (by omega) (by simp) ?_; intro v7 w6 hown6 hg6 _; rw [Nat.zero_add, List.nil_append] at hown6; obtain ⟨g7, c7, cur7, rfl, hg7b, -⟩ := own_some hown6 (by omega); have k6 := (hg6.block w3.heap.size (by simp; omega) (fun e => by have := (hown4.lt _ e.symm).1; omega)).trans (heapKeep k4 _); have c6 : w6.cell? ⟨w3.heap.size, 0, none⟩ = some (.slice (some ⟨rb, ro, none⟩) t.rules.length rc) := cellAt k6 0 rfl; have f6 := frozenAt k6 0)
        have s4 := S4.out
        have e46 : Ext (fun b => w4.heap.size ≤ b) w4 w6 := (((Ext.refl _ w4).alloc (.cells #[] 41)) : Ext (fun b => w4.heap.size ≤ b) w4 _).trans (Ext.of_grownBy hg6 (fun b hb => (hown4.lt b hb).1))
        have k7 := rowSet k6 0 (.slice (some ⟨g7, 0, none⟩) t.rules.length c7)
        have hown7 := own_setCell hown6 (b := w3.heap.size) 0 (.slice (some ⟨g7, 0, none⟩) t.rules.length c7) (by omega)
        have e37 : Ext (fun b => w3.heap.size ≤ b) w3 (w6.setCell ⟨w3.heap.size, 0, none⟩ (.slice (some ⟨g7, 0, none⟩) t.rules.length c7)) :=
          ((e34.mono (fun _ _ h => h.elim) : Ext (fun b => w3.heap.size ≤ b) w3 w4).trans (e46.mono (fun _ _ h => by omega))).setCell _ _ (.inl (Nat.le_refl _))
        obtain ⟨w7, hw7⟩ : ∃ w7, w7 = w6.setCell ⟨w3.heap.size, 0, none⟩ (.slice (some ⟨g7, 0, none⟩) t.rules.length c7) := ⟨_, rfl⟩
        rw [← hw7] at k7 hown7 e37 ⊢
        clear hw7 k6 c6 f6 k4 c40 hg6 hown6 e46 hown4
        obtain ⟨d, hd⟩ : ∃ d, t.rules[k]? = some d := ⟨_, List.getElem?_eq_getElem hkl⟩
        obtain ⟨p, hp, -⟩ := check_two HBC.out.symm
        have hcost := (valid_rules (two_rules hp).1) d (List.mem_of_getElem? hd)
        have hcell7 := slAt_cell rule_cells (l := t.rules) (by simpa using hown7) hd
        have cc : w7.cell? ⟨g7, 0 + k * 4 + 3, none⟩ = some (.int .i64 d.cost) := hcell7 3 _ rfl
        have hwrap : IntKind.i64.wrap (d.cost + more) = d.cost + more := wrap_of (by omega) (by omega)
        have c70 : w7.cell? ⟨w3.heap.size, 0, none⟩ = some (.slice (some ⟨g7, 0, none⟩) t.rules.length c7) := cellAt k7 0 rfl
        have C70 := Lib.hid c70
        have CC := Lib.hid cc
        have ff := own_frozen hown7 (k * 4 + 3)
        have hS7 : (w7.drew).heap = w7.heap := rfl
        clear c70 cc
        refine (wpIn_wide (n := 1)).1 ?_
        refine wp_region_N (ro := none) 16 (fun j x y => j ≠ 15 → y.heap = x.heap) rfl (by kernel_rfl) ?_
        change wpAnyS _ _ _ _ _ _ _ _ _ _ w7.drew
        refine wpAnyS_p 0 (some 59) (.pointer (some ⟨w3.heap.size, 0, none⟩)) (by kernel_rfl) (by kernel_rfl) (fun _ _ _ h => h) (fun x _ => rfl) (by kernel_rfl) (by kernel_rfl) ?_
        refine wpAnyS_t 1 (fun W => W.heap = w7.heap) (fun j => j != 15) (some 60) (.slice (some ⟨g7, 0, none⟩) t.rules.length c7) (by kernel_rfl) (by kernel_rfl) (fun _ _ _ h => h) (fun j x y hj ho hx => (ho (by simpa using hj)).trans hx) (fun x _ => rfl) hS7 (by kernel_rfl) (fun o ho W hW => by cases ho; exact exec_load _ _ rfl ⟨w3.heap.size, 0, none⟩ (by kernel_rfl) _ (load_rules _ _ _ (cell_heap hW C70.out))) ?_
        refine wpAnyS_p 2 (some 61) (.int .i64 (k : Nat)) (by kernel_rfl) (by kernel_rfl) (fun _ _ _ h => h) (fun x _ => rfl) (by kernel_rfl) (by kernel_rfl) ?_
        refine wpAnyS_p 3 (some 62) (.pointer (some ⟨w3.heap.size, 0, none⟩)) (by kernel_rfl) (by kernel_rfl) (fun _ _ _ h => h) (fun x _ => rfl) (by kernel_rfl) (by kernel_rfl) ?_
        refine wpAnyS_t 4 (fun W => W.heap = w7.heap) (fun j => j != 15) (some 63) (.slice (some ⟨g7, 0, none⟩) t.rules.length c7) (by kernel_rfl) (by kernel_rfl) (fun _ _ _ h => h) (fun j x y hj ho hx => (ho (by simpa using hj)).trans hx) (fun x _ => rfl) hS7 (by kernel_rfl) (fun o ho W hW => by cases ho; exact exec_load _ _ rfl ⟨w3.heap.size, 0, none⟩ (by kernel_rfl) _ (load_rules _ _ _ (cell_heap hW C70.out))) ?_
        refine wpAnyS_p 5 (some 64) (.int .i64 (k : Nat)) (by kernel_rfl) (by kernel_rfl) (fun _ _ _ h => h) (fun x _ => rfl) (by kernel_rfl) (by kernel_rfl) ?_
        refine wpAnyS_t 6 (fun _ => True) (fun _ => true) (some 65) (.pointer (some ⟨g7, 0 + k * 4, none⟩)) (by kernel_rfl) (by kernel_rfl) (fun _ _ _ h => h) (fun _ _ _ _ _ _ => trivial) (fun x _ => rfl) trivial (by kernel_rfl) (fun o ho W _ => by cases ho; exact exec_index _ _ _ rfl _ _ _ (by kernel_rfl) (by kernel_rfl) (index_rule g7 0 t.rules.length c7 k (by omega) W)) ?_
        refine wpAnyS_p 7 (some 66) (.pointer (some ⟨g7, 0 + k * 4 + 3, none⟩)) (by kernel_rfl) (by kernel_rfl) (fun _ _ _ h => h) (fun x _ => rfl) (by kernel_rfl) (by kernel_rfl) ?_
        refine wpAnyS_t 8 (fun W => W.heap = w7.heap) (fun j => j != 15) (some 67) (.int .i64 d.cost) (by kernel_rfl) (by kernel_rfl) (fun _ _ _ h => h) (fun j x y hj ho hx => (ho (by simpa using hj)).trans hx) (fun x _ => rfl) hS7 (by kernel_rfl) (fun o ho W hW => by cases ho; exact exec_load _ _ rfl ⟨g7, 0 + k * 4 + 3, none⟩ (by kernel_rfl) _ (load_int _ _ _ (cell_heap hW CC.out))) ?_
        refine wpAnyS_p 9 (some 68) (.int .u16 more) (by kernel_rfl) (by kernel_rfl) (fun _ _ _ h => h) (fun x _ => rfl) (by kernel_rfl) (by kernel_rfl) ?_
        refine wpAnyS_t 10 (fun _ => True) (fun _ => true) (some 69) (.int .i64 more) (by kernel_rfl) (by kernel_rfl) (fun _ _ _ h => h) (fun _ _ _ _ _ _ => trivial) (fun x _ => rfl) trivial (by kernel_rfl) (fun o ho W _ => by cases ho; exact conv_u16 rfl (by kernel_rfl) hmore) ?_
        refine wpAnyS_t 11 (fun _ => True) (fun _ => true) (some 70) (.int .i64 (d.cost + more)) (by kernel_rfl) (by kernel_rfl) (fun _ _ _ h => h) (fun _ _ _ _ _ _ => trivial) (fun x _ => rfl) trivial (by kernel_rfl) (fun o ho W _ => by cases ho; exact exec_bin _ _ _ _ _ rfl _ _ _ (by kernel_rfl) (by kernel_rfl) (add_int _ _ hwrap _ _ W)) ?_
        refine wpAnyS_t 12 (fun _ => True) (fun _ => true) (some 71) (.int .i64 (min 1000 (d.cost + more))) (by kernel_rfl) (by kernel_rfl) (fun _ _ _ h => h) (fun _ _ _ _ _ _ => trivial) (fun x _ => rfl) trivial (by kernel_rfl) (fun o ho W _ => by cases ho; exact exec_min rfl (by kernel_rfl)) ?_
        refine wpAnyS_t 13 (fun _ => True) (fun _ => true) (some 72) (.pointer (some ⟨g7, 0 + k * 4, none⟩)) (by kernel_rfl) (by kernel_rfl) (fun _ _ _ h => h) (fun _ _ _ _ _ _ => trivial) (fun x _ => rfl) trivial (by kernel_rfl) (fun o ho W _ => by cases ho; exact exec_index _ _ _ rfl _ _ _ (by kernel_rfl) (by kernel_rfl) (index_rule g7 0 t.rules.length c7 k (by omega) W)) ?_
        refine wpAnyS_p 14 (some 73) (.pointer (some ⟨g7, 0 + k * 4 + 3, none⟩)) (by kernel_rfl) (by kernel_rfl) (fun _ _ _ h => h) (fun x _ => rfl) (by kernel_rfl) (by kernel_rfl) ?_
        refine wpAnyS_1 15 none (.store 3 (.tmp 73) (.tmp 71)) (by kernel_rfl) (by kernel_rfl) (by kernel_rfl) (by kernel_rfl) fun o hod ho KK hK => ?_
        refine wpIn_store _ _ _ ho ⟨g7, 0 + k * 4 + 3, none⟩ (.int .i64 (min 1000 (d.cost + more))) (by kernel_rfl) (by kernel_rfl) _ (store_int _ _ _ _ (cell_heap (w := w7) rfl CC.out) (by rw [Nat.zero_add]; exact ff) (wrap_of (by omega) (by omega))) ?_
        rw [hod]
        refine hK _ _ ⟨fun h => absurd rfl h, ?_⟩
        clear hK ho hod
        refine wpAnyS_doneN (by kernel_rfl) ?_ _
        simp only [Act.put, List.setIfInBounds_toArray, List.set_cons_succ, List.set_cons_zero]
        have hg73 : w3.heap.size < g7 := by omega
        have hown7d : w7.drew.ownsRow w4.heap.size 41 4 (.slice (some ⟨g7, 0, none⟩) t.rules.length c7) t.rules.length ((t.rules.map encRule).flatten) := hown7.drew
        have hsl := slAt_dear hown7d rfl hd (min 1000 (d.cost + more))
        have k8 : (w7.drew.setCell ⟨g7, 0 + k * 4 + 3, none⟩ (.int .i64 (min 1000 (d.cost + more)))).heap[w3.heap.size]? = some (.cells #[.slice (some ⟨g7, 0, none⟩) t.rules.length c7, .slice da t.drops.length dc, .slice ea t.ends.length ec, .int .i64 t.drop, .int .i64 t.order, .int .i64 t.initial] 25) := by
          have hne : g7 ≠ w3.heap.size := by omega
          refine Eq.trans ?_ k7
          simp only [World.setCell, Array.getElem?_modify, hne, if_false]
          rfl
        have hE8 := (e37.drew).setCell ⟨g7, 0 + k * 4 + 3, none⟩ (.int .i64 (min 1000 (d.cost + more))) (.inl (by show w3.heap.size ≤ g7; omega))
        obtain ⟨w9, hw9⟩ : ∃ w9, w9 = w7.drew.setCell ⟨g7, 0 + k * 4 + 3, none⟩ (.int .i64 (min 1000 (d.cost + more))) := ⟨_, rfl⟩
        rw [← hw9] at hE8 k8 hsl ⊢
        clear hw9
        have hdear : Dearer t.rules (t.rules.set k { d with cost := min 1000 (d.cost + more) }) :=
          dearer_set _ _ _ _ hd (.inl (by omega)) (fun _ => by simp only [isCost, Bool.and_eq_true, decide_eq_true_eq]; omega) (by omega)
        obtain ⟨rs, hrs⟩ : ∃ rs, rs = t.rules.set k { d with cost := min 1000 (d.cost + more) } := ⟨_, rfl⟩
        rw [← hrs] at hsl hdear
        have hsame : Same N w3 w9 := fun i hi => hE8.same i (by omega) (by omega)
        have hN9 : N ≤ w9.heap.size := by have := hE8.size; omega
        have hgr : ∀ r ∈ rs, goodRule r := by
          intro r hr
          rw [hrs] at hr
          rcases List.mem_or_eq_of_mem_set hr with hr | rfl
          · exact hgt.rules r hr
          · exact hgt.rules d (List.mem_of_getElem? hd)
        have htab : TabAt w9.heap.size w9 (.agg #[.slice (some ⟨g7, 0, none⟩) t.rules.length c7, .slice da t.drops.length dc, .slice ea t.ends.length ec, .int .i64 t.drop, .int .i64 t.order, .int .i64 t.initial]) { t with rules := rs } :=
          ⟨_, _, _, rfl, hsl, (HD.out.keep hsame).up hN9, (HE.out.keep hsame).up hN9, ⟨hgr, hgt.drops, hgt.ends⟩⟩
        have hc := check_any w9.heap.size _ _ { t with rules := rs } a x b y bound l w9 htab hx hy (((LST.out w3 h13).keep hsame).up hN9) hgp (Nat.le_refl _) (((TBS.out w3 h13).keep hsame).up hN9)
        rw [check_dearer hdear HBC.out.symm] at hc
        have HC2 := Lib.hid hc
        have HF := Lib.hid (hE0.trans (h13.later hE8 (fun i hi hx => by have hx : w3.heap.size ≤ i := hx; omega)))
        have q0 : w9.cell? ⟨w3.heap.size, 0, none⟩ = some (.slice (some ⟨g7, 0, none⟩) t.rules.length c7) := cellAt k8 0 rfl
        have q1 : w9.cell? ⟨w3.heap.size, 1, none⟩ = some (.slice da t.drops.length dc) := cellAt k8 1 rfl
        have q2 : w9.cell? ⟨w3.heap.size, 2, none⟩ = some (.slice ea t.ends.length ec) := cellAt k8 2 rfl
        have q3 : w9.cell? ⟨w3.heap.size, 3, none⟩ = some (.int .i64 t.drop) := cellAt k8 3 rfl
        have q4 : w9.cell? ⟨w3.heap.size, 4, none⟩ = some (.int .i64 t.order) := cellAt k8 4 rfl
        have q5 : w9.cell? ⟨w3.heap.size, 5, none⟩ = some (.int .i64 t.initial) := cellAt k8 5 rfl
        clear hc hrs hsl hdear k8 hown7d hown7 htab hcell7 ff hS7 hp hcost hwrap k7 hd s4
        go_wp2_with fail
        refine HC2.out.mono ?_
        rintro e w10 ⟨rfl, hE10⟩
        go_wp2_with fail
        go_ret
        exact ⟨rfl, HF.out.trans hE10⟩
end Go.Proofs.Kb
