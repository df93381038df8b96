/- Package align: the least cost from each state on. -/
import Derived.Test.YthkpgnhjnpcjgaaGreatDoorAMoves
import Derived.Test.YthkpgnhjnpcjgaaGreatDoorFrom
namespace Go.Proofs.Kb
open Go Go.RowKit Go.Lib Pl
open Go.Maps (Keyed)
attribute [local go_sem] Oper.semAt_some run_makeMap

theorem astate_keys : KeyEnc Tryz.prog 95 encState goodState where
  keyed := Keyed.of_law (deep_law_laid laid_out (m := 3) (by omega) (row_lt (by kernel_rfl)) (by kernel_rfl) (by kernel_rfl))
  ok := by
    rintro k ⟨h1, h2, h3⟩
    have hi : Tryz.prog.cellsOf 3 = 1 := by kernel_rfl
    have hs : Tryz.prog.cellsOf 9 = 1 := by kernel_rfl
    have hb : Tryz.prog.cellsOf 4 = 1 := by kernel_rfl
    refine keyOf_struct Tryz.underlying95 (by kernel_rfl) (by kernel_rfl) (by kernel_rfl) (of_decide_eq_true (by kernel_rfl)) fun d => ?_
    simp [hi, hs, hb, lits_int Tryz.underlying3 h1, lits_int Tryz.underlying3 h2, lits_str Tryz.underlying9 h3, lits_bool Tryz.underlying4]
  inj := by
    rintro ⟨a, b, c, d⟩ ⟨a', b', c', d'⟩ h
    simp [encState, encS] at h
    obtain ⟨rfl, rfl, rfl, rfl⟩ := h
    rfl

/-- A call through a function value. -/
theorem wpIn_callv {ro : Option Nat} {n : Nat} {P : Program} {Q : Exit → Act → World → Prop} {o : Oper} {a : Act} {w : World} {K : Act → World → Prop} (f : FuncId) (lb : Array Value) (x : Operand) (xs : Array Operand) (ts : Array TypeId) (args : Array Value) (d : Option Tmp) (hd : o.dst = d) (ho : o.op = .call { callee := .value x, args := xs, argTypes := ts }) (hx : a.eval x = .func (.func f) #[] lb) (hargs : xs.map a.eval = args)
    (eg : ∀ args w, (callFunc f args).run P w = .ok (.enter f args) w) (h : Calls P f (args ++ lb) w fun e w' => ∃ v, e = .returned v ∧ K (a.put d v) w') : o.wpIn (Fz ro) n P a w K Q := by
  have hnd : ∀ c, o.op ≠ .defer c := fun c e => by rw [ho] at e; cases e
  have hx2 : (execOp a.eval o).run P w = .ok (.enter f (args ++ lb)) w := by
    unfold execOp
    rw [ho, ← hargs]
    simp only [resolve, hx]
    simp [go_sem, invoke, eg]
  unfold Oper.wpIn
  rw [Oper.semAt_eq ro _ _ hnd, hx2, Oper.uponIn_enter]
  refine ⟨fun _ _ => trivial, fun h => by simp [Fence.wide] at h, callsIn_of_calls (ro := ro) (h.mono ?_)⟩
  rintro e w' ⟨v, rfl, hk⟩
  rw [hd]
  exact hk

theorem load_walk (p : Addr) (v : Value) (w : World) (h : w.cell? p = some v) : (loadVar 131 p).run Tryz.prog w = .ok v w := by go_simp

/-- the function value that is kept in the variable walk -/
def walkV (bk bw bf : Nat) : Value := .func (.func 66) #[] #[.pointer (some ⟨bk, 0, none⟩), .pointer (some ⟨bw, 0, none⟩), .pointer (some ⟨bf, 0, none⟩)]

/-- what two words must meet for the walk -/
structure OkAlign (p : Two) : Prop where
  rules : OkRules p
  two : OkTwo p
  words : OkWords p.words

theorem sideRules_frm {k : Int} : ∀ (l : List Rule) (i : Nat), (∀ r ∈ l, folded r.script r.frm 3 = true) → ∀ r ∈ sideRules k i l, 0 < r.frm.length ∧ r.frm.length ≤ 12
  | [], _, _, r, h => by simp [sideRules] at h
  | q :: l, i, hl, r, h => by
    rw [sideRules, List.mem_append] at h
    rcases h with h | h
    · unfold aruleOf at h
      split at h
      · cases hq : Letters k q.frm with
        | none => rw [hq] at h; simp at h
        | some f =>
          rw [hq] at h
          simp only [Option.map_some, Option.toList_some, List.mem_singleton] at h
          subst h
          have := letters_parse.1 hq
          exact ⟨List.length_pos_iff.2 this.2.1, this.2.2⟩
      · simp at h
    · exact sideRules_frm l (i + 1) (fun x hx => hl x (by simp [hx])) r h

theorem two_align {t : Table} {a : Int} {x : Str} {b : Int} {y : Str} {p : Two} (h : two t a x b y = some p) : OkAlign p := by
  obtain ⟨hv, hr⟩ := two_rules h
  have hval := hv
  simp only [Valid, Bool.and_eq_true] at hval
  have hfold : ∀ r ∈ p.rules, folded r.script r.frm 3 = true := by
    intro r hr'
    rw [hr] at hr'
    have := apart_ok hval.1.2 r hr'
    simp only [ruleOk, Bool.and_eq_true] at this
    exact this.1.1
  have hlen : (0 < p.l.length ∧ p.l.length ≤ 12) ∧ (0 < p.m.length ∧ p.m.length ≤ 12) := by
    unfold two at h
    cases h1 : lettersOf a x with
    | none => simp [h1] at h
    | some l =>
      cases h2 : lettersOf b y with
      | none => simp [h1, h2] at h
      | some m =>
        simp only [h1, h2] at h
        rw [if_pos hv] at h
        cases h
        exact ⟨lettersOf_len h1, lettersOf_len h2⟩
  exact ⟨by unfold OkRules; rw [hr]; exact valid_rules hv, two_ok h, hlen.1, hlen.2, sideRules_frm _ 0 hfold, sideRules_frm _ 0 hfold⟩

/-- what stands before round k of the loop over the moves -/
def FA (p : Two) (n : Nat) (xs : List ((ARule × Value) × State)) (z : Int) (m : Memo) (b B : Nat) (w3 : World) (k : Nat) (O : Nat → Prop) (W : World) : Prop :=
  (∀ i, i = b ∨ i = B → O i) ∧ ∃ (lk : Int) (mk : Memo), fromL (fromM p n) (xs.map fun x => (x.1.1.cost, x.2)) z m = fromL (fromM p n) ((xs.map fun x => (x.1.1.cost, x.2)).drop k) lk mk ∧ Boxed W B 3 (.int .i64 lk) ∧ MapAt encState encCost W b mk ∧ goodMemo mk ∧ 0 ≤ lk ∧ lk ≤ never ∧ Ext (fun i => i = b ∨ i = B) w3 W

theorem FA.keep {p : Two} {n : Nat} {xs : List ((ARule × Value) × State)} {z : Int} {m : Memo} {b B : Nat} {w3 : World} {k : Nat} {O : Nat → Prop} {W W' : World} (h : FA p n xs z m b B w3 k O W) (hb : b < w3.heap.size) (hB : B < w3.heap.size) {X : Nat → Prop} (he : Ext X W W') (hX : ∀ i, i < w3.heap.size → ¬ X i) : FA p n xs z m b B w3 k O W' := by
  obtain ⟨h0, lk, mk, h1, h2, h3, h4, h5, h6, h7⟩ := h
  exact ⟨h0, lk, mk, h1, (he.same B (Nat.lt_of_lt_of_le hB h7.size) (hX B hB)).trans h2, h3.same (he.same b (Nat.lt_of_lt_of_le hb h7.size) (hX b hb)), h4, h5, h6, h7.later he (fun i hi hx => absurd hx (hX i hi))⟩

set_option maxRecDepth 100000 in
set_option maxHeartbeats 4000000 in
theorem walk_any (N : Nat) (p : Two) (v1 v2 v3 v4 : Value) (b bk bw bf : Nat) (ho : OkAlign p) : ∀ (n : Nat) (s : State) (m : Memo) (w : World), left p s < n → OkState p s → OkRight s → s.ahead.length ≤ 3 → goodMemo m → WordsAt N w (.agg #[v1, v2, v3, v4]) p.words → MapAt encState encCost w b m → N ≤ b → (b ≠ bk ∧ b ≠ bw ∧ b ≠ bf) → N ≤ w.heap.size →
    Boxed w bk 92 (.map (some b)) → w.heap[bw]? = some (.cells #[v1, v2, v3, v4] 89) → Boxed w bf 131 (walkV bk bw bf) →
    Calls Tryz.prog 66 (#[.agg (cellsState s)] ++ #[.pointer (some ⟨bk, 0, none⟩), .pointer (some ⟨bw, 0, none⟩), .pointer (some ⟨bf, 0, none⟩)]) w fun e w' =>
      e = .returned (.int .i64 (fromM p n s m).1) ∧ MapAt encState encCost w' b (fromM p n s m).2 ∧ goodMemo (fromM p n s m).2 ∧ Ext (one b) w w' ∧ 0 ≤ (fromM p n s m).1 ∧ (fromM p n s m).1 ≤ never
  | 0, s, m, w, h, _, _, _, _, _, _, _, _, _, _, _, _ => absurd h (by omega)
  | n + 1, s, m, w, h, hs, hr, hah, hm, hp, hM, hNb, hne, hNw, kk, kw, kf => by
    obtain ⟨hne1, hne2, hne3⟩ := hne
    obtain ⟨ul, ula, um, uma, hveq, hvl, hvla, hvm, hvma⟩ := id hp
    simp only [Value.agg.injEq, Array.mk.injEq, List.cons.injEq] at hveq
    obtain ⟨rfl, rfl, rfl, rfl, -⟩ := hveq
    obtain ⟨la, lc, rfl, -⟩ := id hvl
    obtain ⟨lla, llc, rfl, -⟩ := id hvla
    obtain ⟨ma, mc, rfl, -⟩ := id hvm
    obtain ⟨mma, mmc, rfl, -⟩ := id hvma
    have hg : goodState s := good_of_ok hs hah ho.words.l.2 ho.words.m.2
    have hlk := fun w' (h : Ext none' w w') => (h.map0 hM).lookup astate_keys Tryz.underlying92 (zero_int w') hm.keys hg true
    simp only [if_true, encState, encS] at hlk
    have hbk := kk.lt
    have hbw := (Array.getElem?_eq_some_iff.1 kw).1
    have hbf := kf.lt
    have hbb := hM.lt
    have ckk : w.cell? ⟨bk, 0, none⟩ = some (.map (some b)) := kk.cell
    simp only [cellsState, encS, List.cons_append, List.nil_append, List.append_toArray]
    cases hmem : mget m s with
    | some v =>
      have e0 : fromM p (n + 1) s m = (v, m) := by unfold fromM; rw [hmem]
      rw [e0]
      rw [hmem] at hlk
      have HLK := Lib.hid hlk
      have hv2 := hm _ (mget_in hmem)
      clear hlk e0 hmem
      refine (callsIn_wide (n := 1)).1 ?_
      refine callsIn_of_wp_marks Tryz.func66 rfl trivial ?_ rfl
      simp only [Tryz.ntmps66, List.size_toArray, List.length_cons, List.length_nil, Nat.reduceAdd, Nat.reduceSub, Array.replicate_succ, Array.replicate_zero, List.push_toArray, List.append_toArray, List.nil_append, List.cons_append]
      gi_wp2_with fail
      rw [HLK.out _ ((Ext.refl none' w).alloc _)]
      gi_wp2_with fail
      exact ⟨_, results_tmp rfl _ _ _, rfl, ((Ext.refl none' w).alloc _).map0 hM, hm, (Ext.refl (one b) w).alloc _, hv2.2⟩
    | none =>
      obtain ⟨z, hz⟩ : ∃ z, z = (if s = p.fin then 0 else never) := ⟨_, rfl⟩
      have hz0 : 0 ≤ z ∧ z ≤ never := by rw [hz]; split <;> decide
      have hmiss : fromM p (n + 1) s m = ((fromL (fromM p n) (moves p s) z m).1, mput (fromL (fromM p n) (moves p s) z m).2 s (fromL (fromM p n) (moves p s) z m).1) := by
        rw [hz]
        conv => lhs; unfold fromM
        rw [hmem]
      rw [hmiss]
      have hbf' : decide (s = p.fin) = (decide (s.i = (p.words.l.length : Int)) && decide (s.j = (p.words.m.length : Int)) && decide (s.ahead = [])) := (two_fin hr).symm
      obtain ⟨bf', hbfe⟩ : ∃ bf', bf' = (decide (s.i = (p.words.l.length : Int)) && decide (s.j = (p.words.m.length : Int)) && decide (s.ahead = [])) := ⟨_, rfl⟩
      have hzb : z = if bf' = true then 0 else 1099511627776 := by rw [hz, hbfe, ← hbf']; simp only [decide_eq_true_eq]; rfl
      have HZ := Lib.hid hzb
      have HBF := Lib.hid hbfe
      clear hmiss hz hzb hbf' hbfe
      rw [hmem] at hlk
      have HLK := Lib.hid hlk
      have KW := Lib.hid kw
      have KF := Lib.hid kf
      have KK := Lib.hid kk
      clear hlk kw kf kk
      refine (callsIn_wide (n := 1)).1 ?_
      refine callsIn_of_wp_marks Tryz.func66 rfl trivial ?_ rfl
      simp only [Tryz.ntmps66, List.size_toArray, List.length_cons, List.length_nil, Nat.reduceAdd, Nat.reduceSub, Array.replicate_succ, Array.replicate_zero, List.push_toArray, List.append_toArray, List.nil_append, List.cons_append]
      gi_wp2_with fail
      rw [HLK.out _ ((Ext.refl none' w).alloc _)]
      have q0 : w.cell? ⟨bw, 0, none⟩ = some (.slice la p.words.l.length lc) := cellAt KW.out 0 rfl
      have q1 : w.cell? ⟨bw, 1, none⟩ = some (.slice lla p.words.la.length llc) := cellAt KW.out 1 rfl
      have q2 : w.cell? ⟨bw, 2, none⟩ = some (.slice ma p.words.m.length mc) := cellAt KW.out 2 rfl
      have q3 : w.cell? ⟨bw, 3, none⟩ = some (.slice mma p.words.ma.length mmc) := cellAt KW.out 3 rfl
      gi_upto_region 5 with fail
      have cd := fun W => done_any la lla ma mma p.words.l.length lc p.words.la.length llc p.words.m.length mc p.words.ma.length mmc s W
      rw [← HBF.out] at cd
      simp only [cellsState, encS] at cd
      have CD := Lib.hid cd
      clear cd
      gi_wp2_with fail
      refine ⟨trivial, callsIn_of_calls (ro := none) ((CD.out _).mono ?_)⟩
      rintro e w2 ⟨rfl, hw2⟩
      have E2 : Ext none' w w2 := by rw [hw2]; exact ((((Ext.refl none' w).alloc _).alloc _).alloc _).alloc _
      have z2 : w2.heap.size = w.heap.size + 4 := by rw [hw2]; simp
      have ks2 : w2.heap[w.heap.size]? = some (.cells #[.int .i64 s.i, .int .i64 s.j, .string ⟨s.ahead.toArray⟩, .bool s.right] 95) := by rw [hw2]; exact keepAt (keepAt (keepAt (newAt _ rfl) _) _) _
      have kh2 : Boxed w2 (w.heap.size + 1) 3 (.int .i64 1099511627776) := by rw [hw2]; exact keepAt (keepAt (newAt _ (by simp)) _) _
      have ch2 := kh2.cell
      have fh2 := kh2.frozen
      clear hw2 q0 q1 q2 q3
      gi_upto_if 21 with fail
      gi_cut [7] from 22 (fun s7 wx => Ext none' w wx ∧ wx.heap.size = w.heap.size + 4 ∧ wx.heap[w.heap.size]? = some (.cells #[.int .i64 s.i, .int .i64 s.j, .string ⟨s.ahead.toArray⟩, .bool s.right] 95) ∧ Boxed wx (w.heap.size + 1) 3 (.int .i64 z))
      case first =>
        cases bf' with
        | true =>
          gi_wp2_with fail
          gi_meet
          refine ⟨E2.setCell _ _ (.inl (Nat.le_succ _)), by simp [z2], ?_, ?_⟩
          · rw [set_other _ _ _ (by omega)]; exact ks2
          · rw [HZ.out]; exact kh2.set _
        | false =>
          gi_wp2_with fail
          gi_meet
          exact ⟨E2, z2, ks2, by rw [HZ.out]; exact kh2⟩
      case rest =>
        obtain ⟨E4, z4, ks4, kh4⟩ := hcut
        clear E2 z2 ks2 kh2 ch2 fh2
        have Z4 := Lib.hid z4
        have kw4 : wc.heap[bw]? = some (.cells #[.slice la p.words.l.length lc, .slice lla p.words.la.length llc, .slice ma p.words.m.length mc, .slice mma p.words.ma.length mmc] 89) := (E4.same _ hbw (fun h => h)).trans KW.out
        have q0 : wc.cell? ⟨bw, 0, none⟩ = some (.slice la p.words.l.length lc) := cellAt kw4 0 rfl
        have q1 : wc.cell? ⟨bw, 1, none⟩ = some (.slice lla p.words.la.length llc) := cellAt kw4 1 rfl
        have q2 : wc.cell? ⟨bw, 2, none⟩ = some (.slice ma p.words.m.length mc) := cellAt kw4 2 rfl
        have q3 : wc.cell? ⟨bw, 3, none⟩ = some (.slice mma p.words.ma.length mmc) := cellAt kw4 3 rfl
        have r0 : wc.cell? ⟨w.heap.size, 0, none⟩ = some (.int .i64 s.i) := cellAt ks4 0 rfl
        have r1 : wc.cell? ⟨w.heap.size, 1, none⟩ = some (.int .i64 s.j) := cellAt ks4 1 rfl
        have r2 : wc.cell? ⟨w.heap.size, 2, none⟩ = some (.string ⟨s.ahead.toArray⟩) := cellAt ks4 2 rfl
        have r3 : wc.cell? ⟨w.heap.size, 3, none⟩ = some (.bool s.right) := cellAt ks4 3 rfl
        clear z4
        gi_wp2_with fail
        refine ⟨trivial, callsIn_of_calls (ro := none) ((amoves_any #[.slice la p.words.l.length lc, .slice lla p.words.la.length llc, .slice ma p.words.m.length mc, .slice mma p.words.ma.length mmc] #[.int .i64 s.i, .int .i64 s.j, .string ⟨s.ahead.toArray⟩, .bool s.right] rfl rfl wc).mono ?_)⟩
        rintro e w3 ⟨rfl, hw3⟩
        have z4 := Z4.out
        have hsz : w3.heap.size = w.heap.size + 6 := by rw [hw3]; simp [z4]
        have E43 : Ext none' wc w3 := by rw [hw3]; exact ((Ext.refl none' wc).alloc _).alloc _
        have k4 : w3.heap[w.heap.size + 4]? = some (.cells #[.slice la p.words.l.length lc, .slice lla p.words.la.length llc, .slice ma p.words.m.length mc, .slice mma p.words.ma.length mmc] 89) := by rw [hw3]; exact keepAt (newAt _ z4) _
        have k5 : w3.heap[w.heap.size + 5]? = some (.cells (cellsState s) 95) := by rw [hw3]; exact newAt _ (by simp [z4])
        have hE3 := E4.trans E43
        have k0 : w3.heap[w.heap.size]? = some (.cells #[.int .i64 s.i, .int .i64 s.j, .string ⟨s.ahead.toArray⟩, .bool s.right] 95) := (E43.same _ (by omega) (fun h => h)).trans ks4
        have k1 : Boxed w3 (w.heap.size + 1) 3 (.int .i64 z) := (E43.same _ (by omega) (fun h => h)).trans kh4
        rw [z4]
        clear hw3 q0 q1 q2 q3 r0 r1 r2 r3
        obtain ⟨O0, hO0⟩ : ∃ O0 : Nat → Prop, O0 = fun i => i = b ∨ i = w.heap.size + 1 := ⟨_, rfl⟩
        have hp3 := hp.keep (hE3.same0 hNw)
        obtain ⟨xs, hxs, hxv, hit⟩ := amoves_iter N p.words s _ _ _ _ w3 (w.heap.size + 4) (w.heap.size + 5) O0 hp3 ho.words ⟨hs.i0, hs.i1, hs.j0, hs.j1⟩ (by omega) k4 k5 (by rw [hO0]; intro k hk h; omega) (by rw [hO0]; intro h; omega) (by rw [hO0]; intro h; omega)
        have hxm : (xs.map fun x => (x.1.1.cost, x.2)) = moves p s := by
          rw [← amoves_is ho.two hs, ← hxs, List.map_map]
          rfl
        have hM3 := hE3.map0 hM
        have mv := fun k hk => move_all ho.rules hs hah (k := k) hk
        have HXM := Lib.hid hxm
        rw [← hxm] at mv
        have MV := Lib.hid mv
        have mr : ∀ (k : Nat) (hk : k < xs.length), OkRight xs[k].2 := by
          intro k hk
          have hmem : (xs[k].1.1.cost, xs[k].2) ∈ moves p s := by rw [← hxm]; exact List.mem_map.2 ⟨xs[k], List.getElem_mem hk, rfl⟩
          obtain ⟨r, _, hmv⟩ := List.mem_filterMap.1 hmem
          exact move_right hr hmv
        have MR := Lib.hid mr
        have HXV := Lib.hid hxv
        have ih := fun t m w h1 h2 h3 h4 h5 h6 h7 h8 h9 h10 h11 => walk_any N p (.slice la p.words.l.length lc) (.slice lla p.words.la.length llc) (.slice ma p.words.m.length mc) (.slice mma p.words.ma.length mmc) b bk bw bf ho n t m w h1 h2 h3 h4 h5 h6 h7 hNb ⟨hne1, hne2, hne3⟩ h8 h9 h10 h11
        have IH := Lib.hid ih
        clear mv mr hxv ih hxm hxs
        gi_wp2_with fail
        refine wp_rangeFunc2 (X := none') (O0 := O0) (gf := 67) (lb := #[.pointer (some ⟨w.heap.size + 5, 0, none⟩), .pointer (some ⟨w.heap.size + 4, 0, none⟩)])
          (by simp [Act.eval]) (enters_of Tryz.func67 (by kernel_rfl) rfl) (by rw [hO0]; intro k h; omega) hit (fun b hb => hb.elim) (fun _ => rfl)
          (fun k O W => FA p n xs z m b (w.heap.size + 1) w3 k O W) (fun _ _ => False) ?hI ?hIx ?h0 ?hbody ?hdone ?hstop
        case hI =>
          intro k O A B h he
          exact h.keep (by omega) (by omega) he (fun i hi hx => by rcases hx with hx | hx; exact hx; omega)
        case hIx => exact fun _ _ _ h _ => h
        case h0 =>
          intro W he hW
          exact ⟨by rw [hO0]; exact fun i h => h, z, m, by simp, (he.same _ (by omega) (fun h => h)).trans k1, he.map0 hM3, hm, hz0.1, hz0.2, he.mono (fun _ _ h => h.elim)⟩
        case hstop => exact fun _ _ h _ => h.elim
        case hbody =>
          rintro k hk O W hlt ⟨hOb, lk, mk, hfl, hbox, hMk, hmk, hl0, hl1, hEk⟩
          obtain ⟨t1, t2, t3, t4, t5⟩ := MV.out k (by rw [List.length_map]; exact hk)
          have t6 := MR.out k hk
          obtain ⟨fa, fn, fc, hfv⟩ := HXV.out _ (List.getElem_mem hk)
          have hstep := fromL_drop (fromM p n) (xs.map fun x => (x.1.1.cost, x.2)) lk mk (k := k) (by rw [List.length_map]; exact hk)
          rw [← hfl] at hstep
          simp only [List.getElem_map] at t1 t2 t3 t4 t5 hstep
          generalize hx : xs[k] = x at *
          clear hx
          obtain ⟨⟨r, fv⟩, t⟩ := x
          simp only at t1 t2 t3 t4 t5 t6 hstep hfv
          subst hfv
          have HST := Lib.hid hstep
          have HFL := Lib.hid hfl
          clear hstep hfl
          rw [hsz] at hlt ⊢
          simp only [encMove, encState, encS]
          gi_wp2_with fail
          refine ⟨(Below.heap_alloc _ _ _ (by simp; omega)).trans (Below.heap_alloc W _ _ (by omega)), (Below.heap_alloc _ _ _ (by simp; omega)).trans (Below.heap_alloc W _ _ (by omega)), fun W2 he2 hr2 => ?_⟩
          obtain ⟨r2, hr2⟩ := hr2
          have hE0 : Ext (fun i => i = w.heap.size + 6 + 1) W W2 := (((Ext.refl _ W).alloc _).alloc _).trans he2
          have hbox2 : Boxed W2 (w.heap.size + 1) 3 (.int .i64 lk) := (hE0.same _ hbox.lt (by omega)).trans hbox
          have hM2 : MapAt encState encCost W2 b mk := hMk.same (hE0.same _ hMk.lt (by omega))
          have hE2 := hEk.later hE0 (fun i hi hx => by omega)
          have kr : W2.heap[W.heap.size]? = some (.cells #[.int .i64 r.index, .int .i64 r.cost, .slice fa fn fc, .string ⟨r.to.toArray⟩] 101) := (he2.same _ (by simp; omega) (by omega)).trans (keepAt (newAt (w := W) _ rfl) _)
          have kt : W2.heap[W.heap.size + 1]? = some (.cells #[.int .i64 t.i, .int .i64 t.j, .string ⟨t.ahead.toArray⟩, .bool t.right] 95) := (he2.same _ (by simp) (by omega)).trans (newAt _ (by simp))
          have hz2 := he2.size
          simp only [World.size_alloc] at hz2
          have hW0 : w.heap.size + 6 ≤ W.heap.size := by omega
          have kf2 : Boxed W2 bf 131 (walkV bk bw bf) := ((((hE3.mono (fun _ _ h => h.elim) : Ext (fun i => i = b) w w3)).later hE2 (fun i hi hx => by rcases hx with hx | hx; exact hx; omega)).same bf hbf (fun h => hne3 h.symm)).trans KF.out
          have kk2 : Boxed W2 bk 92 (.map (some b)) := ((((hE3.mono (fun _ _ h => h.elim) : Ext (fun i => i = b) w w3)).later hE2 (fun i hi hx => by rcases hx with hx | hx; exact hx; omega)).same bk hbk (fun h => hne1 h.symm)).trans KK.out
          have kw2 : W2.heap[bw]? = some (.cells #[.slice la p.words.l.length lc, .slice lla p.words.la.length llc, .slice ma p.words.m.length mc, .slice mma p.words.ma.length mmc] 89) := ((((hE3.mono (fun _ _ h => h.elim) : Ext (fun i => i = b) w w3)).later hE2 (fun i hi hx => by rcases hx with hx | hx; exact hx; omega)).same bw hbw (fun h => hne2 h.symm)).trans KW.out
          have hp2 := hp3.keep (fun i hi => hE2.same i (by omega) (by omega) : Same N w3 W2)
          obtain ⟨W3, hW3⟩ : ∃ W3, W3 = W2.drew := ⟨_, rfl⟩
          have e23 : Ext none' W2 W3 := by rw [hW3]; exact (Ext.refl none' W2).drew
          gi_wp2_with fail
          refine wp_region_S 9 (fun j x y => j ≠ 8 → Ext (one b) x y) rfl (by kernel_rfl) ?_
          change wpAnyS _ _ _ _ _ _ _ _ _ _ W2.drew
          rw [← hW3]
          refine wpAnyS_t 0 (fun V => Boxed V (w.heap.size + 1) 3 (.int .i64 lk)) (fun j => j != 8) (some 27) (.int .i64 lk) (by kernel_rfl) (by kernel_rfl) (fun _ _ _ h => h)
            (fun j x y hj ho hx => ((ho (by simpa using hj)).same _ hx.lt (by unfold one; omega)).trans hx) (fun x _ => Ext.refl _ x) ((e23.same _ hbox2.lt (fun h => h)).trans hbox2) (by kernel_rfl) (fun o ho V hV => by cases ho; exact exec_load_cell _ _ rfl ⟨w.heap.size + 1, 0, none⟩ (by kernel_rfl) _ (fun w h => load_int _ _ w h) hV.cell) ?_
          refine wpAnyS_p 1 (some 28) (.pointer (some ⟨W.heap.size, 1, none⟩)) (by kernel_rfl) (by kernel_rfl) (fun _ _ _ h => h) (fun x _ => Ext.refl _ x) (by kernel_rfl) (by kernel_rfl) ?_
          refine wpAnyS_t 2 (fun V => V.heap[W.heap.size]? = some (.cells #[.int .i64 r.index, .int .i64 r.cost, .slice fa fn fc, .string ⟨r.to.toArray⟩] 101)) (fun j => j != 8) (some 29) (.int .i64 r.cost) (by kernel_rfl) (by kernel_rfl) (fun _ _ _ h => h)
            (fun j x y hj ho hx => ((ho (by simpa using hj)).same _ (Array.getElem?_eq_some_iff.1 hx).1 (by unfold one; omega)).trans hx) (fun x _ => Ext.refl _ x) ((e23.same _ (by omega) (fun h => h)).trans kr) (by kernel_rfl) (fun o ho V hV => by cases ho; exact exec_load_cell _ _ rfl ⟨W.heap.size, 1, none⟩ (by kernel_rfl) _ (fun w h => load_int _ _ w h) (cellAt hV 1 rfl)) ?_
          refine wpAnyS_t 3 (fun V => Boxed V bf 131 (walkV bk bw bf)) (fun j => j != 8) (some 30) (walkV bk bw bf) (by kernel_rfl) (by kernel_rfl) (fun _ _ _ h => h)
            (fun j x y hj ho hx => ((ho (by simpa using hj)).same _ hx.lt (by unfold one; omega)).trans hx) (fun x _ => Ext.refl _ x) ((e23.same _ kf2.lt (fun h => h)).trans kf2) (by kernel_rfl) (fun o ho V hV => by cases ho; exact exec_load_cell _ _ rfl ⟨bf, 0, none⟩ (by kernel_rfl) _ (fun w h => load_walk _ _ w h) hV.cell) ?_
          refine wpAnyS_t 4 (fun V => V.heap[W.heap.size + 1]? = some (.cells #[.int .i64 t.i, .int .i64 t.j, .string ⟨t.ahead.toArray⟩, .bool t.right] 95)) (fun j => j != 8) (some 31) (.agg #[.int .i64 t.i, .int .i64 t.j, .string ⟨t.ahead.toArray⟩, .bool t.right]) (by kernel_rfl) (by kernel_rfl) (fun _ _ _ h => h)
            (fun j x y hj ho hx => ((ho (by simpa using hj)).same _ (Array.getElem?_eq_some_iff.1 hx).1 (by unfold one; omega)).trans hx) (fun x _ => Ext.refl _ x) ((e23.same _ (by omega) (fun h => h)).trans kt) (by kernel_rfl) (fun o ho V hV => by cases ho; exact exec_load_row _ _ rfl _ (by kernel_rfl) _ _ _ hV Tryz.underlying95 rfl (by kernel_rfl)) ?_
          refine wpAnyS_1 5 (some 32) (.call { callee := .value (.tmp 30), args := #[.tmp 31], argTypes := #[95] }) (by kernel_rfl) (by kernel_rfl) (by kernel_rfl) (by kernel_rfl) fun o hod ho K hK => ?_
          refine wpIn_callv 66 #[.pointer (some ⟨bk, 0, none⟩), .pointer (some ⟨bw, 0, none⟩), .pointer (some ⟨bf, 0, none⟩)] _ _ _ #[.agg #[.int .i64 t.i, .int .i64 t.j, .string ⟨t.ahead.toArray⟩, .bool t.right]] _ hod ho (by kernel_rfl) (by kernel_rfl) (enters_of Tryz.func66 (by kernel_rfl) rfl)
            ((IH.out t mk W3 (by omega) t1 t6 t3 hmk (hp2.keep (fun i hi => e23.same i (by omega) (fun h => h))) (e23.map0 hM2) (by have := e23.size; omega) ((e23.same _ kk2.lt (fun h => h)).trans kk2) ((e23.same _ (Array.getElem?_eq_some_iff.1 kw2).1 (fun h => h)).trans kw2) ((e23.same _ kf2.lt (fun h => h)).trans kf2)).mono ?_)
          rintro e w4 ⟨rfl, hM4, hm4, hE4, hv0, hv1⟩
          refine ⟨_, rfl, hK _ _ ⟨fun _ => hE4, ?_⟩⟩
          clear hK
          have hv2 : (fromM p n t mk).1 ≤ 1099511627776 := hv1
          have hl2 : lk ≤ 1099511627776 := hl1
          have hs3 := e23.size
          have hbox4 : Boxed w4 (w.heap.size + 1) 3 (.int .i64 lk) := (hE4.same _ (by omega) (by unfold one; omega)).trans ((e23.same _ hbox2.lt (fun h => h)).trans hbox2)
          have hE24 : Ext (one b) W2 w4 := (e23.mono (fun _ _ h => h.elim)).trans hE4
          generalize hfv : (fromM p n t mk).1 = fv at *
          have hwrap : IntKind.i64.wrap (r.cost + fv) = r.cost + fv := by simp [IntKind.wrap, IntKind.bits, IntKind.signed]; omega
          refine wpAnyS_pure 6 (.int .i64 (r.cost + fv)) rfl (by kernel_rfl) (fun _ _ _ h => h) (fun x _ => Ext.refl _ x) (.inl ⟨rfl, fun w' _ => by go_simp⟩) ?_
          refine wpAnyS_pure 7 (.int .i64 (min lk (r.cost + fv))) rfl (by kernel_rfl) (fun _ _ _ h => h) (fun x _ => Ext.refl _ x) (.inl ⟨rfl, fun w' _ => by go_simp⟩) ?_
          have q1 := hbox4.cell
          have q2 := hbox4.frozen
          refine wpAnyS_only 8 rfl (by kernel_rfl) rfl fun K hK => ?_
          go_simp
          refine hK _ _ ⟨fun h => absurd rfl h, ?_⟩
          clear hK
          refine wpAnyS_done (by kernel_rfl) ?_ _
          gi_wp2_with fail
          have hEF : Ext (fun i => i = b ∨ i = w.heap.size + 1) W2 (w4.setCell ⟨w.heap.size + 1, 0, none⟩ (.int .i64 (min lk (r.cost + fv)))) := (hE24.mono (fun _ _ h => .inl h)).setCell ⟨w.heap.size + 1, 0, none⟩ _ (.inr (.inr rfl))
          have hset : Ext (one (w.heap.size + 1)) w4 (w4.setCell ⟨w.heap.size + 1, 0, none⟩ (.int .i64 (min lk (r.cost + fv)))) := (Ext.refl _ w4).setCell ⟨w.heap.size + 1, 0, none⟩ _ (.inr rfl)
          refine ⟨hEF.same _ (by omega) (by omega), hEF.same _ (by omega) (by omega), ⟨O, ⟨hOb, min lk (r.cost + fv), (fromM p n t mk).2, HST.out, hbox4.set _, hM4.same (hset.same b hM4.lt (by unfold one; omega)), hm4, by omega, ?_, hE2.trans hEF⟩, fun i h => .inl h⟩, ?_, fun i hi hil hno => ?_⟩
          · show min lk (r.cost + fv) ≤ 1099511627776
            omega
          · have := hEF.size; omega
          · have hnb : ¬ (i = b ∨ i = w.heap.size + 1) := fun h => hno (hOb i h)
            refine (hEF.same i (by omega) hnb).trans ?_
            exact (hE0.same i hi hil)
        case hdone =>
          rintro O B ⟨_, lk, mk, hfl, hbox, hMk, hmk, hl0, hl1, hEk⟩ hD
          rw [List.drop_of_length_le (by rw [List.length_map]; exact Nat.le_refl _), show fromL (fromM p n) [] lk mk = (lk, mk) from rfl] at hfl
          rw [HXM.out] at hfl
          have HFL := Lib.hid hfl
          clear hfl
          have hup := hMk.update astate_keys Tryz.underlying92 hmk.keys hg lk
          simp only [encState, encS, encCost] at hup
          have hEwB : Ext (fun i => i = b) w B := (hE3.mono (fun _ _ h => h.elim) : Ext (fun i => i = b) w w3).later hEk (fun i hi hx => by rcases hx with hx | hx; exact hx; omega)
          have c1 : B.heap[w.heap.size]? = some (.cells #[.int .i64 s.i, .int .i64 s.j, .string ⟨s.ahead.toArray⟩, .bool s.right] 95) := (hEk.same _ (by omega) (by omega)).trans k0
          have ckB : B.cell? ⟨bk, 0, none⟩ = some (.map (some b)) := Boxed.cell (t := 92) ((hEwB.same bk hbk (fun h => hne1 h.symm)).trans KK.out)
          have q1 : B.cell? ⟨w.heap.size, 0, none⟩ = some (.int .i64 s.i) := cellAt c1 0 rfl
          have q2 : B.cell? ⟨w.heap.size, 1, none⟩ = some (.int .i64 s.j) := cellAt c1 1 rfl
          have q3 : B.cell? ⟨w.heap.size, 2, none⟩ = some (.string ⟨s.ahead.toArray⟩) := cellAt c1 2 rfl
          have q4 : B.cell? ⟨w.heap.size, 3, none⟩ = some (.bool s.right) := cellAt c1 3 rfl
          have q5 : B.cell? ⟨w.heap.size + 1, 0, none⟩ = some (.int .i64 lk) := hbox.cell
          have hMP := hMk.put s lk
          have q6 : (B.putObj b (mobj (fun s : State => encState s) (fun n : Int => encCost n) (mput mk s lk))).cell? ⟨w.heap.size + 1, 0, none⟩ = some (.int .i64 lk) := (cell_putObj_other b _ (by show w.heap.size + 1 ≠ b; omega)).trans q5
          clear c1 k0 k1 k4 k5 hit ckk
          gi_wp2_with fail
          have hD2 : (B.putObj b (mobj (fun s : State => encState s) (fun n : Int => encCost n) (mput mk s lk))).heap[w3.heap.size]? = some (.deferred (some [])) := (World.putObj_heap_other (by omega)).trans hD
          have hEP : Ext (fun i => i = b ∨ i = w.heap.size + 1) w3 (B.putObj b (mobj (fun s : State => encState s) (fun n : Int => encCost n) (mput mk s lk))) := hEk.putObj _ _ (.inr (.inl rfl))
          refine ⟨by simp, .inl ⟨_, _, rfl, run_takeDeferred hD2, _, results_tmp rfl _ _ _, ?_⟩⟩
          rw [HFL.out]
          have hEw : Ext (one b) w (B.putObj b (mobj (fun s : State => encState s) (fun n : Int => encCost n) (mput mk s lk))) := (hE3.mono (fun _ _ h => h.elim) : Ext (one b) w w3).later hEP (fun i hi hx => by unfold one; omega)
          exact ⟨rfl, hMP.same ((World.putObj_heap_other (by omega)).trans rfl), hmk.put hg hl0 hl1, hEw.putObj _ _ (.inl (by omega)), hl0, hl1⟩
end Go.Proofs.Kb
