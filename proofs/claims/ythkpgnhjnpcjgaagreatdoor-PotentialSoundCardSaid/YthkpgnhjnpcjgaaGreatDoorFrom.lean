/- Package potential: the least cost from a state. -/
import Derived.Test.YthkpgnhjnpcjgaaGreatDoorMoves
namespace Go.Proofs.Kb
open Go Go.RowKit Go.Lib Pl
attribute [local go_sem] Oper.semAt_some run_makeMap

def encCost (n : Int) : Value := .int .i64 n

/-- what is known can be laid down -/
def goodMemo (m : Memo) : Prop := ∀ e ∈ m, goodState e.1 ∧ 0 ≤ e.2 ∧ e.2 ≤ never

theorem goodMemo.keys {m : Memo} (h : goodMemo m) : ∀ e ∈ m, goodState e.1 := fun e he => (h e he).1

theorem goodMemo.put {m : Memo} (h : goodMemo m) {s : State} {v : Int} (hs : goodState s) (h0 : 0 ≤ v) (h1 : v ≤ never) : goodMemo (mput m s v) := by
  intro e he
  rcases mput_mem he with he | rfl
  · exact h e he
  · exact ⟨hs, h0, h1⟩

/-- what a rule must meet -/
def OkRules (p : Two) : Prop := ∀ r ∈ p.rules, 0 ≤ r.cost ∧ r.cost ≤ 1000 ∧ r.to.length ≤ 3

theorem good_of_ok {p : Two} {s : State} (hs : OkState p s) (ha : s.ahead.length ≤ 3) (h1 : p.l.length ≤ 12) (h2 : p.m.length ≤ 12) : goodState s := by
  obtain ⟨i0, i1, j0, j1⟩ := hs
  refine ⟨⟨by omega, by omega⟩, ⟨by omega, by omega⟩, by unfold maxLen; omega⟩

theorem move_all {p : Two} {s : State} (ho : OkRules p) (hs : OkState p s) (ha : s.ahead.length ≤ 3) {k : Nat} (h : k < (moves p s).length) :
    OkState p (moves p s)[k].2 ∧ left p (moves p s)[k].2 < left p s ∧ (moves p s)[k].2.ahead.length ≤ 3 ∧ 0 ≤ (moves p s)[k].1 ∧ (moves p s)[k].1 ≤ 1000 := by
  obtain ⟨r, hr, hm⟩ := List.mem_filterMap.1 (List.getElem_mem h)
  obtain ⟨h1, h2, h3, h4⟩ := move_ok hs hm
  obtain ⟨c0, c1, c2⟩ := ho r hr
  have h3 : (moves p s)[k].1 = r.cost := h3
  have h4 : (moves p s)[k].2.ahead.length ≤ s.ahead.length ∨ (moves p s)[k].2.ahead.length ≤ r.to.length := h4
  exact ⟨h1, h2, by omega, by rw [h3]; exact c0, by rw [h3]; exact c1⟩

theorem fromL_drop (f : State → Memo → Int × Memo) (l : List (Int × State)) (z : Int) (m : Memo) {k : Nat} (h : k < l.length) :
    fromL f (l.drop k) z m = fromL f (l.drop (k + 1)) (min z (l[k].1 + (f l[k].2 m).1)) (f l[k].2 m).2 := by
  rw [List.drop_eq_getElem_cons h]
  obtain ⟨c, t⟩ := l[k]
  rfl

theorem exec_load_cell {P : Program} {o : Oper} {a : Act} {w : World} (ty : TypeId) (x : Operand) (ho : o.op = .load ty x) (p : Addr) (hx : a.eval x = .pointer (some p)) (v : Value) (hu : ∀ w, w.cell? p = some v → (loadVar ty p).run P w = .ok v w)
    (hc : w.cell? p = some v) : (execOp a.eval o).run P w = .ok (.value v) w := by
  have ld := hu w hc
  unfold execOp
  simp only [ho, hx]
  simp [Instr.loadAt, Instr.sureAddr, ld]

theorem load_int (p : Addr) (v : Value) (w : World) (h : w.cell? p = some v) : (loadVar 3 p).run Tryz.prog w = .ok v w := by go_simp

theorem Ext.later {X Z : Nat → Prop} {w A B : World} (h : Ext X w A) (he : Ext Z A B) (hz : ∀ k, k < w.heap.size → Z k → X k) : Ext X w B :=
  ⟨he.os.trans h.os, he.tape.trans h.tape, he.output.trans h.output, Nat.le_trans h.size he.size, fun i hi hx => (he.same i (Nat.lt_of_lt_of_le hi h.size) (fun hZ => hx (hz i hi hZ))).trans (h.same i hi hx)⟩

theorem heapKeep {w : World} {k : Nat} {x : Obj} (h : w.heap[k]? = some x) (o : Obj) : (w.alloc o).heap[k]? = some x := (Below.heap_alloc w o k (Array.getElem?_eq_some_iff.1 h).1).trans h
theorem heapNew {w : World} {k : Nat} (o : Obj) (h : w.heap.size = k) : (w.alloc o).heap[k]? = some o := by subst h; exact World.alloc_heap_new w o

theorem PairAt.keep {N : Nat} {w w' : World} {v : Value} {p : Two} (h : PairAt N w v p) (hs : Same N w w') : PairAt N w' v p := by
  obtain ⟨vr, vl, vm, rfl, h1, h2, h3, h4⟩ := h
  exact ⟨vr, vl, vm, rfl, h1.keep hs, h2.keep hs, h3.keep hs, h4⟩

/-- what stands before round k of the loop over the moves; w3: the world before the loop; z, m: the least and what is known before it; B: the least's block -/
def FI (p : Two) (n : Nat) (s : State) (z : Int) (m : Memo) (b B : Nat) (w3 : World) (k : Nat) (W : World) : Prop :=
  ∃ (lk : Int) (mk : Memo), fromL (fromM p n) (moves p s) z m = fromL (fromM p n) ((moves p s).drop k) lk mk ∧ Boxed W B 3 (.int .i64 lk) ∧ MapAt encState encCost W b mk ∧ goodMemo mk ∧ 0 ≤ lk ∧ lk ≤ never ∧ Ext (fun i => i = b ∨ i = B) w3 W

theorem FI.keep {p : Two} {n : Nat} {s : State} {z : Int} {m : Memo} {b B : Nat} {w3 : World} {k : Nat} {W W' : World} (h : FI p n s z m b B w3 k W) (hb : b < w3.heap.size) (hB : B < w3.heap.size) {X : Nat → Prop} (he : Ext X W W') (hX : ∀ i, i < w3.heap.size → ¬ X i) : FI p n s z m b B w3 k W' := by
  obtain ⟨lk, mk, h1, h2, h3, h4, h5, h6, h7⟩ := h
  exact ⟨lk, mk, h1, (he.same B (Nat.lt_of_lt_of_le hB h7.size) (hX B hB)).trans h2, h3.same (he.same b (Nat.lt_of_lt_of_le hb h7.size) (hX b hb)), h4, h5, h6, h7.later he (fun i hi hx => absurd hx (hX i hi))⟩

theorem eql_state (i j i' j' : Int) (a a' : ByteArray) (r r' : Bool) (w : World) :
    (binOp .eql 62 (.agg #[.int .i64 i, .int .i64 j, .string a, .bool r]) (.agg #[.int .i64 i', .int .i64 j', .string a', .bool r'])).run Tryz.prog w = .ok (.bool ((i == i') && (j == j') && (a.toList == a'.toList) && (r == r'))) w := by
  by_cases h1 : i = i' <;> by_cases h2 : j = j' <;> by_cases h3 : a.toList = a'.toList <;> by_cases h4 : r = r' <;> go_simp
attribute [local go_sem high] eql_state

theorem zero_int (w : World) : (zeroValue 3).run Tryz.prog w = .ok (.int .i64 0) w := by kernel_rfl

set_option maxRecDepth 100000 in
set_option maxHeartbeats 4000000 in
theorem from_any (N : Nat) (p : Two) (cp : Array Value) (b : Nat) (ho : OkRules p) : ∀ (n : Nat) (s : State) (m : Memo) (w : World), left p s < n → OkState p s → s.ahead.length ≤ 3 → goodMemo m → PairAt N w (.agg cp) p → MapAt encState encCost w b m → N ≤ b →
    Calls Tryz.prog 26 #[.agg (cp.push (.map (some b))), .agg (cellsState s)] w fun e w' =>
      e = .returned (.int .i64 (fromM p n s m).1) ∧ MapAt encState encCost w' b (fromM p n s m).2 ∧ goodMemo (fromM p n s m).2 ∧ Ext (one b) w w' ∧ 0 ≤ (fromM p n s m).1 ∧ (fromM p n s m).1 ≤ never
  | 0, s, m, w, h, _, _, _, _, _, _ => absurd h (by omega)
  | n + 1, s, m, w, h, hs, hah, hm, hp, hM, hNb => by
    obtain ⟨vr, vl, vm, hcp, hr, hl, hm', hgood, hl12, hm12⟩ := id hp
    cases hcp
    obtain ⟨ra, rc, rfl, hrc⟩ := id hr
    obtain ⟨la, lc, rfl, hlc⟩ := id hl
    obtain ⟨ma, mc, rfl, hmc⟩ := id hm'
    have hg := good_of_ok hs hah hl12.2 hm12.2
    have hlk := fun w' (h : Ext none' w w') => (h.map0 hM).lookup state_keys Tryz.underlying67 (zero_int w') hm.keys hg true
    simp only [if_true, encState, encS] at hlk
    simp only [cellsState, encS, List.push_toArray, List.cons_append, List.nil_append]
    cases hmem : mget m s with
    | some v =>
      have e0 : fromM p (n + 1) s m = (v, m) := by unfold fromM; rw [hmem]
      rw [e0]
      rw [hmem] at hlk
      have HLK := Lib.hid hlk
      have hv2 := hm _ (mget_in hmem)
      clear hlk e0 hmem hrc hlc hmc
      refine (callsIn_wide (n := 1)).1 ?_
      refine callsIn_of_wp_marks Tryz.func26 rfl trivial ?_ rfl
      simp only [Tryz.ntmps26, List.size_toArray, List.length_cons, List.length_nil, Nat.reduceAdd, Nat.reduceSub, Array.replicate_succ, Array.replicate_zero, List.push_toArray, List.append_toArray, List.nil_append, List.cons_append]
      gi_wp2_with fail
      rw [HLK.out _ (((Ext.refl none' w).alloc _).alloc _)]
      gi_wp2_with fail
      exact ⟨_, results_tmp rfl _ _ _, rfl, (((Ext.refl none' w).alloc _).alloc _).map0 hM, hm, ((Ext.refl (one b) w).alloc _).alloc _, hv2.2⟩
    | none =>
      obtain ⟨z, hz⟩ : ∃ z, z = (if s = p.fin then 0 else never) := ⟨_, rfl⟩
      have hz0 : 0 ≤ z ∧ z ≤ never := by rw [hz]; split <;> decide
      have hmiss : fromM p (n + 1) s m = ((fromL (fromM p n) (moves p s) z m).1, mput (fromL (fromM p n) (moves p s) z m).2 s (fromL (fromM p n) (moves p s) z m).1) := by
        rw [hz]
        conv => lhs; unfold fromM
        rw [hmem]
      rw [hmiss]
      obtain ⟨bf, hbf⟩ : ∃ bf, bf = decide (s = p.fin) := ⟨_, rfl⟩
      have hzb : z = if bf = true then 0 else 1099511627776 := by rw [hz, hbf]; simp only [decide_eq_true_eq]; rfl
      have HZ := Lib.hid hzb
      have HBF := Lib.hid hbf
      clear hmiss hz hzb hbf
      rw [hmem] at hlk
      have HLK := Lib.hid hlk
      clear hlk hrc hlc hmc
      refine (callsIn_wide (n := 1)).1 ?_
      refine callsIn_of_wp_marks Tryz.func26 rfl trivial ?_ rfl
      simp only [Tryz.ntmps26, List.size_toArray, List.length_cons, List.length_nil, Nat.reduceAdd, Nat.reduceSub, Array.replicate_succ, Array.replicate_zero, List.push_toArray, List.append_toArray, List.nil_append, List.cons_append]
      gi_wp2_with fail
      rw [HLK.out _ (((Ext.refl none' w).alloc _).alloc _)]
      gi_upto_region 5 with fail
      gi_cut [23] from 17 (fun s23 wx => s23 = .bool bf ∧ wx = ((w.alloc (.cells #[.slice ra p.rules.length rc, .int .i64 p.a, .int .i64 p.b, .slice la p.l.length lc, .slice ma p.m.length mc, .int .i64 p.l.length, .int .i64 p.m.length, .string ⟨#[]⟩, .bool false, .map (some b)] 69)).alloc (.cells #[.int .i64 s.i, .int .i64 s.j, .string ⟨s.ahead.toArray⟩, .bool s.right] 62)).alloc (.cells #[.int .i64 1099511627776] 3))
      case first =>
        gi_wp2_with fail
        all_goals (gi_meet; refine ⟨congrArg Value.bool ?_, ?_⟩)
        · rw [HBF.out, Bool.eq_iff_iff]
          simp only [Bool.and_eq_true, beq_iff_eq, List.isEmpty_iff, Bool.not_eq_true', decide_eq_true_eq]
          constructor
          · rintro ⟨⟨⟨h1, h2⟩, h3⟩, h4⟩
            cases s
            simp only at h1 h2 h3 h4
            subst h1 h2 h3 h4
            rfl
          · intro h
            rw [h]
            exact ⟨⟨⟨rfl, rfl⟩, rfl⟩, rfl⟩
        · rfl
      case rest =>
        obtain ⟨rfl, rfl⟩ := hcut
        gi_upto_if 23 with fail
        gi_cut [23] from 24 (fun s23 wx => wx = ((w.alloc (.cells #[.slice ra p.rules.length rc, .int .i64 p.a, .int .i64 p.b, .slice la p.l.length lc, .slice ma p.m.length mc, .int .i64 p.l.length, .int .i64 p.m.length, .string ⟨#[]⟩, .bool false, .map (some b)] 69)).alloc (.cells #[.int .i64 s.i, .int .i64 s.j, .string ⟨s.ahead.toArray⟩, .bool s.right] 62)).alloc (.cells #[.int .i64 z] 3))
        case first =>
          cases bf with
          | true =>
            gi_wp2_with fail
            gi_meet
            rw [HZ.out]
            rfl
          | false =>
            gi_wp2_with fail
            gi_meet
            rw [HZ.out]
            rfl
        case rest =>
          subst hcut
          have ih := fun t m w h1 h2 h3 h4 h5 h6 => from_any N p #[.slice ra p.rules.length rc, .int .i64 p.a, .int .i64 p.b, .slice la p.l.length lc, .slice ma p.m.length mc, .int .i64 p.l.length, .int .i64 p.m.length, .string ⟨#[]⟩, .bool false] b ho n t m w h1 h2 h3 h4 h5 h6 hNb
          have IH := Lib.hid ih
          have mv := fun k hk => move_all ho hs hah (k := k) hk
          have MV := Lib.hid mv
          clear ih mv
          gi_wp2_with fail
          have cm := moves_any #[.slice ra p.rules.length rc, .int .i64 p.a, .int .i64 p.b, .slice la p.l.length lc, .slice ma p.m.length mc, .int .i64 p.l.length, .int .i64 p.m.length, .string ⟨#[]⟩, .bool false] #[.int .i64 s.i, .int .i64 s.j, .string ⟨s.ahead.toArray⟩, .bool s.right] rfl rfl (((w.alloc (.cells #[.slice ra p.rules.length rc, .int .i64 p.a, .int .i64 p.b, .slice la p.l.length lc, .slice ma p.m.length mc, .int .i64 p.l.length, .int .i64 p.m.length, .string ⟨#[]⟩, .bool false, .map (some b)] 69)).alloc (.cells #[.int .i64 s.i, .int .i64 s.j, .string ⟨s.ahead.toArray⟩, .bool s.right] 62)).alloc (.cells #[.int .i64 z] 3))
          simp only [World.size_alloc, Nat.add_assoc, Nat.reduceAdd] at cm
          refine ⟨trivial, callsIn_of_calls (ro := none) (cm.mono ?_)⟩
          clear cm
          rintro e w3 ⟨rfl, hw3⟩
          have hsz : w3.heap.size = w.heap.size + 5 := by rw [hw3]; simp
          have hE3 : Ext none' w w3 := by rw [hw3]; exact (((((Ext.refl none' w).alloc _).alloc _).alloc _).alloc _).alloc _
          have k0 : w3.heap[w.heap.size]? = some (.cells #[.slice ra p.rules.length rc, .int .i64 p.a, .int .i64 p.b, .slice la p.l.length lc, .slice ma p.m.length mc, .int .i64 p.l.length, .int .i64 p.m.length, .string ⟨#[]⟩, .bool false, .map (some b)] 69) := by
            rw [hw3]; exact heapKeep (heapKeep (heapKeep (heapKeep (heapNew _ rfl) _) _) _) _
          have k1 : w3.heap[w.heap.size + 1]? = some (.cells #[.int .i64 s.i, .int .i64 s.j, .string ⟨s.ahead.toArray⟩, .bool s.right] 62) := by
            rw [hw3]; exact heapKeep (heapKeep (heapKeep (heapNew _ (by simp)) _) _) _
          have k2 : Boxed w3 (w.heap.size + 2) 3 (.int .i64 z) := by
            rw [hw3]; exact heapKeep (heapKeep (heapNew _ (by simp)) _) _
          have k3 : w3.heap[w.heap.size + 3]? = some (.cells #[.slice ra p.rules.length rc, .int .i64 p.a, .int .i64 p.b, .slice la p.l.length lc, .slice ma p.m.length mc, .int .i64 p.l.length, .int .i64 p.m.length, .string ⟨#[]⟩, .bool false] 64) := by
            rw [hw3]; exact heapKeep (heapNew _ (by simp)) _
          have k4 : w3.heap[w.heap.size + 4]? = some (.cells #[.int .i64 s.i, .int .i64 s.j, .string ⟨s.ahead.toArray⟩, .bool s.right] 62) := by
            rw [hw3]; exact heapNew _ (by simp)
          clear hw3
          have hbw := hM.lt
          have hp3 := hp.keep (fun i hi => hE3.same i (by omega) (fun h => h) : Same N w w3)
          have hit := moves_iter N p s _ w3 (w.heap.size + 3) (w.heap.size + 4) (w.heap.size + 5) (fun i => i = b ∨ i = w.heap.size + 2) hp3 hs (by omega) k3 k4 (by omega) (by omega) (fun i hi => by omega) (by omega) (by omega)
          have hM3 := hE3.map0 hM
          gi_wp2_with fail
          refine wp_rangeFunc (X := none') (N := w.heap.size + 5) (Y := fun i => i = b ∨ i = w.heap.size + 2) (gf := 60) (lb := #[.pointer (some ⟨w.heap.size + 4, 0, none⟩), .pointer (some ⟨w.heap.size + 3, 0, none⟩)])
            (by simp [Act.eval]) (enters_of Tryz.func60 (by kernel_rfl) rfl) (by omega) hit (fun b hb => hb.elim) (fun _ => rfl)
            (fun k W => FI p n s z m b (w.heap.size + 2) w3 k W) (fun _ _ => False) ?hI ?hIx ?h0 ?hbody ?hdone ?hstop
          case hI =>
            intro k A B h he
            exact h.keep (by omega) (by omega) he (fun i hi hx => by rcases hx with hx | hx; exact hx; omega)
          case hIx => exact fun _ _ _ h _ => h
          case h0 =>
            intro W he hW
            exact ⟨z, m, by simp, (he.same _ (by omega) (fun h => h)).trans k2, he.map0 hM3, hm, hz0.1, hz0.2, he.mono (fun _ _ h => h.elim)⟩
          case hstop => exact fun _ _ h _ => h.elim
          case hbody =>
            rintro k hk W hlt ⟨lk, mk, hfl, hbox, hMk, hmk, hl0, hl1, hEk⟩
            obtain ⟨t1, t2, t3, t4, t5⟩ := MV.out k hk
            have hstep := fromL_drop (fromM p n) (moves p s) lk mk hk
            rw [← hfl] at hstep
            generalize hx : (moves p s)[k] = x at *
            clear hx
            obtain ⟨c, t⟩ := x
            simp only at t1 t2 t3 t4 t5 hstep
            have HST := Lib.hid hstep
            have HFL := Lib.hid hfl
            clear hstep hfl
            rw [hsz] at hlt ⊢
            simp only [encState, encS]
            gi_wp2_with fail
            refine ⟨Below.heap_alloc W _ _ (by omega), Below.heap_alloc W _ _ (by omega), fun W2 he2 hr2 => ?_⟩
            obtain ⟨r2, hr2⟩ := hr2
            have hE0 : Ext (fun i => i = w.heap.size + 5 + 1) W W2 := ((Ext.refl _ W).alloc _).trans he2
            have hbox2 : Boxed W2 (w.heap.size + 2) 3 (.int .i64 lk) := (hE0.same _ hbox.lt (by omega)).trans hbox
            have hM2 : MapAt encState encCost W2 b mk := hMk.same (hE0.same _ hMk.lt (by omega))
            have hE2 := hEk.later hE0 (fun i hi hx => by omega)
            have c0 : W2.heap[w.heap.size]? = some (.cells #[.slice ra p.rules.length rc, .int .i64 p.a, .int .i64 p.b, .slice la p.l.length lc, .slice ma p.m.length mc, .int .i64 p.l.length, .int .i64 p.m.length, .string ⟨#[]⟩, .bool false, .map (some b)] 69) := (hE2.same _ (by omega) (by omega)).trans k0
            have cto : W2.heap[W.heap.size]? = some (.cells #[.int .i64 t.i, .int .i64 t.j, .string ⟨t.ahead.toArray⟩, .bool t.right] 62) := (he2.same _ (by simp) (by omega)).trans (World.alloc_heap_new W _)
            have hp2 := hp3.keep (fun i hi => hE2.same i (by omega) (by omega) : Same N w3 W2)
            obtain ⟨W3, hW3⟩ : ∃ W3, W3 = W2.drew := ⟨_, rfl⟩
            have e23 : Ext none' W2 W3 := by rw [hW3]; exact (Ext.refl none' W2).drew
            have hs2 := he2.size
            rw [World.size_alloc] at hs2
            gi_wp2_with fail
            refine wp_region_S 8 (fun j x y => j ≠ 7 → Ext (one b) x y) rfl (by kernel_rfl) ?_
            change wpAnyS _ _ _ _ _ _ _ _ _ _ W2.drew
            rw [← hW3]
            refine wpAnyS_t 0 (fun W => Boxed W (w.heap.size + 2) 3 (.int .i64 lk)) (fun j => j != 7) (some 30) (.int .i64 lk) (by kernel_rfl) (by kernel_rfl) (fun _ _ _ h => h)
              (fun j x y hj ho hx => ((ho (by simpa using hj)).same _ hx.lt (by unfold one; omega)).trans hx) (fun x _ => Ext.refl _ x) ((e23.same _ hbox2.lt (fun h => h)).trans hbox2) (by kernel_rfl) (fun o ho w' hw' => ?_) ?_
            · cases ho
              exact exec_load_cell _ _ rfl ⟨w.heap.size + 2, 0, none⟩ (by kernel_rfl) _ (fun w h => load_int _ _ w h) hw'.cell
            refine wpAnyS_p 1 (some 31) (.int .i64 c) (by kernel_rfl) (by kernel_rfl) (fun _ _ _ h => h) (fun x _ => Ext.refl _ x) (by kernel_rfl) (by kernel_rfl) ?_
            refine wpAnyS_t 2 (fun W => W.heap[w.heap.size]? = some (.cells #[.slice ra p.rules.length rc, .int .i64 p.a, .int .i64 p.b, .slice la p.l.length lc, .slice ma p.m.length mc, .int .i64 p.l.length, .int .i64 p.m.length, .string ⟨#[]⟩, .bool false, .map (some b)] 69)) (fun j => j != 7) (some 32) (.agg #[.slice ra p.rules.length rc, .int .i64 p.a, .int .i64 p.b, .slice la p.l.length lc, .slice ma p.m.length mc, .int .i64 p.l.length, .int .i64 p.m.length, .string ⟨#[]⟩, .bool false, .map (some b)]) (by kernel_rfl) (by kernel_rfl) (fun _ _ _ h => h)
              (fun j x y hj ho hx => ((ho (by simpa using hj)).same _ (Array.getElem?_eq_some_iff.1 hx).1 (by unfold one; omega)).trans hx) (fun x _ => Ext.refl _ x) ((e23.same _ (by omega) (fun h => h)).trans c0) (by kernel_rfl) (fun o ho w' hw' => ?_) ?_
            · cases ho
              exact exec_load_row _ _ rfl _ (by kernel_rfl) _ _ _ hw' Tryz.underlying69 rfl (by kernel_rfl)
            refine wpAnyS_t 3 (fun W' => W'.heap[W.heap.size]? = some (.cells #[.int .i64 t.i, .int .i64 t.j, .string ⟨t.ahead.toArray⟩, .bool t.right] 62)) (fun j => j != 7) (some 33) (.agg #[.int .i64 t.i, .int .i64 t.j, .string ⟨t.ahead.toArray⟩, .bool t.right]) (by kernel_rfl) (by kernel_rfl) (fun _ _ _ h => h)
              (fun j x y hj ho hx => ((ho (by simpa using hj)).same _ (Array.getElem?_eq_some_iff.1 hx).1 (by unfold one; omega)).trans hx) (fun x _ => Ext.refl _ x) ((e23.same _ (by omega) (fun h => h)).trans cto) (by kernel_rfl) (fun o ho w' hw' => ?_) ?_
            · cases ho
              exact exec_load_row _ _ rfl _ (by kernel_rfl) _ _ _ hw' Tryz.underlying62 rfl (by kernel_rfl)
            refine wpAnyS_1 4 (some 34) (.call { callee := .value (.func 26), args := #[.tmp 32, .tmp 33], argTypes := #[69, 62] }) (by kernel_rfl) (by kernel_rfl) (by kernel_rfl) (by kernel_rfl) fun o hod ho K hK => ?_
            refine wpIn_call _ _ _ #[.agg #[.slice ra p.rules.length rc, .int .i64 p.a, .int .i64 p.b, .slice la p.l.length lc, .slice ma p.m.length mc, .int .i64 p.l.length, .int .i64 p.m.length, .string ⟨#[]⟩, .bool false, .map (some b)], .agg #[.int .i64 t.i, .int .i64 t.j, .string ⟨t.ahead.toArray⟩, .bool t.right]] _ hod ho (by kernel_rfl) (enters_of Tryz.func26 (by kernel_rfl) rfl)
              ((IH.out t mk W3 (by omega) t1 t3 hmk (hp2.keep (fun i hi => e23.same i (by omega) (fun h => h))) (e23.map0 hM2)).mono ?_)
            rintro e w4 ⟨rfl, hM4, hm4, hE4, hv0, hv1⟩
            refine ⟨_, rfl, hK _ _ ⟨fun _ => hE4, ?_⟩⟩
            clear hK
            have hv2 : (fromM p n t mk).1 ≤ 1099511627776 := hv1
            have hl2 : lk ≤ 1099511627776 := hl1
            have hs3 := e23.size
            have hbox4 : Boxed w4 (w.heap.size + 2) 3 (.int .i64 lk) := (hE4.same _ (by omega) (by unfold one; omega)).trans ((e23.same _ hbox2.lt (fun h => h)).trans hbox2)
            have hE24 : Ext (one b) W2 w4 := (e23.mono (fun _ _ h => h.elim)).trans hE4
            generalize hfv : (fromM p n t mk).1 = fv at *
            have hwrap : IntKind.i64.wrap (c + fv) = c + fv := by simp [IntKind.wrap, IntKind.bits, IntKind.signed]; omega
            refine wpAnyS_pure 5 (.int .i64 (c + fv)) rfl (by kernel_rfl) (fun _ _ _ h => h) (fun x _ => Ext.refl _ x) (.inl ⟨rfl, fun w' _ => by go_simp⟩) ?_
            refine wpAnyS_pure 6 (.int .i64 (min lk (c + fv))) rfl (by kernel_rfl) (fun _ _ _ h => h) (fun x _ => Ext.refl _ x) (.inl ⟨rfl, fun w' _ => by go_simp⟩) ?_
            have q1 := hbox4.cell
            have q2 := hbox4.frozen
            refine wpAnyS_only 7 rfl (by kernel_rfl) rfl fun K hK => ?_
            go_simp
            refine hK _ _ ⟨fun h => absurd rfl h, ?_⟩
            clear hK
            refine wpAnyS_done (by kernel_rfl) ?_ _
            gi_wp2_with fail
            have hEF : Ext (fun i => i = b ∨ i = w.heap.size + 2) W2 (w4.setCell ⟨w.heap.size + 2, 0, none⟩ (.int .i64 (min lk (c + fv)))) := (hE24.mono (fun _ _ h => .inl h)).setCell ⟨w.heap.size + 2, 0, none⟩ _ (.inr (.inr rfl))
            have hset : Ext (one (w.heap.size + 2)) w4 (w4.setCell ⟨w.heap.size + 2, 0, none⟩ (.int .i64 (min lk (c + fv)))) := (Ext.refl _ w4).setCell ⟨w.heap.size + 2, 0, none⟩ _ (.inr rfl)
            refine ⟨⟨hEF.same _ (by omega) (by omega), hEF.same _ (by omega) (by omega), hEF.size, fun i hi hy => hEF.same i (by omega) hy, min lk (c + fv), (fromM p n t mk).2, HST.out, hbox4.set _, hM4.same (hset.same b hM4.lt (by unfold one; omega)), hm4, by omega, ?_, hE2.trans hEF⟩, fun i hi _ _ => Below.heap_alloc W _ _ (by omega)⟩
            show min lk (c + fv) ≤ 1099511627776
            omega
          case hdone =>
            rintro B ⟨lk, mk, hfl, hbox, hMk, hmk, hl0, hl1, hEk⟩ hD
            rw [List.drop_length, show fromL (fromM p n) [] lk mk = (lk, mk) from rfl] at hfl
            have HFL := Lib.hid hfl
            clear hfl
            have hup := hMk.update state_keys Tryz.underlying67 hmk.keys hg lk
            simp only [encState, encS, encCost] at hup
            have c0 : B.heap[w.heap.size]? = some (.cells #[.slice ra p.rules.length rc, .int .i64 p.a, .int .i64 p.b, .slice la p.l.length lc, .slice ma p.m.length mc, .int .i64 p.l.length, .int .i64 p.m.length, .string ⟨#[]⟩, .bool false, .map (some b)] 69) := (hEk.same _ (by omega) (by omega)).trans k0
            have c1 : B.heap[w.heap.size + 1]? = some (.cells #[.int .i64 s.i, .int .i64 s.j, .string ⟨s.ahead.toArray⟩, .bool s.right] 62) := (hEk.same _ (by omega) (by omega)).trans k1
            have q0 : B.cell? ⟨w.heap.size, 9, none⟩ = some (.map (some b)) := cellAt c0 9 rfl
            have q1 : B.cell? ⟨w.heap.size + 1, 0, none⟩ = some (.int .i64 s.i) := cellAt c1 0 rfl
            have q2 : B.cell? ⟨w.heap.size + 1, 1, none⟩ = some (.int .i64 s.j) := cellAt c1 1 rfl
            have q3 : B.cell? ⟨w.heap.size + 1, 2, none⟩ = some (.string ⟨s.ahead.toArray⟩) := cellAt c1 2 rfl
            have q4 : B.cell? ⟨w.heap.size + 1, 3, none⟩ = some (.bool s.right) := cellAt c1 3 rfl
            have q5 : B.cell? ⟨w.heap.size + 2, 0, none⟩ = some (.int .i64 lk) := hbox.cell
            have hMP := hMk.put s lk
            have q6 : (B.putObj b (mobj (fun s : State => encState s) (fun n : Int => encCost n) (mput mk s lk))).cell? ⟨w.heap.size + 2, 0, none⟩ = some (.int .i64 lk) := (cell_putObj_other b _ (by show w.heap.size + 2 ≠ b; omega)).trans q5
            clear c0 c1 k0 k1 k3 k4 hit
            gi_wp2_with fail
            have hD2 : (B.putObj b (mobj (fun s : State => encState s) (fun n : Int => encCost n) (mput mk s lk))).heap[w3.heap.size]? = some (.deferred (some [])) := (World.putObj_heap_other (by omega)).trans hD
            have hEP : Ext (fun i => i = b ∨ i = w.heap.size + 2) w3 (B.putObj b (mobj (fun s : State => encState s) (fun n : Int => encCost n) (mput mk s lk))) := hEk.putObj _ _ (.inr (.inl rfl))
            refine ⟨by simp, .inl ⟨_, _, rfl, run_takeDeferred hD2, _, results_tmp rfl _ _ _, ?_⟩⟩
            rw [HFL.out]
            have hEw : Ext (one b) w (B.putObj b (mobj (fun s : State => encState s) (fun n : Int => encCost n) (mput mk s lk))) := (hE3.mono (fun _ _ h => h.elim) : Ext (one b) w w3).later hEP (fun i hi hx => by unfold one; omega)
            exact ⟨rfl, hMP.same ((World.putObj_heap_other (by omega)).trans rfl), hmk.put hg hl0 hl1, hEw.putObj _ _ (.inl (by omega)), hl0, hl1⟩
end Go.Proofs.Kb
