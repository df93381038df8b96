/- Package align: where a rule of a number lies among the rules; what rules write. -/
import Derived.Test.YthkpgnhjnpcjgaaGreatDoorACost2
import Derived.Test.YthkpgnhjnpcjgaaGreatDoorABPl
import Derived.Test.YthkpgnhjnpcjgaaGreatDoorCheck
namespace Go.Proofs.Kb
open Go Go.RowKit Go.Lib Pl
attribute [local go_sem] Oper.semAt_some run_makeMap

/-- where the first rule of number i lies, or -1 -/
def ruleIdx (rs : List ARule) (i : Int) : Int := match rs.findIdx? (fun r => decide (r.index = i)) with
  | some k => k
  | none => -1

theorem ruleIdx_hit {rs : List ARule} {i : Int} {k : Nat} {r : ARule} (hk : rs[k]? = some r) (hr : r.index = i) (hb : ∀ j q, j < k → rs[j]? = some q → q.index ≠ i) : ruleIdx rs i = k ∧ rs.find? (fun r => decide (r.index = i)) = some r := by
  have hkl := (List.getElem?_eq_some_iff.1 hk).1
  refine ⟨?_, find_first rs k r hk (fun j q hj hq => by simpa using hb j q hj hq) (by simpa using hr)⟩
  unfold ruleIdx
  have h : rs.findIdx? (fun r => decide (r.index = i)) = some k := by
    rw [List.findIdx?_eq_some_iff_getElem]
    refine ⟨hkl, ?_, fun j hj => ?_⟩
    · rw [(List.getElem?_eq_some_iff.1 hk).2]; simpa using hr
    · have := hb j (rs[j]'(by omega)) hj (List.getElem?_eq_getElem _)
      simpa using this
  rw [h]

theorem ruleIdx_miss {rs : List ARule} {i : Int} (hb : ∀ (j : Nat) q, rs[j]? = some q → q.index ≠ i) : ruleIdx rs i = -1 ∧ rs.find? (fun r => decide (r.index = i)) = none := by
  have h1 : ∀ r ∈ rs, ¬ r.index = i := fun r hr => by
    obtain ⟨j, hj⟩ := List.getElem?_of_mem hr
    exact hb j r hj
  refine ⟨?_, List.find?_eq_none.2 fun r hr => by simpa using h1 r hr⟩
  unfold ruleIdx
  have h : rs.findIdx? (fun r => decide (r.index = i)) = none := by
    rw [List.findIdx?_eq_none_iff]
    intro r hr
    simpa using h1 r hr
  rw [h]

set_option maxRecDepth 100000 in
theorem pred_any (index cost : Int) (f : Value) (fa : Option Addr) (fn fc : Nat) (hf : f = .slice fa fn fc) (tx : Str) (B : Nat) (i : Int) (w : World) (hB : w.cell? ⟨B, 0, none⟩ = some (.int .i64 i)) (hBl : B < w.heap.size) :
    Calls Tryz.prog 72 #[.agg #[.int .i64 index, .int .i64 cost, f, .string ⟨tx.toArray⟩], .pointer (some ⟨B, 0, none⟩)] w fun e w' => e = .returned (.bool (decide (index = i))) ∧ Ext none' w w' := by
  subst hf
  have hE : Ext none' w (w.alloc (.cells #[.int .i64 index, .int .i64 cost, .slice fa fn fc, .string ⟨tx.toArray⟩] 101)) := (Ext.refl none' w).alloc _
  have HE := Lib.hid hE
  clear hE
  go_enter Tryz.func72, Tryz.ntmps72
  go_wp2_with fail
  go_ret
  exact ⟨rfl, HE.out⟩

set_option maxRecDepth 100000 in
set_option maxHeartbeats 2000000 in
theorem index_any (N : Nat) (v : Value) (rs : List ARule) (B : Nat) (i : Int) (w : World) (hv : ARulesAt N w v rs) (hB : w.cell? ⟨B, 0, none⟩ = some (.int .i64 i)) (hBl : B < w.heap.size) (hN : N ≤ w.heap.size) :
    Calls Tryz.prog 71 #[v, .func (.func 72) #[] #[.pointer (some ⟨B, 0, none⟩)]] w fun e w' => e = .returned (.int .i64 (ruleIdx rs i)) ∧ Ext none' w w' := by
  obtain ⟨a, cap, rfl, hc, hm, hr⟩ := hv
  have hlen : rs.length ≤ 9223372036854775807 := by unfold maxLen at hm; omega
  have eg := enters_of Tryz.func72 (by kernel_rfl) rfl
  obtain ⟨ri, hri⟩ : ∃ ri, ri = ruleIdx rs i := ⟨_, rfl⟩
  rw [← hri]
  have HRI := Lib.hid hri
  clear hri
  go_enter Tryz.func71, Tryz.ntmps71
  go_wp2_with fail
  go_loopw [8] (fun s wr => ∃ k : Nat, s = .int .i64 k ∧ k ≤ rs.length ∧ (∀ j q, j < k → rs[j]? = some q → q.index ≠ i) ∧ Ext none' w wr) (fun s _ => rs.length - (intOf s).toNat)
  case atStart => exact ⟨0, rfl, by omega, fun j q hj => absurd hj (by omega), Ext.refl _ _⟩
  case round =>
    obtain ⟨k, rfl, hk, hb, hEr⟩ := hrel
    have HB := Lib.hid hb
    clear hb
    by_cases hkl : k < rs.length
    · obtain ⟨r, hd⟩ : ∃ r, rs[k]? = some r := ⟨_, List.getElem?_eq_getElem hkl⟩
      obtain ⟨b, o, rfl, hbN, hx⟩ := hr (by intro e; rw [e] at hkl; simp at hkl)
      obtain ⟨f, hf, hcell⟩ := hx k r hd
      obtain ⟨fa, fc, rfl, -⟩ := hf
      have c0 : wr.cell? ⟨b, o + k * 4, none⟩ = some (.int .i64 r.index) := ((hEr.same0 hN).cell (a := ⟨b, _, none⟩) hbN).trans (hcell 0 _ rfl)
      have c1 : wr.cell? ⟨b, o + k * 4 + 1, none⟩ = some (.int .i64 r.cost) := ((hEr.same0 hN).cell (a := ⟨b, _, none⟩) hbN).trans (hcell 1 _ rfl)
      have c2 : wr.cell? ⟨b, o + k * 4 + 2, none⟩ = some (.slice fa r.frm.length fc) := ((hEr.same0 hN).cell (a := ⟨b, _, none⟩) hbN).trans (hcell 2 _ rfl)
      have c3 : wr.cell? ⟨b, o + k * 4 + 3, none⟩ = some (.string ⟨r.to.toArray⟩) := ((hEr.same0 hN).cell (a := ⟨b, _, none⟩) hbN).trans (hcell 3 _ rfl)
      have hp := pred_any r.index r.cost (.slice fa r.frm.length fc) fa r.frm.length fc rfl r.to B i wr ((hEr.same0 (Nat.le_refl _)).cell (a := ⟨B, 0, none⟩) hBl |>.trans hB) (Nat.lt_of_lt_of_le hBl hEr.size)
      have HD := Lib.hid hd
      have HP := Lib.hid hp
      clear hx hcell hp hd hr
      go_wp2_with fail
      refine HP.out.mono ?_
      rintro e w2 ⟨rfl, hE2⟩
      have hE := hEr.trans hE2
      by_cases hri : r.index = i
      · rw [show decide (r.index = i) = true by simpa using hri]
        have HR := Lib.hid hri
        clear hri
        go_wp2_with fail
        go_ret
        refine ⟨?_, hE⟩
        rw [HRI.out, (ruleIdx_hit HD.out HR.out HB.out).1]
        rfl
      · rw [show decide (r.index = i) = false by simpa using hri]
        have HR := Lib.hid hri
        clear hri
        go_wp2_with fail
        refine ⟨⟨k + 1, rfl, by omega, fun j q hj hq => ?_, hE⟩, by simp only [intOf]; omega⟩
        rcases Nat.lt_succ_iff_lt_or_eq.1 hj with h | h
        · exact HB.out j q h hq
        · subst h
          rw [HD.out] at hq
          cases hq
          exact HR.out
    · obtain rfl : k = rs.length := by omega
      go_wp2_with fail
      go_ret
      refine ⟨?_, hEr⟩
      rw [HRI.out, (ruleIdx_miss (fun j q hj => HB.out j q (List.getElem?_eq_some_iff.1 hj).1 hj)).1]
      rfl

/-! what rules write -/

theorem cat_bytes (m x : List UInt8) : (⟨m.toArray⟩ : ByteArray) ++ (⟨x.toArray⟩ : ByteArray) = ⟨(m ++ x).toArray⟩ := by
  apply ByteArray.ext
  simp
/-- what is handed back at the end -/
def wrEnd (l : List Str) : Option (Str × Int × Int) → Str × Int × Bool
  | some (f, c, at') => (f, c, decide (at' = (l.length : Int)))
  | none => ([], 0, false)
theorem lss_zero (q : Nat) (x y : Operand) (w : World) : (do eqGuard .lss 3 x y (.int .i64 (q : Nat)) (.int .i64 0); binOp .lss 3 (.int .i64 (q : Nat)) (.int .i64 0) : Sem Value).run Tryz.prog w = .ok (.bool false) w := by
  have e : decide ((q : Int) < 0) = false := decide_eq_false (by omega)
  go_simp
theorem load_arules (p : Addr) (v : Value) (w : World) (h : w.cell? p = some v) : (loadVar 85 p).run Tryz.prog w = .ok v w := by go_simp
theorem load_strs (p : Addr) (v : Value) (w : World) (h : w.cell? p = some v) : (loadVar 59 p).run Tryz.prog w = .ok v w := by go_simp
theorem index_arule (b o n c : Nat) (j : Nat) (h : j < n) (w : World) : (Instr.indexAt 85 (.slice (some ⟨b, o, none⟩) n c) (.int .i64 (j : Nat))).run Tryz.prog w = .ok (.pointer (some ⟨b, o + j * 4, none⟩)) w := by
  go_simp
theorem load_arule (b o : Nat) (index cost : Int) (fa : Option Addr) (fn fc : Nat) (tx : Str) (w : World) (c0 : w.cell? ⟨b, o, none⟩ = some (.int .i64 index)) (c1 : w.cell? ⟨b, o + 1, none⟩ = some (.int .i64 cost)) (c2 : w.cell? ⟨b, o + 2, none⟩ = some (.slice fa fn fc)) (c3 : w.cell? ⟨b, o + 3, none⟩ = some (.string ⟨tx.toArray⟩)) :
    (loadVar 101 ⟨b, o, none⟩).run Tryz.prog w = .ok (.agg #[.int .i64 index, .int .i64 cost, .slice fa fn fc, .string ⟨tx.toArray⟩]) w := by
  go_simp
theorem eql_int (m n : Int) (x y : Operand) (w : World) : (do eqGuard .eql 3 x y (.int .i64 m) (.int .i64 n); binOp .eql 3 (.int .i64 m) (.int .i64 n) : Sem Value).run Tryz.prog w = .ok (.bool (decide (m = n))) w := by
  by_cases h : m = n <;> go_simp

set_option maxRecDepth 100000 in
set_option maxHeartbeats 4000000 in
theorem written_any (N : Nat) (vl vr vi : Value) (l : List Str) (rs : List ARule) (is : List Int) (w : World) (hl : StrsAt N w vl l) (hr : ARulesAt N w vr rs) (hi : SlAt 1 (fun n : Int => [.int .i64 n]) N w vi is)
    (hl12 : 0 < l.length ∧ l.length ≤ 12) (hf12 : ∀ r ∈ rs, 0 < r.frm.length ∧ r.frm.length ≤ 12) (hc : ∀ r ∈ rs, 0 ≤ r.cost ∧ r.cost ≤ 1000) (hto : ∀ r ∈ rs, r.to.length ≤ 3) (hN : N ≤ w.heap.size) :
    Calls Tryz.prog 44 #[.agg #[vl, vr], vi] w fun e w' => e = .returned (.tuple #[.string ⟨(Pl.written l rs is).1.toArray⟩, .int .i64 (Pl.written l rs is).2.1, .bool (Pl.written l rs is).2.2]) ∧ Ext none' w w' := by
  have HL := Lib.hid hl
  have HR := Lib.hid hr
  obtain ⟨la, lc, rfl, -⟩ := hl
  obtain ⟨ra, rc, rfl, hrc, hrm, hrx⟩ := hr
  obtain ⟨ia, ic, rfl, hic, him, hix⟩ := hi
  have hisl : is.length ≤ 9223372036854775807 := by unfold maxLen at him; omega
  obtain ⟨u, hu⟩ : ∃ u, u = Pl.written l rs is := ⟨_, rfl⟩
  obtain ⟨uf, hwf⟩ : ∃ uf, uf = writtenF l rs is 0 [] 0 := ⟨_, rfl⟩
  have hu2 : u = wrEnd l uf := by rw [hu, hwf]; rfl
  rw [← hu]
  have HU := Lib.hid hu2
  have HWF := Lib.hid hwf
  have HIX := Lib.hid hix
  have HRX := Lib.hid hrx
  obtain ⟨w0, hw0⟩ : ∃ w0, w0 = w.alloc (.cells #[.slice la l.length lc, .slice ra rs.length rc] 87) := ⟨_, rfl⟩
  have hE0 : Ext none' w w0 := by rw [hw0]; exact (Ext.refl _ w).alloc _
  have k0 : w0.heap[w.heap.size]? = some (.cells #[.slice la l.length lc, .slice ra rs.length rc] 87) := by rw [hw0]; exact newAt _ rfl
  have z0 : w.heap.size < w0.heap.size := by rw [hw0]; simp
  have HW0 := Lib.hid hw0
  clear hu hu2 hwf hix hrx hw0
  go_enter Tryz.func44, Tryz.ntmps44
  go_wp2_with fail
  rw [← HW0.out]
  go_loopw [4, 5, 7, 13] (fun sf sc sn sk wr => ∃ (f : Str) (c : Int) (n k : Nat), sf = .string ⟨f.toArray⟩ ∧ sc = .int .i64 c ∧ sn = .int .i64 n ∧ sk = .int .i64 k ∧ k ≤ is.length ∧ n ≤ l.length ∧ uf = writtenF l rs (is.drop k) n f c ∧ f.length ≤ 3 * n ∧ 0 ≤ c ∧ c ≤ 1000 * n ∧ Ext none' w0 wr) (fun _ _ _ sk _ => is.length - (intOf sk).toNat)
  case atStart => exact ⟨[], 0, 0, 0, rfl, rfl, rfl, rfl, by omega, by omega, HWF.out, by simp, by omega, by omega, Ext.refl _ _⟩
  case round =>
    obtain ⟨f, c, n, k, rfl, rfl, rfl, rfl, hk, hn, hF, hfl, hc0, hc1, hEr⟩ := hrel
    have HF := Lib.hid hF
    clear hF
    have hkr : wr.heap[w.heap.size]? = some (.cells #[.slice la l.length lc, .slice ra rs.length rc] 87) := (hEr.same _ z0 (fun h => h)).trans k0
    have hszr := hEr.size
    by_cases hkl : k < is.length
    · obtain ⟨i, hd⟩ : ∃ i, is[k]? = some i := ⟨_, List.getElem?_eq_getElem hkl⟩
      obtain ⟨ib, io, rfl, hib, hicell⟩ := HIX.out (by intro e; rw [e] at hkl; simp at hkl)
      have hE0r := hE0.trans hEr
      have c0 : wr.cell? ⟨ib, io + k, none⟩ = some (.int .i64 i) := by
        have := ((hE0r.same0 hN).cell (a := ⟨ib, io + k * 1 + 0, none⟩) hib).trans (hicell k i hd 0 _ rfl)
        simpa using this
      have hdrop : is.drop k = i :: is.drop (k + 1) := by
        rw [List.drop_eq_getElem_cons hkl]
        rw [List.getElem?_eq_getElem hkl] at hd
        cases hd
        rfl
      have HD := Lib.hid hdrop
      clear hicell hd hdrop
      go_upto_region 5 with fail
      clear c0
      obtain ⟨w2, hw2⟩ : ∃ w2, w2 = wr.alloc (.cells #[.int .i64 i] 3) := ⟨_, rfl⟩
      rw [← hw2]
      have hE2 : Ext none' wr w2 := by rw [hw2]; exact (Ext.refl _ wr).alloc _
      have k2b : w2.heap[wr.heap.size]? = some (.cells #[.int .i64 i] 3) := by rw [hw2]; exact newAt _ rfl
      have z2 : wr.heap.size < w2.heap.size := by rw [hw2]; simp
      clear hw2
      have k2 : w2.heap[w.heap.size]? = some (.cells #[.slice la l.length lc, .slice ra rs.length rc] 87) := (hE2.same _ (by omega) (fun h => h)).trans hkr
      have q1 : w2.cell? ⟨w.heap.size, 1, none⟩ = some (.slice ra rs.length rc) := cellAt k2 1 rfl
      have hix := index_any N _ rs wr.heap.size i w2 (HR.out.keep ((hE0r.trans hE2).same0 hN)) (cellAt k2b 0 rfl) z2 (by omega)
      obtain ⟨ri, hri⟩ : ∃ ri, ri = ruleIdx rs i := ⟨_, rfl⟩
      rw [← hri] at hix
      have HIXX := Lib.hid hix
      have HRI := Lib.hid hri
      clear hix hri
      go_wp2_with fail
      refine HIXX.out.mono ?_
      rintro e w3 ⟨rfl, hE3⟩
      clear q1
      go_upto_region 6 with fail
      obtain ⟨w4, hw4⟩ : ∃ w4, w4 = w3.drew := ⟨_, rfl⟩
      have e34 : Ext none' w3 w4 := by rw [hw4]; exact (Ext.refl none' w3).drew
      have e04 := hEr.trans (hE2.trans (hE3.trans e34))
      have ew4 := hE0.trans e04
      have z4 := e04.size
      have k4 : w4.heap[w.heap.size]? = some (.cells #[.slice la l.length lc, .slice ra rs.length rc] 87) := (e04.same _ z0 (fun h => h)).trans k0
      refine (wpIn_wide (n := 1)).1 ?_
      refine wp_region_N (ro := none) 13 (fun _ x y => Ext none' x y) rfl (by kernel_rfl) ?_
      change wpAnyS _ _ _ _ _ _ _ _ _ _ w3.drew
      rw [← hw4]
      clear hw4
      cases hfd : rs.find? (fun r => decide (r.index = i)) with
      | none =>
        have hri := (ruleIdx_miss (rs := rs) (i := i) (fun j q hj => by simpa using List.find?_eq_none.1 hfd q (List.mem_of_getElem? hj))).1
        have hun : uf = none := by rw [HF.out, HD.out, writtenF, hfd]
        have HUN := Lib.hid hun
        have hri2 := HRI.out.trans hri
        clear hfd hri hun
        subst hri2
        refine wpAnyS_p 0 (some 21) (.int .i64 (-1)) (by kernel_rfl) (by kernel_rfl) (fun _ _ _ h => h) (fun x => Ext.refl _ x) (by kernel_rfl) (by kernel_rfl) ?_
        refine wpAnyS_p 1 (some 22) (.bool true) (by kernel_rfl) (by kernel_rfl) (fun _ _ _ h => h) (fun x => Ext.refl _ x) (by kernel_rfl) (by kernel_rfl) ?_
        refine wpAnyS_p 2 (some 23) (.bool true) (by kernel_rfl) (by kernel_rfl) (fun _ _ _ h => h) (fun x => Ext.refl _ x) (by kernel_rfl) (by kernel_rfl) ?_
        refine wpAnyS_o 3 (some 24) (by kernel_rfl) (by kernel_rfl) (fun _ _ _ h => h) (fun x => Ext.refl _ x) (by kernel_rfl) ?_
        refine wpAnyS_o 4 (some 25) (by kernel_rfl) (by kernel_rfl) (fun _ _ _ h => h) (fun x => Ext.refl _ x) (by kernel_rfl) ?_
        refine wpAnyS_o 5 (some 26) (by kernel_rfl) (by kernel_rfl) (fun _ _ _ h => h) (fun x => Ext.refl _ x) (by kernel_rfl) ?_
        refine wpAnyS_o 6 (some 27) (by kernel_rfl) (by kernel_rfl) (fun _ _ _ h => h) (fun x => Ext.refl _ x) (by kernel_rfl) ?_
        refine wpAnyS_o 7 (some 28) (by kernel_rfl) (by kernel_rfl) (fun _ _ _ h => h) (fun x => Ext.refl _ x) (by kernel_rfl) ?_
        refine wpAnyS_o 8 (some 29) (by kernel_rfl) (by kernel_rfl) (fun _ _ _ h => h) (fun x => Ext.refl _ x) (by kernel_rfl) ?_
        refine wpAnyS_o 9 (some 30) (by kernel_rfl) (by kernel_rfl) (fun _ _ _ h => h) (fun x => Ext.refl _ x) (by kernel_rfl) ?_
        refine wpAnyS_o 10 (some 31) (by kernel_rfl) (by kernel_rfl) (fun _ _ _ h => h) (fun x => Ext.refl _ x) (by kernel_rfl) ?_
        refine wpAnyS_o 11 (some 32) (by kernel_rfl) (by kernel_rfl) (fun _ _ _ h => h) (fun x => Ext.refl _ x) (by kernel_rfl) ?_
        refine wpAnyS_p 12 (some 33) (.bool true) (by kernel_rfl) (by kernel_rfl) (fun _ _ _ h => h) (fun x => Ext.refl _ x) (by kernel_rfl) (by kernel_rfl) ?_
        refine wpAnyS_doneN (by kernel_rfl) ?_ _
        simp only [Act.put, List.setIfInBounds_toArray, List.set_cons_succ, List.set_cons_zero]
        go_wp2_with fail
        go_ret3
        exact ⟨by rw [HU.out, HUN.out]; rfl, ew4⟩
      | some r =>
        obtain ⟨hri, q, hql, hqr, hqb⟩ := List.find?_eq_some_iff_getElem.1 hfd
        have hri : r.index = i := of_decide_eq_true hri
        have hqm : rs[q]? = some r := by rw [List.getElem?_eq_getElem hql, hqr]
        have hrm := List.mem_of_getElem? hqm
        have hrx := (ruleIdx_hit hqm hri (fun j x hj hx => by
          have := hqb j hj
          rw [(List.getElem?_eq_some_iff.1 hx).2] at this
          simpa using this)).1
        have hri2 := HRI.out.trans hrx
        clear hrx hri hqb hqr HRI
        subst hri2
        have hf := hf12 r hrm
        have hcr := hc r hrm
        have htr := hto r hrm
        obtain ⟨b, o, rfl, hbN, hx⟩ := HRX.out (by intro e; rw [e] at hql; simp at hql)
        obtain ⟨vf, hvf, hcell⟩ := hx q r hqm
        have HVF := Lib.hid hvf
        obtain ⟨fa, fc, rfl, -⟩ := hvf
        have rcell : ∀ W, Ext none' w4 W → ∀ m u, (arCells r (.slice fa r.frm.length fc))[m]? = some u → W.cell? ⟨b, o + q * 4 + m, none⟩ = some u := fun W hW m u hu => (((ew4.trans hW).same0 hN).cell (a := ⟨b, _, none⟩) hbN).trans (hcell m u hu)
        have RC := Lib.hid rcell
        have HFD := Lib.hid hfd
        clear hx hcell rcell hqm hfd
        refine wpAnyS_p 0 (some 21) (.int .i64 (q : Nat)) (by kernel_rfl) (by kernel_rfl) (fun _ _ _ h => h) (fun x => Ext.refl _ x) (by kernel_rfl) (by kernel_rfl) ?_
        refine wpAnyS_t 1 (fun W => Ext none' w4 W) (fun _ => true) (some 22) (.bool false) (by kernel_rfl) (by kernel_rfl) (fun _ _ _ h => h) (fun j x y _ ho hx => hx.trans ho) (fun x => Ext.refl _ x) (Ext.refl _ _) (by kernel_rfl) (fun o' ho W hW => by cases ho; exact exec_bin _ _ _ _ _ rfl _ _ _ (by kernel_rfl) (by kernel_rfl) (lss_zero q _ _ W)) ?_
        refine wpAnyS_p 2 (some 23) (.bool false) (by kernel_rfl) (by kernel_rfl) (fun _ _ _ h => h) (fun x => Ext.refl _ x) (by kernel_rfl) (by kernel_rfl) ?_
        refine wpAnyS_t 3 (fun W => Ext none' w4 W) (fun _ => true) (some 24) (.agg #[.slice la l.length lc, .slice (some ⟨b, o, none⟩) rs.length rc]) (by kernel_rfl) (by kernel_rfl) (fun _ _ _ h => h) (fun j x y _ ho hx => hx.trans ho) (fun x => Ext.refl _ x) (Ext.refl _ _) (by kernel_rfl) (fun o' ho W hW => by cases ho; exact exec_load_row _ _ rfl _ (by kernel_rfl) _ _ _ ((hW.same _ (by omega) (fun h => h)).trans k4) Tryz.underlying87 rfl (by kernel_rfl)) ?_
        refine wpAnyS_p 4 (some 25) (.pointer (some ⟨w.heap.size, 1, none⟩)) (by kernel_rfl) (by kernel_rfl) (fun _ _ _ h => h) (fun x => Ext.refl _ x) (by kernel_rfl) (by kernel_rfl) ?_
        refine wpAnyS_t 5 (fun W => Ext none' w4 W) (fun _ => true) (some 26) (.slice (some ⟨b, o, none⟩) rs.length rc) (by kernel_rfl) (by kernel_rfl) (fun _ _ _ h => h) (fun j x y _ ho hx => hx.trans ho) (fun x => Ext.refl _ x) (Ext.refl _ _) (by kernel_rfl) (fun o' ho W hW => by cases ho; exact exec_load_cell _ _ rfl ⟨w.heap.size, 1, none⟩ (by kernel_rfl) _ (fun w h => load_arules _ _ w h) (cellAt ((hW.same _ (by omega) (fun h => h)).trans k4) 1 rfl)) ?_
        refine wpAnyS_p 6 (some 27) (.int .i64 (q : Nat)) (by kernel_rfl) (by kernel_rfl) (fun _ _ _ h => h) (fun x => Ext.refl _ x) (by kernel_rfl) (by kernel_rfl) ?_
        refine wpAnyS_t 7 (fun W => Ext none' w4 W) (fun _ => true) (some 28) (.pointer (some ⟨b, o + q * 4, none⟩)) (by kernel_rfl) (by kernel_rfl) (fun _ _ _ h => h) (fun j x y _ ho hx => hx.trans ho) (fun x => Ext.refl _ x) (Ext.refl _ _) (by kernel_rfl) (fun o' ho W hW => by cases ho; exact exec_index _ _ _ rfl _ _ _ (by kernel_rfl) (by kernel_rfl) (index_arule b o rs.length rc q hql W)) ?_
        refine wpAnyS_t 8 (fun W => Ext none' w4 W) (fun _ => true) (some 29) (.agg #[.int .i64 r.index, .int .i64 r.cost, .slice fa r.frm.length fc, .string ⟨r.to.toArray⟩]) (by kernel_rfl) (by kernel_rfl) (fun _ _ _ h => h) (fun j x y _ ho hx => hx.trans ho) (fun x => Ext.refl _ x) (Ext.refl _ _) (by kernel_rfl) (fun o' ho W hW => by cases ho; exact exec_load _ _ rfl _ (by kernel_rfl) _ (load_arule b (o + q * 4) r.index r.cost fa r.frm.length fc r.to W (RC.out W hW 0 _ rfl) (RC.out W hW 1 _ rfl) (RC.out W hW 2 _ rfl) (RC.out W hW 3 _ rfl))) ?_
        refine wpAnyS_p 9 (some 30) (.int .i64 (n : Nat)) (by kernel_rfl) (by kernel_rfl) (fun _ _ _ h => h) (fun x => Ext.refl _ x) (by kernel_rfl) (by kernel_rfl) ?_
        refine wpAnyS_1 10 (some 31) (.call { callee := .value (.func 68), args := #[.tmp 24, .tmp 29, .tmp 30], argTypes := #[87, 101, 3] }) (by kernel_rfl) (by kernel_rfl) (by kernel_rfl) (by kernel_rfl) fun o' hod ho KK hK => ?_
        refine wpIn_call _ _ _ #[.agg #[.slice la l.length lc, .slice (some ⟨b, o, none⟩) rs.length rc], .agg #[.int .i64 r.index, .int .i64 r.cost, .slice fa r.frm.length fc, .string ⟨r.to.toArray⟩], .int .i64 (n : Nat)] _ hod ho (by kernel_rfl) (enters_of Tryz.func68 (by kernel_rfl) rfl)
          ((fits_any N _ _ (some ⟨b, o, none⟩) rs.length rc l r n w4 (HL.out.keep (ew4.same0 hN)) (HVF.out.keep (ew4.same0 hN)) hl12 hf hn (by omega)).mono ?_)
        rintro _ w5 ⟨rfl, hE5⟩
        refine ⟨_, rfl, hK _ _ ⟨hE5, ?_⟩⟩
        clear hK ho hod
        obtain ⟨fb, hfb⟩ : ∃ fb, fb = afits l r (n : Int) := ⟨_, rfl⟩
        rw [← hfb]
        have HFB := Lib.hid hfb
        clear hfb
        refine wpAnyS_p 11 (some 32) (.bool (!fb)) (by kernel_rfl) (by kernel_rfl) (fun _ _ _ h => h) (fun x => Ext.refl _ x) (by kernel_rfl) (by kernel_rfl) ?_
        refine wpAnyS_p 12 (some 33) (.bool (!fb)) (by kernel_rfl) (by kernel_rfl) (fun _ _ _ h => h) (fun x => Ext.refl _ x) (by kernel_rfl) (by kernel_rfl) ?_
        refine wpAnyS_doneN (by kernel_rfl) ?_ _
        simp only [Act.put, List.setIfInBounds_toArray, List.set_cons_succ, List.set_cons_zero]
        cases fb with
        | false =>
          have hun : uf = none := by rw [HF.out, HD.out, writtenF, HFD.out]; simp only; rw [if_neg (by rw [← HFB.out]; simp)]
          have HUN := Lib.hid hun
          clear hun
          go_wp2_with fail
          go_ret3
          exact ⟨by rw [HU.out, HUN.out]; rfl, ew4.trans hE5⟩
        | true =>
          have hun : uf = writtenF l rs (is.drop (k + 1)) ((n : Int) + r.frm.length) (f ++ r.to) (c + r.cost) := by rw [HF.out, HD.out, writtenF, HFD.out]; simp only; rw [if_pos (by rw [← HFB.out])]
          have HUN := Lib.hid hun
          have hfit := HFB.out.symm
          unfold afits at hfit
          simp only [Bool.and_eq_true, decide_eq_true_eq] at hfit
          have hfit1 : n + r.frm.length ≤ l.length := by have := hfit.1; omega
          have k5 : w5.heap[w.heap.size]? = some (.cells #[.slice la l.length lc, .slice (some ⟨b, o, none⟩) rs.length rc] 87) := (hE5.same _ (by omega) (fun h => h)).trans k4
          have q1 : w5.cell? ⟨w.heap.size, 1, none⟩ = some (.slice (some ⟨b, o, none⟩) rs.length rc) := cellAt k5 1 rfl
          have c1 : w5.cell? ⟨b, o + q * 4 + 1, none⟩ = some (.int .i64 r.cost) := RC.out w5 hE5 1 _ rfl
          have c2 : w5.cell? ⟨b, o + q * 4 + 2, none⟩ = some (.slice fa r.frm.length fc) := RC.out w5 hE5 2 _ rfl
          have c3 : w5.cell? ⟨b, o + q * 4 + 3, none⟩ = some (.string ⟨r.to.toArray⟩) := RC.out w5 hE5 3 _ rfl
          have hw1 : IntKind.i64.wrap ((n : Int) + (r.frm.length : Int)) = (n : Int) + (r.frm.length : Int) := wrap_of (by omega) (by omega)
          have hw2 : IntKind.i64.wrap (c + r.cost) = c + r.cost := wrap_of (by omega) (by omega)
          have hcat := cat_bytes f r.to
          have hlm : f.length + r.to.length ≤ 9223372036854775807 := by omega
          have HX := Lib.hid (e04.trans hE5)
          clear hun hfit k4 k5
          go_wp2_with fail
          refine ⟨⟨f ++ r.to, c + r.cost, n + r.frm.length, k + 1, rfl, rfl, ?_, rfl, by omega, hfit1, ?_, ?_, by omega, ?_, HX.out⟩, by simp only [intOf]; omega⟩
          · simp only [Int.natCast_add]
          · rw [HUN.out, Int.natCast_add]
          · rw [List.length_append]; omega
          · rw [Int.natCast_add]; omega
    · obtain rfl : k = is.length := by omega
      go_upto_region 12 with fail
      obtain ⟨w4, hw4⟩ : ∃ w4, w4 = wr.drew := ⟨_, rfl⟩
      have e34 : Ext none' wr w4 := by rw [hw4]; exact (Ext.refl none' wr).drew
      have k4 : w4.heap[w.heap.size]? = some (.cells #[.slice la l.length lc, .slice ra rs.length rc] 87) := (e34.same _ (by omega) (fun h => h)).trans hkr
      have ew4 := hE0.trans (hEr.trans e34)
      have z4 := e34.size
      have hun : uf = some (f, c, (n : Int)) := by rw [HF.out, List.drop_eq_nil_of_le (Nat.le_refl _), writtenF]
      have HUN := Lib.hid hun
      clear hun
      refine (wpIn_wide (n := 1)).1 ?_
      refine wp_region_N (ro := none) 10 (fun _ x y => Ext none' x y) rfl (by kernel_rfl) ?_
      change wpAnyS _ _ _ _ _ _ _ _ _ _ wr.drew
      rw [← hw4]
      clear hw4
      refine wpAnyS_p 0 (some 60) (.string ⟨f.toArray⟩) (by kernel_rfl) (by kernel_rfl) (fun _ _ _ h => h) (fun x => Ext.refl _ x) (by kernel_rfl) (by kernel_rfl) ?_
      refine wpAnyS_p 1 (some 61) (.int .i64 c) (by kernel_rfl) (by kernel_rfl) (fun _ _ _ h => h) (fun x => Ext.refl _ x) (by kernel_rfl) (by kernel_rfl) ?_
      refine wpAnyS_p 2 (some 62) (.int .i64 (n : Nat)) (by kernel_rfl) (by kernel_rfl) (fun _ _ _ h => h) (fun x => Ext.refl _ x) (by kernel_rfl) (by kernel_rfl) ?_
      refine wpAnyS_p 3 (some 63) (.pointer (some ⟨w.heap.size, 0, none⟩)) (by kernel_rfl) (by kernel_rfl) (fun _ _ _ h => h) (fun x => Ext.refl _ x) (by kernel_rfl) (by kernel_rfl) ?_
      refine wpAnyS_t 4 (fun W => Ext none' w4 W) (fun _ => true) (some 64) (.slice la l.length lc) (by kernel_rfl) (by kernel_rfl) (fun _ _ _ h => h) (fun j x y _ ho hx => hx.trans ho) (fun x => Ext.refl _ x) (Ext.refl _ _) (by kernel_rfl) (fun o' ho W hW => by cases ho; exact exec_load_cell _ _ rfl ⟨w.heap.size, 0, none⟩ (by kernel_rfl) _ (fun w h => load_strs _ _ w h) (cellAt ((hW.same _ (by omega) (fun h => h)).trans k4) 0 rfl)) ?_
      refine wpAnyS_p 5 (some 65) (.int .i64 (l.length : Nat)) (by kernel_rfl) (by kernel_rfl) (fun _ _ _ h => h) (fun x => Ext.refl _ x) (by kernel_rfl) (by kernel_rfl) ?_
      refine wpAnyS_t 6 (fun W => Ext none' w4 W) (fun _ => true) (some 66) (.bool (decide ((n : Int) = (l.length : Int)))) (by kernel_rfl) (by kernel_rfl) (fun _ _ _ h => h) (fun j x y _ ho hx => hx.trans ho) (fun x => Ext.refl _ x) (Ext.refl _ _) (by kernel_rfl) (fun o' ho W hW => by cases ho; exact exec_bin _ _ _ _ _ rfl _ _ _ (by kernel_rfl) (by kernel_rfl) (eql_int _ _ _ _ W)) ?_
      refine wpAnyS_p 7 (some 4) (.string ⟨f.toArray⟩) (by kernel_rfl) (by kernel_rfl) (fun _ _ _ h => h) (fun x => Ext.refl _ x) (by kernel_rfl) (by kernel_rfl) ?_
      refine wpAnyS_p 8 (some 5) (.int .i64 c) (by kernel_rfl) (by kernel_rfl) (fun _ _ _ h => h) (fun x => Ext.refl _ x) (by kernel_rfl) (by kernel_rfl) ?_
      refine wpAnyS_p 9 (some 6) (.bool (decide ((n : Int) = (l.length : Int)))) (by kernel_rfl) (by kernel_rfl) (fun _ _ _ h => h) (fun x => Ext.refl _ x) (by kernel_rfl) (by kernel_rfl) ?_
      refine wpAnyS_doneN (by kernel_rfl) ?_ _
      simp only [Act.put, List.setIfInBounds_toArray, List.set_cons_succ, List.set_cons_zero]
      go_wp2_with fail
      go_ret3
      exact ⟨by rw [HU.out, HUN.out]; rfl, ew4⟩
end Go.Proofs.Kb
