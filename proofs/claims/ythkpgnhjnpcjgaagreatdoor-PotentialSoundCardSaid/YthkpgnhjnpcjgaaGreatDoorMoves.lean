/- Package potential: the moves from a state, handed out one after the other. -/
import Derived.Test.YthkpgnhjnpcjgaaGreatDoorPair
import Derived.Sort.QuietIn
import Derived.Sort.CutIn
namespace Go.Proofs.Kb
open Go Go.RowKit Go.Lib Pl
attribute [local go_sem] Oper.semAt_some run_makeMap

theorem wide_fn (f : FuncId) : Fence.wide.fn f = True := rfl
attribute [local simp] wide_fn
attribute [local go_sem] wide_fn

set_option maxRecDepth 100000 in
theorem moves_any (cp cs : Array Value) (_hp : cp.size = 9) (_hs : cs.size = 4) (w : World) :
    Calls Tryz.prog 33 #[.agg cp, .agg cs] w fun e w' =>
      e = .returned (.func (.func 60) #[] #[.pointer (some ⟨w.heap.size + 1, 0, none⟩), .pointer (some ⟨w.heap.size, 0, none⟩)]) ∧
      w' = (w.alloc (.cells cp 64)).alloc (.cells cs 62) := by
  go_enter Tryz.func33, Tryz.ntmps33
  go_wp2_with fail
  go_ret
  exact ⟨rfl, rfl⟩

/-- a state's cells -/
def cellsState (s : State) : Array Value := #[.int .i64 s.i, .int .i64 s.j, encS s.ahead, .bool s.right]

theorem leftMoves_eq (p : Two) (s : State) : (!leftMoves p s) = (!s.right && (!decide (s.ahead = []) || decide (s.i = (p.l.length : Int)))) := by
  unfold leftMoves
  cases s.right <;> simp

theorem Ext.drewN {X : Nat → Prop} {a b : World} (h : Ext X a b) (n : Nat) : Ext X a (b.drewN n) := by
  exact ⟨h.os, h.tape, h.output, h.size, h.same⟩

theorem StrsAt.drop {N : Nat} {w : World} {b o c : Nat} {l : List (List UInt8)} (h : StrsAt N w (.slice (some ⟨b, o, none⟩) l.length c) l) (k : Nat) (hk : k ≤ l.length) : StrsAt N w (.slice (some ⟨b, o + k, none⟩) (l.length - k) (c - k)) (l.drop k) := by
  obtain ⟨a, cap, hv, hc, hm, hr⟩ := h
  cases hv
  refine ⟨some ⟨b, o + k, none⟩, c - k, by simp, by simp; omega, by omega, fun hl => ?_⟩
  have hne : l ≠ [] := by rintro rfl; simp at hl
  obtain ⟨b', o', ha, hb, hx⟩ := hr hne
  cases ha
  refine ⟨b, o + k, rfl, hb, fun j x hj => ?_⟩
  rw [List.getElem?_drop] at hj
  have := hx (k + j) x hj
  rwa [Nat.add_assoc]

theorem YieldW.mono {P : Program} {l : Nat} {args : Array Value} {W : World} {R R' : Ending → World → Prop} (h : YieldW P l args W R) (hr : ∀ e B, R e B → R' e B) : YieldW P l args W R' := by
  obtain ⟨fn, tmps, assign, body, hy, hR⟩ := h
  exact ⟨fn, tmps, assign, body, hy, RoundIn.mono hR hr⟩

theorem uponIn_yield {P : Program} {o : Oper} {a : Act} {K : Act → World → Prop} {Q : Exit → Act → World → Prop} (l : Nat) (args : Array Value) (A : World) (R : Ending → World → Prop) (hY : YieldW P l args A R)
    (hK : ∀ fn tmps assign body, RoundIn Fence.wide 0 P l fn tmps assign body A R → Oper.uponIn Fence.wide 1 P o a K Q (.ok (.round l fn tmps assign body) A)) : Oper.uponIn Fence.wide 1 P o a K Q ((Instr.yield l args).run P A) := by
  obtain ⟨fn, tmps, assign, body, hy, hR⟩ := hY
  rw [hy]
  exact hK _ _ _ _ hR

theorem StrsAt.drop' {N : Nat} {w : World} {b o c : Nat} {l : List (List UInt8)} (h : StrsAt N w (.slice (some ⟨b, o, none⟩) l.length c) l) (k : Nat) (hk : k ≤ l.length) : StrsAt N w (.slice (if c = k then some ⟨b, o, none⟩ else some ⟨b, o + k, none⟩) (l.length - k) (c - k)) (l.drop k) := by
  by_cases hc : c = k
  · rw [if_pos hc]
    have hlc : l.length ≤ c := by obtain ⟨a, cap, hv, hc, hm, hr⟩ := h; cases hv; exact hc
    have hl : l.drop k = [] := List.drop_eq_nil_of_le (by omega)
    have hcm : c ≤ maxLen := by obtain ⟨a, cap, hv, hc, hm, hr⟩ := h; cases hv; exact hm
    rw [hl, show l.length - k = ([] : List (List UInt8)).length by simp; omega]
    exact ⟨_, _, rfl, by simp, by omega, fun h => absurd rfl h⟩
  · rw [if_neg hc]
    exact h.drop k hk

set_option maxRecDepth 100000 in
set_option maxHeartbeats 40000000 in
theorem moves_iter (N : Nat) (p : Two) (s : State) (cp : Array Value) (w : World) (bp bs N' : Nat) (Y : Nat → Prop) (hp : PairAt N w (.agg cp) p) (hs : OkState p s) (hN : N ≤ N')
    (hbp : w.heap[bp]? = some (.cells cp 64)) (hbs : w.heap[bs]? = some (.cells (cellsState s) 62)) (hbpN : bp < N') (hbsN : bs < N') (hY : ∀ i, i < N → ¬ Y i) (hYp : ¬ Y bp) (hYs : ¬ Y bs) :
    Iter Tryz.prog 60 #[.pointer (some ⟨bs, 0, none⟩), .pointer (some ⟨bp, 0, none⟩)] (fun m : Int × State => #[.int .i64 m.1, encState m.2]) (moves p s) none' N' Y w := by
  intro l J Jx W hNW hsame hJ hJx hYield h0
  have hS : Same N w W := fun i hi => hsame i (by omega) (hY i hi)
  obtain ⟨vr, vl, vm, hcp, hr, hl, hm, hgood, hl12, hm12⟩ := hp
  cases hcp
  have hr := hr.keep hS
  have hl := hl.keep hS
  have hm := hm.keep hS
  obtain ⟨ra, rc, rfl, hrc, hrm, hrx⟩ := hr
  obtain ⟨la, lc, rfl, hlc, hlm, hlx⟩ := id hl
  obtain ⟨ma, mc, rfl, hmc, hmm, hmx⟩ := id hm
  have hbp0 := (hsame bp hbpN hYp).trans hbp
  have hbs0 := (hsame bs hbsN hYs).trans hbs
  clear hbp hbs hsame hS
  have p0 := cellAt hbp0 0 rfl
  have p1 := cellAt hbp0 1 rfl
  have p2 := cellAt hbp0 2 rfl
  have p3 := cellAt hbp0 3 rfl
  have p4 := cellAt hbp0 4 rfl
  have s0 : W.cell? ⟨bs, 0, none⟩ = some (.int .i64 s.i) := cellAt hbs0 0 rfl
  have s1 : W.cell? ⟨bs, 1, none⟩ = some (.int .i64 s.j) := cellAt hbs0 1 rfl
  have s2 : W.cell? ⟨bs, 2, none⟩ = some (.string ⟨s.ahead.toArray⟩) := cellAt hbs0 2 rfl
  have s3 : W.cell? ⟨bs, 3, none⟩ = some (.bool s.right) := cellAt hbs0 3 rfl
  have HY := Lib.hid hYield
  clear hYield
  refine (callsIn_wide (n := 1)).1 ?_
  refine callsIn_of_wp Tryz.func60 rfl trivial ?_ rfl
  simp only [Tryz.ntmps60, List.size_toArray, List.length_cons, List.length_nil, Nat.reduceAdd, Nat.reduceSub, Array.replicate_succ, Array.replicate_zero, List.push_toArray, List.append_toArray, List.nil_append, List.cons_append]
  gi_upto_region 0 with fail
  gi_quiet (fail)
  gi_upto_region 1 with fail
  gi_cut [32] from 14 (fun s32 wx => s32 = .bool (!leftMoves p s) ∧ wx = W.drewN nq)
  case first =>
    gi_wp2_with fail
    all_goals first
      | (exfalso; have h := ‹some undef = some (Value.bool _)›; simp [undef] at h; done)
      | (gi_meet; refine ⟨congrArg Value.bool ?_, rfl⟩)
    all_goals (rw [leftMoves_eq]; first | (simp [*]; done) | (simp [*]; rfl))
  case rest =>
    obtain ⟨rfl, rfl⟩ := hcut
    gi_upto_if 32 with fail
    gi_cut [4, 5] from 14 (fun s4 s5 wx => s4 = .int .i64 (if leftMoves p s then 0 else 1) ∧ s5 = .int .i64 (if leftMoves p s then s.i else s.j) ∧ ∃ m, wx = W.drewN m)
    case first =>
      cases hlm : leftMoves p s with
      | true =>
        gi_wp2_with fail
        gi_meet
        exact ⟨by simp [hlm], by simp [hlm], nq, rfl⟩
      | false =>
        gi_upto_region 2 with fail
        gi_quiet (fail)
        gi_wp2_with fail
        gi_meet
        exact ⟨by simp [hlm], by simp [hlm], _, rfl⟩
    case rest =>
      obtain ⟨rfl, rfl, m0, rfl⟩ := hcut
      have side : ∃ (sd at' : Nat) (k : Int) (L : List Str) (Lb Lo Lc : Nat), (if leftMoves p s then (0 : Int) else 1) = sd ∧ sd ≤ 1 ∧ leftMoves p s = decide (sd = 0) ∧ (if leftMoves p s then s.i else s.j) = at' ∧ at' ≤ L.length ∧
          (∀ r, uses p s r = if r.script = k then takes (L.drop at') r.frm else 0) ∧ (#[Value.slice ra p.rules.length rc, .int .i64 p.a, .int .i64 p.b, .slice la p.l.length lc, .slice ma p.m.length mc, .int .i64 p.l.length, .int .i64 p.m.length, .string ⟨#[]⟩, .bool false] : Array Value)[1 + sd]? = some (.int .i64 k) ∧
          (#[Value.slice ra p.rules.length rc, .int .i64 p.a, .int .i64 p.b, .slice la p.l.length lc, .slice ma p.m.length mc, .int .i64 p.l.length, .int .i64 p.m.length, .string ⟨#[]⟩, .bool false] : Array Value)[3 + sd]? = some (.slice (some ⟨Lb, Lo, none⟩) L.length Lc) ∧ StrsAt N W (.slice (some ⟨Lb, Lo, none⟩) L.length Lc) L ∧ L.length ≤ Lc ∧ L.length ≤ 12 ∧ (sd = 0 → s.i = at') ∧ (sd = 1 → s.j = at') := by
        obtain ⟨i0, i1, j0, j1⟩ := hs
        cases hlm2 : leftMoves p s with
        | true =>
          obtain ⟨b, o, rfl, -, -⟩ := hlx (List.length_pos_iff.1 hl12.1)
          exact ⟨0, s.i.toNat, p.a, p.l, b, o, lc, rfl, by omega, rfl, by simp; omega, by omega, fun r => by simp [uses, hlm2], rfl, rfl, hl, hlc, hl12.2, (fun _ => by omega), (fun h => absurd h (by decide))⟩
        | false =>
          obtain ⟨b, o, rfl, -, -⟩ := hmx (List.length_pos_iff.1 hm12.1)
          exact ⟨1, s.j.toNat, p.b, p.m, b, o, mc, rfl, by omega, rfl, by simp; omega, by omega, fun r => by simp [uses, hlm2], rfl, rfl, hm, hmc, hm12.2, (fun h => absurd h (by decide)), (fun _ => by omega)⟩
      obtain ⟨sd, at', k, L, Lb, Lo, Lc, e1, hsd, hlm2, e2, hat, huse, hk, hLs, hL, hLc, hL12, hsi0, hsj1⟩ := side
      rw [e1, e2]
      clear e1 e2 hlx hmx hl hm hlc hmc hlm hmm
      have HU := Lib.hid huse
      clear huse
      have hlen : p.rules.length ≤ 9223372036854775807 := by unfold maxLen at hrm; omega
      gi_wp2_with fail
      gi_loopw [38] (fun i wr => ∃ j : Nat, i = .int .i64 j ∧ j ≤ p.rules.length ∧ (∀ b, b < N' → ¬ Y b → wr.heap[b]? = W.heap[b]?) ∧ N' ≤ wr.heap.size ∧ J ((p.rules.take j).filterMap (Pl.move p s)).length wr) (fun i _ => p.rules.length - (intOf i).toNat)
      case atStart =>
        exact ⟨0, rfl, by omega, fun _ _ _ => rfl, hNW, hJ _ _ _ h0 ((Ext.refl _ W).drewN m0)⟩
      case round =>
        obtain ⟨j, rfl, hj, hsm, hsz, hjJ⟩ := hrel
        by_cases hjl : j < p.rules.length
        · obtain ⟨d, hd⟩ : ∃ d, p.rules[j]? = some d := ⟨_, List.getElem?_eq_getElem hjl⟩
          obtain ⟨b, o, rfl, hb, hcell⟩ := hrx (by intro e; rw [e] at hjl; simp at hjl)
          have hS : Same N W wr := fun i hi => hsm i (by omega) (hY i hi)
          have c0 : wr.cell? ⟨b, o + j * 4, none⟩ = some (.int .i64 d.script) := (hS.cell (a := ⟨b, _, none⟩) hb).trans (hcell j d hd 0 _ rfl)
          have c1 : wr.cell? ⟨b, o + j * 4 + 1, none⟩ = some (.string ⟨d.frm.toArray⟩) := (hS.cell (a := ⟨b, _, none⟩) hb).trans (hcell j d hd 1 _ rfl)
          have c2 : wr.cell? ⟨b, o + j * 4 + 2, none⟩ = some (.string ⟨d.to.toArray⟩) := (hS.cell (a := ⟨b, _, none⟩) hb).trans (hcell j d hd 2 _ rfl)
          have c3 : wr.cell? ⟨b, o + j * 4 + 3, none⟩ = some (.int .i64 d.cost) := (hS.cell (a := ⟨b, _, none⟩) hb).trans (hcell j d hd 3 _ rfl)
          have hbp1 := (hsm bp hbpN hYp).trans hbp0
          have hbs1 := (hsm bs hbsN hYs).trans hbs0
          have t1 : wr.cell? ⟨bp, 1 + sd, none⟩ = some (.int .i64 k) := cellAt hbp1 _ hk
          have t2 : wr.cell? ⟨bp, 3 + sd, none⟩ = some (.slice (some ⟨Lb, Lo, none⟩) L.length Lc) := cellAt hbp1 _ hLs
          have u0 : wr.cell? ⟨bs, 0, none⟩ = some (.int .i64 s.i) := cellAt hbs1 0 rfl
          have u1 : wr.cell? ⟨bs, 1, none⟩ = some (.int .i64 s.j) := cellAt hbs1 1 rfl
          have u2 : wr.cell? ⟨bs, 2, none⟩ = some (.string ⟨s.ahead.toArray⟩) := cellAt hbs1 2 rfl
          have u3 : wr.cell? ⟨bs, 3, none⟩ = some (.bool s.right) := cellAt hbs1 3 rfl
          have hLwr := hL.keep hS
          have htake : p.rules.take (j + 1) = p.rules.take j ++ [d] := by rw [List.take_add_one, hd]; rfl
          have hfm : (p.rules.take (j + 1)).filterMap (Pl.move p s) = (p.rules.take j).filterMap (Pl.move p s) ++ (Pl.move p s d).toList := by rw [htake, List.filterMap_append]; cases h : Pl.move p s d <;> simp [h]
          have HFM := Lib.hid hfm
          have HC := Lib.hid hcell
          clear htake hfm hcell p0 p1 p2 p3 p4 s0 s1 s2 s3 hrx hbp1 hbs1
          have hn := HU.out d
          have hbpN2 : bp < wr.heap.size := by omega
          have hbsN2 : bs < wr.heap.size := by omega
          have skip : ∀ A, Ext none' wr A → Pl.move p s d = none → (∃ j1 : Nat, Value.int .i64 ((j : Int) + 1) = Value.int .i64 j1 ∧ j1 ≤ p.rules.length ∧ (∀ b, b < N' → ¬ Y b → A.heap[b]? = W.heap[b]?) ∧ N' ≤ A.heap.size ∧ J ((p.rules.take j1).filterMap (Pl.move p s)).length A) ∧
              p.rules.length - (intOf (Value.int .i64 ((j : Int) + 1))).toNat < p.rules.length - (intOf (Value.int .i64 (j : Int))).toNat := by
            intro A hA hmv
            refine ⟨⟨j + 1, rfl, by omega, fun b hb hy => (hA.same b (by omega) (fun h => h)).trans (hsm b hb hy), Nat.le_trans hsz hA.size, ?_⟩, by simp only [intOf]; omega⟩
            rw [HFM.out, hmv]
            simp only [Option.toList_none, List.append_nil]
            exact hJ _ _ _ hjJ hA
          have hLd : ∀ A, Ext none' wr A → StrsAt N A (.slice (if Lc = at' then some ⟨Lb, Lo, none⟩ else some ⟨Lb, Lo + at', none⟩) (L.length - at') (Lc - at')) (L.drop at') := fun A hA => (hLwr.drop' at' hat).keep (hA.same0 (by omega))
          have b1 : (sd : Int) < 2 := by omega
          have b2 : sd < 2 := by omega
          have yf : ∀ (c : Int) (st : State), Pl.move p s d = some (c, st) → ∀ A, Ext none' wr A → YieldW Tryz.prog l #[.int .i64 c, encState st] A fun e B =>
              (e = .returned (.bool true) ∧ ((∃ j1 : Nat, Value.int .i64 ((j : Int) + 1) = Value.int .i64 j1 ∧ j1 ≤ p.rules.length ∧ (∀ b, b < N' → ¬ Y b → B.heap[b]? = W.heap[b]?) ∧ N' ≤ B.heap.size ∧ J ((p.rules.take j1).filterMap (Pl.move p s)).length B) ∧
                p.rules.length - (intOf (Value.int .i64 ((j : Int) + 1))).toNat < p.rules.length - (intOf (Value.int .i64 (j : Int))).toNat)) ∨ (e = .returned (.bool false) ∧ Jx B) := by
            intro c st hmv A hA
            have hall : moves p s = (p.rules.take (j + 1)).filterMap (Pl.move p s) ++ (p.rules.drop (j + 1)).filterMap (Pl.move p s) := by
              rw [← List.filterMap_append, List.take_append_drop]; rfl
            rw [HFM.out, hmv] at hall
            have hlt : ((p.rules.take j).filterMap (Pl.move p s)).length < (moves p s).length := by rw [hall]; simp
            have hget : (moves p s)[((p.rules.take j).filterMap (Pl.move p s)).length] = (c, st) := by
              have h2 : (moves p s)[((p.rules.take j).filterMap (Pl.move p s)).length]? = some (c, st) := by rw [hall]; simp
              exact (List.getElem?_eq_some_iff.1 h2).2
            have h3 := HY.out _ hlt A (hJ _ _ _ hjJ hA)
            rw [hget] at h3
            refine YieldW.mono h3 ?_
            rintro e B (⟨rfl, hJ1, hs1, hk1⟩ | ⟨rfl, hx⟩)
            · refine .inl ⟨rfl, ⟨j + 1, rfl, by omega, fun b hb hy => (hk1 b hb hy).trans ((hA.same b (by omega) (fun h => h)).trans (hsm b hb hy)), Nat.le_trans hsz (Nat.le_trans hA.size hs1), ?_⟩, by simp only [intOf]; omega⟩
              rw [HFM.out, hmv]
              simpa using hJ1
            · exact .inr ⟨rfl, hx⟩
          have YF := Lib.hid yf
          clear yf
          have SK := Lib.hid skip
          have HLD := Lib.hid hLd
          clear skip hLd
          by_cases hscr : d.script = k
          · rw [if_pos hscr] at hn
            have b3 : (d.script == k) = true := by simpa using hscr
            have b4 : (at' : Int) ≤ L.length := by omega
            have hn12 := takes_le (L.drop at') d.frm
            rw [List.length_drop] at hn12
            obtain ⟨n, hnn⟩ : ∃ n, takes (L.drop at') d.frm = n := ⟨_, rfl⟩
            rw [hnn] at hn12 hn
            have tk := fun A (hA : Ext none' wr A) => takes_any N _ _ ⟨d.frm.toArray⟩ A (HLD.out A hA)
            rw [show takes (L.drop at') (⟨d.frm.toArray⟩ : ByteArray).data.toList = n from hnn] at tk
            have TK := Lib.hid tk
            clear tk
            gi_upto_region 7 with fail
            gi_quiet (fail)
            gi_upto_region 8 with fail
            gi_quiet (exact CallsIn.mono (callsIn_of_calls (ro := none) (TK.out _ (((Ext.refl none' wr).alloc _).drewN _))) (fun e w' h => ⟨h.1, _, h.2⟩))
            have EA : ∀ a, Ext none' wr ((wr.alloc (.cells #[.int .i64 k, .string ⟨d.frm.toArray⟩, .string ⟨d.to.toArray⟩, .int .i64 d.cost] 41)).drewN a) := fun a => ((Ext.refl none' wr).alloc _).drewN a
            have HN := Lib.hid hn
            have HNN := Lib.hid hnn
            clear hn hnn
            by_cases hn0 : n = 0
            · have HMV := Lib.hid (show Pl.move p s d = none by unfold Pl.move; rw [if_pos (HN.out.trans hn0)])
              have b5 : ((n : Int) == 0) = true := by simp [hn0]
              gi_wp2_with fail
              exact SK.out _ (EA _) HMV.out
            · have b5 : ((n : Int) == 0) = false := by simp [hn0]
              obtain ⟨i0, i1, j0, j1⟩ := hs
              have hLne : ¬ Lc = at' := by omega
              cases hp1 : d.to.isPrefixOf s.ahead with
              | false =>
                have hc1 : (hasPrefix s.ahead d.to) = false := hp1
                have hc2 : trimPrefix s.ahead d.to = s.ahead := by unfold trimPrefix; rw [if_neg (by rw [hc1]; simp)]
                have HC1 := Lib.hid hc1
                have HC2 := Lib.hid hc2
                have HNA := Lib.hid (show (d.to.isPrefixOf s.ahead && !decide (s.ahead.drop d.to.length = [])) = false by rw [hp1]; rfl)
                clear hp1 hc1 hc2
                cases hp2 : s.ahead.isPrefixOf d.to with
                | true =>
                  have hc3 : (hasPrefix d.to s.ahead) = true := hp2
                  have hc4 : trimPrefix d.to s.ahead = d.to.drop s.ahead.length := by unfold trimPrefix; rw [if_pos hc3]
                  have HP2 := Lib.hid hp2
                  have HC3 := Lib.hid hc3
                  have HC4 := Lib.hid hc4
                  clear hp2 hc3 hc4
                  rcases (show sd = 0 ∨ sd = 1 by omega) with hsd0 | hsd0
                  · have hsi := hsi0 hsd0
                    have b6 : ((sd : Int) == 0) = true := by simp [hsd0]
                    have b7 : ((sd : Int) == 1) = false := by simp [hsd0]
                    have hlm3 : leftMoves p s = true := by rw [hlm2, hsd0]; rfl
                    clear hsi0 hsj1 hlm2 hsd0
                    have hmv : Pl.move p s d = some (d.cost, ⟨(at' : Int) + n, s.j, d.to.drop s.ahead.length, false⟩) := by
                      unfold Pl.move
                      rw [HN.out, if_neg hn0]
                      unfold Pl.ahead
                      rw [HNA.out, if_neg (by simp), if_pos HP2.out]
                      simp [hlm3, hsi]
                    have HMV := Lib.hid hmv
                    clear hmv
                    gi_wp2_with fail
                    refine callsIn_of_calls (ro := none) ((Tryz.strings_CutPrefix _ _ _).mono ?_)
                    rintro e w5 ⟨rfl, hw5⟩
                    rw [hw5]
                    clear hw5
                    rw [show trimPrefix (⟨s.ahead.toArray⟩ : ByteArray).data.toList (⟨d.to.toArray⟩ : ByteArray).data.toList = s.ahead from HC2.out, show hasPrefix (⟨s.ahead.toArray⟩ : ByteArray).data.toList (⟨d.to.toArray⟩ : ByteArray).data.toList = false from HC1.out]
                    gi_wp2_with fail
                    refine callsIn_of_calls (ro := none) ((Tryz.strings_CutPrefix _ _ _).mono ?_)
                    rintro e w5 ⟨rfl, hw5⟩
                    rw [hw5]
                    clear hw5
                    rw [show trimPrefix (⟨d.to.toArray⟩ : ByteArray).data.toList (⟨s.ahead.toArray⟩ : ByteArray).data.toList = d.to.drop s.ahead.length from HC4.out, show hasPrefix (⟨d.to.toArray⟩ : ByteArray).data.toList (⟨s.ahead.toArray⟩ : ByteArray).data.toList = true from HC3.out]
                    generalize d.to.drop s.ahead.length = ah at *
                    gi_wp2_with fail
                    refine uponIn_yield l _ _ _ (YF.out _ _ HMV.out _ ((EA _).alloc _)) ?_
                    intro fn tmps assign body hR
                    gi_wp2_with fail
                    refine hR.mono ?_
                    rintro e B (⟨rfl, hrel⟩ | ⟨rfl, hx⟩)
                    · gi_wp2_with fail
                      exact hrel
                    · gi_wp2_with fail
                      exact bodyPost_ret (results_none rfl _ _ _) rfl ⟨⟨_, rfl⟩, .inr hx⟩
                  · have hsi := hsj1 hsd0
                    have b6 : ((sd : Int) == 0) = false := by simp [hsd0]
                    have b7 : ((sd : Int) == 1) = true := by simp [hsd0]
                    have hlm3 : leftMoves p s = false := by rw [hlm2, hsd0]; rfl
                    clear hsi0 hsj1 hlm2 hsd0
                    by_cases hr3 : d.to.drop s.ahead.length = []
                    · have hmv : Pl.move p s d = some (d.cost, ⟨s.i, (at' : Int) + n, [], false⟩) := by
                        unfold Pl.move
                        rw [HN.out, if_neg hn0]
                        unfold Pl.ahead
                        rw [HNA.out, if_neg (by simp), if_pos HP2.out]
                        simp [hlm3, hsi, hr3]
                      have HMV := Lib.hid hmv
                      have HC5 := Lib.hid (HC4.out.trans hr3)
                      clear hmv hr3
                      gi_wp2_with fail
                      refine callsIn_of_calls (ro := none) ((Tryz.strings_CutPrefix _ _ _).mono ?_)
                      rintro e w5 ⟨rfl, hw5⟩
                      rw [hw5]
                      clear hw5
                      rw [show trimPrefix (⟨s.ahead.toArray⟩ : ByteArray).data.toList (⟨d.to.toArray⟩ : ByteArray).data.toList = s.ahead from HC2.out, show hasPrefix (⟨s.ahead.toArray⟩ : ByteArray).data.toList (⟨d.to.toArray⟩ : ByteArray).data.toList = false from HC1.out]
                      gi_wp2_with fail
                      refine callsIn_of_calls (ro := none) ((Tryz.strings_CutPrefix _ _ _).mono ?_)
                      rintro e w5 ⟨rfl, hw5⟩
                      rw [hw5]
                      clear hw5
                      rw [show trimPrefix (⟨d.to.toArray⟩ : ByteArray).data.toList (⟨s.ahead.toArray⟩ : ByteArray).data.toList = [] from HC5.out, show hasPrefix (⟨d.to.toArray⟩ : ByteArray).data.toList (⟨s.ahead.toArray⟩ : ByteArray).data.toList = true from HC3.out]
                      gi_wp2_with fail
                      refine uponIn_yield l _ _ _ (YF.out _ _ HMV.out _ ((EA _).alloc _)) ?_
                      intro fn tmps assign body hR
                      gi_wp2_with fail
                      refine hR.mono ?_
                      rintro e B (⟨rfl, hrel⟩ | ⟨rfl, hx⟩)
                      · gi_wp2_with fail
                        exact hrel
                      · gi_wp2_with fail
                        exact bodyPost_ret (results_none rfl _ _ _) rfl ⟨⟨_, rfl⟩, .inr hx⟩
                    · have hr4 : (d.to.drop s.ahead.length).isEmpty = false := by simpa using hr3
                      have hmv : Pl.move p s d = some (d.cost, ⟨s.i, (at' : Int) + n, d.to.drop s.ahead.length, true⟩) := by
                        unfold Pl.move
                        rw [HN.out, if_neg hn0]
                        unfold Pl.ahead
                        rw [HNA.out, if_neg (by simp), if_pos HP2.out]
                        simp [hlm3, hsi, hr3]
                      have HMV := Lib.hid hmv
                      clear hmv
                      gi_wp2_with fail
                      refine callsIn_of_calls (ro := none) ((Tryz.strings_CutPrefix _ _ _).mono ?_)
                      rintro e w5 ⟨rfl, hw5⟩
                      rw [hw5]
                      clear hw5
                      rw [show trimPrefix (⟨s.ahead.toArray⟩ : ByteArray).data.toList (⟨d.to.toArray⟩ : ByteArray).data.toList = s.ahead from HC2.out, show hasPrefix (⟨s.ahead.toArray⟩ : ByteArray).data.toList (⟨d.to.toArray⟩ : ByteArray).data.toList = false from HC1.out]
                      gi_wp2_with fail
                      refine callsIn_of_calls (ro := none) ((Tryz.strings_CutPrefix _ _ _).mono ?_)
                      rintro e w5 ⟨rfl, hw5⟩
                      rw [hw5]
                      clear hw5
                      rw [show trimPrefix (⟨d.to.toArray⟩ : ByteArray).data.toList (⟨s.ahead.toArray⟩ : ByteArray).data.toList = d.to.drop s.ahead.length from HC4.out, show hasPrefix (⟨d.to.toArray⟩ : ByteArray).data.toList (⟨s.ahead.toArray⟩ : ByteArray).data.toList = true from HC3.out]
                      generalize d.to.drop s.ahead.length = ah at *
                      gi_wp2_with fail
                      refine uponIn_yield l _ _ _ (YF.out _ _ HMV.out _ ((EA _).alloc _)) ?_
                      intro fn tmps assign body hR
                      gi_wp2_with fail
                      refine hR.mono ?_
                      rintro e B (⟨rfl, hrel⟩ | ⟨rfl, hx⟩)
                      · gi_wp2_with fail
                        exact hrel
                      · gi_wp2_with fail
                        exact bodyPost_ret (results_none rfl _ _ _) rfl ⟨⟨_, rfl⟩, .inr hx⟩
                | false =>
                  have hc3 : (hasPrefix d.to s.ahead) = false := hp2
                  have hc4 : trimPrefix d.to s.ahead = d.to := by unfold trimPrefix; rw [if_neg (by rw [hc3]; simp)]
                  have hmv : Pl.move p s d = none := by
                    unfold Pl.move
                    rw [HN.out, if_neg hn0]
                    unfold Pl.ahead
                    rw [HNA.out, if_neg (by simp), if_neg (by rw [hp2]; simp)]
                  have HMV := Lib.hid hmv
                  have HC3 := Lib.hid hc3
                  have HC4 := Lib.hid hc4
                  clear hp2 hc3 hc4 hmv
                  rcases (show sd = 0 ∨ sd = 1 by omega) with hsd0 | hsd0
                  · have hsi := hsi0 hsd0
                    have b6 : ((sd : Int) == 0) = true := by simp [hsd0]
                    have b7 : ((sd : Int) == 1) = false := by simp [hsd0]
                    have hlm3 : leftMoves p s = true := by rw [hlm2, hsd0]; rfl
                    clear hsi0 hsj1 hlm2 hsd0
                    gi_wp2_with fail
                    refine callsIn_of_calls (ro := none) ((Tryz.strings_CutPrefix _ _ _).mono ?_)
                    rintro e w5 ⟨rfl, hw5⟩
                    rw [hw5]
                    clear hw5
                    rw [show trimPrefix (⟨s.ahead.toArray⟩ : ByteArray).data.toList (⟨d.to.toArray⟩ : ByteArray).data.toList = s.ahead from HC2.out, show hasPrefix (⟨s.ahead.toArray⟩ : ByteArray).data.toList (⟨d.to.toArray⟩ : ByteArray).data.toList = false from HC1.out]
                    gi_wp2_with fail
                    refine callsIn_of_calls (ro := none) ((Tryz.strings_CutPrefix _ _ _).mono ?_)
                    rintro e w5 ⟨rfl, hw5⟩
                    rw [hw5]
                    clear hw5
                    rw [show trimPrefix (⟨d.to.toArray⟩ : ByteArray).data.toList (⟨s.ahead.toArray⟩ : ByteArray).data.toList = d.to from HC4.out, show hasPrefix (⟨d.to.toArray⟩ : ByteArray).data.toList (⟨s.ahead.toArray⟩ : ByteArray).data.toList = false from HC3.out]
                    gi_wp2_with fail
                    exact SK.out _ ((EA _).alloc _) HMV.out
                  · have hsi := hsj1 hsd0
                    have b6 : ((sd : Int) == 0) = false := by simp [hsd0]
                    have b7 : ((sd : Int) == 1) = true := by simp [hsd0]
                    have hlm3 : leftMoves p s = false := by rw [hlm2, hsd0]; rfl
                    clear hsi0 hsj1 hlm2 hsd0
                    gi_wp2_with fail
                    refine callsIn_of_calls (ro := none) ((Tryz.strings_CutPrefix _ _ _).mono ?_)
                    rintro e w5 ⟨rfl, hw5⟩
                    rw [hw5]
                    clear hw5
                    rw [show trimPrefix (⟨s.ahead.toArray⟩ : ByteArray).data.toList (⟨d.to.toArray⟩ : ByteArray).data.toList = s.ahead from HC2.out, show hasPrefix (⟨s.ahead.toArray⟩ : ByteArray).data.toList (⟨d.to.toArray⟩ : ByteArray).data.toList = false from HC1.out]
                    gi_wp2_with fail
                    refine callsIn_of_calls (ro := none) ((Tryz.strings_CutPrefix _ _ _).mono ?_)
                    rintro e w5 ⟨rfl, hw5⟩
                    rw [hw5]
                    clear hw5
                    rw [show trimPrefix (⟨d.to.toArray⟩ : ByteArray).data.toList (⟨s.ahead.toArray⟩ : ByteArray).data.toList = d.to from HC4.out, show hasPrefix (⟨d.to.toArray⟩ : ByteArray).data.toList (⟨s.ahead.toArray⟩ : ByteArray).data.toList = false from HC3.out]
                    gi_wp2_with fail
                    exact SK.out _ ((EA _).alloc _) HMV.out
              | true =>
                by_cases hr0 : s.ahead.drop d.to.length = []
                · have hc1 : (hasPrefix s.ahead d.to) = true := hp1
                  have hc2 : trimPrefix s.ahead d.to = [] := by unfold trimPrefix; rw [if_pos hc1, hr0]
                  have HC1 := Lib.hid hc1
                  have HC2 := Lib.hid hc2
                  have HNA := Lib.hid (show (d.to.isPrefixOf s.ahead && !decide (s.ahead.drop d.to.length = [])) = false by rw [hr0]; simp)
                  clear hp1 hc1 hc2 hr0
                  cases hp2 : s.ahead.isPrefixOf d.to with
                  | true =>
                    have hc3 : (hasPrefix d.to s.ahead) = true := hp2
                    have hc4 : trimPrefix d.to s.ahead = d.to.drop s.ahead.length := by unfold trimPrefix; rw [if_pos hc3]
                    have HP2 := Lib.hid hp2
                    have HC3 := Lib.hid hc3
                    have HC4 := Lib.hid hc4
                    clear hp2 hc3 hc4
                    rcases (show sd = 0 ∨ sd = 1 by omega) with hsd0 | hsd0
                    · have hsi := hsi0 hsd0
                      have b6 : ((sd : Int) == 0) = true := by simp [hsd0]
                      have b7 : ((sd : Int) == 1) = false := by simp [hsd0]
                      have hlm3 : leftMoves p s = true := by rw [hlm2, hsd0]; rfl
                      clear hsi0 hsj1 hlm2 hsd0
                      have hmv : Pl.move p s d = some (d.cost, ⟨(at' : Int) + n, s.j, d.to.drop s.ahead.length, false⟩) := by
                        unfold Pl.move
                        rw [HN.out, if_neg hn0]
                        unfold Pl.ahead
                        rw [HNA.out, if_neg (by simp), if_pos HP2.out]
                        simp [hlm3, hsi]
                      have HMV := Lib.hid hmv
                      clear hmv
                      gi_wp2_with fail
                      refine callsIn_of_calls (ro := none) ((Tryz.strings_CutPrefix _ _ _).mono ?_)
                      rintro e w5 ⟨rfl, hw5⟩
                      rw [hw5]
                      clear hw5
                      rw [show trimPrefix (⟨s.ahead.toArray⟩ : ByteArray).data.toList (⟨d.to.toArray⟩ : ByteArray).data.toList = [] from HC2.out, show hasPrefix (⟨s.ahead.toArray⟩ : ByteArray).data.toList (⟨d.to.toArray⟩ : ByteArray).data.toList = true from HC1.out]
                      gi_wp2_with fail
                      refine callsIn_of_calls (ro := none) ((Tryz.strings_CutPrefix _ _ _).mono ?_)
                      rintro e w5 ⟨rfl, hw5⟩
                      rw [hw5]
                      clear hw5
                      rw [show trimPrefix (⟨d.to.toArray⟩ : ByteArray).data.toList (⟨s.ahead.toArray⟩ : ByteArray).data.toList = d.to.drop s.ahead.length from HC4.out, show hasPrefix (⟨d.to.toArray⟩ : ByteArray).data.toList (⟨s.ahead.toArray⟩ : ByteArray).data.toList = true from HC3.out]
                      generalize d.to.drop s.ahead.length = ah at *
                      gi_wp2_with fail
                      refine uponIn_yield l _ _ _ (YF.out _ _ HMV.out _ ((EA _).alloc _)) ?_
                      intro fn tmps assign body hR
                      gi_wp2_with fail
                      refine hR.mono ?_
                      rintro e B (⟨rfl, hrel⟩ | ⟨rfl, hx⟩)
                      · gi_wp2_with fail
                        exact hrel
                      · gi_wp2_with fail
                        exact bodyPost_ret (results_none rfl _ _ _) rfl ⟨⟨_, rfl⟩, .inr hx⟩
                    · have hsi := hsj1 hsd0
                      have b6 : ((sd : Int) == 0) = false := by simp [hsd0]
                      have b7 : ((sd : Int) == 1) = true := by simp [hsd0]
                      have hlm3 : leftMoves p s = false := by rw [hlm2, hsd0]; rfl
                      clear hsi0 hsj1 hlm2 hsd0
                      by_cases hr3 : d.to.drop s.ahead.length = []
                      · have hmv : Pl.move p s d = some (d.cost, ⟨s.i, (at' : Int) + n, [], false⟩) := by
                          unfold Pl.move
                          rw [HN.out, if_neg hn0]
                          unfold Pl.ahead
                          rw [HNA.out, if_neg (by simp), if_pos HP2.out]
                          simp [hlm3, hsi, hr3]
                        have HMV := Lib.hid hmv
                        have HC5 := Lib.hid (HC4.out.trans hr3)
                        clear hmv hr3
                        gi_wp2_with fail
                        refine callsIn_of_calls (ro := none) ((Tryz.strings_CutPrefix _ _ _).mono ?_)
                        rintro e w5 ⟨rfl, hw5⟩
                        rw [hw5]
                        clear hw5
                        rw [show trimPrefix (⟨s.ahead.toArray⟩ : ByteArray).data.toList (⟨d.to.toArray⟩ : ByteArray).data.toList = [] from HC2.out, show hasPrefix (⟨s.ahead.toArray⟩ : ByteArray).data.toList (⟨d.to.toArray⟩ : ByteArray).data.toList = true from HC1.out]
                        gi_wp2_with fail
                        refine callsIn_of_calls (ro := none) ((Tryz.strings_CutPrefix _ _ _).mono ?_)
                        rintro e w5 ⟨rfl, hw5⟩
                        rw [hw5]
                        clear hw5
                        rw [show trimPrefix (⟨d.to.toArray⟩ : ByteArray).data.toList (⟨s.ahead.toArray⟩ : ByteArray).data.toList = [] from HC5.out, show hasPrefix (⟨d.to.toArray⟩ : ByteArray).data.toList (⟨s.ahead.toArray⟩ : ByteArray).data.toList = true from HC3.out]
                        gi_wp2_with fail
                        refine uponIn_yield l _ _ _ (YF.out _ _ HMV.out _ ((EA _).alloc _)) ?_
                        intro fn tmps assign body hR
                        gi_wp2_with fail
                        refine hR.mono ?_
                        rintro e B (⟨rfl, hrel⟩ | ⟨rfl, hx⟩)
                        · gi_wp2_with fail
                          exact hrel
                        · gi_wp2_with fail
                          exact bodyPost_ret (results_none rfl _ _ _) rfl ⟨⟨_, rfl⟩, .inr hx⟩
                      · have hr4 : (d.to.drop s.ahead.length).isEmpty = false := by simpa using hr3
                        have hmv : Pl.move p s d = some (d.cost, ⟨s.i, (at' : Int) + n, d.to.drop s.ahead.length, true⟩) := by
                          unfold Pl.move
                          rw [HN.out, if_neg hn0]
                          unfold Pl.ahead
                          rw [HNA.out, if_neg (by simp), if_pos HP2.out]
                          simp [hlm3, hsi, hr3]
                        have HMV := Lib.hid hmv
                        clear hmv
                        gi_wp2_with fail
                        refine callsIn_of_calls (ro := none) ((Tryz.strings_CutPrefix _ _ _).mono ?_)
                        rintro e w5 ⟨rfl, hw5⟩
                        rw [hw5]
                        clear hw5
                        rw [show trimPrefix (⟨s.ahead.toArray⟩ : ByteArray).data.toList (⟨d.to.toArray⟩ : ByteArray).data.toList = [] from HC2.out, show hasPrefix (⟨s.ahead.toArray⟩ : ByteArray).data.toList (⟨d.to.toArray⟩ : ByteArray).data.toList = true from HC1.out]
                        gi_wp2_with fail
                        refine callsIn_of_calls (ro := none) ((Tryz.strings_CutPrefix _ _ _).mono ?_)
                        rintro e w5 ⟨rfl, hw5⟩
                        rw [hw5]
                        clear hw5
                        rw [show trimPrefix (⟨d.to.toArray⟩ : ByteArray).data.toList (⟨s.ahead.toArray⟩ : ByteArray).data.toList = d.to.drop s.ahead.length from HC4.out, show hasPrefix (⟨d.to.toArray⟩ : ByteArray).data.toList (⟨s.ahead.toArray⟩ : ByteArray).data.toList = true from HC3.out]
                        generalize d.to.drop s.ahead.length = ah at *
                        gi_wp2_with fail
                        refine uponIn_yield l _ _ _ (YF.out _ _ HMV.out _ ((EA _).alloc _)) ?_
                        intro fn tmps assign body hR
                        gi_wp2_with fail
                        refine hR.mono ?_
                        rintro e B (⟨rfl, hrel⟩ | ⟨rfl, hx⟩)
                        · gi_wp2_with fail
                          exact hrel
                        · gi_wp2_with fail
                          exact bodyPost_ret (results_none rfl _ _ _) rfl ⟨⟨_, rfl⟩, .inr hx⟩
                  | false =>
                    have hc3 : (hasPrefix d.to s.ahead) = false := hp2
                    have hc4 : trimPrefix d.to s.ahead = d.to := by unfold trimPrefix; rw [if_neg (by rw [hc3]; simp)]
                    have hmv : Pl.move p s d = none := by
                      unfold Pl.move
                      rw [HN.out, if_neg hn0]
                      unfold Pl.ahead
                      rw [HNA.out, if_neg (by simp), if_neg (by rw [hp2]; simp)]
                    have HMV := Lib.hid hmv
                    have HC3 := Lib.hid hc3
                    have HC4 := Lib.hid hc4
                    clear hp2 hc3 hc4 hmv
                    rcases (show sd = 0 ∨ sd = 1 by omega) with hsd0 | hsd0
                    · have hsi := hsi0 hsd0
                      have b6 : ((sd : Int) == 0) = true := by simp [hsd0]
                      have b7 : ((sd : Int) == 1) = false := by simp [hsd0]
                      have hlm3 : leftMoves p s = true := by rw [hlm2, hsd0]; rfl
                      clear hsi0 hsj1 hlm2 hsd0
                      gi_wp2_with fail
                      refine callsIn_of_calls (ro := none) ((Tryz.strings_CutPrefix _ _ _).mono ?_)
                      rintro e w5 ⟨rfl, hw5⟩
                      rw [hw5]
                      clear hw5
                      rw [show trimPrefix (⟨s.ahead.toArray⟩ : ByteArray).data.toList (⟨d.to.toArray⟩ : ByteArray).data.toList = [] from HC2.out, show hasPrefix (⟨s.ahead.toArray⟩ : ByteArray).data.toList (⟨d.to.toArray⟩ : ByteArray).data.toList = true from HC1.out]
                      gi_wp2_with fail
                      refine callsIn_of_calls (ro := none) ((Tryz.strings_CutPrefix _ _ _).mono ?_)
                      rintro e w5 ⟨rfl, hw5⟩
                      rw [hw5]
                      clear hw5
                      rw [show trimPrefix (⟨d.to.toArray⟩ : ByteArray).data.toList (⟨s.ahead.toArray⟩ : ByteArray).data.toList = d.to from HC4.out, show hasPrefix (⟨d.to.toArray⟩ : ByteArray).data.toList (⟨s.ahead.toArray⟩ : ByteArray).data.toList = false from HC3.out]
                      gi_wp2_with fail
                      exact SK.out _ ((EA _).alloc _) HMV.out
                    · have hsi := hsj1 hsd0
                      have b6 : ((sd : Int) == 0) = false := by simp [hsd0]
                      have b7 : ((sd : Int) == 1) = true := by simp [hsd0]
                      have hlm3 : leftMoves p s = false := by rw [hlm2, hsd0]; rfl
                      clear hsi0 hsj1 hlm2 hsd0
                      gi_wp2_with fail
                      refine callsIn_of_calls (ro := none) ((Tryz.strings_CutPrefix _ _ _).mono ?_)
                      rintro e w5 ⟨rfl, hw5⟩
                      rw [hw5]
                      clear hw5
                      rw [show trimPrefix (⟨s.ahead.toArray⟩ : ByteArray).data.toList (⟨d.to.toArray⟩ : ByteArray).data.toList = [] from HC2.out, show hasPrefix (⟨s.ahead.toArray⟩ : ByteArray).data.toList (⟨d.to.toArray⟩ : ByteArray).data.toList = true from HC1.out]
                      gi_wp2_with fail
                      refine callsIn_of_calls (ro := none) ((Tryz.strings_CutPrefix _ _ _).mono ?_)
                      rintro e w5 ⟨rfl, hw5⟩
                      rw [hw5]
                      clear hw5
                      rw [show trimPrefix (⟨d.to.toArray⟩ : ByteArray).data.toList (⟨s.ahead.toArray⟩ : ByteArray).data.toList = d.to from HC4.out, show hasPrefix (⟨d.to.toArray⟩ : ByteArray).data.toList (⟨s.ahead.toArray⟩ : ByteArray).data.toList = false from HC3.out]
                      gi_wp2_with fail
                      exact SK.out _ ((EA _).alloc _) HMV.out
                · have hc1 : (hasPrefix s.ahead d.to) = true := hp1
                  have hc2 : trimPrefix s.ahead d.to = s.ahead.drop d.to.length := by unfold trimPrefix; rw [if_pos hc1]
                  have HP1 := Lib.hid hp1
                  have HC1 := Lib.hid hc1
                  have HC2 := Lib.hid hc2
                  have hr1 : (s.ahead.drop d.to.length).isEmpty = false := by simpa using hr0
                  clear hp1 hc1 hc2
                  rcases (show sd = 0 ∨ sd = 1 by omega) with hsd0 | hsd0
                  · have hsi := hsi0 hsd0
                    have b6 : ((sd : Int) == 0) = true := by simp [hsd0]
                    have b7 : ((sd : Int) == 1) = false := by simp [hsd0]
                    have hlm3 : leftMoves p s = true := by rw [hlm2, hsd0]; rfl
                    clear hsi0 hsj1 hlm2 hsd0
                    have hmv : Pl.move p s d = some (d.cost, ⟨(at' : Int) + n, s.j, s.ahead.drop d.to.length, s.right⟩) := by
                      unfold Pl.move
                      rw [HN.out, if_neg hn0]
                      unfold Pl.ahead
                      rw [HP1.out, decide_eq_false hr0]
                      simp [hlm3, hsi]
                    have HMV := Lib.hid hmv
                    clear hmv
                    gi_wp2_with fail
                    refine callsIn_of_calls (ro := none) ((Tryz.strings_CutPrefix _ _ _).mono ?_)
                    rintro e w5 ⟨rfl, hw5⟩
                    rw [hw5]
                    clear hw5
                    rw [show trimPrefix (⟨s.ahead.toArray⟩ : ByteArray).data.toList (⟨d.to.toArray⟩ : ByteArray).data.toList = s.ahead.drop d.to.length from HC2.out, show hasPrefix (⟨s.ahead.toArray⟩ : ByteArray).data.toList (⟨d.to.toArray⟩ : ByteArray).data.toList = true from HC1.out]
                    generalize s.ahead.drop d.to.length = ah at *
                    gi_wp2_with fail
                    refine uponIn_yield l _ _ _ (YF.out _ _ HMV.out _ ((EA _).alloc _)) ?_
                    intro fn tmps assign body hR
                    gi_wp2_with fail
                    refine hR.mono ?_
                    rintro e B (⟨rfl, hrel⟩ | ⟨rfl, hx⟩)
                    · gi_wp2_with fail
                      exact hrel
                    · gi_wp2_with fail
                      exact bodyPost_ret (results_none rfl _ _ _) rfl ⟨⟨_, rfl⟩, .inr hx⟩
                  · have hsi := hsj1 hsd0
                    have b6 : ((sd : Int) == 0) = false := by simp [hsd0]
                    have b7 : ((sd : Int) == 1) = true := by simp [hsd0]
                    have hlm3 : leftMoves p s = false := by rw [hlm2, hsd0]; rfl
                    clear hsi0 hsj1 hlm2 hsd0
                    have hmv : Pl.move p s d = some (d.cost, ⟨s.i, (at' : Int) + n, s.ahead.drop d.to.length, s.right⟩) := by
                      unfold Pl.move
                      rw [HN.out, if_neg hn0]
                      unfold Pl.ahead
                      rw [HP1.out, decide_eq_false hr0]
                      simp [hlm3, hsi]
                    have HMV := Lib.hid hmv
                    clear hmv
                    gi_wp2_with fail
                    refine callsIn_of_calls (ro := none) ((Tryz.strings_CutPrefix _ _ _).mono ?_)
                    rintro e w5 ⟨rfl, hw5⟩
                    rw [hw5]
                    clear hw5
                    rw [show trimPrefix (⟨s.ahead.toArray⟩ : ByteArray).data.toList (⟨d.to.toArray⟩ : ByteArray).data.toList = s.ahead.drop d.to.length from HC2.out, show hasPrefix (⟨s.ahead.toArray⟩ : ByteArray).data.toList (⟨d.to.toArray⟩ : ByteArray).data.toList = true from HC1.out]
                    generalize s.ahead.drop d.to.length = ah at *
                    gi_wp2_with fail
                    refine uponIn_yield l _ _ _ (YF.out _ _ HMV.out _ ((EA _).alloc _)) ?_
                    intro fn tmps assign body hR
                    gi_wp2_with fail
                    refine hR.mono ?_
                    rintro e B (⟨rfl, hrel⟩ | ⟨rfl, hx⟩)
                    · gi_wp2_with fail
                      exact hrel
                    · gi_wp2_with fail
                      exact bodyPost_ret (results_none rfl _ _ _) rfl ⟨⟨_, rfl⟩, .inr hx⟩
          · rw [if_neg hscr] at hn
            have hmv : Pl.move p s d = none := by unfold Pl.move; rw [if_pos hn]
            have HMV := Lib.hid hmv
            clear hmv hn
            have b3 : ((d.script == k) = false) := by simpa using hscr
            gi_upto_region 7 with fail
            gi_quiet (fail)
            gi_wp2_with fail
            exact SK.out _ (((Ext.refl none' wr).alloc _).drewN _) HMV.out
        · obtain rfl : j = p.rules.length := by omega
          rw [List.take_length] at hjJ
          clear hrx
          gi_wp2_with fail
          go_end0
          exact ⟨⟨_, rfl⟩, .inl hjJ⟩
end Go.Proofs.Kb
