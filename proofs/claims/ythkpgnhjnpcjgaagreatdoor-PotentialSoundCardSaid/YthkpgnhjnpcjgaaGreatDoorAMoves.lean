/- Package align: the moves from a state, handed out one after the other; whether a state is the end. -/
import Derived.Test.YthkpgnhjnpcjgaaGreatDoorAOpen
import Derived.Test.YthkpgnhjnpcjgaaGreatDoorIter
import Derived.Test.YthkpgnhjnpcjgaaGreatDoorMoves
namespace Go.Proofs.Kb
open Go Go.RowKit Go.Lib Pl
attribute [local go_sem] Oper.semAt_some run_makeMap
attribute [local simp] wide_fn
attribute [local go_sem] wide_fn

set_option maxRecDepth 100000 in
theorem amoves_any (cp cs : Array Value) (_hp : cp.size = 4) (_hs : cs.size = 4) (w : World) :
    Calls Tryz.prog 41 #[.agg cp, .agg cs] w fun e w' =>
      e = .returned (.func (.func 67) #[] #[.pointer (some ⟨w.heap.size + 1, 0, none⟩), .pointer (some ⟨w.heap.size, 0, none⟩)]) ∧
      w' = (w.alloc (.cells cp 89)).alloc (.cells cs 95) := by
  go_enter Tryz.func41, Tryz.ntmps41
  go_wp2_with fail
  go_ret
  exact ⟨rfl, rfl⟩

set_option maxRecDepth 100000 in
set_option maxHeartbeats 2000000 in
theorem done_any (la ra ma sa : Option Addr) (ln lc rn rc mn mc sn sc : Nat) (s : State) (w : World) :
    Calls Tryz.prog 40 #[.agg #[.slice la ln lc, .slice ra rn rc, .slice ma mn mc, .slice sa sn sc], .agg (cellsState s)] w fun e w' =>
      e = .returned (.bool (decide (s.i = (ln : Int)) && decide (s.j = (mn : Int)) && decide (s.ahead = []))) ∧ w' = (w.alloc (.cells #[.slice la ln lc, .slice ra rn rc, .slice ma mn mc, .slice sa sn sc] 89)).alloc (.cells (cellsState s) 95) := by
  simp only [cellsState, encS]
  go_enter Tryz.func40, Tryz.ntmps40
  by_cases h1 : s.i = (ln : Int)
  · have b1 : (s.i == (ln : Int)) = true := by simpa using h1
    have d1 := Lib.hid h1
    clear h1
    by_cases h2 : s.j = (mn : Int)
    · have b2 : (s.j == (mn : Int)) = true := by simpa using h2
      have d2 := Lib.hid h2
      clear h2
      go_wp2_with fail
      go_ret
      refine ⟨ret_bool ?_, rfl⟩
      rw [decide_eq_true d1.out, decide_eq_true d2.out]
      cases s.ahead <;> simp
    · have b2 : (s.j == (mn : Int)) = false := by simpa using h2
      have d2 := Lib.hid h2
      clear h2
      go_wp2_with fail
      go_ret
      refine ⟨ret_bool ?_, rfl⟩
      rw [decide_eq_false d2.out]
      simp
  · have b1 : (s.i == (ln : Int)) = false := by simpa using h1
    have d1 := Lib.hid h1
    clear h1
    go_wp2_with fail
    go_ret
    refine ⟨ret_bool ?_, rfl⟩
    rw [decide_eq_false d1.out]
    simp

/-- the slices of the letters of rules, in order -/
theorem arules_values {N : Nat} {w : World} {ra : Option Addr} {rn rc : Nat} {rs : List ARule} (h : ARulesAt N w (.slice ra rn rc) rs) : ∃ fs : List Value, fs.length = rs.length ∧ ∀ (j : Nat) (r : ARule) (f : Value), rs[j]? = some r → fs[j]? = some f →
    StrsAt N w f r.frm ∧ ∃ b o, ra = some ⟨b, o, none⟩ ∧ b < N ∧ ∀ i u, (arCells r f)[i]? = some u → w.cell? ⟨b, o + j * 4 + i, none⟩ = some u := by
  obtain ⟨a, cap, hv, hc, hm, hr⟩ := h
  cases hv
  by_cases hn : rs = []
  · subst hn
    exact ⟨[], rfl, fun j r f h => by simp at h⟩
  · obtain ⟨b, o, rfl, hb, hx⟩ := hr hn
    have hall : ∀ n, n ≤ rs.length → ∃ fs : List Value, fs.length = n ∧ ∀ (j : Nat) (r : ARule) (f : Value), rs[j]? = some r → fs[j]? = some f → StrsAt N w f r.frm ∧ ∀ i u, (arCells r f)[i]? = some u → w.cell? ⟨b, o + j * 4 + i, none⟩ = some u := by
      intro n
      induction n with
      | zero => exact fun _ => ⟨[], rfl, fun j r f _ h => by simp at h⟩
      | succ n ih =>
        intro hle
        obtain ⟨fs, hl, hall⟩ := ih (by omega)
        obtain ⟨f, hf, hcell⟩ := hx n _ (List.getElem?_eq_getElem (by omega))
        refine ⟨fs ++ [f], by simp [hl], fun j r g hj hg => ?_⟩
        by_cases hjn : j < fs.length
        · rw [List.getElem?_append_left hjn] at hg
          exact hall j r g hj hg
        · rw [List.getElem?_append_right (by omega)] at hg
          have h0 : j - fs.length = 0 := by
            have := (List.getElem?_eq_some_iff.1 hg).1
            simp at this
            omega
          obtain rfl : j = n := by omega
          rw [h0] at hg
          simp only [List.getElem?_cons_zero, Option.some.injEq] at hg
          subst hg
          rw [List.getElem?_eq_getElem (by omega)] at hj
          cases hj
          exact ⟨hf, hcell⟩
    obtain ⟨fs, hl, hf⟩ := hall rs.length (Nat.le_refl _)
    exact ⟨fs, hl, fun j r f h1 h2 => ⟨(hf j r f h1 h2).1, b, o, rfl, hb, (hf j r f h1 h2).2⟩⟩

/-- a move with the slice of the rule's letters -/
def amoveV (p : Words) (s : State) (q : ARule × Value) : Option ((ARule × Value) × State) := (amove p s q.1).map fun m => ((m.1, q.2), m.2)

theorem amoveV_map (p : Words) (s : State) : ∀ (rs : List ARule) (fs : List Value), fs.length = rs.length → ((rs.zip fs).filterMap (amoveV p s)).map (fun x => (x.1.1, x.2)) = rs.filterMap (amove p s)
  | [], _, _ => rfl
  | r :: rs, [], h => by simp at h
  | r :: rs, f :: fs, h => by
    have ih := amoveV_map p s rs fs (by simpa using h)
    rw [List.zip_cons_cons, List.filterMap_cons, List.filterMap_cons]
    unfold amoveV at ih ⊢
    cases hm : amove p s r with
    | none => simpa [hm] using ih
    | some m => simpa [hm] using ih

theorem amoveV_mem {p : Words} {s : State} {l : List (ARule × Value)} {x : (ARule × Value) × State} (h : x ∈ l.filterMap (amoveV p s)) : ∃ q ∈ l, q.2 = x.1.2 := by
  obtain ⟨q, hq, hx⟩ := List.mem_filterMap.1 h
  unfold amoveV at hx
  cases hm : amove p s q.1 with
  | none => rw [hm] at hx; cases hx
  | some m => rw [hm] at hx; cases hx; exact ⟨q, hq, rfl⟩

theorem alloc_side {o : Oper} {a : Act} {w : World} (ho : o.op = .alloc 87) : (execOp a.eval o).run Tryz.prog w = .ok (.value (.pointer (some ⟨w.heap.size, 0, none⟩))) (w.alloc (.cells #[.slice none 0 0, .slice none 0 0] 87)) := by
  unfold execOp
  simp only [ho]
  go_simp

theorem load_side_at (b o : Nat) (x y : Value) (w : World) (c0 : w.cell? ⟨b, o, none⟩ = some x) (c1 : w.cell? ⟨b, o + 1, none⟩ = some y) : (loadVar 87 ⟨b, o, none⟩).run Tryz.prog w = .ok (.agg #[x, y]) w := by
  go_simp

/-- an element of what the moves hand out -/
def encMove (x : (ARule × Value) × State) : Array Value := #[.agg #[.int .i64 x.1.1.index, .int .i64 x.1.1.cost, x.1.2, .string ⟨x.1.1.to.toArray⟩], encState x.2]

/-- what the words must meet -/
structure OkWords (p : Words) : Prop where
  l : 0 < p.l.length ∧ p.l.length ≤ 12
  m : 0 < p.m.length ∧ p.m.length ≤ 12
  la : ∀ r ∈ p.la, 0 < r.frm.length ∧ r.frm.length ≤ 12
  ma : ∀ r ∈ p.ma, 0 < r.frm.length ∧ r.frm.length ≤ 12

/-- a state within the words -/
structure InWords (p : Words) (s : State) : Prop where
  i0 : 0 ≤ s.i
  i1 : s.i ≤ p.l.length
  j0 : 0 ≤ s.j
  j1 : s.j ≤ p.m.length

set_option maxRecDepth 100000 in
set_option maxHeartbeats 8000000 in
theorem amoves_iter (N : Nat) (p : Words) (s : State) (vl vla vm vma : Value) (w : World) (bw bs : Nat) (O0 : Nat → Prop) (hp : WordsAt N w (.agg #[vl, vla, vm, vma]) p) (ho : OkWords p) (hs : InWords p s) (hN : N ≤ w.heap.size)
    (hbw : w.heap[bw]? = some (.cells #[vl, vla, vm, vma] 89)) (hbs : w.heap[bs]? = some (.cells (cellsState s) 95)) (hO : ∀ k, k < N → ¬ O0 k) (hOw : ¬ O0 bw) (hOs : ¬ O0 bs) :
    ∃ xs : List ((ARule × Value) × State), xs.map (fun x => (x.1.1, x.2)) = amoves p s ∧ (∀ x ∈ xs, ∃ a n c, x.1.2 = .slice a n c) ∧
      Iter2 Tryz.prog 67 #[.pointer (some ⟨bs, 0, none⟩), .pointer (some ⟨bw, 0, none⟩)] encMove xs none' O0 w := by
  obtain ⟨ul, ula, um, uma, hveq, hvl, hvla, hvm, hvma⟩ := hp
  simp only [Value.agg.injEq, Array.mk.injEq, List.cons.injEq] at hveq
  obtain ⟨rfl, rfl, rfl, rfl, -⟩ := hveq
  -- the side that moves
  obtain ⟨bl, hbl⟩ : ∃ bl, bl = aleft p s := ⟨_, rfl⟩
  obtain ⟨L, hL⟩ : ∃ L, L = if bl then p.l else p.m := ⟨_, rfl⟩
  obtain ⟨RS, hRS⟩ : ∃ RS, RS = if bl then p.la else p.ma := ⟨_, rfl⟩
  obtain ⟨ai, hai⟩ : ∃ ai, ai = if bl then s.i else s.j := ⟨_, rfl⟩
  obtain ⟨sv, hsv⟩ : ∃ sv, sv = if bl then vl else vm := ⟨_, rfl⟩
  obtain ⟨rv, hrv⟩ : ∃ rv, rv = if bl then vla else vma := ⟨_, rfl⟩
  have hsL : StrsAt N w sv L := by rw [hsv, hL]; cases bl <;> assumption
  have hrR : ARulesAt N w rv RS := by rw [hrv, hRS]; cases bl <;> assumption
  have hL12 : 0 < L.length ∧ L.length ≤ 12 := by rw [hL]; cases bl; exact ho.m; exact ho.l
  have hR12 : ∀ r ∈ RS, 0 < r.frm.length ∧ r.frm.length ≤ 12 := by rw [hRS]; cases bl; exact ho.ma; exact ho.la
  have hai0 : 0 ≤ ai ∧ ai ≤ L.length := by rw [hai, hL]; cases bl; exact ⟨hs.j0, hs.j1⟩; exact ⟨hs.i0, hs.i1⟩
  have hmv : ∀ r, amove p s r = if afits L r ai then (match aahead s.ahead r.to s.right bl with
      | some (ah, right) => some (r, if bl then ⟨s.i + r.frm.length, s.j, ah, right⟩ else ⟨s.i, s.j + r.frm.length, ah, right⟩)
      | none => none) else none := by
    intro r; unfold amove; rw [← hbl, ← hL, ← hai]; rfl
  have hmvs : amoves p s = RS.filterMap (amove p s) := by unfold amoves; rw [← hbl, ← hRS]
  have hrAgg : ∃ a c, rv = .slice a RS.length c := by obtain ⟨a, c, h, _⟩ := hrR; exact ⟨a, c, h⟩
  obtain ⟨ra, rc, hrv2⟩ := hrAgg
  rw [hrv2] at hrR
  obtain ⟨fs, hfl, hfs⟩ := arules_values hrR
  have hRm : RS.length ≤ 9223372036854775807 := by obtain ⟨a, c, h, h1, h2, _⟩ := hrR; unfold maxLen at h2; omega
  refine ⟨(RS.zip fs).filterMap (amoveV p s), by rw [amoveV_map p s RS fs hfl, hmvs], fun x hx => ?_, ?_⟩
  · obtain ⟨q, hq, e⟩ := amoveV_mem hx
    obtain ⟨j, hj⟩ := List.getElem?_of_mem hq
    rw [List.getElem?_zip_eq_some] at hj
    obtain ⟨⟨a, c, h, _⟩, _⟩ := hfs j q.1 q.2 hj.1 hj.2
    exact ⟨a, _, c, by rw [← e, h]⟩
  intro l J Jx W hNW hsame hO0 hJ hJx hYield h0
  have hlw := (Array.getElem?_eq_some_iff.1 hbw).1
  have hls := (Array.getElem?_eq_some_iff.1 hbs).1
  have hS : Same N w W := fun i hi => hsame i (by omega) (hO i hi)
  have kw : W.heap[bw]? = some (.cells #[vl, vla, vm, vma] 89) := (hsame bw hlw hOw).trans hbw
  have ks : W.heap[bs]? = some (.cells (cellsState s) 95) := (hsame bs hls hOs).trans hbs
  obtain ⟨la, lc, rfl, -⟩ := id hvl
  obtain ⟨lla, llc, rfl, -⟩ := id hvla
  obtain ⟨ma, mc, rfl, -⟩ := id hvm
  obtain ⟨mma, mmc, rfl, -⟩ := id hvma
  have p0 : W.cell? ⟨bw, 0, none⟩ = some (.slice la p.l.length lc) := cellAt kw 0 rfl
  have s0 : W.cell? ⟨bs, 0, none⟩ = some (.int .i64 s.i) := cellAt ks 0 rfl
  have s2 : W.cell? ⟨bs, 2, none⟩ = some (.string ⟨s.ahead.toArray⟩) := cellAt ks 2 rfl
  have s3 : W.cell? ⟨bs, 3, none⟩ = some (.bool s.right) := cellAt ks 3 rfl
  have HY := Lib.hid hYield
  have HFS := Lib.hid hfs
  have HMV := Lib.hid hmv
  have HBL := Lib.hid hbl
  have HL := Lib.hid hL
  have HAI := Lib.hid hai
  have HSV := Lib.hid hsv
  have HRV := Lib.hid hrv
  have HRV2 := Lib.hid hrv2
  have HR12 := Lib.hid hR12
  have HFL := Lib.hid hfl
  obtain ⟨i0, i1, j0, j1⟩ := hs
  have hl12 := ho.l.2
  have hm12 := ho.m.2
  clear hYield hfs hmv hbl hL hai hsv hrv hrv2 hR12 hRS hmvs hfl hsame hbw hbs
  refine (callsIn_wide (n := 1)).1 ?_
  refine callsIn_of_wp Tryz.func67 rfl trivial ?_ rfl
  simp only [Tryz.ntmps67, List.size_toArray, List.length_cons, List.length_nil, Nat.reduceAdd, Nat.reduceSub, Array.replicate_succ, Array.replicate_zero, List.push_toArray, List.append_toArray, List.nil_append, List.cons_append]
  gi_upto_region 0 with fail
  gi_cut [4] from 14 (fun s4 wx => s4 = .bool bl ∧ W = wx)
  case first =>
    cases hr : s.right with
    | true =>
      rw [hr] at s3
      gi_wp2_with fail
      all_goals first
        | (exfalso; have h := ‹some undef = some (Value.bool _)›; simp [undef] at h; done)
        | (gi_meet; refine ⟨congrArg Value.bool ?_, rfl⟩; rw [HBL.out]; simp [aleft, hr])
    | false =>
      rw [hr] at s3
      by_cases ha : s.ahead = []
      · have b1 : s.ahead.isEmpty = true := by simp [ha]
        have HA := Lib.hid ha
        clear ha
        gi_wp2_with fail
        gi_meet
        refine ⟨congrArg Value.bool ?_, rfl⟩
        rw [HBL.out]
        simp [aleft, hr, HA.out]
      · have b1 : s.ahead.isEmpty = false := by simpa using ha
        have HA := Lib.hid ha
        clear ha
        gi_wp2_with fail
        gi_meet
        refine ⟨congrArg Value.bool ?_, rfl⟩
        rw [HBL.out]
        simp [aleft, hr, HA.out]
  case rest =>
    obtain ⟨rfl, rfl⟩ := hcut
    have s1 : W.cell? ⟨bs, 1, none⟩ = some (.int .i64 s.j) := cellAt ks 1 rfl
    have p1 : W.cell? ⟨bw, 1, none⟩ = some (.slice lla p.la.length llc) := cellAt kw 1 rfl
    have p2 : W.cell? ⟨bw, 2, none⟩ = some (.slice ma p.m.length mc) := cellAt kw 2 rfl
    have p3 : W.cell? ⟨bw, 3, none⟩ = some (.slice mma p.ma.length mmc) := cellAt kw 3 rfl
    have hlw' : bw < W.heap.size := (Array.getElem?_eq_some_iff.1 kw).1
    have hls' : bs < W.heap.size := (Array.getElem?_eq_some_iff.1 ks).1
    gi_upto_region 1 with fail
    gi_region
    gi_upto_if 34 with fail
    gi_cut [6] from 14 (fun s6 wx => s6 = .int .i64 ai ∧ Ext none' W wx ∧ wx.heap[W.heap.size]? = some (.cells #[sv, rv] 87))
    case first =>
      cases bl with
      | true =>
        gi_upto_region 3 with fail
        gi_region
        gi_wp2_with fail
        gi_meet
        refine ⟨by rw [HAI.out]; rfl, ((Ext.refl none' W).alloc _).draws 2, ?_⟩
        rw [HSV.out, HRV.out]
        exact newAt (w := W) _ rfl
      | false =>
        gi_wp2_with fail
        gi_meet
        refine ⟨by rw [HAI.out]; rfl, ((Ext.refl none' W).alloc _).draws 1, ?_⟩
        rw [HSV.out, HRV.out]
        exact newAt (w := W) _ rfl
    case rest =>
      obtain ⟨rfl, e05, k5⟩ := hcut
      have k5' : wc.heap[W.heap.size]? = some (.cells #[sv, .slice ra RS.length rc] 87) := by rw [← HRV2.out]; exact k5
      clear k5
      have ksL : ∃ a c, sv = .slice a L.length c := by obtain ⟨a, c, h, _⟩ := hsL; exact ⟨a, c, h⟩
      obtain ⟨sa, sc, hsv2⟩ := ksL
      subst hsv2
      have c51 : wc.cell? ⟨W.heap.size, 1, none⟩ = some (.slice ra RS.length rc) := cellAt k5' 1 rfl
      have g0 := e05.size
      clear s0 s1 s2 s3 p0 p1 p2 p3
      gi_wp2_with fail
      gi_loopw [42] (fun i wr => ∃ (j : Nat) (O : Nat → Prop), i = .int .i64 j ∧ j ≤ RS.length ∧ W.heap.size < wr.heap.size ∧ (∀ k, k ≤ W.heap.size → ¬ O0 k → wr.heap[k]? = wc.heap[k]?) ∧ (∀ k, O k → O0 k ∨ W.heap.size < k) ∧ J (((RS.zip fs).take j).filterMap (amoveV p s)).length O wr) (fun i _ => RS.length - (intOf i).toNat)
      case atStart =>
        exact ⟨0, O0, rfl, by omega, (Array.getElem?_eq_some_iff.1 k5').1, (fun _ _ _ => rfl), (fun k h => .inl h), hJ _ _ _ _ h0 e05⟩
      case round =>
        obtain ⟨j, O, rfl, hj, hsz, hsm, hOO, hjJ⟩ := hrel
        have n5 : ¬ O0 W.heap.size := fun h => by have := hO0 _ h; omega
        by_cases hjl : j < RS.length
        · obtain ⟨d, hd⟩ : ∃ d, RS[j]? = some d := ⟨_, List.getElem?_eq_getElem hjl⟩
          obtain ⟨f, hf⟩ : ∃ f, fs[j]? = some f := ⟨_, List.getElem?_eq_getElem (by rw [HFL.out]; exact hjl)⟩
          obtain ⟨hfd, rb, ro, rfl, hrb, hcell⟩ := HFS.out j d f hd hf
          have hd12 := HR12.out d (List.mem_of_getElem? hd)
          obtain ⟨fa, fc, rfl, -⟩ := id hfd
          have hSr : Same N w wr := fun i hi => (hsm i (by omega) (hO i hi)).trans ((e05.same i (by omega) (fun h => h)).trans (hS i hi))
          have c0 : wr.cell? ⟨rb, ro + j * 4, none⟩ = some (.int .i64 d.index) := (hSr.cell (a := ⟨rb, _, none⟩) hrb).trans (hcell 0 _ rfl)
          have c1 : wr.cell? ⟨rb, ro + j * 4 + 1, none⟩ = some (.int .i64 d.cost) := (hSr.cell (a := ⟨rb, _, none⟩) hrb).trans (hcell 1 _ rfl)
          have c2 : wr.cell? ⟨rb, ro + j * 4 + 2, none⟩ = some (.slice fa d.frm.length fc) := (hSr.cell (a := ⟨rb, _, none⟩) hrb).trans (hcell 2 _ rfl)
          have c3 : wr.cell? ⟨rb, ro + j * 4 + 3, none⟩ = some (.string ⟨d.to.toArray⟩) := (hSr.cell (a := ⟨rb, _, none⟩) hrb).trans (hcell 3 _ rfl)
          have kr5 : wr.heap[W.heap.size]? = some (.cells #[.slice sa L.length sc, .slice (some ⟨rb, ro, none⟩) RS.length rc] 87) := (hsm _ (Nat.le_refl _) n5).trans k5'
          have v0 : wr.cell? ⟨W.heap.size, 0, none⟩ = some (.slice sa L.length sc) := cellAt kr5 0 rfl
          have v1 : wr.cell? ⟨W.heap.size, 1, none⟩ = some (.slice (some ⟨rb, ro, none⟩) RS.length rc) := cellAt kr5 1 rfl
          have krs : wr.heap[bs]? = some (.cells (cellsState s) 95) := (hsm bs (by omega) hOs).trans ((e05.same bs hls' (fun h => h)).trans ks)
          have hzip : (RS.zip fs)[j]? = some (d, .slice fa d.frm.length fc) := by rw [List.getElem?_zip_eq_some]; exact ⟨hd, hf⟩
          have htake : (RS.zip fs).take (j + 1) = (RS.zip fs).take j ++ [(d, .slice fa d.frm.length fc)] := take_snoc' hzip
          have hfm : ((RS.zip fs).take (j + 1)).filterMap (amoveV p s) = ((RS.zip fs).take j).filterMap (amoveV p s) ++ (amoveV p s (d, .slice fa d.frm.length fc)).toList := by rw [htake, List.filterMap_append]; cases h : amoveV p s (d, .slice fa d.frm.length fc) <;> simp [h]
          have HFM := Lib.hid hfm
          have hap := HMV.out d
          have HAP := Lib.hid hap
          have skip : ∀ A, Ext none' wr A → amove p s d = none → (∃ (j1 : Nat) (O : Nat → Prop), Value.int .i64 ((j : Int) + 1) = Value.int .i64 j1 ∧ j1 ≤ RS.length ∧ W.heap.size < A.heap.size ∧ (∀ k, k ≤ W.heap.size → ¬ O0 k → A.heap[k]? = wc.heap[k]?) ∧ (∀ k, O k → O0 k ∨ W.heap.size < k) ∧ J (((RS.zip fs).take j1).filterMap (amoveV p s)).length O A) ∧
              RS.length - (intOf (Value.int .i64 ((j : Int) + 1))).toNat < RS.length - (intOf (Value.int .i64 (j : Int))).toNat := by
            intro A hA hn
            refine ⟨⟨j + 1, O, rfl, by omega, Nat.lt_of_lt_of_le hsz hA.size, fun k hk hno => (hA.same k (by omega) (fun h => h)).trans (hsm k hk hno), hOO, ?_⟩, by simp only [intOf]; omega⟩
            rw [HFM.out, show amoveV p s (d, .slice fa d.frm.length fc) = none by unfold amoveV; rw [hn]; rfl]
            simp only [Option.toList_none, List.append_nil]
            exact hJ _ _ _ _ hjJ hA
          have yf : ∀ (st : State), amove p s d = some (d, st) → ∀ A, Ext none' wr A → YieldW Tryz.prog l #[.agg #[.int .i64 d.index, .int .i64 d.cost, .slice fa d.frm.length fc, .string ⟨d.to.toArray⟩], encState st] A fun e B =>
              (e = .returned (.bool true) ∧ ((∃ (j1 : Nat) (O : Nat → Prop), Value.int .i64 ((j : Int) + 1) = Value.int .i64 j1 ∧ j1 ≤ RS.length ∧ W.heap.size < B.heap.size ∧ (∀ k, k ≤ W.heap.size → ¬ O0 k → B.heap[k]? = wc.heap[k]?) ∧ (∀ k, O k → O0 k ∨ W.heap.size < k) ∧ J (((RS.zip fs).take j1).filterMap (amoveV p s)).length O B) ∧
                RS.length - (intOf (Value.int .i64 ((j : Int) + 1))).toNat < RS.length - (intOf (Value.int .i64 (j : Int))).toNat)) ∨ (e = .returned (.bool false) ∧ Jx B) := by
            intro st hm A hA
            have hmV : amoveV p s (d, .slice fa d.frm.length fc) = some ((d, .slice fa d.frm.length fc), st) := by unfold amoveV; rw [hm]; rfl
            have hall : (RS.zip fs).filterMap (amoveV p s) = ((RS.zip fs).take (j + 1)).filterMap (amoveV p s) ++ ((RS.zip fs).drop (j + 1)).filterMap (amoveV p s) := by
              rw [← List.filterMap_append, List.take_append_drop]
            rw [HFM.out, hmV] at hall
            have hlt : (((RS.zip fs).take j).filterMap (amoveV p s)).length < ((RS.zip fs).filterMap (amoveV p s)).length := by rw [hall]; simp
            have hget : ((RS.zip fs).filterMap (amoveV p s))[(((RS.zip fs).take j).filterMap (amoveV p s)).length] = ((d, .slice fa d.frm.length fc), st) := by
              have h2 : ((RS.zip fs).filterMap (amoveV p s))[(((RS.zip fs).take j).filterMap (amoveV p s)).length]? = some ((d, .slice fa d.frm.length fc), st) := by rw [hall]; simp
              exact (List.getElem?_eq_some_iff.1 h2).2
            have h3 := HY.out _ hlt O A (hJ _ _ _ _ hjJ hA)
            rw [hget] at h3
            refine YieldW.mono h3 ?_
            have hAs := hA.size
            rintro e B (⟨rfl, ⟨O', hJ1, hO'⟩, hs1, hk1⟩ | ⟨rfl, hx⟩)
            · refine .inl ⟨rfl, ⟨j + 1, O', rfl, by omega, by omega, fun k hk hno => (hk1 k (by omega) (fun h => by rcases hOO k h with h | h; exact hno h; omega)).trans ((hA.same k (by omega) (fun h => h)).trans (hsm k hk hno)), fun k h => ?_, ?_⟩, by simp only [intOf]; omega⟩
              · rcases hO' k h with h | h
                · exact hOO k h
                · exact .inr (by omega)
              · rw [HFM.out, hmV]
                simpa using hJ1
            · exact .inr ⟨rfl, hx⟩
          have YF := Lib.hid yf
          have SK := Lib.hid skip
          have hKR := Lib.hid krs
          have tk := fun A (hA : Ext none' wr A) => fits_any N (.slice sa L.length sc) (.slice fa d.frm.length fc) (some ⟨rb, ro, none⟩) RS.length rc L d ai.toNat A (hsL.keep (hSr.trans (hA.same0 (by omega)))) (hfd.keep (hSr.trans (hA.same0 (by omega)))) hL12 hd12 (by omega) (by have := hA.size; omega)
          rw [Int.toNat_of_nonneg hai0.1] at tk
          have TK := Lib.hid tk
          clear tk yf skip hap htake hfm hzip hcell hfd kr5 krs c51 hsm hjJ
          gi_wp2_with fail
          have EA : Ext none' wr (wr.alloc (.cells #[.int .i64 d.index, .int .i64 d.cost, .slice fa d.frm.length fc, .string ⟨d.to.toArray⟩] 101)) := (Ext.refl none' wr).alloc _
          refine callsIn_of_calls (ro := none) ((TK.out _ EA).mono ?_)
          rintro e w6 ⟨rfl, hE6⟩
          have EB := EA.trans hE6
          have k8 : w6.heap[wr.heap.size]? = some (.cells #[.int .i64 d.index, .int .i64 d.cost, .slice fa d.frm.length fc, .string ⟨d.to.toArray⟩] 101) := (hE6.same _ (by simp) (fun h => h)).trans (newAt _ rfl)
          have hz6 : wr.heap.size < w6.heap.size := (Array.getElem?_eq_some_iff.1 k8).1
          have ks6 : w6.heap[bs]? = some (.cells (cellsState s) 95) := (EB.same _ (by omega) (fun h => h)).trans hKR.out
          have r0 : w6.cell? ⟨wr.heap.size, 0, none⟩ = some (.int .i64 d.index) := cellAt k8 0 rfl
          have r1 : w6.cell? ⟨wr.heap.size, 1, none⟩ = some (.int .i64 d.cost) := cellAt k8 1 rfl
          have r2 : w6.cell? ⟨wr.heap.size, 2, none⟩ = some (.slice fa d.frm.length fc) := cellAt k8 2 rfl
          have r3 : w6.cell? ⟨wr.heap.size, 3, none⟩ = some (.string ⟨d.to.toArray⟩) := cellAt k8 3 rfl
          have s0 : w6.cell? ⟨bs, 0, none⟩ = some (.int .i64 s.i) := cellAt ks6 0 rfl
          have s1 : w6.cell? ⟨bs, 1, none⟩ = some (.int .i64 s.j) := cellAt ks6 1 rfl
          have s2 : w6.cell? ⟨bs, 2, none⟩ = some (.string ⟨s.ahead.toArray⟩) := cellAt ks6 2 rfl
          have s3 : w6.cell? ⟨bs, 3, none⟩ = some (.bool s.right) := cellAt ks6 3 rfl
          have hbs6 : bs < w6.heap.size := by omega
          clear k8 ks6 c0 c1 c2 c3 v0 v1
          cases hfit : afits L d ai with
          | false =>
            have HMN := Lib.hid (show amove p s d = none by rw [HAP.out, hfit]; simp)
            clear hfit
            gi_wp2_with fail
            exact SK.out _ EB HMN.out
          | true =>
            have HFIT := Lib.hid hfit
            clear hfit
            cases bl with
            | true =>
              cases hp1 : d.to.isPrefixOf s.ahead with
              | true =>
                have hc1 : (hasPrefix s.ahead d.to) = true := hp1
                have hc2 : trimPrefix s.ahead d.to = s.ahead.drop d.to.length := by unfold trimPrefix; rw [if_pos hc1]
                have HP1 := Lib.hid hp1
                have HC1 := Lib.hid hc1
                clear hp1 hc1
                cases hrt : s.right with
                | false =>
                  rw [hrt] at s3
                  have hmn : amove p s d = some (d, ⟨s.i + d.frm.length, s.j, s.ahead.drop d.to.length, false⟩) := by
                    have ha : aahead s.ahead d.to s.right true = some (s.ahead.drop d.to.length, false) := by unfold aahead; rw [HP1.out, hrt]; simp
                    rw [HAP.out, HFIT.out, ha]
                    simp
                  have HMN := Lib.hid hmn
                  clear hmn
                  have HC2 := Lib.hid hc2
                  clear hc2 hrt
                  gi_wp2_with fail
                  refine callsIn_of_calls (ro := none) ((Tryz.strings_CutPrefix _ _ _).mono ?_)
                  rintro e w5 ⟨rfl, hw5⟩
                  rw [hw5]
                  clear hw5
                  rw [show trimPrefix (⟨s.ahead.toArray⟩ : ByteArray).data.toList (⟨d.to.toArray⟩ : ByteArray).data.toList = s.ahead.drop d.to.length from HC2.out, show hasPrefix (⟨s.ahead.toArray⟩ : ByteArray).data.toList (⟨d.to.toArray⟩ : ByteArray).data.toList = true from HC1.out]
                  generalize s.ahead.drop d.to.length = ah at *
                  gi_wp2_with fail
                  refine uponIn_yield l _ _ _ (YF.out _ HMN.out _ (EB.alloc _)) ?_
                  intro fn tmps assign body hR
                  gi_wp2_with fail
                  refine hR.mono ?_
                  rintro e B (⟨rfl, hrel⟩ | ⟨rfl, hx⟩)
                  · gi_wp2_with fail
                    exact hrel
                  · gi_wp2_with fail
                    exact bodyPost_ret (results_none rfl _ _ _) rfl ⟨⟨_, rfl⟩, .inr hx⟩
                | true =>
                  rw [hrt] at s3
                  by_cases hr0 : s.ahead.drop d.to.length = []
                  · have hmn : amove p s d = some (d, ⟨s.i + d.frm.length, s.j, [], false⟩) := by
                      have ha : aahead s.ahead d.to s.right true = some ([], false) := by unfold aahead; rw [HP1.out, hrt, hr0]; simp
                      rw [HAP.out, HFIT.out, ha]
                      simp
                    have HMN := Lib.hid hmn
                    clear hmn
                    have HC2 := Lib.hid (hc2.trans hr0)
                    clear hc2 hrt hr0
                    gi_wp2_with fail
                    refine callsIn_of_calls (ro := none) ((Tryz.strings_CutPrefix _ _ _).mono ?_)
                    rintro e w5 ⟨rfl, hw5⟩
                    rw [hw5]
                    clear hw5
                    rw [show trimPrefix (⟨s.ahead.toArray⟩ : ByteArray).data.toList (⟨d.to.toArray⟩ : ByteArray).data.toList = [] from HC2.out, show hasPrefix (⟨s.ahead.toArray⟩ : ByteArray).data.toList (⟨d.to.toArray⟩ : ByteArray).data.toList = true from HC1.out]
                    gi_wp2_with fail
                    refine uponIn_yield l _ _ _ (YF.out _ HMN.out _ (EB.alloc _)) ?_
                    intro fn tmps assign body hR
                    gi_wp2_with fail
                    refine hR.mono ?_
                    rintro e B (⟨rfl, hrel⟩ | ⟨rfl, hx⟩)
                    · gi_wp2_with fail
                      exact hrel
                    · gi_wp2_with fail
                      exact bodyPost_ret (results_none rfl _ _ _) rfl ⟨⟨_, rfl⟩, .inr hx⟩
                  · have hr1 : (s.ahead.drop d.to.length).isEmpty = false := by simpa using hr0
                    have hmn : amove p s d = some (d, ⟨s.i + d.frm.length, s.j, s.ahead.drop d.to.length, true⟩) := by
                      have ha : aahead s.ahead d.to s.right true = some (s.ahead.drop d.to.length, true) := by unfold aahead; rw [HP1.out, hrt, decide_eq_false hr0]; simp
                      rw [HAP.out, HFIT.out, ha]
                      simp
                    have HMN := Lib.hid hmn
                    clear hmn
                    have HC2 := Lib.hid hc2
                    clear hc2 hrt hr0
                    gi_wp2_with fail
                    refine callsIn_of_calls (ro := none) ((Tryz.strings_CutPrefix _ _ _).mono ?_)
                    rintro e w5 ⟨rfl, hw5⟩
                    rw [hw5]
                    clear hw5
                    rw [show trimPrefix (⟨s.ahead.toArray⟩ : ByteArray).data.toList (⟨d.to.toArray⟩ : ByteArray).data.toList = s.ahead.drop d.to.length from HC2.out, show hasPrefix (⟨s.ahead.toArray⟩ : ByteArray).data.toList (⟨d.to.toArray⟩ : ByteArray).data.toList = true from HC1.out]
                    generalize s.ahead.drop d.to.length = ah at *
                    gi_wp2_with fail
                    refine uponIn_yield l _ _ _ (YF.out _ HMN.out _ (EB.alloc _)) ?_
                    intro fn tmps assign body hR
                    gi_wp2_with fail
                    refine hR.mono ?_
                    rintro e B (⟨rfl, hrel⟩ | ⟨rfl, hx⟩)
                    · gi_wp2_with fail
                      exact hrel
                    · gi_wp2_with fail
                      exact bodyPost_ret (results_none rfl _ _ _) rfl ⟨⟨_, rfl⟩, .inr hx⟩
              | false =>
                have hc1 : (hasPrefix s.ahead d.to) = false := hp1
                have hc2 : trimPrefix s.ahead d.to = s.ahead := by unfold trimPrefix; rw [if_neg (by rw [hc1]; simp)]
                have HP1 := Lib.hid hp1
                have HC1 := Lib.hid hc1
                have HC2 := Lib.hid hc2
                clear hp1 hc1 hc2
                cases hp2 : s.ahead.isPrefixOf d.to with
                | true =>
                  have hc3 : (hasPrefix d.to s.ahead) = true := hp2
                  have hc4 : trimPrefix d.to s.ahead = d.to.drop s.ahead.length := by unfold trimPrefix; rw [if_pos hc3]
                  have hmn : amove p s d = some (d, ⟨s.i + d.frm.length, s.j, d.to.drop s.ahead.length, false⟩) := by
                    have ha : aahead s.ahead d.to s.right true = some (d.to.drop s.ahead.length, false) := by unfold aahead; rw [HP1.out, hp2]; simp
                    rw [HAP.out, HFIT.out, ha]
                    simp
                  have HMN := Lib.hid hmn
                  clear hmn
                  have HC3 := Lib.hid hc3
                  have HC4 := Lib.hid hc4
                  clear hp2 hc3 hc4
                  gi_wp2_with fail
                  refine callsIn_of_calls (ro := none) ((Tryz.strings_CutPrefix _ _ _).mono ?_)
                  rintro e w5 ⟨rfl, hw5⟩
                  rw [hw5]
                  clear hw5
                  rw [show trimPrefix (⟨s.ahead.toArray⟩ : ByteArray).data.toList (⟨d.to.toArray⟩ : ByteArray).data.toList = s.ahead from HC2.out, show hasPrefix (⟨s.ahead.toArray⟩ : ByteArray).data.toList (⟨d.to.toArray⟩ : ByteArray).data.toList = false from HC1.out]
                  gi_wp2_with fail
                  refine callsIn_of_calls (ro := none) ((Tryz.strings_CutPrefix _ _ _).mono ?_)
                  rintro e w5 ⟨rfl, hw5⟩
                  rw [hw5]
                  clear hw5
                  rw [show trimPrefix (⟨d.to.toArray⟩ : ByteArray).data.toList (⟨s.ahead.toArray⟩ : ByteArray).data.toList = d.to.drop s.ahead.length from HC4.out, show hasPrefix (⟨d.to.toArray⟩ : ByteArray).data.toList (⟨s.ahead.toArray⟩ : ByteArray).data.toList = true from HC3.out]
                  generalize d.to.drop s.ahead.length = ah at *
                  gi_wp2_with fail
                  refine uponIn_yield l _ _ _ (YF.out _ HMN.out _ (EB.alloc _)) ?_
                  intro fn tmps assign body hR
                  gi_wp2_with fail
                  refine hR.mono ?_
                  rintro e B (⟨rfl, hrel⟩ | ⟨rfl, hx⟩)
                  · gi_wp2_with fail
                    exact hrel
                  · gi_wp2_with fail
                    exact bodyPost_ret (results_none rfl _ _ _) rfl ⟨⟨_, rfl⟩, .inr hx⟩
                | false =>
                  have hc3 : (hasPrefix d.to s.ahead) = false := hp2
                  have hc4 : trimPrefix d.to s.ahead = d.to := by unfold trimPrefix; rw [if_neg (by rw [hc3]; simp)]
                  have hmn : amove p s d = none := by
                    have ha : aahead s.ahead d.to s.right true = none := by unfold aahead; rw [HP1.out, hp2]; simp
                    rw [HAP.out, HFIT.out, ha]
                    simp
                  have HMN := Lib.hid hmn
                  have HC3 := Lib.hid hc3
                  have HC4 := Lib.hid hc4
                  clear hp2 hc3 hc4 hmn
                  gi_wp2_with fail
                  refine callsIn_of_calls (ro := none) ((Tryz.strings_CutPrefix _ _ _).mono ?_)
                  rintro e w5 ⟨rfl, hw5⟩
                  rw [hw5]
                  clear hw5
                  rw [show trimPrefix (⟨s.ahead.toArray⟩ : ByteArray).data.toList (⟨d.to.toArray⟩ : ByteArray).data.toList = s.ahead from HC2.out, show hasPrefix (⟨s.ahead.toArray⟩ : ByteArray).data.toList (⟨d.to.toArray⟩ : ByteArray).data.toList = false from HC1.out]
                  gi_wp2_with fail
                  refine callsIn_of_calls (ro := none) ((Tryz.strings_CutPrefix _ _ _).mono ?_)
                  rintro e w5 ⟨rfl, hw5⟩
                  rw [hw5]
                  clear hw5
                  rw [show trimPrefix (⟨d.to.toArray⟩ : ByteArray).data.toList (⟨s.ahead.toArray⟩ : ByteArray).data.toList = d.to from HC4.out, show hasPrefix (⟨d.to.toArray⟩ : ByteArray).data.toList (⟨s.ahead.toArray⟩ : ByteArray).data.toList = false from HC3.out]
                  gi_wp2_with fail
                  exact SK.out _ (EB.alloc _) HMN.out
            | false =>
              cases hp1 : d.to.isPrefixOf s.ahead with
              | true =>
                have hc1 : (hasPrefix s.ahead d.to) = true := hp1
                have hc2 : trimPrefix s.ahead d.to = s.ahead.drop d.to.length := by unfold trimPrefix; rw [if_pos hc1]
                have HP1 := Lib.hid hp1
                have HC1 := Lib.hid hc1
                clear hp1 hc1
                cases hrt : s.right with
                | false =>
                  rw [hrt] at s3
                  have hmn : amove p s d = some (d, ⟨s.i, s.j + d.frm.length, s.ahead.drop d.to.length, false⟩) := by
                    have ha : aahead s.ahead d.to s.right false = some (s.ahead.drop d.to.length, false) := by unfold aahead; rw [HP1.out, hrt]; simp
                    rw [HAP.out, HFIT.out, ha]
                    simp
                  have HMN := Lib.hid hmn
                  clear hmn
                  have HC2 := Lib.hid hc2
                  clear hc2 hrt
                  gi_wp2_with fail
                  refine callsIn_of_calls (ro := none) ((Tryz.strings_CutPrefix _ _ _).mono ?_)
                  rintro e w5 ⟨rfl, hw5⟩
                  rw [hw5]
                  clear hw5
                  rw [show trimPrefix (⟨s.ahead.toArray⟩ : ByteArray).data.toList (⟨d.to.toArray⟩ : ByteArray).data.toList = s.ahead.drop d.to.length from HC2.out, show hasPrefix (⟨s.ahead.toArray⟩ : ByteArray).data.toList (⟨d.to.toArray⟩ : ByteArray).data.toList = true from HC1.out]
                  generalize s.ahead.drop d.to.length = ah at *
                  gi_wp2_with fail
                  refine uponIn_yield l _ _ _ (YF.out _ HMN.out _ (EB.alloc _)) ?_
                  intro fn tmps assign body hR
                  gi_wp2_with fail
                  refine hR.mono ?_
                  rintro e B (⟨rfl, hrel⟩ | ⟨rfl, hx⟩)
                  · gi_wp2_with fail
                    exact hrel
                  · gi_wp2_with fail
                    exact bodyPost_ret (results_none rfl _ _ _) rfl ⟨⟨_, rfl⟩, .inr hx⟩
                | true =>
                  exfalso
                  have h9 := HBL.out
                  unfold aleft at h9
                  rw [hrt] at h9
                  simp at h9
              | false =>
                have hc1 : (hasPrefix s.ahead d.to) = false := hp1
                have hc2 : trimPrefix s.ahead d.to = s.ahead := by unfold trimPrefix; rw [if_neg (by rw [hc1]; simp)]
                have HP1 := Lib.hid hp1
                have HC1 := Lib.hid hc1
                have HC2 := Lib.hid hc2
                clear hp1 hc1 hc2
                cases hp2 : s.ahead.isPrefixOf d.to with
                | true =>
                  have hc3 : (hasPrefix d.to s.ahead) = true := hp2
                  have hc4 : trimPrefix d.to s.ahead = d.to.drop s.ahead.length := by unfold trimPrefix; rw [if_pos hc3]
                  have hmn : amove p s d = some (d, ⟨s.i, s.j + d.frm.length, d.to.drop s.ahead.length, true⟩) := by
                    have ha : aahead s.ahead d.to s.right false = some (d.to.drop s.ahead.length, true) := by unfold aahead; rw [HP1.out, hp2]; simp
                    rw [HAP.out, HFIT.out, ha]
                    simp
                  have HMN := Lib.hid hmn
                  clear hmn
                  have HC3 := Lib.hid hc3
                  have HC4 := Lib.hid hc4
                  clear hp2 hc3 hc4
                  gi_wp2_with fail
                  refine callsIn_of_calls (ro := none) ((Tryz.strings_CutPrefix _ _ _).mono ?_)
                  rintro e w5 ⟨rfl, hw5⟩
                  rw [hw5]
                  clear hw5
                  rw [show trimPrefix (⟨s.ahead.toArray⟩ : ByteArray).data.toList (⟨d.to.toArray⟩ : ByteArray).data.toList = s.ahead from HC2.out, show hasPrefix (⟨s.ahead.toArray⟩ : ByteArray).data.toList (⟨d.to.toArray⟩ : ByteArray).data.toList = false from HC1.out]
                  gi_wp2_with fail
                  refine callsIn_of_calls (ro := none) ((Tryz.strings_CutPrefix _ _ _).mono ?_)
                  rintro e w5 ⟨rfl, hw5⟩
                  rw [hw5]
                  clear hw5
                  rw [show trimPrefix (⟨d.to.toArray⟩ : ByteArray).data.toList (⟨s.ahead.toArray⟩ : ByteArray).data.toList = d.to.drop s.ahead.length from HC4.out, show hasPrefix (⟨d.to.toArray⟩ : ByteArray).data.toList (⟨s.ahead.toArray⟩ : ByteArray).data.toList = true from HC3.out]
                  generalize d.to.drop s.ahead.length = ah at *
                  gi_wp2_with fail
                  refine uponIn_yield l _ _ _ (YF.out _ HMN.out _ (EB.alloc _)) ?_
                  intro fn tmps assign body hR
                  gi_wp2_with fail
                  refine hR.mono ?_
                  rintro e B (⟨rfl, hrel⟩ | ⟨rfl, hx⟩)
                  · gi_wp2_with fail
                    exact hrel
                  · gi_wp2_with fail
                    exact bodyPost_ret (results_none rfl _ _ _) rfl ⟨⟨_, rfl⟩, .inr hx⟩
                | false =>
                  have hc3 : (hasPrefix d.to s.ahead) = false := hp2
                  have hc4 : trimPrefix d.to s.ahead = d.to := by unfold trimPrefix; rw [if_neg (by rw [hc3]; simp)]
                  have hmn : amove p s d = none := by
                    have ha : aahead s.ahead d.to s.right false = none := by unfold aahead; rw [HP1.out, hp2]; simp
                    rw [HAP.out, HFIT.out, ha]
                    simp
                  have HMN := Lib.hid hmn
                  have HC3 := Lib.hid hc3
                  have HC4 := Lib.hid hc4
                  clear hp2 hc3 hc4 hmn
                  gi_wp2_with fail
                  refine callsIn_of_calls (ro := none) ((Tryz.strings_CutPrefix _ _ _).mono ?_)
                  rintro e w5 ⟨rfl, hw5⟩
                  rw [hw5]
                  clear hw5
                  rw [show trimPrefix (⟨s.ahead.toArray⟩ : ByteArray).data.toList (⟨d.to.toArray⟩ : ByteArray).data.toList = s.ahead from HC2.out, show hasPrefix (⟨s.ahead.toArray⟩ : ByteArray).data.toList (⟨d.to.toArray⟩ : ByteArray).data.toList = false from HC1.out]
                  gi_wp2_with fail
                  refine callsIn_of_calls (ro := none) ((Tryz.strings_CutPrefix _ _ _).mono ?_)
                  rintro e w5 ⟨rfl, hw5⟩
                  rw [hw5]
                  clear hw5
                  rw [show trimPrefix (⟨d.to.toArray⟩ : ByteArray).data.toList (⟨s.ahead.toArray⟩ : ByteArray).data.toList = d.to from HC4.out, show hasPrefix (⟨d.to.toArray⟩ : ByteArray).data.toList (⟨s.ahead.toArray⟩ : ByteArray).data.toList = false from HC3.out]
                  gi_wp2_with fail
                  exact SK.out _ (EB.alloc _) HMN.out
        · obtain rfl : j = RS.length := by omega
          have hall : (RS.zip fs).take RS.length = RS.zip fs := List.take_of_length_le (by rw [List.length_zip]; omega)
          rw [hall] at hjJ
          have HJ := Lib.hid hjJ
          clear hjJ hall
          gi_wp2_with fail
          go_end0
          exact ⟨⟨_, rfl⟩, .inl ⟨O, HJ.out⟩⟩
end Go.Proofs.Kb
