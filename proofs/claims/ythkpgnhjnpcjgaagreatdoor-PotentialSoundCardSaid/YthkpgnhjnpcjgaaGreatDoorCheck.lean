/- Package potential: the checker. -/
import Derived.Test.YthkpgnhjnpcjgaaGreatDoorHelp
import Derived.Test.YthkpgnhjnpcjgaaGreatDoorChk0
import Derived.Sort.LoopGhostIn
namespace Go.Proofs.Kb
open Go Go.RowKit Go.Lib Pl
attribute [local go_sem] Oper.semAt_some run_makeMap

theorem results_cell {fn : Func} {t : Tmp} {ty : TypeId} (h : fn.results = #[.cell t ty]) (tmps : Array Value) (P : Program) (w : World) {a : Addr} {v : Value} (ha : tmps.getD t undef = .pointer (some a)) (hl : (loadVar ty a).run P w = .ok v w) :
    (results fn tmps).run P w = .ok v w := by
  have ha' : (asAddr (tmps.getD t undef)).run P w = .ok a w := by rw [ha]; rfl
  unfold results
  rw [h]
  simp [-Array.getD_eq_getD_getElem?, Sem.run_bind, ha', hl]

/-- what an element of a certificate must meet to be laid down -/
def goodPot (x : Pot) : Prop := isInt x.i ∧ isInt x.j ∧ x.ahead.length < 35184372088832 ∧ isInt x.h

theorem nodup_lt : ∀ (n : Nat) (l : List Nat), l.Nodup → (∀ x ∈ l, x < n) → l.length ≤ n
  | 0, l, _, h => by
    cases l with
    | nil => simp
    | cons x l => exact absurd (h x (by simp)) (by omega)
  | n + 1, l, hn, h => by
    have h1 := nodup_lt n (l.erase n) (hn.erase n) (fun x hx => by
      have h2 := (hn.mem_erase_iff.1 hx)
      have := h x h2.2
      have := h2.1
      omega)
    by_cases hm : n ∈ l
    · rw [List.length_erase_of_mem hm] at h1; omega
    · rw [List.erase_of_not_mem hm] at h1; omega

theorem wrap_of {n : Int} (h1 : -9223372036854775808 ≤ n) (h2 : n ≤ 9223372036854775807) : IntKind.i64.wrap n = n := by
  simp [IntKind.wrap, IntKind.bits, IntKind.signed]
  omega

/-- the mark of a loop over a function -/
def mark (i : Nat) : Deferred := { target := .collected i, args := #[] }

theorem leaves_marks {P : Program} {F : Fence} {n : Nat} {fn : Func} {tmps : Array Value} {R : Ending → World → Prop} : ∀ (is : List Nat) (w : World), is.Nodup → (∀ i ∈ is, w.heap[i]? = some (.deferred (some []))) →
    (∀ w', Ext (fun k => k ∈ is) w w' → LeavesIn F n P fn tmps R [] .returning w') → LeavesInM F n P fn tmps R (is.map mark) .returning w
  | [], w, _, _, h => h w (Ext.refl _ _)
  | i :: is, w, hn, hd, h => by
    rw [List.nodup_cons] at hn
    refine ⟨by simp, .inl ⟨i, _, rfl, run_takeDeferred (hd i (by simp)), leaves_marks is _ hn.2 ?_ ?_⟩⟩
    · intro k hk
      refine (World.putObj_heap_other ?_).trans (hd k (by simp [hk]))
      intro e; subst e; exact hn.1 hk
    · intro w' he
      exact h w' (Ext.trans ((Ext.refl _ w).putObj _ _ (.inr (by simp))) (he.mono fun k _ hk => by simp [hk]))

theorem grow_ext (w : World) (q : Nat) (os : Array Obj) : Ext none' w (Sort.grow (w.drewN q) os) :=
  ⟨rfl, rfl, rfl, by rw [Sort.size_grow]; exact Nat.le_add_right _ _, fun k hk _ => by
    show (w.heap ++ os)[k]? = _
    rw [Array.getElem?_append_left hk]⟩

theorem compare_ext (x y : Pot) (w : World) : Calls Tryz.prog 28 #[.agg #[.int .i64 x.i, .int .i64 x.j, .string ⟨x.ahead.toArray⟩, .bool x.right, .int .i64 x.h], .agg #[.int .i64 y.i, .int .i64 y.j, .string ⟨y.ahead.toArray⟩, .bool y.right, .int .i64 y.h]] w fun e w' =>
    e = .returned (.int .i64 (Pl.compare x y)) ∧ Ext none' w w' :=
  (compare_any x y w).mono fun e w' ⟨he, q, os, hw⟩ => ⟨he, by rw [hw]; exact grow_ext w q os⟩

theorem Same.trans9 {N : Nat} {w w' w'' : World} (h : Same N w w') (he : Ext none' w' w'') (hN : N ≤ w'.heap.size := by omega) : Same N w w'' := fun i hi => (he.same i (Nat.lt_of_lt_of_le hi hN) (fun h => h)).trans (h i hi)

set_option maxRecDepth 100000 in
set_option maxHeartbeats 40000000 in
theorem check_any (N : Nat) (vt vl : Value) (t : Table) (a : Int) (x : ByteArray) (b : Int) (y : ByteArray) (bound : Int) (l : List Pot) (w : World) (hv : TabAt N w vt t) (hx : x.size < 35184372088832) (hy : y.size < 35184372088832)
    (hl : SlAt 5 encPot N w vl l) (hg : ∀ e ∈ l, goodPot e) (hN : N ≤ w.heap.size) (hT : Tabs N w) :
    Calls Tryz.prog 17 #[vt, .int .i64 a, .string x, .int .i64 b, .string y, .int .i64 bound, vl] w fun e w' => e = .returned (.bool (Check t a x.data.toList b y.data.toList bound l)) ∧ Ext none' w w' := by
  have hv0 := Lib.hid hv
  obtain ⟨vr, vd, ve, rfl, hr, hd, he, hgood⟩ := hv
  obtain ⟨ra, rc, rfl, -⟩ := hr
  obtain ⟨da, dc, rfl, -⟩ := hd
  obtain ⟨ea, ec, rfl, -⟩ := he
  obtain ⟨la, lc, rfl, hlc, hlm, hlx⟩ := hl
  have hlen : l.length ≤ 9223372036854775807 := by unfold maxLen at hlm; omega
  obtain ⟨w0, hw0⟩ : ∃ w0, w0 = (w.alloc (.cells #[.slice ra t.rules.length rc, .slice da t.drops.length dc, .slice ea t.ends.length ec, .int .i64 t.drop, .int .i64 t.order, .int .i64 t.initial] 25)).alloc (.cells #[.bool false] 4) := ⟨_, rfl⟩
  have hE0 : Ext none' w w0 := by rw [hw0]; exact ((Ext.refl _ w).alloc _).alloc _
  have hof := of_any N _ t a x b y w0 (hv0.out.keep (hE0.same0 hN)) hx hy (Nat.le_trans hN hE0.size) (hT.keep (hE0.same0 hN))
  have hres : Boxed w0 (w.heap.size + 1) 4 (.bool false) := by rw [hw0]; exact heapNew _ (by simp)
  have hs0 : w0.heap.size = w.heap.size + 2 := by rw [hw0]; simp
  rw [hw0] at hof
  have HW0 := Lib.hid hw0
  have HLX := Lib.hid hlx
  clear hw0 hlx
  unfold Pl.Check
  cases htwo : two t a x.data.toList b y.data.toList with
  | none =>
    simp only
    rw [htwo] at hof
    have HOF := Lib.hid hof
    clear hof
    refine (callsIn_wide (n := 1)).1 ?_
    refine callsIn_of_wp_marks Tryz.func17 rfl trivial ?_ rfl
    simp only [Tryz.ntmps17, List.size_toArray, List.length_cons, List.length_nil, Nat.reduceAdd, Nat.reduceSub, Array.replicate_succ, Array.replicate_zero, List.push_toArray, List.append_toArray, List.nil_append, List.cons_append]
    gi_wp2_with fail
    refine ⟨trivial, callsIn_of_calls (ro := none) (HOF.out.mono ?_)⟩
    rintro e w1 ⟨u, ⟨pra, pla, pma, prn, prc, pln, plc, pmn, pmc, pa, pb, pi, pj, rfl⟩, rfl, hpair, hE1⟩
    rw [← HW0.out] at hE1
    have hres1 : Boxed w1 (w.heap.size + 1) 4 (.bool false) := (hE1.same _ hres.lt (fun h => h)).trans hres
    have hres2 := hres1.alloc (.cells #[.slice pra prn prc, .int .i64 pa, .int .i64 pb, .slice pla pln plc, .slice pma pmn pmc, .int .i64 pi, .int .i64 pj, .string ⟨#[]⟩, .bool false] 64)
    have hs1 := hE1.size
    have r1 := hres2.cell
    have r2 := hres2.frozen
    simp only [Option.isSome_none]
    gi_wp2_with fail
    exact ⟨_, results_cell rfl _ _ _ rfl (load_bool ⟨w.heap.size + 1, 0, none⟩ _ _ (hres2.set (.bool false)).cell), rfl, (hE0.trans (hE1.alloc _)).setCell ⟨w.heap.size + 1, 0, none⟩ _ (.inl (by show w.heap.size ≤ w.heap.size + 1; omega))⟩
  | some p =>
    simp only
    rw [htwo] at hof
    have HOF := Lib.hid hof
    clear hof
    refine (callsIn_wide (n := 1)).1 ?_
    refine callsIn_of_wp_marks Tryz.func17 rfl trivial ?_ rfl
    simp only [Tryz.ntmps17, List.size_toArray, List.length_cons, List.length_nil, Nat.reduceAdd, Nat.reduceSub, Array.replicate_succ, Array.replicate_zero, List.push_toArray, List.append_toArray, List.nil_append, List.cons_append]
    gi_wp2_with fail
    refine ⟨trivial, callsIn_of_calls (ro := none) (HOF.out.mono ?_)⟩
    rintro e w1 ⟨u, ⟨pra, pla, pma, prn, prc, pln, plc, pmn, pmc, pa, pb, pi, pj, rfl⟩, rfl, hpair, hE1⟩
    rw [← HW0.out] at hE1
    have hres1 : Boxed w1 (w.heap.size + 1) 4 (.bool false) := (hE1.same _ hres.lt (fun h => h)).trans hres
    have hres2 := hres1.alloc (.cells #[.slice pra prn prc, .int .i64 pa, .int .i64 pb, .slice pla pln plc, .slice pma pmn pmc, .int .i64 pi, .int .i64 pj, .string ⟨#[]⟩, .bool false] 64)
    have hs1 := hE1.size
    have hp := hpair p rfl
    obtain ⟨hvalid, hrules⟩ := two_rules htwo
    have ho : OkRules p := by unfold OkRules; rw [hrules]; exact valid_rules hvalid
    clear hpair
    -- GEN
    simp only [Option.isSome_some]
    obtain ⟨wB, hwB⟩ : ∃ wB, wB = ((w1.alloc (.cells #[.slice pra prn prc, .int .i64 pa, .int .i64 pb, .slice pla pln plc, .slice pma pmn pmc, .int .i64 pi, .int .i64 pj, .string ⟨#[]⟩, .bool false] 64)).alloc (.map #[] 0)).alloc (.cells #[.map (some (w1.heap.size + 1))] 67) := ⟨_, rfl⟩
    have hEB : Ext none' w1 wB := by rw [hwB]; exact (((Ext.refl none' w1).alloc _).alloc _).alloc _
    have sB : wB.heap.size = w1.heap.size + 3 := by rw [hwB]; simp
    have kpB : wB.heap[w1.heap.size]? = some (.cells #[.slice pra prn prc, .int .i64 pa, .int .i64 pb, .slice pla pln plc, .slice pma pmn pmc, .int .i64 pi, .int .i64 pj, .string ⟨#[]⟩, .bool false] 64) := by rw [hwB]; exact heapKeep (heapKeep (heapNew _ rfl) _) _
    have kmB : MapAt encState encCost wB (w1.heap.size + 1) [] := ⟨by rw [hwB]; exact heapKeep (heapNew _ (by simp)) _, by simp⟩
    have kvB : Boxed wB (w1.heap.size + 2) 67 (.map (some (w1.heap.size + 1))) := by rw [hwB]; exact heapNew _ (by simp)
    have HWB := Lib.hid hwB
    clear hwB
    gi_wp2_with fail
    rw [← HWB.out]
    gi_loopw [38] (fun i wr => ∃ j : Nat, i = .int .i64 j ∧ j ≤ l.length ∧ rising p bound none (l.take j) = true ∧ MapAt encState encCost wr (w1.heap.size + 1) (heights (l.take j)) ∧ Ext (one (w1.heap.size + 1)) wB wr) (fun i _ => l.length - (intOf i).toNat)
    case atStart => exact ⟨0, rfl, by omega, rfl, kmB, Ext.refl _ _⟩
    case round =>
      obtain ⟨j, rfl, hj, hri, hMr, hEr⟩ := hrel
      have sr := hEr.size
      have hpB := hp.keep (fun i hi => (hEr.same i (by omega) (by unfold one; omega)).trans (hEB.same i hi (fun h => h)) : Same w1.heap.size w1 wr)
      have hpr := hpB
      have kpr := (hEr.same _ (by omega) (by unfold one; omega)).trans kpB
      have kvr : Boxed wr (w1.heap.size + 2) 67 (.map (some (w1.heap.size + 1))) := (hEr.same _ (by omega) (by unfold one; omega)).trans kvB
      have hrr : Boxed wr (w.heap.size + 1) 4 (.bool false) := (hEr.same _ (by omega) (by unfold one; omega)).trans ((hEB.same _ (by omega) (fun h => h)).trans hres1)
      have hE1r : Ext (one (w1.heap.size + 1)) w1 wr := (hEB.mono (fun _ _ h => h.elim) : Ext (one (w1.heap.size + 1)) w1 wB).trans hEr
      have hEwr : Ext none' w wr := (hE0.trans hE1).later hE1r (fun i hi hx => by have hx : i = w1.heap.size + 1 := hx; omega)
      have hSr : Same N w wr := hEwr.same0 hN
      by_cases hjl : j < l.length
      · obtain ⟨e, he⟩ : ∃ e, l[j]? = some e := ⟨_, List.getElem?_eq_getElem hjl⟩
        obtain ⟨lb, lo, rfl, hlb, hcell⟩ := HLX.out (by intro h; rw [h] at hjl; simp at hjl)
        have hge := hg e (List.mem_of_getElem? he)
        have c0 : wr.cell? ⟨lb, lo + j * 5, none⟩ = some (.int .i64 e.i) := (hSr.cell (a := ⟨lb, _, none⟩) hlb).trans (hcell j e he 0 _ rfl)
        have c1 : wr.cell? ⟨lb, lo + j * 5 + 1, none⟩ = some (.int .i64 e.j) := (hSr.cell (a := ⟨lb, _, none⟩) hlb).trans (hcell j e he 1 _ rfl)
        have c2 : wr.cell? ⟨lb, lo + j * 5 + 2, none⟩ = some (.string ⟨e.ahead.toArray⟩) := (hSr.cell (a := ⟨lb, _, none⟩) hlb).trans (hcell j e he 2 _ rfl)
        have c3 : wr.cell? ⟨lb, lo + j * 5 + 3, none⟩ = some (.bool e.right) := (hSr.cell (a := ⟨lb, _, none⟩) hlb).trans (hcell j e he 3 _ rfl)
        have c4 : wr.cell? ⟨lb, lo + j * 5 + 4, none⟩ = some (.int .i64 e.h) := (hSr.cell (a := ⟨lb, _, none⟩) hlb).trans (hcell j e he 4 _ rfl)
        have hstep := rising_step (p := p) (bound := bound) he
        rw [hri, Bool.true_and] at hstep
        gi_upto_region 8 with fail
        clear c0 c1 c2 c3 c4
        gi_cut [61] from 99 (fun s61 wx => ∃ q : Bool, s61 = .bool q ∧ q = !(proper p e bound && (decide (j = 0) || decide (Pl.compare (l.getD (j - 1) e) e < 0))) ∧ Ext none' wr wx ∧ wx.heap[wr.heap.size]? = some (.cells #[.int .i64 e.i, .int .i64 e.j, .string ⟨e.ahead.toArray⟩, .bool e.right, .int .i64 e.h] 37))
        case first =>
          rename_i J9 K9 hJ9 hK9
          obtain ⟨W9, hW9⟩ : ∃ W9, W9 = (wr.alloc (.cells #[.int .i64 e.i, .int .i64 e.j, .string ⟨e.ahead.toArray⟩, .bool e.right, .int .i64 e.h] 37)).drew := ⟨_, rfl⟩
          have e89 : Ext none' wr W9 := by rw [hW9]; exact ((Ext.refl none' wr).alloc _).drew
          have s9 : W9.heap.size = wr.heap.size + 1 := by rw [hW9]; simp
          have ke9 : W9.heap[wr.heap.size]? = some (.cells #[.int .i64 e.i, .int .i64 e.j, .string ⟨e.ahead.toArray⟩, .bool e.right, .int .i64 e.h] 37) := by rw [hW9]; exact heapNew _ rfl
          have kp9 : W9.heap[w1.heap.size]? = some (.cells #[.slice pra prn prc, .int .i64 pa, .int .i64 pb, .slice pla pln plc, .slice pma pmn pmc, .int .i64 pi, .int .i64 pj, .string ⟨#[]⟩, .bool false] 64) := (e89.same _ (by omega) (fun h => h)).trans kpr
          refine wp_region_N 19 (fun _ x y => Ext none' x y) rfl (by kernel_rfl) ?_
          change wpAnyS _ _ _ _ _ _ _ _ _ _ (World.drew _)
          rw [← hW9]
          have HW9 := Lib.hid hW9
          clear hW9
          refine wpAnyS_t 0 (fun W => Ext none' W9 W) (fun _ => true) (some 43) (.agg #[.slice pra prn prc, .int .i64 pa, .int .i64 pb, .slice pla pln plc, .slice pma pmn pmc, .int .i64 pi, .int .i64 pj, .string ⟨#[]⟩, .bool false]) (by kernel_rfl) (by kernel_rfl) (fun _ _ _ h => h) (fun j x y _ ho hx => hx.trans ho) (fun x => Ext.refl _ x) (Ext.refl _ _) (by kernel_rfl) (fun o ho W hW => by cases ho; exact exec_load_row _ _ rfl _ (by kernel_rfl) _ _ _ ((hW.same _ (by omega) (fun h => h)).trans kp9) Tryz.underlying64 rfl (by kernel_rfl)) ?_
          refine wpAnyS_t 1 (fun W => Ext none' W9 W) (fun _ => true) (some 44) (.agg #[.int .i64 e.i, .int .i64 e.j, .string ⟨e.ahead.toArray⟩, .bool e.right, .int .i64 e.h]) (by kernel_rfl) (by kernel_rfl) (fun _ _ _ h => h) (fun j x y _ ho hx => hx.trans ho) (fun x => Ext.refl _ x) (Ext.refl _ _) (by kernel_rfl) (fun o ho W hW => by cases ho; exact exec_load_row _ _ rfl _ (by kernel_rfl) _ _ _ ((hW.same _ (by omega) (fun h => h)).trans ke9) Tryz.underlying37 rfl (by kernel_rfl)) ?_
          refine wpAnyS_p 2 (some 45) (.int .i64 bound) (by kernel_rfl) (by kernel_rfl) (fun _ _ _ h => h) (fun x => Ext.refl _ x) (by kernel_rfl) (by kernel_rfl) ?_
          refine wpAnyS_1 3 (some 46) (.call { callee := .value (.func 32), args := #[.tmp 43, .tmp 44, .tmp 45], argTypes := #[64, 37, 3] }) (by kernel_rfl) (by kernel_rfl) (by kernel_rfl) (by kernel_rfl) fun o hod ho K hK => ?_
          refine wpIn_call _ _ _ #[.agg #[.slice pra prn prc, .int .i64 pa, .int .i64 pb, .slice pla pln plc, .slice pma pmn pmc, .int .i64 pi, .int .i64 pj, .string ⟨#[]⟩, .bool false], .agg #[.int .i64 e.i, .int .i64 e.j, .string ⟨e.ahead.toArray⟩, .bool e.right, .int .i64 e.h], .int .i64 bound] _ hod ho (by kernel_rfl) (enters_of Tryz.func32 (by kernel_rfl) rfl)
            ((proper_any w1.heap.size p _ e bound W9 (hpr.keep (fun i hi => e89.same i (by omega) (fun h => h))) hge.2.2.1).mono ?_)
          rintro _ W10 ⟨rfl, hE10⟩
          refine ⟨_, rfl, hK _ _ ⟨hE10, ?_⟩⟩
          clear hK ho hod
          have s10 := hE10.size
          obtain ⟨pr, hpr2⟩ : ∃ pr, pr = proper p e bound := ⟨_, rfl⟩
          rw [← hpr2]
          have HPR2 := Lib.hid hpr2
          clear hpr2
          cases pr with
          | false =>
            refine wpAnyS_p 4 (some 47) (.bool true) (by kernel_rfl) (by kernel_rfl) (fun _ _ _ h => h) (fun x => Ext.refl _ x) (by kernel_rfl) (by kernel_rfl) ?_
            refine wpAnyS_p 5 (some 48) (.bool true) (by kernel_rfl) (by kernel_rfl) (fun _ _ _ h => h) (fun x => Ext.refl _ x) (by kernel_rfl) (by kernel_rfl) ?_
            refine wpAnyS_o 6 (some 49) (by kernel_rfl) (by kernel_rfl) (fun _ _ _ h => h) (fun x => Ext.refl _ x) (by kernel_rfl) ?_
            refine wpAnyS_o 7 (some 50) (by kernel_rfl) (by kernel_rfl) (fun _ _ _ h => h) (fun x => Ext.refl _ x) (by kernel_rfl) ?_
            refine wpAnyS_o 8 (some 51) (by kernel_rfl) (by kernel_rfl) (fun _ _ _ h => h) (fun x => Ext.refl _ x) (by kernel_rfl) ?_
            refine wpAnyS_o 9 (some 52) (by kernel_rfl) (by kernel_rfl) (fun _ _ _ h => h) (fun x => Ext.refl _ x) (by kernel_rfl) ?_
            refine wpAnyS_o 10 (some 53) (by kernel_rfl) (by kernel_rfl) (fun _ _ _ h => h) (fun x => Ext.refl _ x) (by kernel_rfl) ?_
            refine wpAnyS_o 11 (some 54) (by kernel_rfl) (by kernel_rfl) (fun _ _ _ h => h) (fun x => Ext.refl _ x) (by kernel_rfl) ?_
            refine wpAnyS_o 12 (some 55) (by kernel_rfl) (by kernel_rfl) (fun _ _ _ h => h) (fun x => Ext.refl _ x) (by kernel_rfl) ?_
            refine wpAnyS_o 13 (some 56) (by kernel_rfl) (by kernel_rfl) (fun _ _ _ h => h) (fun x => Ext.refl _ x) (by kernel_rfl) ?_
            refine wpAnyS_o 14 (some 57) (by kernel_rfl) (by kernel_rfl) (fun _ _ _ h => h) (fun x => Ext.refl _ x) (by kernel_rfl) ?_
            refine wpAnyS_o 15 (some 58) (by kernel_rfl) (by kernel_rfl) (fun _ _ _ h => h) (fun x => Ext.refl _ x) (by kernel_rfl) ?_
            refine wpAnyS_o 16 (some 59) (by kernel_rfl) (by kernel_rfl) (fun _ _ _ h => h) (fun x => Ext.refl _ x) (by kernel_rfl) ?_
            refine wpAnyS_o 17 (some 60) (by kernel_rfl) (by kernel_rfl) (fun _ _ _ h => h) (fun x => Ext.refl _ x) (by kernel_rfl) ?_
            refine wpAnyS_p 18 (some 61) (.bool true) (by kernel_rfl) (by kernel_rfl) (fun _ _ _ h => h) (fun x => Ext.refl _ x) (by kernel_rfl) (by kernel_rfl) ?_
            refine wpAnyS_doneN (by kernel_rfl) ?_ _
            simp only [Act.put, List.setIfInBounds_toArray, List.set_cons_succ, List.set_cons_zero]
            refine hK9 _ _ (Met.intro (hJ9 _ _ ?_))
            repeat apply Exists.intro
            refine ⟨?_, rfl⟩
            exact ⟨true, rfl, by rw [← HPR2.out]; rfl, e89.trans hE10, (hE10.same _ (by omega) (fun h => h)).trans ke9⟩
          | true =>
            refine wpAnyS_p 4 (some 47) (.bool false) (by kernel_rfl) (by kernel_rfl) (fun _ _ _ h => h) (fun x => Ext.refl _ x) (by kernel_rfl) (by kernel_rfl) ?_
            refine wpAnyS_p 5 (some 48) (.bool false) (by kernel_rfl) (by kernel_rfl) (fun _ _ _ h => h) (fun x => Ext.refl _ x) (by kernel_rfl) (by kernel_rfl) ?_
            cases j with
            | zero =>
              refine wpAnyS_p 6 (some 49) (.int .i64 0) (by kernel_rfl) (by kernel_rfl) (fun _ _ _ h => h) (fun x => Ext.refl _ x) (by kernel_rfl) (by kernel_rfl) ?_
              refine wpAnyS_p 7 (some 50) (.bool false) (by kernel_rfl) (by kernel_rfl) (fun _ _ _ h => h) (fun x => Ext.refl _ x) (by kernel_rfl) (by kernel_rfl) ?_
              refine wpAnyS_p 8 (some 51) (.bool false) (by kernel_rfl) (by kernel_rfl) (fun _ _ _ h => h) (fun x => Ext.refl _ x) (by kernel_rfl) (by kernel_rfl) ?_
              refine wpAnyS_o 9 (some 52) (by kernel_rfl) (by kernel_rfl) (fun _ _ _ h => h) (fun x => Ext.refl _ x) (by kernel_rfl) ?_
              refine wpAnyS_o 10 (some 53) (by kernel_rfl) (by kernel_rfl) (fun _ _ _ h => h) (fun x => Ext.refl _ x) (by kernel_rfl) ?_
              refine wpAnyS_o 11 (some 54) (by kernel_rfl) (by kernel_rfl) (fun _ _ _ h => h) (fun x => Ext.refl _ x) (by kernel_rfl) ?_
              refine wpAnyS_o 12 (some 55) (by kernel_rfl) (by kernel_rfl) (fun _ _ _ h => h) (fun x => Ext.refl _ x) (by kernel_rfl) ?_
              refine wpAnyS_o 13 (some 56) (by kernel_rfl) (by kernel_rfl) (fun _ _ _ h => h) (fun x => Ext.refl _ x) (by kernel_rfl) ?_
              refine wpAnyS_o 14 (some 57) (by kernel_rfl) (by kernel_rfl) (fun _ _ _ h => h) (fun x => Ext.refl _ x) (by kernel_rfl) ?_
              refine wpAnyS_o 15 (some 58) (by kernel_rfl) (by kernel_rfl) (fun _ _ _ h => h) (fun x => Ext.refl _ x) (by kernel_rfl) ?_
              refine wpAnyS_o 16 (some 59) (by kernel_rfl) (by kernel_rfl) (fun _ _ _ h => h) (fun x => Ext.refl _ x) (by kernel_rfl) ?_
              refine wpAnyS_p 17 (some 60) (.bool false) (by kernel_rfl) (by kernel_rfl) (fun _ _ _ h => h) (fun x => Ext.refl _ x) (by kernel_rfl) (by kernel_rfl) ?_
              refine wpAnyS_p 18 (some 61) (.bool false) (by kernel_rfl) (by kernel_rfl) (fun _ _ _ h => h) (fun x => Ext.refl _ x) (by kernel_rfl) (by kernel_rfl) ?_
              refine wpAnyS_doneN (by kernel_rfl) ?_ _
              simp only [Act.put, List.setIfInBounds_toArray, List.set_cons_succ, List.set_cons_zero]
              refine hK9 _ _ (Met.intro (hJ9 _ _ ?_))
              repeat apply Exists.intro
              refine ⟨?_, rfl⟩
              exact ⟨false, rfl, by rw [← HPR2.out]; rfl, e89.trans hE10, (hE10.same _ (by omega) (fun h => h)).trans ke9⟩
            | succ j =>
              obtain ⟨f, hf⟩ : ∃ f, l[j]? = some f := ⟨_, List.getElem?_eq_getElem (by omega)⟩
              have hgd : l.getD (j + 1 - 1) e = f := by simp [List.getD, hf]
              have hgf := hg f (List.mem_of_getElem? hf)
              have hcf := fun (W : World) (hW : Ext none' W9 W) (k : Nat) (u : Value) (hu : (encPot f)[k]? = some u) => (((hSr.trans9 (e89.trans hW)).cell (a := ⟨lb, _, none⟩) hlb).trans (hcell j f hf k u hu))
              have i1 : ((j + 1 : Nat) : Int) - 1 = (j : Nat) := by omega
              refine wpAnyS_p 6 (some 49) (.int .i64 ((j + 1 : Nat) : Int)) (by kernel_rfl) (by kernel_rfl) (fun _ _ _ h => h) (fun x => Ext.refl _ x) (by kernel_rfl) (by kernel_rfl) ?_
              refine wpAnyS_t 7 (fun _ => True) (fun _ => true) (some 50) (.bool true) (by kernel_rfl) (by kernel_rfl) (fun _ _ _ h => h) (fun _ _ _ _ _ _ => trivial) (fun x => Ext.refl _ x) trivial (by kernel_rfl) (fun o ho W _ => by cases ho; exact exec_bin _ _ _ _ _ rfl _ _ _ (by kernel_rfl) (by kernel_rfl) (gtr_zero j _ _ _)) ?_
              refine wpAnyS_p 8 (some 51) (.bool true) (by kernel_rfl) (by kernel_rfl) (fun _ _ _ h => h) (fun x => Ext.refl _ x) (by kernel_rfl) (by kernel_rfl) ?_
              refine wpAnyS_p 9 (some 52) (.slice (some ⟨lb, lo, none⟩) l.length lc) (by kernel_rfl) (by kernel_rfl) (fun _ _ _ h => h) (fun x => Ext.refl _ x) (by kernel_rfl) (by kernel_rfl) ?_
              refine wpAnyS_p 10 (some 53) (.int .i64 ((j + 1 : Nat) : Int)) (by kernel_rfl) (by kernel_rfl) (fun _ _ _ h => h) (fun x => Ext.refl _ x) (by kernel_rfl) (by kernel_rfl) ?_
              refine wpAnyS_t 11 (fun _ => True) (fun _ => true) (some 54) (.int .i64 (j : Nat)) (by kernel_rfl) (by kernel_rfl) (fun _ _ _ h => h) (fun _ _ _ _ _ _ => trivial) (fun x => Ext.refl _ x) trivial (by kernel_rfl) (fun o ho W _ => by cases ho; exact exec_bin _ _ _ _ _ rfl _ _ _ (by kernel_rfl) (by kernel_rfl) (sub_one j (by omega) _ _ _)) ?_
              refine wpAnyS_t 12 (fun _ => True) (fun _ => true) (some 55) (.pointer (some ⟨lb, lo + j * 5, none⟩)) (by kernel_rfl) (by kernel_rfl) (fun _ _ _ h => h) (fun _ _ _ _ _ _ => trivial) (fun x => Ext.refl _ x) trivial (by kernel_rfl) (fun o ho W _ => by cases ho; exact exec_index _ _ _ rfl _ _ _ (by kernel_rfl) (by kernel_rfl) (index_pot lb lo l.length lc j (by omega) _)) ?_
              refine wpAnyS_t 13 (fun W => Ext none' W9 W) (fun _ => true) (some 56) (.agg #[.int .i64 f.i, .int .i64 f.j, .string ⟨f.ahead.toArray⟩, .bool f.right, .int .i64 f.h]) (by kernel_rfl) (by kernel_rfl) (fun _ _ _ h => h) (fun j x y _ ho hx => hx.trans ho) (fun x => Ext.refl _ x) hE10 (by kernel_rfl) (fun o ho W hW => by cases ho; exact exec_load _ _ rfl _ (by kernel_rfl) _ (load_pot lb (lo + j * 5) f W (hcf W hW 0 _ rfl) (hcf W hW 1 _ rfl) (hcf W hW 2 _ rfl) (hcf W hW 3 _ rfl) (hcf W hW 4 _ rfl))) ?_
              refine wpAnyS_t 14 (fun W => Ext none' W9 W) (fun _ => true) (some 57) (.agg #[.int .i64 e.i, .int .i64 e.j, .string ⟨e.ahead.toArray⟩, .bool e.right, .int .i64 e.h]) (by kernel_rfl) (by kernel_rfl) (fun _ _ _ h => h) (fun j x y _ ho hx => hx.trans ho) (fun x => Ext.refl _ x) hE10 (by kernel_rfl) (fun o ho W hW => by cases ho; exact exec_load_row _ _ rfl _ (by kernel_rfl) _ _ _ ((hW.same _ (by omega) (fun h => h)).trans ke9) Tryz.underlying37 rfl (by kernel_rfl)) ?_
              refine wpAnyS_1 15 (some 58) (.call { callee := .value (.func 28), args := #[.tmp 56, .tmp 57], argTypes := #[37, 37] }) (by kernel_rfl) (by kernel_rfl) (by kernel_rfl) (by kernel_rfl) fun o hod ho K hK => ?_
              refine wpIn_call _ _ _ #[.agg #[.int .i64 f.i, .int .i64 f.j, .string ⟨f.ahead.toArray⟩, .bool f.right, .int .i64 f.h], .agg #[.int .i64 e.i, .int .i64 e.j, .string ⟨e.ahead.toArray⟩, .bool e.right, .int .i64 e.h]] _ hod ho (by kernel_rfl) (enters_of Tryz.func28 (by kernel_rfl) rfl) ((compare_ext f e W10).mono ?_)
              rintro _ W11 ⟨rfl, hE11⟩
              refine ⟨_, rfl, hK _ _ ⟨hE11, ?_⟩⟩
              clear hK ho hod
              refine wpAnyS_t 16 (fun _ => True) (fun _ => true) (some 59) (.bool (decide (0 ≤ Pl.compare f e))) (by kernel_rfl) (by kernel_rfl) (fun _ _ _ h => h) (fun _ _ _ _ _ _ => trivial) (fun x => Ext.refl _ x) trivial (by kernel_rfl) (fun o ho W _ => by cases ho; exact exec_bin _ _ _ _ _ rfl _ _ _ (by kernel_rfl) (by kernel_rfl) (geq_zero _ _ _ _)) ?_
              obtain ⟨bc, hbc⟩ : ∃ bc, bc = decide (0 ≤ Pl.compare f e) := ⟨_, rfl⟩
              rw [← hbc]
              refine wpAnyS_p 17 (some 60) (.bool bc) (by kernel_rfl) (by kernel_rfl) (fun _ _ _ h => h) (fun x => Ext.refl _ x) (by kernel_rfl) (by kernel_rfl) ?_
              refine wpAnyS_p 18 (some 61) (.bool bc) (by kernel_rfl) (by kernel_rfl) (fun _ _ _ h => h) (fun x => Ext.refl _ x) (by kernel_rfl) (by kernel_rfl) ?_
              refine wpAnyS_doneN (by kernel_rfl) ?_ _
              simp only [Act.put, List.setIfInBounds_toArray, List.set_cons_succ, List.set_cons_zero]
              refine hK9 _ _ (Met.intro (hJ9 _ _ ?_))
              repeat apply Exists.intro
              refine ⟨?_, rfl⟩
              refine ⟨bc, rfl, ?_, e89.trans (hE10.trans hE11), ((hE10.trans hE11).same _ (by omega) (fun h => h)).trans ke9⟩
              rw [← HPR2.out, hgd, hbc, Bool.eq_iff_iff]
              simp
        case rest =>
          obtain ⟨q, rfl, hq, hEx, kx⟩ := hcut
          have hrx : Boxed wc (w.heap.size + 1) 4 (.bool false) := (hEx.same _ (by omega) (fun h => h)).trans hrr
          cases q with
          | true =>
            have hns : rising p bound none (l.take (j + 1)) = false := by rw [hstep, ← Bool.not_eq_true']; exact hq.symm
            have hho : holds p bound l = false := by
              cases hh : rising p bound none l with
              | true => rw [rising_take (j + 1) hh] at hns; cases hns
              | false => unfold holds; rw [hh]; rfl
            have HHO := Lib.hid hho
            have r1 := hrx.cell
            have r2 := hrx.frozen
            clear hho hns hstep hq hri
            gi_wp2_with fail
            exact ⟨_, results_cell rfl _ _ _ rfl (load_bool ⟨w.heap.size + 1, 0, none⟩ _ _ (hrx.set (.bool false)).cell), by rw [HHO.out], (hEwr.trans hEx).setCell ⟨w.heap.size + 1, 0, none⟩ _ (.inl (by show w.heap.size ≤ w.heap.size + 1; omega))⟩
          | false =>
            have hns : rising p bound none (l.take (j + 1)) = true := by rw [hstep, ← Bool.not_eq_false']; exact hq.symm
            have hMx := hEx.map0 hMr
            have hgs : goodState e.state := ⟨hge.1, hge.2.1, by have := hge.2.2.1; show e.ahead.length ≤ maxLen; unfold maxLen; omega⟩
            have hkeys : ∀ x ∈ heights (l.take j), goodState x.1 := by
              intro x hx
              obtain ⟨y, hy, rfl⟩ := List.mem_map.1 hx
              have hgy := hg y (List.mem_of_mem_take hy)
              exact ⟨hgy.1, hgy.2.1, by have := hgy.2.2.1; show y.ahead.length ≤ maxLen; unfold maxLen; omega⟩
            have hup := hMx.update state_keys Tryz.underlying67 hkeys hgs e.h
            have hput := hMx.put e.state e.h
            rw [heights_put he (rising_nodup hns)] at hup hput
            simp only [encState, encS, encCost, Pot.state] at hup
            have kvx : Boxed wc (w1.heap.size + 2) 67 (.map (some (w1.heap.size + 1))) := (hEx.same _ (by omega) (fun h => h)).trans kvr
            have v0 := kvx.cell
            have x0 : wc.cell? ⟨wr.heap.size, 0, none⟩ = some (.int .i64 e.i) := cellAt kx 0 rfl
            have x1 : wc.cell? ⟨wr.heap.size, 1, none⟩ = some (.int .i64 e.j) := cellAt kx 1 rfl
            have x2 : wc.cell? ⟨wr.heap.size, 2, none⟩ = some (.string ⟨e.ahead.toArray⟩) := cellAt kx 2 rfl
            have x3 : wc.cell? ⟨wr.heap.size, 3, none⟩ = some (.bool e.right) := cellAt kx 3 rfl
            have x4 : wc.cell? ⟨wr.heap.size, 4, none⟩ = some (.int .i64 e.h) := cellAt kx 4 rfl
            have HNS := Lib.hid hns
            clear hns hstep hq hri
            gi_wp2_with fail
            refine ⟨⟨j + 1, rfl, by omega, HNS.out, hput, ?_⟩, by simp only [intOf]; omega⟩
            exact (hEr.trans (hEx.mono (fun _ _ h => h.elim))).putObj _ _ (.inr rfl)
      · obtain rfl : j = l.length := by omega
        rw [List.take_length] at hri hMr
        clear hlen hj hjl
        have v0 := kvr.cell
        have hrg := hMr.range (P := Tryz.prog) Tryz.underlying67
        gi_wp2_with fail
        clear hrg
        obtain ⟨wL, hwL⟩ : ∃ wL, wL = wr.alloc (iterObj (w1.heap.size + 1) (heights l).length []) := ⟨_, rfl⟩
        rw [← hwL]
        have sL : wL.heap.size = wr.heap.size + 1 := by rw [hwL]; simp
        have hitL : wL.heap[wr.heap.size]? = some (iterObj (w1.heap.size + 1) (heights l).length []) := by rw [hwL]; exact heapNew _ rfl
        have eL : Ext none' wr wL := by rw [hwL]; exact (Ext.refl none' wr).alloc _
        clear hwL
        have hkeys : ∀ x ∈ heights l, goodState x.1 := by
          intro x hx
          obtain ⟨y, hy, rfl⟩ := List.mem_map.1 hx
          have hgy := hg y hy
          exact ⟨hgy.1, hgy.2.1, by have := hgy.2.2.1; show y.ahead.length ≤ maxLen; unfold maxLen; omega⟩
        refine wpIn_loop_ghost_k (fun g a' w' => ∃ (v20 v21 v22 v23 v77 v78 v79 v80 v81 v82 v83 v84 v85 v86 v87 v88 v89 v90 v91 v92 v93 : Value) (seen is : List Nat), (w'.heap[wr.heap.size]? = some (iterObj (w1.heap.size + 1) (heights l).length seen) ∧ seen.Nodup ∧ (∀ i ∈ seen, i < (heights l).length) ∧ seen.length + g = (heights l).length ∧ (∀ i ∈ seen, ∀ e, (heights l)[i]? = some e → moveOk p l e.1 e.2 = true) ∧ Ext (one wr.heap.size) wL w' ∧ is.Nodup ∧ (∀ k ∈ is, wr.heap.size < k ∧ w'.heap[k]? = some (.deferred (some [])))) ∧ a' = { tmps := #[.agg #[.slice ra t.rules.length rc, .slice da t.drops.length dc, .slice ea t.ends.length ec, .int .i64 t.drop, .int .i64 t.order, .int .i64 t.initial], .int .i64 a, .string x, .int .i64 b, .string y, .int .i64 bound, .slice la l.length lc, .pointer (some ⟨w.heap.size, 0, none⟩), undef, undef, undef, undef, undef, undef, .pointer (some ⟨w.heap.size + 1, 0, none⟩), .pointer (some ⟨w1.heap.size, 0, none⟩), .bool true, .pointer (some ⟨w1.heap.size + 1 + 1, 0, none⟩), u18, u19, v20, v21, v22, v23, .tuple #[.agg #[.slice pra prn prc, .int .i64 pa, .int .i64 pb, .slice pla pln plc, .slice pma pmn pmc, .int .i64 pi, .int .i64 pj, .string ⟨#[]⟩, .bool false], .bool true], .agg #[.slice ra t.rules.length rc, .slice da t.drops.length dc, .slice ea t.ends.length ec, .int .i64 t.drop, .int .i64 t.order, .int .i64 t.initial], .int .i64 a, .string x, .int .i64 b, .string y, .tuple #[.agg #[.slice pra prn prc, .int .i64 pa, .int .i64 pb, .slice pla pln plc, .slice pma pmn pmc, .int .i64 pi, .int .i64 pj, .string ⟨#[]⟩, .bool false], .bool true], .agg #[.slice pra prn prc, .int .i64 pa, .int .i64 pb, .slice pla pln plc, .slice pma pmn pmc, .int .i64 pi, .int .i64 pj, .string ⟨#[]⟩, .bool false], .bool true, .bool true, .bool false, .map (some (w1.heap.size + 1)), .slice la l.length lc, .int .i64 (l.length : Int), .int .i64 (l.length : Int), .bool false, u40, u41, u42, u43, u44, u45, u46, u47, u48, u49, u50, u51, u52, u53, u54, u55, u56, u57, u58, u59, u60, u61, u62, u63, u64, u65, u66, u67, u68, u69, u70, u71, u72, u73, u74, .map (some (w1.heap.size + 1)), .pointer (some ⟨wr.heap.size, 0, none⟩), v77, v78, v79, v80, v81, v82, v83, v84, v85, v86, v87, v88, v89, v90, v91, v92, v93, undef, undef, undef, undef, undef], defers := is.map mark }) (heights l).length ?h0 ?round
        case h0 => exact ⟨undef, undef, undef, undef, undef, undef, undef, undef, undef, undef, undef, undef, undef, undef, undef, undef, undef, undef, undef, undef, undef, [], [], ⟨hitL, .nil, (fun _ h => by cases h), (by simp), (fun _ h => by cases h), Ext.refl _ _, .nil, (fun _ h => by cases h)⟩, by kernel_rfl⟩
        case round =>
        rintro g a' w' ⟨v20, v21, v22, v23, v77, v78, v79, v80, v81, v82, v83, v84, v85, v86, v87, v88, v89, v90, v91, v92, v93, seen, is, ⟨hit, hsn, hsl, hsg, hsok, hEl, hin, hid⟩, rfl⟩ J8 K8 hJ8 hK8
        have s' := hEl.size
        have hEr' : Ext none' wr w' := eL.later hEl (fun i hi hx => by have hx : i = wr.heap.size := hx; omega)
        have hM' := hEr'.map0 hMr
        have kv' : Boxed w' (w1.heap.size + 2) 67 (.map (some (w1.heap.size + 1))) := (hEr'.same _ kvr.lt (fun h => h)).trans kvr
        have hr' : Boxed w' (w.heap.size + 1) 4 (.bool false) := (hEr'.same _ hrr.lt (fun h => h)).trans hrr
        rcases hM'.next (P := Tryz.prog) hit 0 with ⟨hall, hnx⟩ | ⟨j, e, w3, hej, hjs, hw3, hnx⟩
        · have v1 := kv'.cell
          have r1 := hr'.cell
          have r2 := hr'.frozen
          have hlk := hM'.lookup state_keys Tryz.underlying67 (zero_int w') hkeys (k := State.start) ⟨⟨by decide, by decide⟩, ⟨by decide, by decide⟩, by decide⟩ false
          have hge0 : ((mget (heights l) State.start).map encCost).getD (.int .i64 0) = .int .i64 (height l State.start) := by unfold height; cases mget (heights l) State.start <;> rfl
          rw [hge0] at hlk
          simp only [Bool.false_eq_true, if_false, encState, encS, State.start] at hlk
          have hho : holds p bound l = decide (bound ≤ height l State.start) := by
            rw [holds_eq, hri, Bool.true_and]
            have : (heights l).all (fun e => moveOk p l e.1 e.2) = true := by
              rw [List.all_eq_true]
              intro e he
              obtain ⟨i, hi⟩ := List.mem_iff_getElem?.1 he
              exact hsok i (hall i (List.getElem?_eq_some_iff.1 hi).1) e hi
            rw [this, Bool.true_and]
          have HHO := Lib.hid hho
          have HIN := Lib.hid hin
          have HID := Lib.hid hid
          clear hho hall hsok hsg hsl hsn hin hid hit hri
          gi_wp2_with fail
          have hset : Ext (one (w.heap.size + 1)) w' (w'.setCell ⟨w.heap.size + 1, 0, none⟩ (.bool (decide (bound ≤ height l ⟨0, 0, [], false⟩)))) := (Ext.refl _ w').setCell ⟨w.heap.size + 1, 0, none⟩ _ (.inr rfl)
          refine leaves_marks is _ HIN.out (fun k hk => ?_) (fun w2 he2 => ?_)
          · have h1 := HID.out k hk
            exact (hset.same k (Array.getElem?_eq_some_iff.1 h1.2).1 (by unfold one; omega)).trans h1.2
          · have hsz2 := hset.size
            have hb2 := (he2.same (w.heap.size + 1) (by have := hr'.lt; omega) (fun hk => by have := HID.out _ hk; omega)).trans (hr'.set (.bool (decide (bound ≤ height l ⟨0, 0, [], false⟩))))
            refine ⟨_, results_cell rfl _ _ _ rfl (load_bool ⟨w.heap.size + 1, 0, none⟩ _ _ (Boxed.cell hb2)), by rw [HHO.out]; rfl, ?_⟩
            exact ((hEwr.trans hEr').setCell ⟨w.heap.size + 1, 0, none⟩ _ (.inl (by show w.heap.size ≤ w.heap.size + 1; omega))).later he2 (fun i hi hk => by have := HID.out _ hk; omega)
        · have hsz : (heights l).length = l.length := by simp [heights]
          obtain ⟨x, hxl, rfl⟩ : ∃ x, l[j]? = some x ∧ e = (x.state, x.h) := by
            simp only [heights, List.getElem?_map, Option.map_eq_some_iff] at hej
            obtain ⟨x, h1, h2⟩ := hej
            exact ⟨x, h1, h2.symm⟩
          have hlow := rising_low hri x (List.mem_of_getElem? hxl)
          obtain ⟨wn, hwn⟩ : ∃ wn, wn = w3.putObj wr.heap.size (iterObj (w1.heap.size + 1) (heights l).length (seen ++ [j])) := ⟨_, rfl⟩
          rw [← hwn] at hnx
          have e3 : Ext none' w' w3 := by rcases hw3 with rfl | rfl; exact Ext.refl _ _; exact (Ext.refl none' w').drew
          have hEn : Ext (one wr.heap.size) w' wn := by rw [hwn]; exact (e3.mono (fun _ _ h => h.elim) : Ext (one wr.heap.size) w' w3).putObj _ _ (.inr rfl)
          have hitn : wn.heap[wr.heap.size]? = some (iterObj (w1.heap.size + 1) (heights l).length (seen ++ [j])) := by rw [hwn]; exact World.putObj_heap_same (by have := e3.size; omega)
          have sn := hEn.size
          clear hwn hw3
          have hMn := hM'.same (hEn.same _ hM'.lt (by unfold one; have := hMr.lt; omega))
          have hen := hMn.entry (P := Tryz.prog) hitn hej
          simp only [encState, encS, encCost, Pot.state] at hnx hen
          gi_upto_region 15 with fail
          obtain ⟨wq, hwq⟩ : ∃ wq, wq = (wn.alloc (.cells #[.int .i64 x.i, .int .i64 x.j, .string ⟨x.ahead.toArray⟩, .bool x.right] 62)).alloc (.cells #[.int .i64 x.h] 3) := ⟨_, rfl⟩
          rw [← hwq]
          have sq : wq.heap.size = wn.heap.size + 2 := by rw [hwq]; simp
          have hEq : Ext none' wn wq := by rw [hwq]; exact ((Ext.refl none' wn).alloc _).alloc _
          have kq0 : wq.heap[wn.heap.size]? = some (.cells #[.int .i64 x.i, .int .i64 x.j, .string ⟨x.ahead.toArray⟩, .bool x.right] 62) := by rw [hwq]; exact heapKeep (heapNew _ rfl) _
          have kq1 : Boxed wq (wn.heap.size + 1) 3 (.int .i64 x.h) := by rw [hwq]; exact heapNew _ (by simp)
          have hErn : Ext (one wr.heap.size) wr wn := (hEr'.mono (fun _ _ h => h.elim) : Ext (one wr.heap.size) wr w').trans hEn
          have hErq : Ext (one wr.heap.size) wr wq := hErn.trans (hEq.mono (fun _ _ h => h.elim))
          have kpq : wq.heap[w1.heap.size]? = some (.cells #[.slice pra prn prc, .int .i64 pa, .int .i64 pb, .slice pla pln plc, .slice pma pmn pmc, .int .i64 pi, .int .i64 pj, .string ⟨#[]⟩, .bool false] 64) := (hErq.same _ (by omega) (by unfold one; omega)).trans kpr
          clear hwq hen hnx
          have s0 : wq.cell? ⟨wn.heap.size, 0, none⟩ = some (.int .i64 x.i) := cellAt kq0 0 rfl
          have s1 : wq.cell? ⟨wn.heap.size, 1, none⟩ = some (.int .i64 x.j) := cellAt kq0 1 rfl
          have s2 : wq.cell? ⟨wn.heap.size, 2, none⟩ = some (.string ⟨x.ahead.toArray⟩) := cellAt kq0 2 rfl
          have s3 : wq.cell? ⟨wn.heap.size, 3, none⟩ = some (.bool x.right) := cellAt kq0 3 rfl
          have p0 : wq.cell? ⟨w1.heap.size, 0, none⟩ = some (.slice pra prn prc) := cellAt kpq 0 rfl
          have p1 : wq.cell? ⟨w1.heap.size, 1, none⟩ = some (.int .i64 pa) := cellAt kpq 1 rfl
          have p2 : wq.cell? ⟨w1.heap.size, 2, none⟩ = some (.int .i64 pb) := cellAt kpq 2 rfl
          have p3 : wq.cell? ⟨w1.heap.size, 3, none⟩ = some (.slice pla pln plc) := cellAt kpq 3 rfl
          have p4 : wq.cell? ⟨w1.heap.size, 4, none⟩ = some (.slice pma pmn pmc) := cellAt kpq 4 rfl
          have p5 : wq.cell? ⟨w1.heap.size, 5, none⟩ = some (.int .i64 pi) := cellAt kpq 5 rfl
          have p6 : wq.cell? ⟨w1.heap.size, 6, none⟩ = some (.int .i64 pj) := cellAt kpq 6 rfl
          have p7 : wq.cell? ⟨w1.heap.size, 7, none⟩ = some (.string ⟨#[]⟩) := cellAt kpq 7 rfl
          have p8 : wq.cell? ⟨w1.heap.size, 8, none⟩ = some (.bool false) := cellAt kpq 8 rfl
          gi_wp2_with fail
          clear s0 s1 s2 s3 p0 p1 p2 p3 p4 p5 p6 p7 p8
          refine ⟨trivial, callsIn_of_calls (ro := none) ((moves_any #[.slice pra prn prc, .int .i64 pa, .int .i64 pb, .slice pla pln plc, .slice pma pmn pmc, .int .i64 pi, .int .i64 pj, .string ⟨#[]⟩, .bool false] #[.int .i64 x.i, .int .i64 x.j, .string ⟨x.ahead.toArray⟩, .bool x.right] rfl rfl wq).mono ?_)⟩
          rintro _ wm ⟨rfl, hwm⟩
          have sm : wm.heap.size = wq.heap.size + 2 := by rw [hwm]; simp
          have hEm : Ext none' wq wm := by rw [hwm]; exact ((Ext.refl none' wq).alloc _).alloc _
          have km0 : wm.heap[wq.heap.size]? = some (.cells #[.slice pra prn prc, .int .i64 pa, .int .i64 pb, .slice pla pln plc, .slice pma pmn pmc, .int .i64 pi, .int .i64 pj, .string ⟨#[]⟩, .bool false] 64) := by rw [hwm]; exact heapKeep (heapNew _ rfl) _
          have km1 : wm.heap[wq.heap.size + 1]? = some (.cells (cellsState x.state) 62) := by rw [hwm]; exact heapNew _ (by simp)
          clear hwm
          have hErm : Ext (one wr.heap.size) wr wm := hErq.trans (hEm.mono (fun _ _ h => h.elim))
          have hpm := hpr.keep (fun i hi => hErm.same i (by omega) (by unfold one; omega) : Same w1.heap.size wr wm)
          have hit2 := moves_iter w1.heap.size p x.state _ wm wq.heap.size (wq.heap.size + 1) (wq.heap.size + 2) (fun _ => False) hpm hlow.2.2.2.1 (by omega) km0 km1 (by omega) (by omega) (fun _ _ h => h) id id
          have hMm := hMr.same (hErm.same _ hMr.lt (by have := hMr.lt; unfold one; omega))
          have kvm : Boxed wm (w1.heap.size + 2) 67 (.map (some (w1.heap.size + 1))) := (hErm.same _ kvr.lt (by unfold one; omega)).trans kvr
          have hrm : Boxed wm (w.heap.size + 1) 4 (.bool false) := (hErm.same _ hrr.lt (by unfold one; omega)).trans hrr
          have khm : Boxed wm (wn.heap.size + 1) 3 (.int .i64 x.h) := (hEm.same _ kq1.lt (fun h => h)).trans kq1
          have hEwm : Ext none' w wm := hEwr.later hErm (fun i hi hx => by have hx : i = wr.heap.size := hx; have := hEwr.size; omega)
          gi_wp2_with fail
          refine wp_rangeFunc (X := none') (N := wq.heap.size + 2) (Y := fun _ => False) (gf := 60) (lb := #[.pointer (some ⟨wq.heap.size + 1, 0, none⟩), .pointer (some ⟨wq.heap.size, 0, none⟩)])
            (by simp [Act.eval]) (enters_of Tryz.func60 (by kernel_rfl) rfl) (by omega) hit2 (fun b hb => hb.elim) (fun _ => rfl)
            (fun k W => (∀ i, i < k → ∀ m, (moves p x.state)[i]? = some m → x.h ≤ m.1 + height l m.2) ∧ Ext none' wm W)
            (fun c W => c = .ret ∧ Boxed W (w.heap.size + 1) 4 (.bool false) ∧ Ext (one (w.heap.size + 1)) wm W ∧ moveOk p l x.state x.h = false) ?hI ?hIx ?hz ?hbody ?hdone ?hstop
          case hI =>
            rintro k A B ⟨h1, h2⟩ he
            exact ⟨h1, h2.later he (fun i hi hx => by rcases hx with hx | hx; exact hx; omega)⟩
          case hIx =>
            rintro c A B ⟨h1, h2, h3, h4⟩ he
            exact ⟨h1, (he.same _ h2.lt (fun hx => by rcases hx with hx | hx; exact hx; have := hrm.lt; omega)).trans h2, h3.later he (fun i hi hx => by rcases hx with hx | hx; exact hx.elim; omega), h4⟩
          case hz => exact fun W he _ => ⟨fun i hi => absurd hi (by omega), he⟩
          case hbody =>
            rintro k hk W hlt ⟨hokk, hEW⟩
            obtain ⟨m1, m2, m3, m4, m5⟩ := move_all ho hlow.2.2.2.1 hlow.2.2.2.2 hk
            have hget : (moves p x.state)[k]? = some ((moves p x.state)[k]) := List.getElem?_eq_getElem hk
            generalize (moves p x.state)[k] = q at *
            obtain ⟨c, t2⟩ := q
            simp only at m1 m2 m3 m4 m5
            have hkk := hk
            clear hk
            simp only [encState, encS]
            gi_wp2_with fail
            refine ⟨Below.heap_alloc W _ _ (by omega), Below.heap_alloc W _ _ (by omega), fun W2 he2 hr2 => ?_⟩
            obtain ⟨r2, hr2⟩ := hr2
            have hE0 : Ext (fun i => i = wm.heap.size + 1) W W2 := ((Ext.refl _ W).alloc _).trans he2
            have hs2 := he2.size
            rw [World.size_alloc] at hs2
            have hE2 : Ext none' wm W2 := hEW.later hE0 (fun i hi hx => by omega)
            have cto : W2.heap[W.heap.size]? = some (.cells #[.int .i64 t2.i, .int .i64 t2.j, .string ⟨t2.ahead.toArray⟩, .bool t2.right] 62) := (he2.same _ (by simp) (by omega)).trans (World.alloc_heap_new W _)
            have t0 : W2.cell? ⟨W.heap.size, 0, none⟩ = some (.int .i64 t2.i) := cellAt cto 0 rfl
            have t1 : W2.cell? ⟨W.heap.size, 1, none⟩ = some (.int .i64 t2.j) := cellAt cto 1 rfl
            have t2' : W2.cell? ⟨W.heap.size, 2, none⟩ = some (.string ⟨t2.ahead.toArray⟩) := cellAt cto 2 rfl
            have t3 : W2.cell? ⟨W.heap.size, 3, none⟩ = some (.bool t2.right) := cellAt cto 3 rfl
            have kh2 : Boxed W2 (wn.heap.size + 1) 3 (.int .i64 x.h) := (hE2.same _ khm.lt (fun h => h)).trans khm
            have kv2 : Boxed W2 (w1.heap.size + 2) 67 (.map (some (w1.heap.size + 1))) := (hE2.same _ kvm.lt (fun h => h)).trans kvm
            have kr2 : Boxed W2 (w.heap.size + 1) 4 (.bool false) := (hE2.same _ hrm.lt (fun h => h)).trans hrm
            have h0 := kh2.cell
            have v0 := kv2.cell
            have r1 := kr2.cell
            have r2 := kr2.frozen
            have hM2 := hE2.map0 hMm
            have hgt := good_of_ok m1 m3 (by have := hpr; obtain ⟨_, _, _, _, _, _, _, _, h, _⟩ := this; exact h.2) (by have := hpr; obtain ⟨_, _, _, _, _, _, _, _, _, h⟩ := this; exact h.2)
            have hlk := fun (W' : World) (hW : Ext none' W2 W') => (hW.map0 hM2).lookup state_keys Tryz.underlying67 (zero_int W') hkeys (k := t2) hgt false
            have hge0 : ((mget (heights l) t2).map encCost).getD (.int .i64 0) = .int .i64 (height l t2) := by unfold height; cases mget (heights l) t2 <;> rfl
            rw [hge0] at hlk
            simp only [Bool.false_eq_true, if_false, encState, encS] at hlk
            obtain ⟨g0, g1⟩ := height_range hri t2
            generalize hhv : height l t2 = hv at *
            have HLK := Lib.hid hlk
            have hwrap := wrap_of (n := c + hv) (by omega) (by omega)
            clear hlk hge0 t0 t1 t2' t3 h0 v0 r1 r2
            gi_upto_region 18 with fail
            obtain ⟨W3, hW3⟩ : ∃ W3, W3 = W2.drew := ⟨_, rfl⟩
            have e23 : Ext none' W2 W3 := by rw [hW3]; exact (Ext.refl none' W2).drew
            refine wp_region_N 7 (fun _ x y => Ext none' x y) rfl (by kernel_rfl) ?_
            change wpAnyS _ _ _ _ _ _ _ _ _ _ W2.drew
            rw [← hW3]
            refine wpAnyS_t 0 (fun W => Ext none' W2 W) (fun _ => true) (some 87) (.int .i64 x.h) (by kernel_rfl) (by kernel_rfl) (fun _ _ _ h => h) (fun j x y _ ho hx => hx.trans ho) (fun x => Ext.refl _ x) e23 (by kernel_rfl) (fun o ho W' hW => by cases ho; exact exec_load_cell _ _ rfl ⟨wn.heap.size + 1, 0, none⟩ (by kernel_rfl) _ (fun w h => load_int _ _ w h) (Boxed.cell ((hW.same _ kh2.lt (fun h => h)).trans kh2))) ?_
            refine wpAnyS_p 1 (some 88) (.int .i64 c) (by kernel_rfl) (by kernel_rfl) (fun _ _ _ h => h) (fun x => Ext.refl _ x) (by kernel_rfl) (by kernel_rfl) ?_
            refine wpAnyS_t 2 (fun W => Ext none' W2 W) (fun _ => true) (some 89) (.map (some (w1.heap.size + 1))) (by kernel_rfl) (by kernel_rfl) (fun _ _ _ h => h) (fun j x y _ ho hx => hx.trans ho) (fun x => Ext.refl _ x) e23 (by kernel_rfl) (fun o ho W' hW => by cases ho; exact exec_load_cell _ _ rfl ⟨w1.heap.size + 2, 0, none⟩ (by kernel_rfl) _ (fun w h => load_memo _ _ w h) (Boxed.cell ((hW.same _ kv2.lt (fun h => h)).trans kv2))) ?_
            refine wpAnyS_t 3 (fun W => Ext none' W2 W) (fun _ => true) (some 90) (.agg #[.int .i64 t2.i, .int .i64 t2.j, .string ⟨t2.ahead.toArray⟩, .bool t2.right]) (by kernel_rfl) (by kernel_rfl) (fun _ _ _ h => h) (fun j x y _ ho hx => hx.trans ho) (fun x => Ext.refl _ x) e23 (by kernel_rfl) (fun o ho W' hW => by cases ho; exact exec_load_row _ _ rfl _ (by kernel_rfl) _ _ _ ((hW.same _ (Array.getElem?_eq_some_iff.1 cto).1 (fun h => h)).trans cto) Tryz.underlying62 rfl (by kernel_rfl)) ?_
            refine wpAnyS_t 4 (fun W => Ext none' W2 W) (fun _ => true) (some 91) (.int .i64 hv) (by kernel_rfl) (by kernel_rfl) (fun _ _ _ h => h) (fun j x y _ ho hx => hx.trans ho) (fun x => Ext.refl _ x) e23 (by kernel_rfl) (fun o ho W' hW => by cases ho; exact exec_lookup _ _ _ _ rfl (.map (some (w1.heap.size + 1))) (.agg #[.int .i64 t2.i, .int .i64 t2.j, .string ⟨t2.ahead.toArray⟩, .bool t2.right]) (by kernel_rfl) (by kernel_rfl) _ (HLK.out W' hW)) ?_
            refine wpAnyS_t 5 (fun W => Ext none' W2 W) (fun _ => true) (some 92) (.int .i64 (c + hv)) (by kernel_rfl) (by kernel_rfl) (fun _ _ _ h => h) (fun j x y _ ho hx => hx.trans ho) (fun x => Ext.refl _ x) e23 (by kernel_rfl) (fun o ho W' hW => by cases ho; exact exec_bin _ _ _ _ _ rfl _ _ _ (by kernel_rfl) (by kernel_rfl) (add_int _ _ hwrap _ _ _)) ?_
            refine wpAnyS_t 6 (fun W => Ext none' W2 W) (fun _ => true) (some 93) (.bool (decide (c + hv < x.h))) (by kernel_rfl) (by kernel_rfl) (fun _ _ _ h => h) (fun j x y _ ho hx => hx.trans ho) (fun x => Ext.refl _ x) e23 (by kernel_rfl) (fun o ho W' hW => by cases ho; exact exec_bin _ _ _ _ _ rfl _ _ _ (by kernel_rfl) (by kernel_rfl) (gtr_int _ _ _ _ _)) ?_
            refine wpAnyS_doneN (by kernel_rfl) ?_ _
            simp only [Act.put, List.setIfInBounds_toArray, List.set_cons_succ, List.set_cons_zero]
            have r1 := Boxed.cell ((e23.same _ kr2.lt (fun h => h)).trans kr2)
            have r2 := Boxed.frozen ((e23.same _ kr2.lt (fun h => h)).trans kr2)
            have HE23 := Lib.hid e23
            clear hW3 e23
            by_cases hbad : c + hv < x.h
            · have b1 : decide (c + hv < x.h) = true := by simpa using hbad
              rw [b1]
              gi_wp2_with fail
              have hset : Ext (one (w.heap.size + 1)) W2 (W3.setCell ⟨w.heap.size + 1, 0, none⟩ (.bool false)) := (HE23.out.mono (fun _ _ h => h.elim) : Ext (one (w.heap.size + 1)) W2 W3).setCell ⟨w.heap.size + 1, 0, none⟩ _ (.inr rfl)
              have kr3 : Boxed W3 (w.heap.size + 1) 4 (.bool false) := (HE23.out.same _ kr2.lt (fun h => h)).trans kr2
              have hmo : moveOk p l x.state x.h = false := by
                cases hmo : moveOk p l x.state x.h with
                | false => rfl
                | true =>
                  have := List.all_eq_true.1 hmo (c, t2) (List.mem_of_getElem? hget)
                  simp only [decide_eq_true_eq, hhv] at this
                  omega
              exact ⟨⟨hset.same _ (by omega) (by unfold one; have := hrm.lt; omega), hset.same _ (by omega) (by unfold one; have := hrm.lt; omega), rfl, kr3.set _, (hE2.mono (fun _ _ h => h.elim) : Ext (one (w.heap.size + 1)) wm W2).trans hset, hmo⟩, fun h => by cases h⟩
            · have b1 : decide (c + hv < x.h) = false := by simpa using hbad
              rw [b1]
              gi_wp2_with fail
              refine ⟨⟨HE23.out.same _ (by omega) (fun h => h), HE23.out.same _ (by omega) (fun h => h), HE23.out.size, fun i hi _ => HE23.out.same _ (by omega) (fun h => h), fun i hi a b hm => ?_, hE2.trans HE23.out⟩, fun i hi => Below.heap_alloc W _ _ (by omega)⟩
              rcases Nat.lt_succ_iff_lt_or_eq.1 hi with h1 | h1
              · exact hokk i h1 (a, b) hm
              · subst h1
                rw [hget] at hm
                cases hm
                rw [hhv]
                omega
          case hdone =>
            rintro B ⟨hokk, hEB⟩ hD
            gi_wp2_with fail
            have hjn := (List.getElem?_eq_some_iff.1 hej).1
            have hnj : (j :: seen).Nodup := List.nodup_cons.2 ⟨hjs, hsn⟩
            have hpig := nodup_lt (heights l).length (j :: seen) hnj (fun i hi => by rcases List.mem_cons.1 hi with rfl | hi; exact hjn; exact hsl i hi)
            rw [List.length_cons] at hpig
            have hEnB : Ext none' wn B := hEq.trans (hEm.trans hEB)
            have hE'B : Ext (one wr.heap.size) w' B := hEn.trans (hEnB.mono (fun _ _ h => h.elim))
            have hmo : moveOk p l x.state x.h = true := by
              refine List.all_eq_true.2 fun m hm => ?_
              obtain ⟨i, hi⟩ := List.mem_iff_getElem?.1 hm
              have := hokk i (List.getElem?_eq_some_iff.1 hi).1 m hi
              simpa using this
            have hisl : ∀ k ∈ is, k < w'.heap.size := fun k hk => (Array.getElem?_eq_some_iff.1 (hid k hk).2).1
            refine Handed.intro (g - 1) (by omega) (hJ8 _ _ _ ⟨_, _, _, _, _, _, _, _, _, _, _, _, _, _, _, _, _, _, _, _, _, seen ++ [j], wm.heap.size :: is, ⟨(hEnB.same _ (by omega) (fun h => h)).trans hitn, ?_, ?_, by rw [List.length_append, List.length_singleton]; omega, ?_, hEl.trans hE'B, ?_, ?_⟩, rfl⟩)
            · refine List.nodup_append.2 ⟨hsn, by simp, ?_⟩
              intro a ha b hb
              rw [List.mem_singleton] at hb
              rintro rfl
              subst hb
              exact hjs ha
            · intro i hi
              rcases List.mem_append.1 hi with hi | hi
              · exact hsl i hi
              · rw [List.mem_singleton] at hi; subst hi; exact hjn
            · intro i hi e he
              rcases List.mem_append.1 hi with hi | hi
              · exact hsok i hi e he
              · rw [List.mem_singleton] at hi
                subst hi
                rw [hej] at he
                cases he
                exact hmo
            · exact List.nodup_cons.2 ⟨fun hk => by have := hisl _ hk; omega, hin⟩
            · intro k hk
              rcases List.mem_cons.1 hk with rfl | hk
              · exact ⟨by omega, hD⟩
              · exact ⟨(hid k hk).1, (hE'B.same k (hisl k hk) (by unfold one; have := (hid k hk).1; omega)).trans (hid k hk).2⟩
          case hstop =>
            rintro c B ⟨rfl, hb, hE, hf⟩ hD
            gi_wp2_with fail
            have hisl : ∀ k ∈ is, k < w'.heap.size := fun k hk => (Array.getElem?_eq_some_iff.1 (hid k hk).2).1
            have hho : holds p bound l = false := by
              rw [holds_eq, hri, Bool.true_and]
              have : (heights l).all (fun e => moveOk p l e.1 e.2) = false := by
                cases hh : (heights l).all (fun e => moveOk p l e.1 e.2) with
                | false => rfl
                | true =>
                  have := List.all_eq_true.1 hh _ (List.mem_of_getElem? hej)
                  rw [hf] at this
                  cases this
              rw [this, Bool.false_and]
            have hE'm : Ext (one wr.heap.size) w' wm := hEn.trans ((hEq.trans hEm).mono (fun _ _ h => h.elim))
            refine leaves_marks (wm.heap.size :: is) B (List.nodup_cons.2 ⟨fun hk => by have := hisl _ hk; omega, hin⟩) (fun k hk => ?_) (fun w2 he2 => ?_)
            · rcases List.mem_cons.1 hk with rfl | hk
              · exact hD
              · have h1 := hid k hk
                have h2 := hisl k hk
                exact (hE.same k (by omega) (by unfold one; have := hrr.lt; omega)).trans ((hE'm.same k h2 (by unfold one; omega)).trans h1.2)
            · have hb2 := (he2.same (w.heap.size + 1) hb.lt (fun hk => by
                have := hrr.lt
                rcases List.mem_cons.1 hk with hk | hk
                · omega
                · have := hid _ hk; omega)).trans hb
              refine ⟨_, results_cell rfl _ _ _ rfl (load_bool ⟨w.heap.size + 1, 0, none⟩ _ _ (Boxed.cell hb2)), by rw [hho], ?_⟩
              refine (hEwm.later hE (fun i hi hx => by have hx : i = w.heap.size + 1 := hx; omega)).later he2 (fun i hi hk => ?_)
              have := hEwr.size
              rcases List.mem_cons.1 hk with hk | hk
              · omega
              · have := hid _ hk; omega
end Go.Proofs.Kb
