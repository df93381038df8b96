/- Package align: whether a rule can be used from a letter on. -/
import Derived.Test.YthkpgnhjnpcjgaaGreatDoorASideOf
import Derived.Sort.QuietIn
import Derived.Sort.CutIn
namespace Go.Proofs.Kb
open Go Go.RowKit Go.Lib Pl
attribute [local go_sem] Oper.semAt_some run_makeMap

theorem wide_fn' (f : FuncId) : Fence.wide.fn f = True := rfl
attribute [local simp] wide_fn'
attribute [local go_sem] wide_fn'

theorem quiet_more {w w' : World} {a : Nat} (h : ∃ q, w' = (w.drewN a).drewN q) : ∃ n, w' = w.drewN n := by
  obtain ⟨q, rfl⟩ := h
  exact ⟨_, World.drewN_drewN _ _ _⟩

theorem Ext.draws {X : Nat → Prop} {a b : World} (h : Ext X a b) (n : Nat) : Ext X a (b.drewN n) := ⟨h.os, h.tape, h.output, h.size, h.same⟩

/-- strings as byte arrays -/
def bytesOf (l : List Str) : List ByteArray := l.map fun x => ⟨x.toArray⟩

theorem bytesOf_inj {a b : List Str} : bytesOf a = bytesOf b ↔ a = b := by
  unfold bytesOf
  constructor
  · intro h
    have := congrArg (fun l : List ByteArray => l.map fun x => x.data.toList) h
    simpa [List.map_map, Function.comp_def] using this
  · rintro rfl; rfl

theorem bytesOf_take (l : List Str) (n : Nat) : (bytesOf l).take n = bytesOf (l.take n) := by unfold bytesOf; rw [List.map_take]

theorem bytesOf_cell {w : World} {b o : Nat} {l : List Str} (h : ∀ j x, l[j]? = some x → w.cell? ⟨b, o + j, none⟩ = some (encS x)) : ∀ j, j < (bytesOf l).length → w.cell? ⟨b, o + j, none⟩ = some (.string ((bytesOf l).getD j ByteArray.empty)) := by
  intro j hj
  have hj' : j < l.length := by simpa [bytesOf] using hj
  have hg := List.getElem?_eq_getElem hj'
  rw [h j _ hg]
  unfold bytesOf encS
  rw [List.getD_eq_getElem?_getD, List.getElem?_map, hg]
  rfl

theorem afits_eq (l : List Str) (r : ARule) (n : Nat) (h : n + r.frm.length ≤ l.length) : afits l r (n : Int) = decide ((bytesOf (l.drop n)).take r.frm.length = (bytesOf r.frm).take r.frm.length) := by
  unfold afits
  have h1 : ((n : Int) + r.frm.length ≤ l.length) := by omega
  have e1 : (bytesOf (l.drop n)).take r.frm.length = bytesOf ((l.drop n).take r.frm.length) := bytesOf_take _ _
  have e2 : (bytesOf r.frm).take r.frm.length = bytesOf r.frm := by rw [bytesOf_take, List.take_length]
  rw [e1, e2]
  simp [h1, bytesOf_inj]

set_option maxRecDepth 100000 in
set_option maxHeartbeats 800000 in
theorem fits_any (N : Nat) (vl vf : Value) (ra : Option Addr) (rn rc : Nat) (l : List Str) (r : ARule) (n : Nat) (w : World) (hl : StrsAt N w vl l) (hf : StrsAt N w vf r.frm) (hl12 : 0 < l.length ∧ l.length ≤ 12) (hf12 : 0 < r.frm.length ∧ r.frm.length ≤ 12) (hn : n ≤ l.length) (hN : N ≤ w.heap.size) :
    Calls Tryz.prog 68 #[.agg #[vl, .slice ra rn rc], .agg #[.int .i64 r.index, .int .i64 r.cost, vf, .string ⟨r.to.toArray⟩], .int .i64 n] w fun e w' => e = .returned (.bool (afits l r n)) ∧ Ext none' w w' := by
  obtain ⟨la, lc, rfl, hlc, hlm, hlx⟩ := hl
  obtain ⟨fa, fc, rfl, hfc, hfm, hfx⟩ := hf
  obtain ⟨lb, lo, rfl, hlb, hlcell⟩ := hlx (List.length_pos_iff.1 hl12.1)
  obtain ⟨fb, fo, rfl, hfb, hfcell⟩ := hfx (List.length_pos_iff.1 hf12.1)
  have EX : Ext none' w ((w.alloc (.cells #[.slice (some ⟨lb, lo, none⟩) l.length lc, .slice ra rn rc] 87)).alloc (.cells #[.int .i64 r.index, .int .i64 r.cost, .slice (some ⟨fb, fo, none⟩) r.frm.length fc, .string ⟨r.to.toArray⟩] 101)) := ((Ext.refl none' w).alloc _).alloc _
  by_cases hfit : n + r.frm.length ≤ l.length
  · have hb : decide ((n : Int) + r.frm.length ≤ l.length) = true := by rw [decide_eq_true_iff]; omega
    have hE := afits_eq l r n hfit
    have h1 : ∀ W, Ext none' w W → ∀ j x, (l.drop n)[j]? = some x → W.cell? ⟨lb, lo + n + j, none⟩ = some (encS x) := by
      intro W hW j x hj
      rw [List.getElem?_drop] at hj
      rw [show lo + n + j = lo + (n + j) by omega, ← hlcell (n + j) x hj]
      exact (hW.same0 (Nat.le_refl _)).cell (a := ⟨lb, _, none⟩) (by show lb < w.heap.size; omega)
    have h2 : ∀ W, Ext none' w W → ∀ j x, r.frm[j]? = some x → W.cell? ⟨fb, fo + j, none⟩ = some (encS x) := by
      intro W hW j x hj
      rw [← hfcell j x hj]
      exact (hW.same0 (Nat.le_refl _)).cell (a := ⟨fb, _, none⟩) (by show fb < w.heap.size; omega)
    have cq : ∀ W, Ext none' w W → Calls Tryz.prog 97 #[.slice (some ⟨lb, lo + n, none⟩) r.frm.length (lc - n), .slice (some ⟨fb, fo, none⟩) r.frm.length fc] W fun e w' => e = .returned (.bool (afits l r n)) ∧ ∃ q, w' = W.drewN q := by
      intro W hW
      rw [hE]
      exact Tryz.slices_Equal_string lb (lo + n) r.frm.length (lc - n) fb fo r.frm.length fc (bytesOf (l.drop n)) (bytesOf r.frm) W (by simp [bytesOf]; omega) (by simp [bytesOf]) (by omega) (by omega) (bytesOf_cell (h1 W hW)) (bytesOf_cell (h2 W hW))
    have CQ := Lib.hid cq
    have hw1 : IntKind.i64.wrap ((n : Int) + (r.frm.length : Int)) = (n : Int) + (r.frm.length : Int) := by simp [IntKind.wrap, IntKind.bits, IntKind.signed]; omega
    have hlc1 : ¬ lc = n := by omega
    clear cq hE h1 h2 hlx hfx hlcell hfcell
    refine (callsIn_wide (n := 1)).1 ?_
    refine callsIn_of_wp Tryz.func68 rfl trivial ?_ rfl
    simp only [Tryz.ntmps68, List.size_toArray, List.length_cons, List.length_nil, Nat.reduceAdd, Nat.reduceSub, Array.replicate_succ, Array.replicate_zero, List.push_toArray, List.append_toArray, List.nil_append, List.cons_append]
    gi_upto_region 1 with fail
    gi_quiet (exact CallsIn.mono (callsIn_of_calls (ro := none) (CQ.out _ (EX.draws _))) (fun e w' h => ⟨h.1, quiet_more h.2⟩))
    gi_wp2_with fail
    go_ret
    exact ⟨rfl, EX.draws _⟩
  · have hb : decide ((n : Int) + r.frm.length ≤ l.length) = false := by rw [decide_eq_false_iff_not]; omega
    have hE : afits l r n = false := by unfold afits; rw [hb]; rfl
    have HE := Lib.hid hE
    clear hE hlx hfx hlcell hfcell
    refine (callsIn_wide (n := 1)).1 ?_
    refine callsIn_of_wp Tryz.func68 rfl trivial ?_ rfl
    simp only [Tryz.ntmps68, List.size_toArray, List.length_cons, List.length_nil, Nat.reduceAdd, Nat.reduceSub, Array.replicate_succ, Array.replicate_zero, List.push_toArray, List.append_toArray, List.nil_append, List.cons_append]
    gi_upto_region 1 with fail
    gi_quiet (fail)
    gi_wp2_with fail
    go_ret
    exact ⟨ret_bool HE.out.symm, EX.draws _⟩
end Go.Proofs.Kb
