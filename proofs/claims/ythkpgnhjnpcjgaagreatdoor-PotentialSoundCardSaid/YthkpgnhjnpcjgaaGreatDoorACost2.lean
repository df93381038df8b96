/- Package align: the table of least costs. -/
import Derived.Test.YthkpgnhjnpcjgaaGreatDoorACosts
namespace Go.Proofs.Kb
open Go Go.RowKit Go.Lib Pl
attribute [local go_sem] Oper.semAt_some run_makeMap

theorem store_func {P : Program} {w : World} {a : Addr} {m : Mode} (fn : Fn) (first captured : Array Value) : (store a (.func fn first captured) m).run P w = stored P w a (.func fn first captured) m := run_store P w a _ m rfl
attribute [local go_sem] store_func

def CostsPost (p : Two) (w : World) (e : Ending) (w' : World) : Prop := ∃ b, e = .returned (.map (some b)) ∧ MapAt encState encCost w' b (known p).2 ∧ goodMemo (known p).2 ∧ Ext none' w w' ∧ w.heap.size ≤ b

set_option maxRecDepth 100000 in
set_option maxHeartbeats 2000000 in
theorem costs_any (N : Nat) (p : Two) (v1 v2 v3 v4 : Value) (w : World) (ho : OkAlign p) (hp : WordsAt N w (.agg #[v1, v2, v3, v4]) p.words) (hN : N ≤ w.heap.size) :
    Calls Tryz.prog 39 #[.agg #[v1, v2, v3, v4]] w (CostsPost p w) := by
  obtain ⟨ul, ula, um, uma, hveq, hvl, hvla, hvm, hvma⟩ := id hp
  simp only [Value.agg.injEq, Array.mk.injEq, List.cons.injEq] at hveq
  obtain ⟨rfl, rfl, rfl, rfl, -⟩ := hveq
  obtain ⟨la, lc, rfl, -⟩ := id hvl
  obtain ⟨lla, llc, rfl, -⟩ := id hvla
  obtain ⟨ma, mc, rfl, -⟩ := id hvm
  obtain ⟨mma, mmc, rfl, -⟩ := id hvma
  go_enter Tryz.func39, Tryz.ntmps39
  go_wp2_with fail
  obtain ⟨wB, hwB⟩ : ∃ wB, wB = ((((w.alloc (.cells #[.slice la p.words.l.length lc, .slice lla p.words.la.length llc, .slice ma p.words.m.length mc, .slice mma p.words.ma.length mmc] 89)).alloc (.map #[] 0)).alloc (.cells #[.map (some (w.heap.size + 1))] 92)).alloc (.cells #[walkV (w.heap.size + 1 + 1) w.heap.size (w.heap.size + 1 + 1 + 1)] 131)) := ⟨_, rfl⟩
  have EB : Ext none' w wB := by rw [hwB]; exact ((((Ext.refl none' w).alloc _).alloc _).alloc _).alloc _
  have zB : wB.heap.size = w.heap.size + 4 := by rw [hwB]; simp
  have kw : wB.heap[w.heap.size]? = some (.cells #[.slice la p.words.l.length lc, .slice lla p.words.la.length llc, .slice ma p.words.m.length mc, .slice mma p.words.ma.length mmc] 89) := by rw [hwB]; exact keepAt (keepAt (keepAt (newAt _ rfl) _) _) _
  have km : MapAt encState encCost wB (w.heap.size + 1) [] := ⟨by rw [hwB]; exact keepAt (keepAt (newAt _ (by simp)) _) _, by simp⟩
  have kk : Boxed wB (w.heap.size + 1 + 1) 92 (.map (some (w.heap.size + 1))) := by rw [hwB]; exact keepAt (newAt _ (by simp)) _
  have kf : Boxed wB (w.heap.size + 1 + 1 + 1) 131 (walkV (w.heap.size + 1 + 1) w.heap.size (w.heap.size + 1 + 1 + 1)) := by rw [hwB]; exact newAt _ (by simp)
  have cw := walk_any N p _ _ _ _ (w.heap.size + 1) (w.heap.size + 1 + 1) w.heap.size (w.heap.size + 1 + 1 + 1) ho (depth p) State.start [] wB (by unfold left depth State.start; simp only; omega) (start_ok p) (fun h => by cases h) (by decide) (fun _ h => by cases h) (hp.keep (EB.same0 hN)) km (by omega) ⟨by omega, by omega, by omega⟩ (by omega) kk kw kf
  rw [show fromM p (depth p) State.start [] = known p from rfl, hwB] at cw
  have HWB := Lib.hid hwB
  clear hwB
  refine Calls.mono (P := Tryz.prog) (f := 66) cw ?_
  rintro e w2 ⟨rfl, hM, hm, hE, -, -⟩
  rw [← HWB.out] at hE
  have ck : w2.cell? ⟨w.heap.size + 1 + 1, 0, none⟩ = some (.map (some (w.heap.size + 1))) := Boxed.cell (t := 92) ((hE.same _ (by omega) (by unfold one; omega)).trans kk)
  clear kw km kk kf cw
  go_wp2_with fail
  go_ret
  exact ⟨_, rfl, hM, hm, EB.later hE (fun i hi hx => by have hx : i = w.heap.size + 1 := hx; omega), by omega⟩
end Go.Proofs.Kb
