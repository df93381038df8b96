/- What a derivation that is an argument holds, as the row's reading gives it. -/
import Derived.Test.YthkpgnhjnpcjgaaGreatDoorOpen
import Derived.Test.YthkpgnhjnpcjgaaGreatDoorABest
namespace Go.Proofs.Kb
open Go Go.RowKit Go.Lib Pl

section
variable {H : Type} {enc : TypeId × Value → H} {W : World} {x : DataW H × List MemPlace} {cs : List Value} {n : Nat}

theorem cells_deriv : Tryz.prog.cellsOf 47 = 4 := by kernel_rfl

theorem open_int1 (h : DataW.trod enc Tryz.prog W 0 (fun _ => true) true n 3 cs = some x) : ∃ r : Int, cs = encInt r ∧ True := by
  obtain ⟨a, ha, _, _⟩ := DataW.trod_int Tryz.underlying3 h
  exact ⟨a, ha, trivial⟩

set_option maxRecDepth 100000 in
theorem open_deriv (h : DataW.trod enc Tryz.prog W 0 (fun _ => true) true n 47 cs = some x) : ∃ d : Deriv, DerivAt W.heap.size W (.agg cs.toArray) d := by
  obtain ⟨xs, k, _, _, hl, hlen, hf⟩ := DataW.trod_struct Tryz.underlying47 h
  rw [cells_deriv] at hl
  match cs, hl with
  | [c0, c1, c2, c3], _ =>
    match xs, hlen with
    | [y0, y1, y2, y3], _ =>
      have f0 := hf 0 _ rfl
      have f1 := hf 1 _ rfl
      have f2 := hf 2 _ rfl
      have f3 := hf 3 _ rfl
      simp only [List.getElem?_cons_zero, List.getElem?_cons_succ] at f0 f1 f2 f3
      obtain ⟨a, ha, _, _⟩ := DataW.trod_int Tryz.underlying3 f0
      obtain ⟨v1, l1, e1, h1, _⟩ := open_rows (k := 1) (by decide) Tryz.underlying45 cells_int (fun h => open_int1 h) f1
      obtain ⟨v2, l2, e2, h2, _⟩ := open_rows (k := 1) (by decide) Tryz.underlying45 cells_int (fun h => open_int1 h) f2
      obtain ⟨s, hs, _, _⟩ := DataW.trod_string Tryz.underlying9 f3
      cases ha; cases e1; cases e2; cases hs
      refine ⟨⟨a, l1, l2, s.data.toList⟩, _, _, ?_, h1, h2⟩
      simp
end
end Go.Proofs.Kb
