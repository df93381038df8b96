/- The frame of the rows: the library's tables out of what a row lists; a world for the witness. -/
import Derived.Test.YthkpgnhjnpcjgaaGreatDoorOpen
import Derived.Test.YthkpgnhjnpcjgaaGreatDoorRows
import Derived.Deep.DeepHandedRow
import Derived.Deep.DeepWitnessRowRef
import Derived.Lib.LaidCaseMet
import Derived.Lib.LaidU8
import Derived.Carry
import Derived.MakeChecks
namespace Go.Proofs.Kb
open Go Go.RowKit Go.Lib Pl

theorem own : ownKnob Tryz.prog.godebug = none := by kernel_rfl
theorem pinCase : Go.Pinned.caseRanges = caseData := by kernel_rfl
theorem pinFirst : Go.Pinned.utf8First = firstData := by kernel_rfl
theorem pinAccept : (Go.Proofs.YthkpgnhjnpcjgaaGreatDoor.Rows.laid_unicode_utf8_acceptRanges : DataW Unit) = acceptData := by kernel_rfl

theorem cell_lt {w : World} {a : Addr} {v : Value} (h : w.cell? a = some v) : a.block < w.heap.size := by
  unfold World.cell? at h
  rcases Nat.lt_or_ge a.block w.heap.size with h1 | h1
  · exact h1
  · rw [Array.getElem?_eq_none h1] at h
    simp at h

/-- the list of the rows -/
def laidList : List (String × DataW Unit) := [("unicode/utf8.acceptRanges", acceptData), ("unicode.CaseRanges", caseData), ("unicode/utf8.first", firstData)]

theorem tabs_of_laid {w : World} (h : laidMetH Tryz.prog laidList w) : Tabs w.heap.size w := by
  have hm : laidMet Tryz.prog laidList w := by rw [← MakeChecks.laidMetH_plain _ _ _ (by kernel_rfl)]; exact h
  have hc := caseVar_of_reads (ρ := Tryz.lays159_ren) { Tryz.lays159 with } Tryz.lays159.t206 ⟨by kernel_rfl, by kernel_rfl, by kernel_rfl, by kernel_rfl, by kernel_rfl, by kernel_rfl⟩ (Go.Lib.laidMet.reads hm (n := "unicode.CaseRanges") (d := caseData) (by simp [laidList]))
  have hu := utf8Tabs_of_reads (ρ := Tryz.lays159_ren) { Tryz.lays159 with } ⟨by kernel_rfl, by kernel_rfl, by kernel_rfl, by kernel_rfl, by kernel_rfl, by kernel_rfl, by kernel_rfl⟩ (Go.Lib.laidMet.reads hm (n := "unicode/utf8.first") (d := firstData) (by simp [laidList])) (Go.Lib.laidMet.reads hm (n := "unicode/utf8.acceptRanges") (d := acceptData) (by simp [laidList]))
  change Utf8Tabs 2 3 w at hu
  change CaseVar 1 caseA w at hc
  obtain ⟨R, oR, cap, h1, h2⟩ := hc
  have hu' := hu
  obtain ⟨hu1, hu2⟩ := hu
  obtain ⟨q, _⟩ := h2 0 (of_decide_eq_true (by kernel_rfl))
  have qR : R < w.heap.size := cell_lt q
  exact ⟨⟨cell_lt h1, cell_lt (hu1 0 (by decide)), cell_lt (hu2 0 (by decide)).1⟩, ⟨R, oR, cap, qR, h1, h2⟩, hu'⟩

theorem laid_turn {P : Program} {w : World} {a b c : String × DataW Unit} (h : laidMet P [a, b, c] w) : laidMet P [a, c, b] w := by
  obtain ⟨ps, hv, hn, hr⟩ := h
  obtain ⟨n1, d1⟩ := a
  obtain ⟨n2, d2⟩ := b
  obtain ⟨n3, d3⟩ := c
  obtain ⟨g1, t1, c1, f1, p1, q1, a1, a2, a3, a4, ⟨g2, t2, c2, f2, p2, q2, b1, b2, b3, b4, ⟨g3, t3, c3, f3, p3, q3, e1, e2, e3, e4, rfl, rfl⟩, rfl⟩, rfl⟩ := hv
  have hp : (MemPlace.row ⟨g1, 0, none⟩ c1.size ++ p1 ++ (MemPlace.row ⟨g2, 0, none⟩ c2.size ++ p2 ++ (MemPlace.row ⟨g3, 0, none⟩ c3.size ++ p3 ++ []))).Perm
      (MemPlace.row ⟨g1, 0, none⟩ c1.size ++ p1 ++ (MemPlace.row ⟨g3, 0, none⟩ c3.size ++ p3 ++ (MemPlace.row ⟨g2, 0, none⟩ c2.size ++ p2 ++ []))) := by
    simp only [List.append_nil]
    exact (List.perm_append_comm).append_left _
  exact ⟨_, ⟨g1, t1, c1, f1, p1, _, a1, a2, a3, a4, ⟨g3, t3, c3, f3, p3, _, e1, e2, e3, e4, ⟨g2, t2, c2, f2, p2, [], b1, b2, b3, b4, rfl, rfl⟩, rfl⟩, rfl⟩, hp.nodup_iff.1 hn, fun b off hm => hr b off (hp.mem_iff.2 hm)⟩

/-- The witness: the settled world with one block more (unicode.CaseRanges' rows), the three variables holding what their initialisers lay. -/
noncomputable def laidWorld (os : Os) : World :=
  let N := (World.settled Tryz.prog os).heap.size
  let w0 := World.holding Tryz.prog os ⟨#[.cells Lib.caseCells5 (Tryz.lays159_ren.t 208)], #[], []⟩
  let put (h : Array Obj) (g : Nat) (cs : Array Value) : Array Obj := h.modify g fun
    | .cells _ t frozen => .cells cs t frozen
    | o => o
  let h2 := put w0.heap (Tryz.lays159_ren.g 3) (Lib.firstTab.map fun z => Value.int .u8 z).toArray
  let h3 := put h2 (Tryz.lays159_ren.g 4) ((List.range 16).flatMap fun i => [Value.int .u8 (Lib.accLo i), Value.int .u8 (Lib.accHi i)]).toArray
  let h5 := put h3 (Tryz.lays159_ren.g 13) #[.slice (some ⟨N, 0, none⟩) 336 336]
  { w0 with heap := h5 }

set_option maxRecDepth 100000 in
theorem laid_met (os : Os) (args : Array Value) : laidMet Tryz.prog laidList ((laidWorld os).forCall (fun _ _ => 0) ⟨#[], args, []⟩).memory :=
  laid_turn (laidMet_with_case (ρ := Tryz.lays159_ren) { Tryz.lays159 with } Tryz.lays159.t206 ⟨by kernel_rfl, by kernel_rfl, by kernel_rfl, by kernel_rfl, by kernel_rfl, by kernel_rfl⟩
    (l := [("unicode/utf8.acceptRanges", acceptData), ("unicode/utf8.first", firstData)])
    10 (by kernel_rfl) (by kernel_rfl) (by kernel_rfl) ((World.settled Tryz.prog default).heap.size) (Tryz.lays159_ren.t 208) (of_decide_eq_true (by kernel_rfl)) (by kernel_rfl) (by kernel_rfl) (by kernel_rfl))

theorem row_laid : ([("unicode/utf8.acceptRanges", Go.Proofs.YthkpgnhjnpcjgaaGreatDoor.Rows.laid_unicode_utf8_acceptRanges), ("unicode.CaseRanges", Go.Proofs.YthkpgnhjnpcjgaaGreatDoor.Rows.laid_unicode_CaseRanges), ("unicode/utf8.first", Go.Proofs.YthkpgnhjnpcjgaaGreatDoor.Rows.laid_unicode_utf8_first)] : List (String × DataW Unit)) = laidList := by
  unfold laidList
  rw [pinAccept, show Go.Proofs.YthkpgnhjnpcjgaaGreatDoor.Rows.laid_unicode_CaseRanges = caseData from pinCase, show Go.Proofs.YthkpgnhjnpcjgaaGreatDoor.Rows.laid_unicode_utf8_first = firstData from pinFirst]
end Go.Proofs.Kb
