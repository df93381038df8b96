/- PotentialComplete: for every input (laid: the three tables of Go's library that its row lists), the law answers true and leaves its arguments as they were. -/
import Derived.Test.YthkpgnhjnpcjgaaGreatDoorLawC
import Derived.Test.YthkpgnhjnpcjgaaGreatDoorFrame
import Derived.Test.YthkpgnhjnpcjgaaGreatDoorCards
import Derived.Test.YthkpgnhjnpcjgaaGreatDoorTie
import Derived.ProofKit
import Derived.SevenTiedAt
namespace Go.Proofs.YthkpgnhjnpcjgaaGreatDoor
open Go Go.RowKit Go.Lib Pl Go.Proofs.Kb
open Go.ChangeShapes Go.WideShapes Go.ChangeAt Go.ChangeMaps

set_option maxRecDepth 100000 in
theorem complete_contract (H : Type) (enc : TypeId × Value → H) (W : World) (base : Nat) (args : Array Value) (ds gs : List (DataW H)) (before : List MemPlace)
    (hval : ∀ (j : Nat) t v, Tryz.f9.params[j]? = some t → args[j]? = some v → Value.okWide Tryz.prog W .any base t v)
    (hW : DataW.Whole enc Tryz.prog Tryz.f9.params.toList Rows.potentialCompleteSpec.vars false W args.toList ds gs before) (hL : laidMetH Tryz.prog Rows.potentialCompleteRow.laid W) :
    Calls Tryz.prog 9 args W fun e W' => ∃ v, e = .returned v ∧ Rows.potentialCompleteSpec.post enc Tryz.prog Tryz.f9 false true false false W args v W' := by
  have hT : Tabs W.heap.size W := tabs_of_laid (by rw [← row_laid]; exact hL)
  have hW' := hW
  obtain ⟨p, q, hA0, hV, rfl, hfz, hnd⟩ := hW
  have hA : DataW.TrodAll enc Tryz.prog W 0 (fun _ => true) true Tryz.f9.params.toList args.toList ds p := hA0
  rw [Tryz.params9] at hA hval
  obtain ⟨v0, vs0, d0, ds0, p0, q0, hargs, rfl, rfl, h0, r0⟩ := trodAll_cons hA
  obtain ⟨v1, vs1, d1, ds1, p1, q1, rfl, rfl, rfl, h1, r1⟩ := trodAll_cons r0
  obtain ⟨v2, vs2, d2, ds2, p2, q2, rfl, rfl, rfl, h2, r2⟩ := trodAll_cons r1
  obtain ⟨v3, vs3, d3, ds3, p3, q3, rfl, rfl, rfl, h3, r3⟩ := trodAll_cons r2
  obtain ⟨v4, vs4, d4, ds4, p4, q4, rfl, rfl, rfl, h4, r4⟩ := trodAll_cons r3
  obtain ⟨v5, vs5, d5, ds5, p5, q5, rfl, rfl, rfl, h5, r5⟩ := trodAll_cons r4
  obtain ⟨rfl, rfl, rfl⟩ := trodAll_nil r5
  obtain rfl : args = #[v0, v1, v2, v3, v4, v5] := by cases args; simp_all
  obtain ⟨rfl, rfl⟩ := trodVars_none hV
  have hlt : ∀ x ∈ p0 ++ (p1 ++ (p2 ++ (p3 ++ (p4 ++ (p5 ++ ([])))))) ++ [], x.block < W.heap.size := fun x hx => by simpa using hW'.lt x hx
  have h0k := h0
  have h1k := h1
  have h2k := h2
  have h3k := h3
  have h4k := h4
  have h5k := h5
  obtain ⟨c0, rfl, hc0⟩ := okWide_struct Tryz.underlying25 (hval 0 _ v0 rfl rfl)
  obtain ⟨x1, rfl, rfl, rfl, hx1⟩ := open_int Tryz.underlying3 (hval 1 _ v1 rfl rfl) h1
  obtain ⟨x2, rfl, rfl, rfl, _⟩ := open_string Tryz.underlying9 (hval 2 _ v2 rfl rfl) h2
  obtain ⟨x3, rfl, rfl, rfl, hx3⟩ := open_int Tryz.underlying3 (hval 3 _ v3 rfl rfl) h3
  obtain ⟨x4, rfl, rfl, rfl, _⟩ := open_string Tryz.underlying9 (hval 4 _ v4 rfl rfl) h4
  obtain ⟨x5, rfl, rfl, rfl, hx5⟩ := open_int Tryz.underlying34 (hval 5 _ v5 rfl rfl) h5
  obtain ⟨f0, h0⟩ := h0
  obtain ⟨t, htab, hit⟩ := open_table h0
  have htab : TabRaw W.heap.size W (.agg c0) t := by simpa [Value.cells] using htab
  refine (complete_law W.heap.size _ t x1 x2 x3 x4 x5 W htab hit (bounds_u32 hx5) (Nat.le_refl _) hT).mono ?_
  rintro e W' ⟨rfl, hE⟩
  have bel : Below W.heap.size W W' := hE.below
  have keep := fun {ty : TypeId} {v : Value} {d : DataW H} {ps : List MemPlace} (hr : Tryz.prog.readableRec ty = true) (hrow : ty < Tryz.prog.types.size) (h : DataW.Trod enc Tryz.prog W 0 (fun _ => true) true ty v d ps) (hl : ∀ x ∈ ps, x.block < W.heap.size) => Below.trod laid_out hr hrow h bel hl
  refine ⟨_, rfl, _, _, _, [], p0 ++ ([] ++ ([] ++ ([] ++ ([] ++ ([] ++ ([])))))), [], hW', trodAll_mk1 (shut_bool Tryz.underlying4 true), ?_, rfl, bel.frame _, fun h => by cases h⟩
  refine trodAll_cons_mk (keep (by kernel_rfl) (of_decide_eq_true (by kernel_rfl)) h0k (fun z hz => hlt z (by simp [hz]))) ?_
  refine trodAll_cons_mk (keep (by kernel_rfl) (of_decide_eq_true (by kernel_rfl)) h1k (fun z hz => by cases hz)) ?_
  refine trodAll_cons_mk (keep (by kernel_rfl) (of_decide_eq_true (by kernel_rfl)) h2k (fun z hz => by cases hz)) ?_
  refine trodAll_cons_mk (keep (by kernel_rfl) (of_decide_eq_true (by kernel_rfl)) h3k (fun z hz => by cases hz)) ?_
  refine trodAll_cons_mk (keep (by kernel_rfl) (of_decide_eq_true (by kernel_rfl)) h4k (fun z hz => by cases hz)) ?_
  refine trodAll_cons_mk (keep (by kernel_rfl) (of_decide_eq_true (by kernel_rfl)) h5k (fun z hz => by cases hz)) ?_
  exact trodAll_mk0

def completeArgs : Array Value := #[.agg #[.slice none 0 0, .slice none 0 0, .slice none 0 0, .int .i64 0, .int .i64 0, .int .i64 0], .int .i64 0, .string ⟨#[]⟩, .int .i64 0, .string ⟨#[]⟩, .int .u32 0]

theorem complete_reads (os : Os) {H : Type} (enc : TypeId × Value → H) : ∃ places, DataW.whole enc Tryz.prog ((laidWorld os).forCall (fun _ _ => 0) ⟨#[], completeArgs, []⟩).memory Tryz.f9.params.toList Rows.potentialCompleteSpec.vars false completeArgs.toList 8 =
    some ([.agg [.nil, .nil, .nil, .lit (.int .i64 0), .lit (.int .i64 0), .lit (.int .i64 0)], .lit (.int .i64 0), .lit (.string []), .lit (.int .i64 0), .lit (.string []), .lit (.int .u32 0)], [], places) :=
  ⟨[], by kernel_rfl⟩

set_option maxRecDepth 100000 in
theorem complete_lifted (os : Os) (started : os.Started) (H : Type) (enc : TypeId × Value → H) (F : Stop.Interp) :
    ReturnsInHanded {} Tryz.checked os 9 .any ((OpenSpec.ofChange Rows.potentialCompleteSpec).preRow enc Tryz.prog Tryz.f9 Rows.potentialCompleteRow.domain false Rows.potentialCompleteRow.laid) (((OpenSpec.ofChange Rows.potentialCompleteSpec).at F).post enc Tryz.prog Tryz.f9 false true false false) := by
  obtain ⟨places, hx⟩ := complete_reads os enc
  refine returnsInHanded_of_row (C := Tryz.checked) (s := OpenSpec.ofChange Rows.potentialCompleteSpec) own started (by kernel_rfl) Tryz.func9
    (witness_row_atRef (enc := enc) (C := Tryz.checked) false (laidWorld os) completeArgs rfl (by kernel_rfl) (by kernel_rfl) (by kernel_rfl)
      (OpenSpec.preRow_of_cond 8 hx (by kernel_rfl) (fun k hk => by cases hk) (by kernel_rfl) (by rw [show Rows.potentialCompleteRow.laid = laidList from row_laid]; exact laid_met os _))) ?_
  intro W base args ds gs before hval hW _ _ _ hL _ _
  exact complete_contract H enc W base args ds gs before hval hW hL

theorem complete_said : Rows.PotentialCompleteSaid :=
  OpenClaim.holds_of_cond 9 Tryz.f9 rfl rfl rfl rfl rfl rfl rfl ⟨rfl, rfl, rfl, rfl, rfl⟩ rfl rfl rfl rfl rfl (by kernel_rfl) Tryz.func9 (by kernel_rfl)
    (of_decide_eq_true (by kernel_rfl)) (by unfold Func.isWrapper; first | (rw [if_pos (by decide +kernel)]; kernel_rfl) | (rw [if_neg (by decide +kernel)]; exact ⟨rfl, rfl⟩))
    (fun os started H enc _ F => by rw [OpenClaim.pre_eq_preRow]; exact complete_lifted os started H enc F)

/-- No parameter wants a stand-in; the program's own looks are off: what the card asks. -/
theorem complete_plain (f : FuncId) (fn : Func) (hf : Tryz.pinned.checked.prog.funcNamed "customhouse/customhouselaw12.PotentialComplete" = some f) (hfn : Tryz.pinned.checked.prog.funcs[f]? = some fn) :
    false = Tryz.pinned.checked.prog.looks [] ∧ ∀ (j : Nat) t, fn.params[j]? = some t → Tryz.pinned.checked.prog.wantsStandIn t = false := by
  obtain rfl : f = 9 := Option.some.inj ((show Tryz.prog.funcNamed "customhouse/customhouselaw12.PotentialComplete" = some 9 by kernel_rfl).symm.trans hf) |>.symm
  obtain rfl : fn = Tryz.f9 := (Option.some.inj (Tryz.func9.symm.trans hfn)).symm
  refine ⟨by kernel_rfl, fun j t ht => ?_⟩
  rw [Tryz.params9] at ht
  have hm := Array.mem_of_getElem? ht
  simp only [List.mem_toArray, List.mem_cons, List.not_mem_nil, or_false] at hm
  have w0 : Tryz.prog.wantsStandIn 25 = false := by kernel_rfl
  have w1 : Tryz.prog.wantsStandIn 3 = false := by kernel_rfl
  have w2 : Tryz.prog.wantsStandIn 9 = false := by kernel_rfl
  have w3 : Tryz.prog.wantsStandIn 34 = false := by kernel_rfl
  rcases hm with rfl | rfl | rfl | rfl | rfl | rfl
  · exact w0
  · exact w1
  · exact w2
  · exact w1
  · exact w2
  · exact w3

/-- THE CARD. -/
theorem potentialComplete_holds : Rows.PotentialCompleteCardSaid :=
  Claim7.holds_tied_plain_at .later [] _ _ _ _ complete_said (fun _ h => by cases h) (by kernel_rfl) (fun _ h => by cases h) potentialComplete_row_tie rfl ⟨rfl, rfl⟩ (by kernel_rfl) rfl complete_plain (by kernel_rfl)
#print axioms potentialComplete_holds
end Go.Proofs.YthkpgnhjnpcjgaaGreatDoor
