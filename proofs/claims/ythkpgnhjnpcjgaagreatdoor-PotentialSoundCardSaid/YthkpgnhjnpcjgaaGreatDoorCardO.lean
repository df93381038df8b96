/- PotentialSound: for every input (laid: the three tables of Go's library that its row lists), the law answers true and leaves its arguments as they were. -/
import Derived.Test.YthkpgnhjnpcjgaaGreatDoorLawO
import Derived.Test.YthkpgnhjnpcjgaaGreatDoorFrame
import Derived.Test.YthkpgnhjnpcjgaaGreatDoorCards
import Derived.Test.YthkpgnhjnpcjgaaGreatDoorOpenD
import Derived.Test.YthkpgnhjnpcjgaaGreatDoorTie
import Derived.ProofKit
import Derived.SevenTiedAt
namespace Go.Proofs.YthkpgnhjnpcjgaaGreatDoor
open Go Go.RowKit Go.Lib Pl Go.Proofs.Kb
open Go.ChangeShapes Go.WideShapes Go.ChangeAt Go.ChangeMaps

set_option maxRecDepth 100000 in
theorem sound_contract (H : Type) (enc : TypeId × Value → H) (W : World) (base : Nat) (args : Array Value) (ds gs : List (DataW H)) (before : List MemPlace)
    (hval : ∀ (j : Nat) t v, Tryz.f11.params[j]? = some t → args[j]? = some v → Value.okWide Tryz.prog W .any base t v)
    (hW : DataW.Whole enc Tryz.prog Tryz.f11.params.toList Rows.potentialSoundSpec.vars false W args.toList ds gs before) (hL : laidMetH Tryz.prog Rows.potentialSoundRow.laid W) :
    Calls Tryz.prog 11 args W fun e W' => ∃ v, e = .returned v ∧ Rows.potentialSoundSpec.post enc Tryz.prog Tryz.f11 false true false false W args v W' := by
  have hT : Tabs W.heap.size W := tabs_of_laid (by rw [← row_laid]; exact hL)
  have hW' := hW
  obtain ⟨p, q, hA0, hV, rfl, hfz, hnd⟩ := hW
  have hA : DataW.TrodAll enc Tryz.prog W 0 (fun _ => true) true Tryz.f11.params.toList args.toList ds p := hA0
  rw [Tryz.params11] at hA hval
  obtain ⟨v0, vs0, d0, ds0, p0, q0, hargs, rfl, rfl, h0, r0⟩ := trodAll_cons hA
  obtain ⟨v1, vs1, d1, ds1, p1, q1, rfl, rfl, rfl, h1, r1⟩ := trodAll_cons r0
  obtain ⟨v2, vs2, d2, ds2, p2, q2, rfl, rfl, rfl, h2, r2⟩ := trodAll_cons r1
  obtain ⟨v3, vs3, d3, ds3, p3, q3, rfl, rfl, rfl, h3, r3⟩ := trodAll_cons r2
  obtain ⟨v4, vs4, d4, ds4, p4, q4, rfl, rfl, rfl, h4, r4⟩ := trodAll_cons r3
  obtain ⟨v5, vs5, d5, ds5, p5, q5, rfl, rfl, rfl, h5, r5⟩ := trodAll_cons r4
  obtain ⟨v6, vs6, d6, ds6, p6, q6, rfl, rfl, rfl, h6, r6⟩ := trodAll_cons r5
  obtain ⟨v7, vs7, d7, ds7, p7, q7, rfl, rfl, rfl, h7, r7⟩ := trodAll_cons r6
  obtain ⟨rfl, rfl, rfl⟩ := trodAll_nil r7
  obtain rfl : args = #[v0, v1, v2, v3, v4, v5, v6, v7] := by cases args; simp_all
  obtain ⟨rfl, rfl⟩ := trodVars_none hV
  have hlt : ∀ x ∈ p0 ++ (p1 ++ (p2 ++ (p3 ++ (p4 ++ (p5 ++ (p6 ++ (p7 ++ ([])))))))) ++ [], x.block < W.heap.size := fun x hx => by simpa using hW'.lt x hx
  have h0k := h0
  have h1k := h1
  have h2k := h2
  have h3k := h3
  have h4k := h4
  have h5k := h5
  have h6k := h6
  have h7k := h7
  obtain ⟨c0, rfl, hc0⟩ := okWide_struct Tryz.underlying25 (hval 0 _ v0 rfl rfl)
  obtain ⟨x1, rfl, rfl, rfl, hx1⟩ := open_int Tryz.underlying3 (hval 1 _ v1 rfl rfl) h1
  obtain ⟨x2, rfl, rfl, rfl, _⟩ := open_string Tryz.underlying9 (hval 2 _ v2 rfl rfl) h2
  obtain ⟨x3, rfl, rfl, rfl, hx3⟩ := open_int Tryz.underlying3 (hval 3 _ v3 rfl rfl) h3
  obtain ⟨x4, rfl, rfl, rfl, _⟩ := open_string Tryz.underlying9 (hval 4 _ v4 rfl rfl) h4
  obtain ⟨x5, rfl, rfl, rfl, hx5⟩ := open_int Tryz.underlying3 (hval 5 _ v5 rfl rfl) h5
  obtain ⟨a6, n6, m6, rfl⟩ := okWide_slice Tryz.underlying26 (hval 6 _ v6 rfl rfl)
  obtain ⟨c7, rfl, hc7⟩ := okWide_struct Tryz.underlying47 (hval 7 _ v7 rfl rfl)
  obtain ⟨f0, h0⟩ := h0
  obtain ⟨t, htab, hit⟩ := open_table h0
  have htab : TabRaw W.heap.size W (.agg c0) t := by simpa [Value.cells] using htab
  obtain ⟨f6, h6⟩ := h6
  obtain ⟨vl, l, hvl, hsl, hil⟩ := open_rows (k := 5) (by decide) Tryz.underlying26 cells_pot (fun h => open_pot h) h6
  have hvl : Value.slice a6 n6 m6 = vl := by simpa [Value.cells] using hvl
  subst hvl
  obtain ⟨f7, h7⟩ := h7
  obtain ⟨dv, hdv⟩ := open_deriv h7
  have hdv : DerivAt W.heap.size W (.agg c7) dv := by simpa [Value.cells] using hdv
  refine (sound_law W.heap.size _ _ _ t x1 x2 x3 x4 x5 l dv W htab hsl hdv hit hil (Nat.le_refl _) hT).mono ?_
  rintro e W' ⟨rfl, hE⟩
  have bel : Below W.heap.size W W' := hE.below
  have keep := fun {ty : TypeId} {v : Value} {d : DataW H} {ps : List MemPlace} (hr : Tryz.prog.readableRec ty = true) (hrow : ty < Tryz.prog.types.size) (h : DataW.Trod enc Tryz.prog W 0 (fun _ => true) true ty v d ps) (hl : ∀ x ∈ ps, x.block < W.heap.size) => Below.trod laid_out hr hrow h bel hl
  refine ⟨_, rfl, _, _, _, [], p0 ++ ([] ++ ([] ++ ([] ++ ([] ++ ([] ++ (p6 ++ (p7 ++ ([])))))))), [], hW', trodAll_mk1 (shut_bool Tryz.underlying4 true), ?_, rfl, bel.frame _, fun h => by cases h⟩
  refine trodAll_cons_mk (keep (by kernel_rfl) (of_decide_eq_true (by kernel_rfl)) h0k (fun z hz => hlt z (by simp [hz]))) ?_
  refine trodAll_cons_mk (keep (by kernel_rfl) (of_decide_eq_true (by kernel_rfl)) h1k (fun z hz => by cases hz)) ?_
  refine trodAll_cons_mk (keep (by kernel_rfl) (of_decide_eq_true (by kernel_rfl)) h2k (fun z hz => by cases hz)) ?_
  refine trodAll_cons_mk (keep (by kernel_rfl) (of_decide_eq_true (by kernel_rfl)) h3k (fun z hz => by cases hz)) ?_
  refine trodAll_cons_mk (keep (by kernel_rfl) (of_decide_eq_true (by kernel_rfl)) h4k (fun z hz => by cases hz)) ?_
  refine trodAll_cons_mk (keep (by kernel_rfl) (of_decide_eq_true (by kernel_rfl)) h5k (fun z hz => by cases hz)) ?_
  refine trodAll_cons_mk (keep (by kernel_rfl) (of_decide_eq_true (by kernel_rfl)) h6k (fun z hz => hlt z (by simp [hz]))) ?_
  refine trodAll_cons_mk (keep (by kernel_rfl) (of_decide_eq_true (by kernel_rfl)) h7k (fun z hz => hlt z (by simp [hz]))) ?_
  exact trodAll_mk0

def soundArgs : Array Value := #[.agg #[.slice none 0 0, .slice none 0 0, .slice none 0 0, .int .i64 0, .int .i64 0, .int .i64 0], .int .i64 0, .string ⟨#[]⟩, .int .i64 0, .string ⟨#[]⟩, .int .i64 0, .slice none 0 0, .agg #[.int .i64 0, .slice none 0 0, .slice none 0 0, .string ⟨#[]⟩]]

theorem sound_reads (os : Os) {H : Type} (enc : TypeId × Value → H) : ∃ places, DataW.whole enc Tryz.prog ((laidWorld os).forCall (fun _ _ => 0) ⟨#[], soundArgs, []⟩).memory Tryz.f11.params.toList Rows.potentialSoundSpec.vars false soundArgs.toList 8 =
    some ([.agg [.nil, .nil, .nil, .lit (.int .i64 0), .lit (.int .i64 0), .lit (.int .i64 0)], .lit (.int .i64 0), .lit (.string []), .lit (.int .i64 0), .lit (.string []), .lit (.int .i64 0), .nil, .agg [.lit (.int .i64 0), .nil, .nil, .lit (.string [])]], [], places) :=
  ⟨[], by kernel_rfl⟩

set_option maxRecDepth 100000 in
theorem sound_lifted (os : Os) (started : os.Started) (H : Type) (enc : TypeId × Value → H) (F : Stop.Interp) :
    ReturnsInHanded {} Tryz.checked os 11 .any ((OpenSpec.ofChange Rows.potentialSoundSpec).preRow enc Tryz.prog Tryz.f11 Rows.potentialSoundRow.domain false Rows.potentialSoundRow.laid) (((OpenSpec.ofChange Rows.potentialSoundSpec).at F).post enc Tryz.prog Tryz.f11 false true false false) := by
  obtain ⟨places, hx⟩ := sound_reads os enc
  refine returnsInHanded_of_row (C := Tryz.checked) (s := OpenSpec.ofChange Rows.potentialSoundSpec) own started (by kernel_rfl) Tryz.func11
    (witness_row_atRef (enc := enc) (C := Tryz.checked) false (laidWorld os) soundArgs rfl (by kernel_rfl) (by kernel_rfl) (by kernel_rfl)
      (OpenSpec.preRow_of_cond 8 hx (by kernel_rfl) (fun k hk => by cases hk) (by kernel_rfl) (by rw [show Rows.potentialSoundRow.laid = laidList from row_laid]; exact laid_met os _))) ?_
  intro W base args ds gs before hval hW _ _ _ hL _ _
  exact sound_contract H enc W base args ds gs before hval hW hL

theorem sound_said : Rows.PotentialSoundSaid :=
  OpenClaim.holds_of_cond 11 Tryz.f11 rfl rfl rfl rfl rfl rfl rfl ⟨rfl, rfl, rfl, rfl, rfl⟩ rfl rfl rfl rfl rfl (by kernel_rfl) Tryz.func11 (by kernel_rfl)
    (of_decide_eq_true (by kernel_rfl)) (by unfold Func.isWrapper; first | (rw [if_pos (by decide +kernel)]; kernel_rfl) | (rw [if_neg (by decide +kernel)]; exact ⟨rfl, rfl⟩))
    (fun os started H enc _ F => by rw [OpenClaim.pre_eq_preRow]; exact sound_lifted os started H enc F)

/-- No parameter wants a stand-in; the program's own looks are off: what the card asks. -/
theorem sound_plain (f : FuncId) (fn : Func) (hf : Tryz.pinned.checked.prog.funcNamed "customhouse/customhouselaw12.PotentialSound" = some f) (hfn : Tryz.pinned.checked.prog.funcs[f]? = some fn) :
    false = Tryz.pinned.checked.prog.looks [] ∧ ∀ (j : Nat) t, fn.params[j]? = some t → Tryz.pinned.checked.prog.wantsStandIn t = false := by
  obtain rfl : f = 11 := Option.some.inj ((show Tryz.prog.funcNamed "customhouse/customhouselaw12.PotentialSound" = some 11 by kernel_rfl).symm.trans hf) |>.symm
  obtain rfl : fn = Tryz.f11 := (Option.some.inj (Tryz.func11.symm.trans hfn)).symm
  refine ⟨by kernel_rfl, fun j t ht => ?_⟩
  rw [Tryz.params11] at ht
  have hm := Array.mem_of_getElem? ht
  simp only [List.mem_toArray, List.mem_cons, List.not_mem_nil, or_false] at hm
  have w0 : Tryz.prog.wantsStandIn 25 = false := by kernel_rfl
  have w1 : Tryz.prog.wantsStandIn 3 = false := by kernel_rfl
  have w2 : Tryz.prog.wantsStandIn 9 = false := by kernel_rfl
  have w3 : Tryz.prog.wantsStandIn 26 = false := by kernel_rfl
  have w4 : Tryz.prog.wantsStandIn 47 = false := by kernel_rfl
  rcases hm with rfl | rfl | rfl | rfl | rfl | rfl | rfl | rfl
  · exact w0
  · exact w1
  · exact w2
  · exact w1
  · exact w2
  · exact w1
  · exact w3
  · exact w4

/-- THE CARD. -/
theorem potentialSound_holds : Rows.PotentialSoundCardSaid :=
  Claim7.holds_tied_plain_at .later [] _ _ _ _ sound_said (fun _ h => by cases h) (by kernel_rfl) (fun _ h => by cases h) potentialSound_row_tie rfl ⟨rfl, rfl⟩ (by kernel_rfl) rfl sound_plain (by kernel_rfl)
#print axioms potentialSound_holds
end Go.Proofs.YthkpgnhjnpcjgaaGreatDoor
