/- A region that draws its order of evaluation, in a round or not: an operation that yields one value in every world that meets a condition may be taken first; the condition is owed behind those operations alone that do not wait for it. -/
import Derived.Test.YthkpgnhjnpcjgaaGreatDoorBase
import Derived.OrdersIn
import Derived.OwnWalkIn
import Derived.TacticsInMore
import Derived.RangeFuncLeaves
namespace Go.Proofs.Kb
open Go Go.RowKit

section
variable {ro : Option Nat} {n : Nat} {P : Program} {ops : Array Oper} {Q : Exit → Act → World → Prop} {md : Region.Mode} {S : World → Prop} {E : Nat → Bool} {Ob : Nat → World → World → Prop}

abbrev Fz (ro : Option Nat) : Fence := { Fence.wide with round := ro }

def noDefer (ops : Array Oper) : Bool := ops.all fun o => match o.op with | .defer .. => false | _ => true

theorem noDefer_spec (h : noDefer ops = true) (j : Nat) (o : Oper) (c : Call) (ho : ops[j]? = some o) : o.op ≠ .defer c := by
  intro heq
  have := Array.all_eq_true_iff_forall_mem.1 h o (Array.mem_of_getElem? ho)
  simp [heq] at this

/-- In state a, in every world that meets S, operation o leaves v in its temporary and does nothing else. -/
def YieldsS (P : Program) (ops : Array Oper) (S : World → Prop) (o : Oper) (v : Value) (a : Act) : Prop :=
  (Region.wanted o (yielded ops a.tmps) = true ∧ ∀ w, S w → (execOp a.eval o).run P w = .ok (.value v) w) ∨
  (Region.wanted o (yielded ops a.tmps) = false ∧ v = undef)

theorem YieldsS.wpOp {i : Nat} {o : Oper} {v : Value} {a : Act} (hi : ops[i]? = some o) (hd : ∀ c, o.op ≠ .defer c) (hy : YieldsS P ops S o v a)
    {K : Act → World → Prop} {w : World} (hS : S w) (h : K (a.put o.dst v) w) : wpOpIn (Fz ro) n P ops Q i K a w := by
  unfold wpOpIn
  simp only [hi]
  rcases hy with ⟨hw, hv⟩ | ⟨hw, rfl⟩
  · simp only [hw, if_true, Oper.wpIn, Oper.semAt_eq ro _ _ hd, hv w hS, Oper.uponIn]
    exact ⟨fun _ _ => trivial, h⟩
  · simp only [hw, Bool.false_eq_true, if_false]
    exact ⟨fun _ _ => trivial, h⟩

theorem YieldsS.of_same {o : Oper} {v : Value} {a a' : Act} (hy : YieldsS P ops S o v a) (he : execOp a'.eval o = execOp a.eval o)
    (hw : Region.wanted o (yielded ops a'.tmps) = Region.wanted o (yielded ops a.tmps)) : YieldsS P ops S o v a' := by
  unfold YieldsS at *
  rw [he, hw]
  exact hy

theorem wpOp_putS {j : Nat} {oi oj : Oper} {v : Value} (hj : ops[j]? = some oj) (hap : oi.apart ops oj = true)
    (hsi : ∀ cs b, oi.op ≠ .select cs b) (hsj : ∀ cs b, oj.op ≠ .select cs b) (hdj : ∀ c, oj.op ≠ .defer c)
    (hQ : ∀ c a w, Q (.panic c) (a.put oi.dst v) w → Q (.panic c) a w) {K : Act → World → Prop} {a : Act} {w : World}
    (hy : YieldsS P ops S oi v a) (h : wpOpIn (Fz ro) n P ops Q j K (a.put oi.dst v) w) :
    wpOpIn (Fz ro) n P ops Q j (fun a' w' => YieldsS P ops S oi v a' ∧ K (a'.put oi.dst v) w') a w := by
  obtain ⟨h1, h2, h3⟩ := Oper.apart_spec hap
  have keep : ∀ (a : Act), YieldsS P ops S oi v a → ∀ u, YieldsS P ops S oi v (a.put oj.dst u) := fun a hy u =>
    hy.of_same (execOp_put oi hsi a oj.dst u h3) (wanted_put oi a oj.dst u h3)
  have keepD : ∀ d, YieldsS P ops S oi v { a with defers := d :: a.defers } := fun d => hy.of_same rfl rfl
  unfold wpOpIn at *
  simp only [hj] at *
  rw [wanted_put oj a oi.dst v h1] at h
  split
  · rename_i hw
    simp only [hw, if_true] at h
    unfold Oper.wpIn at *
    refine ⟨fun _ _ => trivial, ?_⟩
    have h := h.2
    rw [Oper.semAt_eq _ _ _ hdj, execOp_put oj hsj a oi.dst v h1] at h
    rw [Oper.semAt_eq _ _ _ hdj]
    generalize (execOp a.eval oj).run P w = r at *
    cases r with
    | ok x w' =>
      cases x <;> simp only [Oper.uponIn] at h ⊢
      case value u => exact ⟨keep a hy u, by rw [← Act.put_comm a v u h2]; exact h⟩
      case skip => exact ⟨keep a hy _, by rw [← Act.put_comm a v undef h2]; exact h⟩
      case defer d =>
        refine ⟨keep _ (keepD d) _, ?_⟩
        rw [← Act.put_comm _ v undef h2, ← Act.put_defers]
        exact h
      case enter f args =>
        refine ⟨h.1, CallsIn.mono h.2 fun e w'' he => ?_⟩
        cases e with
        | returned u => exact ⟨keep a hy u, by rw [← Act.put_comm a v u h2]; exact he⟩
        | panicked c => exact hQ _ _ _ he
        | outgrown => exact he
      case row row args => exact ⟨h.1, RowsIn.mono h.2 fun u w'' he => ⟨keep a hy u, by rw [← Act.put_comm a v u h2]; exact he⟩⟩
      case round l f tmps assign body =>
        refine ⟨h.1, RoundIn.mono h.2 fun e w'' he => ?_⟩
        cases e with
        | returned u => exact ⟨keep a hy u, by rw [← Act.put_comm a v u h2]; exact he⟩
        | panicked c => exact hQ _ _ _ he
        | outgrown => exact he
    | halt x w' =>
      cases x <;> simp only [Oper.uponIn] at h ⊢
      case panic u => exact hQ _ _ _ h
  · rename_i hw
    simp only [hw] at h
    exact ⟨fun _ _ => trivial, keep a hy _, by rw [← Act.put_comm a v undef h2]; exact h.2⟩

/-- Whatever order is picked from here on; Ob j is owed behind operation number j. -/
def wpAnyS (ro : Option Nat) (n : Nat) (P : Program) (md : Region.Mode) (ops : Array Oper) (Q : Exit → Act → World → Prop) (Ob : Nat → World → World → Prop) : Nat → Array Bool → Act → World → Prop
  | 0, listed, a, w => Region.ready md ops listed = [] ∧ Q .normal a w
  | fuel + 1, listed, a, w =>
    (Region.ready md ops listed = [] → Q .normal a w) ∧
    ∀ i ∈ Region.ready md ops listed, wpOpIn (Fz ro) n P ops Q i (fun a' w' => Ob i w w' ∧ wpAnyS ro n P md ops Q Ob fuel (listed.setIfInBounds i true) a' w') a w

theorem wpAny_of_S : ∀ (fuel : Nat) (listed : Array Bool) (a : Act) (w : World), wpAnyS ro n P md ops Q Ob fuel listed a w → wpAnyIn (Fz ro) n P md ops Q fuel listed a w
  | 0, _, _, _, h => h
  | fuel + 1, _, _, _, h => ⟨h.1, fun i hi => wpOpIn_mono (fun a' w' h' => wpAny_of_S fuel _ a' w' h'.2) (h.2 i hi)⟩

theorem wpAnyS_first {i : Nat} {oi : Oper} {v : Value} (hi : ops[i]? = some oi) (hsel : ∀ (j : Nat) (o : Oper) cs b, ops[j]? = some o → o.op ≠ .select cs b)
    (hdef : ∀ (j : Nat) (o : Oper) c, ops[j]? = some o → o.op ≠ .defer c)
    (hQ : ∀ c a w, Q (.panic c) (a.put oi.dst v) w → Q (.panic c) a w)
    (hE : ∀ j oj, ops[j]? = some oj → j ≠ i → (∀ e ∈ oj.after, Region.binds md e = true → e.on ≠ i) → E j = true)
    (hOb : ∀ j w w', E j = true → Ob j w w' → S w → S w') (hOi : ∀ w, Ob i w w) :
    ∀ (fuel : Nat) (listed : Array Bool) (a : Act) (w : World),
      (∀ j oj, ops[j]? = some oj → j ≠ i → listed.getD j true = false → (∀ e ∈ oj.after, Region.binds md e = true → e.on ≠ i) → oi.apart ops oj = true) →
      i ∈ Region.ready md ops listed → YieldsS P ops S oi v a → S w →
      wpAnyS ro n P md ops Q Ob fuel (listed.setIfInBounds i true) (a.put oi.dst v) w → wpAnyS ro n P md ops Q Ob (fuel + 1) listed a w := by
  intro fuel
  induction fuel with
  | zero =>
    intro listed a w _ hr hy hS H
    refine ⟨fun h => (by rw [h] at hr; cases hr), fun j hj => ?_⟩
    by_cases hji : j = i
    · subst hji; exact hy.wpOp hi (hdef j oi · hi) hS ⟨hOi w, H⟩
    · have := ready_mono hj hji
      rw [H.1] at this
      cases this
  | succ fuel ih =>
    intro listed a w hfree hr hy hS H
    refine ⟨fun h => (by rw [h] at hr; cases hr), fun j hj => ?_⟩
    by_cases hji : j = i
    · subst hji; exact hy.wpOp hi (hdef j oi · hi) hS ⟨hOi w, H⟩
    · have h1 := H.2 j (ready_mono hj hji)
      obtain ⟨hjun, oj, hoj, hall⟩ := mem_ready.1 hj
      have hnot : ∀ e ∈ oj.after, Region.binds md e = true → e.on ≠ i := fun e he hb heq => by
        have h1 := hall e he hb
        have h0 := (mem_ready.1 hr).1
        rw [heq] at h1
        rcases Nat.lt_or_ge i listed.size with h' | h'
        · simp [h'] at h0 h1; rw [h0] at h1; cases h1
        · simp [Array.getElem?_eq_none h'] at h1
      have h2 := wpOp_putS hoj (hfree j oj hoj hji hjun hnot) (fun cs b => hsel i oi cs b hi) (fun cs b => hsel j oj cs b hoj) (fun c => hdef j oj c hoj) hQ hy h1
      have hfree' : ∀ k ok, ops[k]? = some ok → k ≠ i → (listed.setIfInBounds j true).getD k true = false →
          (∀ e ∈ ok.after, Region.binds md e = true → e.on ≠ i) → oi.apart ops ok = true := fun k ok hk hki hun hno => by
        refine hfree k ok hk hki ?_ hno
        by_cases hjk : j = k
        · subst hjk; exact hjun
        · rw [getD_set_ne true hjk] at hun; exact hun
      have hEj := hE j oj hoj hji hnot
      refine wpOpIn_mono (fun a' w' h3 => ⟨h3.2.1, ih (listed.setIfInBounds j true) a' w' hfree' (ready_mono hr (Ne.symm hji)) h3.1 (hOb j w w' hEj h3.2.1 hS) ?_⟩) h2
      rw [Array.setIfInBounds_comm _ _ hji]
      exact h3.2.2

/-- does every operation that is not early wait for number i? -/
def lateWait (md : Region.Mode) (ops : Array Oper) (E : Nat → Bool) (i : Nat) : Bool :=
  (List.range ops.size).all fun j => j == i || E j || match ops[j]? with
    | some oj => oj.after.any (fun e => Region.binds md e && e.on == i)
    | none => true

theorem lateWait_spec {i : Nat} (h : lateWait md ops E i = true) (j : Nat) (oj : Oper) (hj : ops[j]? = some oj) (hne : j ≠ i)
    (hno : ∀ e ∈ oj.after, Region.binds md e = true → e.on ≠ i) : E j = true := by
  simp only [lateWait, List.all_eq_true, List.mem_range] at h
  have h1 := h j (Array.getElem?_eq_some_iff.1 hj).1
  simp only [hj, Bool.or_eq_true, beq_iff_eq] at h1
  rcases h1 with (h1 | h1) | h1
  · exact absurd h1 hne
  · exact h1
  · rw [Array.any_eq_true'] at h1
    obtain ⟨e, he, hb⟩ := h1
    simp only [Bool.and_eq_true, beq_iff_eq] at hb
    exact absurd hb.2 (hno e he hb.1)

/-- Take number i first: it yields v in every world that meets S; E: the operations that need not wait for it. -/
theorem wpAnyS_take (i : Nat) (S : World → Prop) (E : Nat → Bool) (v : Value) {oi : Oper} {fuel : Nat} {listed : Array Bool} {a : Act} {w : World} (hi : ops[i]? = some oi)
    (hs : (Region.noSelect ops && noDefer ops && Region.free md ops listed i && lateWait md ops E i && (Region.ready md ops listed).contains i) = true)
    (hQ : ∀ c a w, Q (.panic c) (a.put oi.dst v) w → Q (.panic c) a w) (hOb : ∀ j w w', E j = true → Ob j w w' → S w → S w') (hOi : ∀ w, Ob i w w) (hS : S w) (hy : YieldsS P ops S oi v a)
    (h : wpAnyS ro n P md ops Q Ob fuel (listed.setIfInBounds i true) (a.put oi.dst v) w) : wpAnyS ro n P md ops Q Ob (fuel + 1) listed a w := by
  simp only [Bool.and_eq_true] at hs
  obtain ⟨⟨⟨⟨hs1, hs2⟩, hf⟩, hl⟩, hr⟩ := hs
  exact wpAnyS_first hi (Region.noSelect_spec hs1) (noDefer_spec hs2) hQ (lateWait_spec hl) hOb hOi fuel listed a w (Region.free_spec hi hf) (by simpa using hr) hy hS h

/-- Number i is the only one that may come up. -/
theorem wpAnyS_only (i : Nat) {o : Oper} {fuel : Nat} {listed : Array Bool} {a : Act} {w : World} (ho : ops[i]? = some o) (hr : Region.ready md ops listed = [i])
    (hw : Region.wanted o (yielded ops a.tmps) = true)
    (h : ∀ K : Act → World → Prop, (∀ a' w', (Ob i w w' ∧ wpAnyS ro n P md ops Q Ob fuel (listed.setIfInBounds i true) a' w') → K a' w') → o.wpIn (Fz ro) n P a w K Q) :
    wpAnyS ro n P md ops Q Ob (fuel + 1) listed a w := by
  refine ⟨fun h0 => (by rw [hr] at h0; cases h0), fun j hj => ?_⟩
  rw [hr] at hj
  obtain rfl := List.mem_singleton.1 hj
  unfold wpOpIn
  simp only [ho, hw, if_true]
  exact h _ (fun _ _ h => h)

/-- .. and it is passed over. -/
theorem wpAnyS_skip (i : Nat) {o : Oper} {fuel : Nat} {listed : Array Bool} {a : Act} {w : World} (ho : ops[i]? = some o) (hr : Region.ready md ops listed = [i])
    (hw : Region.wanted o (yielded ops a.tmps) = false) (hS : Ob i w w)
    (h : wpAnyS ro n P md ops Q Ob fuel (listed.setIfInBounds i true) (a.put o.dst undef) w) :
    wpAnyS ro n P md ops Q Ob (fuel + 1) listed a w := by
  refine ⟨fun h0 => (by rw [hr] at h0; cases h0), fun j hj => ?_⟩
  rw [hr] at hj
  obtain rfl := List.mem_singleton.1 hj
  unfold wpOpIn
  simp only [ho, hw, Bool.false_eq_true, if_false]
  exact ⟨fun _ _ => trivial, hS, h⟩

theorem wpAnyS_done {listed : Array Bool} {a : Act} {w : World} (hr : Region.ready md ops listed = []) (h : Q .normal a w) :
    ∀ fuel, wpAnyS ro n P md ops Q Ob fuel listed a w
  | 0 => ⟨hr, h⟩
  | _ + 1 => ⟨fun _ => h, by rw [hr]; simp⟩

/-- Take number i first: it yields v in whatever world. -/
theorem wpAnyS_pure (i : Nat) (v : Value) {oi : Oper} {fuel : Nat} {listed : Array Bool} {a : Act} {w : World} (hi : ops[i]? = some oi)
    (hs : (Region.noSelect ops && noDefer ops && Region.free md ops listed i && lateWait md ops (fun _ => true) i && (Region.ready md ops listed).contains i) = true)
    (hQ : ∀ c a w, Q (.panic c) (a.put oi.dst v) w → Q (.panic c) a w) (hOi : ∀ w, Ob i w w) (hy : YieldsS P ops (fun _ => True) oi v a)
    (h : wpAnyS ro n P md ops Q Ob fuel (listed.setIfInBounds i true) (a.put oi.dst v) w) : wpAnyS ro n P md ops Q Ob (fuel + 1) listed a w :=
  wpAnyS_take i (fun _ => True) (fun _ => true) v hi hs hQ (fun _ _ _ _ _ _ => trivial) hOi trivial hy h

/-- Number i, one of those that may come up, yields v in whatever world; d: where it goes. The premises are for the kernel. -/
theorem wpAnyS_p (i : Nat) (d : Option Tmp) (v : Value) {fuel : Nat} {listed : Array Bool} {a : Act} {w : World} (hd : ops[i]?.map (·.dst) = some d)
    (hs : (Region.noSelect ops && noDefer ops && Region.free md ops listed i && lateWait md ops (fun _ => true) i && (Region.ready md ops listed).contains i) = true)
    (hQ : ∀ c a w, Q (.panic c) (a.put d v) w → Q (.panic c) a w) (hOi : ∀ w, Ob i w w)
    (hw : ops[i]?.map (fun o => Region.wanted o (yielded ops a.tmps)) = some true) (hy : ops[i]?.map (fun o w => (execOp a.eval o).run P w) = some (fun w => .ok (.value v) w))
    (h : wpAnyS ro n P md ops Q Ob fuel (listed.setIfInBounds i true) (a.put d v) w) : wpAnyS ro n P md ops Q Ob (fuel + 1) listed a w := by
  cases ho : ops[i]? with
  | none => rw [ho] at hd; cases hd
  | some oi =>
    rw [ho] at hd hw hy
    simp only [Option.map_some, Option.some.injEq] at hd hw hy
    subst hd
    exact wpAnyS_pure i v ho hs hQ hOi (.inl ⟨hw, fun w _ => congrFun hy w⟩) h

/-- .. or is passed over. -/
theorem wpAnyS_o (i : Nat) (d : Option Tmp) {fuel : Nat} {listed : Array Bool} {a : Act} {w : World} (hd : ops[i]?.map (·.dst) = some d)
    (hs : (Region.noSelect ops && noDefer ops && Region.free md ops listed i && lateWait md ops (fun _ => true) i && (Region.ready md ops listed).contains i) = true)
    (hQ : ∀ c a w, Q (.panic c) (a.put d undef) w → Q (.panic c) a w) (hOi : ∀ w, Ob i w w)
    (hw : ops[i]?.map (fun o => Region.wanted o (yielded ops a.tmps)) = some false)
    (h : wpAnyS ro n P md ops Q Ob fuel (listed.setIfInBounds i true) (a.put d undef) w) : wpAnyS ro n P md ops Q Ob (fuel + 1) listed a w := by
  cases ho : ops[i]? with
  | none => rw [ho] at hd; cases hd
  | some oi =>
    rw [ho] at hd hw
    simp only [Option.map_some, Option.some.injEq] at hd hw
    subst hd
    exact wpAnyS_pure i undef ho hs hQ hOi (.inr ⟨hw, rfl⟩) h

/-- Number i yields v in every world that meets S. -/
theorem wpAnyS_t (i : Nat) (S : World → Prop) (E : Nat → Bool) (d : Option Tmp) (v : Value) {fuel : Nat} {listed : Array Bool} {a : Act} {w : World} (hd : ops[i]?.map (·.dst) = some d)
    (hs : (Region.noSelect ops && noDefer ops && Region.free md ops listed i && lateWait md ops E i && (Region.ready md ops listed).contains i) = true)
    (hQ : ∀ c a w, Q (.panic c) (a.put d v) w → Q (.panic c) a w) (hOb : ∀ j w w', E j = true → Ob j w w' → S w → S w') (hOi : ∀ w, Ob i w w) (hS : S w)
    (hw : ops[i]?.map (fun o => Region.wanted o (yielded ops a.tmps)) = some true) (hy : ∀ o, ops[i]? = some o → ∀ w, S w → (execOp a.eval o).run P w = .ok (.value v) w)
    (h : wpAnyS ro n P md ops Q Ob fuel (listed.setIfInBounds i true) (a.put d v) w) : wpAnyS ro n P md ops Q Ob (fuel + 1) listed a w := by
  cases ho : ops[i]? with
  | none => rw [ho] at hd; cases hd
  | some oi =>
    rw [ho] at hd hw
    simp only [Option.map_some, Option.some.injEq] at hd hw
    subst hd
    exact wpAnyS_take i S E v ho hs hQ hOb hOi hS (.inl ⟨hw, hy oi ho⟩) h

/-- Number i is the only one that may come up; op: what it is; d: where it goes. -/
theorem wpAnyS_1 (i : Nat) (d : Option Tmp) (op : Op) {fuel : Nat} {listed : Array Bool} {a : Act} {w : World} (hd : ops[i]?.map (·.dst) = some d) (hop : ops[i]?.map (·.op) = some op) (hr : Region.ready md ops listed = [i])
    (hw : ops[i]?.map (fun o => Region.wanted o (yielded ops a.tmps)) = some true)
    (h : ∀ o : Oper, o.dst = d → o.op = op → ∀ K : Act → World → Prop, (∀ a' w', (Ob i w w' ∧ wpAnyS ro n P md ops Q Ob fuel (listed.setIfInBounds i true) a' w') → K a' w') → o.wpIn (Fz ro) n P a w K Q) :
    wpAnyS ro n P md ops Q Ob (fuel + 1) listed a w := by
  cases ho : ops[i]? with
  | none => rw [ho] at hd; cases hd
  | some oi =>
    rw [ho] at hd hw hop
    simp only [Option.map_some, Option.some.injEq] at hd hw hop
    exact wpAnyS_only i ho hr hw (h oi hd hop)

/-- A call of a function of the program that hands back a value. -/
theorem wpIn_call {o : Oper} {a : Act} {w : World} {K : Act → World → Prop} (f : FuncId) (xs : Array Operand) (ts : Array TypeId) (args : Array Value) (d : Option Tmp) (hd : o.dst = d) (ho : o.op = .call { callee := .value (.func f), args := xs, argTypes := ts }) (hargs : xs.map a.eval = args)
    (eg : ∀ args w, (callFunc f args).run P w = .ok (.enter f args) w) (h : Calls P f args w fun e w' => ∃ v, e = .returned v ∧ K (a.put d v) w') : o.wpIn (Fz ro) n P a w K Q := by
  have hnd : ∀ c, o.op ≠ .defer c := fun c e => by rw [ho] at e; cases e
  have hx : (execOp a.eval o).run P w = .ok (.enter f args) w := by
    unfold execOp
    rw [ho, ← hargs]
    simp [go_sem, resolve, invoke, Act.eval, eg]
  unfold Oper.wpIn
  rw [Oper.semAt_eq ro _ _ hnd, hx, Oper.uponIn_enter]
  refine ⟨fun _ _ => trivial, fun h => by simp [Fence.wide] at h, callsIn_of_calls (ro := ro) (h.mono ?_)⟩
  rintro e w' ⟨v, rfl, hk⟩
  rw [hd]
  exact hk

/-- The beginning. k: how many operations there are. -/
theorem wp_region_S (k : Nat) (Ob : Nat → World → World → Prop) {id : Nat} {a : Act} {w : World} (hk : ops.size = k) (hm : P.follows .mixedOrders = true)
    (h : wpAnyS ro n P .any ops Q Ob k (Array.replicate k false) a { w with drawn := w.drawn + 1 }) : (Code.region id ops true).wpIn (Fz ro) n P Q a w := by
  subst hk
  exact wpIn_region_any hm (wpAny_of_S _ _ _ _ h)

/-- A law for an operation in a list serves for the operation alone. -/
theorem wpIn_of_list {F : Fence} {o : Oper} {K : Act → World → Prop} {a : Act} {w : World} (hg : o.guard = none) (h : wpListIn F n P ops (Exit.then K Q) [o] a w) : o.wpIn F n P a w K Q := by
  have h1 : wpListIn F n P ops (Exit.then K Q) [o] a w := h
  unfold wpListIn at h1
  rw [if_pos (by simp [Region.wanted, hg])] at h1
  unfold Oper.wpIn at h1 ⊢
  refine ⟨h1.1, ?_⟩
  have h2 := h1.2
  generalize (o.semAt F.round a.eval).run P w = r at h2 ⊢
  cases r with
  | ok x w' =>
    cases x <;> simp only [Oper.uponIn] at h2 ⊢ <;> exact h2
  | halt x w' => cases x <;> simp only [Oper.uponIn] at h2 ⊢ <;> exact h2
end
end Go.Proofs.Kb
