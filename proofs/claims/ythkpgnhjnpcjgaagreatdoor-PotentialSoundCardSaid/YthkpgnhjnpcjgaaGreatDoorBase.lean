/- Foundation: what a call may turn, and a law for a range over a function whose iterator may write its own variables. -/
import Derived.RangeFuncLeaves
import Derived.RangeFuncBox
import Derived.RangeFuncCalls
import Derived.WalkKit
namespace Go.Proofs.Kb
open Go Go.RowKit

/-- the world has grown; blocks that lay and are not in X lie as they lay -/
structure Ext (X : Nat → Prop) (w w' : World) : Prop where
  os : w'.os = w.os
  tape : w'.tape = w.tape
  output : w'.output = w.output
  size : w.heap.size ≤ w'.heap.size
  same : ∀ k, k < w.heap.size → ¬ X k → w'.heap[k]? = w.heap[k]?

def none' : Nat → Prop := fun _ => False
def one (b : Nat) : Nat → Prop := fun k => k = b

theorem Ext.refl (X : Nat → Prop) (w : World) : Ext X w w := ⟨rfl, rfl, rfl, Nat.le_refl _, fun _ _ _ => rfl⟩
theorem Ext.trans {X : Nat → Prop} {a b c : World} (h : Ext X a b) (k : Ext X b c) : Ext X a c :=
  ⟨k.os.trans h.os, k.tape.trans h.tape, k.output.trans h.output, Nat.le_trans h.size k.size, fun i hi hx => (k.same i (Nat.lt_of_lt_of_le hi h.size) hx).trans (h.same i hi hx)⟩
theorem Ext.mono {X Y : Nat → Prop} {a b : World} (h : Ext X a b) (hxy : ∀ k, k < a.heap.size → X k → Y k) : Ext Y a b :=
  ⟨h.os, h.tape, h.output, h.size, fun i hi hx => h.same i hi (fun hX => hx (hxy i hi hX))⟩
theorem Ext.alloc {X : Nat → Prop} {a b : World} (h : Ext X a b) (o : Obj) : Ext X a (b.alloc o) :=
  ⟨h.os, h.tape, h.output, Nat.le_trans h.size (by simp), fun k hk hx => (Below.heap_alloc b o k (Nat.lt_of_lt_of_le hk h.size)).trans (h.same k hk hx)⟩
theorem Ext.drew {X : Nat → Prop} {a b : World} (h : Ext X a b) : Ext X a b.drew := ⟨h.os, h.tape, h.output, h.size, h.same⟩
theorem Ext.putObj {X : Nat → Prop} {a b : World} (h : Ext X a b) (l : Nat) (o : Obj) (hl : a.heap.size ≤ l ∨ X l) : Ext X a (b.putObj l o) :=
  ⟨h.os, h.tape, h.output, Nat.le_trans h.size (by simp), fun k hk hx => (World.putObj_heap_other (by
    intro e; subst e; rcases hl with hl | hl
    · omega
    · exact hx hl)).trans (h.same k hk hx)⟩
theorem Ext.of_below {w w' : World} (h : Below w.heap.size w w') (X : Nat → Prop) : Ext X w w' :=
  ⟨h.os, h.tape, h.output, h.size, fun k hk _ => h.block k hk⟩
theorem Ext.below {w w' : World} (h : Ext none' w w') : Below w.heap.size w w' :=
  ⟨h.os, h.tape, h.output, h.size, fun k hk => h.same k hk (fun hf => hf)⟩
theorem Ext.of_grownBy {w w' : World} {row : Option Nat} (h : w.grownBy w' row) {X : Nat → Prop} (hx : ∀ j, row = some j → X j) : Ext X w w' :=
  ⟨h.os, h.tape, h.output, h.size, fun k hk hn => h.block k hk (fun e => hn (hx k e.symm))⟩
theorem Ext.setCell {X : Nat → Prop} {a b : World} (h : Ext X a b) (p : Addr) (v : Value) (hp : a.heap.size ≤ p.block ∨ X p.block) : Ext X a (b.setCell p v) :=
  ⟨h.os, h.tape, h.output, by simpa using h.size, fun k hk hx => by
    have hne : p.block ≠ k := by
      intro e; subst e
      rcases hp with hp | hp
      · omega
      · exact hx hp
    refine Eq.trans ?_ (h.same k hk hx)
    simp [World.setCell, Array.getElem?_modify, hne]⟩

section range
variable {P : Program}

/-- the wide fence, within a round or not -/
abbrev Fw (ro : Option Nat) : Fence := { Fence.wide with round := ro }

theorem Fw_none : Fw none = Fence.wide := rfl
theorem Fw_round (ro : Option Nat) (l : Nat) : (Fw ro).inRound l = Fw (some l) := rfl

theorem callsIn_of_calls {ro : Option Nat} {n : Nat} {f : FuncId} {args : Array Value} {w : World} {R : Ending → World → Prop} (h : Calls P f args w R) : CallsIn (Fw ro) n P f args w R := by
  have h1 : CallsIn Fence.wide n P f args w R := callsIn_wide.2 h
  exact h1

theorem calls_of_callsIn {ro : Option Nat} {n : Nat} {f : FuncId} {args : Array Value} {w : World} {R : Ending → World → Prop} (h : CallsIn (Fw ro) n P f args w R) : Calls P f args w R := by
  have h1 : CallsIn Fence.wide n P f args w R := h
  exact callsIn_wide.1 h1

/-- One round, at yield l. -/
def YieldW (P : Program) (l : Nat) (args : Array Value) (W : World) (R : Ending → World → Prop) : Prop := YieldAt Fence.wide 0 P l args W R

/-- A function value that hands the elements of xs to yield, one after the other. X: the blocks that it may turn between two rounds (new ones aside). N, Y: what a round keeps: the blocks below N that are not in Y. -/
def Iter {α : Type} (P : Program) (g : Nat) (lb : Array Value) (encs : α → Array Value) (xs : List α) (X : Nat → Prop) (N : Nat) (Y : Nat → Prop) (w : World) : Prop :=
  ∀ (l : Nat) (J : Nat → World → Prop) (Jx : World → Prop) (W : World), N ≤ W.heap.size → (∀ k, k < N → ¬ Y k → W.heap[k]? = w.heap[k]?) →
    (∀ k A B, J k A → Ext X A B → J k B) → (∀ A B, Jx A → Ext X A B → Jx B) →
    (∀ (k : Nat) (h : k < xs.length) (A : World), J k A → YieldW P l (encs xs[k]) A fun e B =>
      (e = .returned (.bool true) ∧ J (k + 1) B ∧ A.heap.size ≤ B.heap.size ∧ (∀ i, i < N → ¬ Y i → B.heap[i]? = A.heap[i]?)) ∨ (e = .returned (.bool false) ∧ Jx B)) →
    J 0 W →
    Calls P g (#[.func (.yield l) #[] #[]] ++ lb) W fun e B => (∃ v, e = .returned v) ∧ (J xs.length B ∨ Jx B)

/-- How a round's body may end. l, D: the loop's two blocks of book-keeping. -/
def roundEnd (l D : Nat) (N : Nat) (Y : Nat → Prop) (I : World → Prop) (Ix : Code → World → Prop) (W : World) : Exit → Act → World → Prop
  | .normal, _, B => B.heap[l]? = W.heap[l]? ∧ B.heap[D]? = W.heap[D]? ∧ W.heap.size ≤ B.heap.size ∧ (∀ i, i < N → ¬ Y i → B.heap[i]? = W.heap[i]?) ∧ I B
  | .ret, _, B => B.heap[l]? = W.heap[l]? ∧ B.heap[D]? = W.heap[D]? ∧ Ix .ret B
  | .exit id, _, B => B.heap[l]? = W.heap[l]? ∧ B.heap[D]? = W.heap[D]? ∧ Ix (.exit id) B
  | .goto t, _, B => B.heap[l]? = W.heap[l]? ∧ B.heap[D]? = W.heap[D]? ∧ Ix (.goto t) B
  | .panic _, _, _ => False
  | .outgrown, _, _ => False

theorem World.putObj_size' (W : World) (l : Nat) (o : Obj) : (W.putObj l o).heap.size = W.heap.size := by simp

/-- A range over a function, not within a round. -/
theorem wp_rangeFunc {α : Type} {g : Operand} {ps : Array Tmp} {assign body : Code} {Q : Exit → Act → World → Prop} {a : Act} {w : World} {n : Nat}
    {gf : Nat} {lb : Array Value} (hg : a.eval g = .func (.func gf) #[] lb) (eg : ∀ args w, (callFunc gf args).run P w = .ok (.enter gf args) w)
    {encs : α → Array Value} {xs : List α} {X : Nat → Prop} {N : Nat} {Y : Nat → Prop} (hN : N ≤ w.heap.size) (hseq : Iter P gf lb encs xs X N Y w)
    (hX : ∀ k, X k → k < w.heap.size) (hps : ∀ x, (encs x).size = ps.size)
    (I : Nat → World → Prop) (Ix : Code → World → Prop)
    (hI : ∀ k A B, I k A → Ext (fun b => X b ∨ b = w.heap.size + 1) A B → I k B)
    (hIx : ∀ c A B, Ix c A → Ext (fun b => X b ∨ b = w.heap.size + 1) A B → Ix c B)
    (h0 : ∀ W, Ext none' w W → w.heap.size + 2 ≤ W.heap.size → I 0 W)
    (hbody : ∀ (k : Nat) (h : k < xs.length) (W : World), w.heap.size + 1 < W.heap.size → I k W →
      assign.wpIn (Fw (some (w.heap.size + 1))) n P (Exit.then (fun a₁ W₁ => W₁.heap[w.heap.size + 1]? = W.heap[w.heap.size + 1]? ∧ W₁.heap[w.heap.size]? = W.heap[w.heap.size]? ∧ ∀ W₂, Ext (fun b => b = w.heap.size + 1) W₁ W₂ → (∃ r, W₂.heap[w.heap.size + 1]? = some (.loop r)) →
          body.wpIn (Fw (some (w.heap.size + 1))) n P (fun e a₂ B => roundEnd (w.heap.size + 1) w.heap.size N Y (I (k + 1)) Ix W₂ e a₂ B ∧ (e = .normal → W.heap.size ≤ W₁.heap.size ∧ ∀ i, i < N → ¬ Y i → W₁.heap[i]? = W.heap[i]?)) a₁ W₂) (fun _ _ _ => False))
        { tmps := (ps.zip (encs xs[k])).foldl (fun t (p, v) => t.setIfInBounds p v) a.tmps, defers := [] } W)
    (hdone : ∀ (B : World), I xs.length B → B.heap[w.heap.size]? = some (.deferred (some [])) → Q .normal { a with defers := { target := .collected w.heap.size, args := #[] } :: a.defers } B)
    (hstop : ∀ (c : Code) (B : World), Ix c B → B.heap[w.heap.size]? = some (.deferred (some [])) → c.wpIn (Fw none) n P Q { a with defers := { target := .collected w.heap.size, args := #[] } :: a.defers } B) :
    (Code.rangeFunc g ps assign body).wpIn (Fw none) n P Q a w := by
  refine wpIn_rangeFunc ?_
  intro fn hfn
  obtain ⟨rec, hrec⟩ : ∃ rec : LoopState → Option Code → Loop, rec = fun st pe => { state := st, pending := pe, fn, tmps := a.tmps, params := ps, assign, body, defers := w.heap.size } := ⟨_, rfl⟩
  obtain ⟨W1, hW1⟩ : ∃ W1, (w.alloc (.deferred (some []))).alloc (.loop (rec .ready none)) = W1 := ⟨_, rfl⟩
  have hL1 : W1.heap[w.heap.size + 1]? = some (.loop (rec .ready none)) := by
    rw [← hW1]; have := World.alloc_heap_new (w.alloc (.deferred (some []))) (.loop (rec .ready none)); rwa [World.size_alloc] at this
  have hK1 : W1.heap[w.heap.size]? = some (.deferred (some [])) := by
    rw [← hW1]; exact (Below.heap_alloc _ _ _ (by simp)).trans (World.alloc_heap_new w _)
  have hE1 : Ext none' w W1 := by rw [← hW1]; exact ((Ext.refl _ w).alloc _).alloc _
  refine ⟨w.heap.size + 1, [{ target := .collected w.heap.size, args := #[] }], W1, { target := .fn (.func gf) lb, args := #[.func (.yield (w.heap.size + 1)) #[] #[]] }, W1, gf,
    #[.func (.yield (w.heap.size + 1)) #[] #[]] ++ lb, W1, ?_, ?_, ?_, ?_, fun h => by simp [Fence.wide] at h, ?_⟩
  · rw [← hW1, hrec]; exact run_enterLoop_outer _ _ _ _ _
  · simp only [resolve, hg]
    simp [go_sem]
  · intro f' _; trivial
  · simp [invoke, go_sem, eg]
  · refine callsIn_of_calls ((hseq (w.heap.size + 1)
      (fun k W => I k W ∧ W.heap[w.heap.size + 1]? = some (.loop (rec .ready none)) ∧ W.heap[w.heap.size]? = some (.deferred (some [])) ∧ w.heap.size + 1 < W.heap.size)
      (fun W => ∃ c, Ix c W ∧ W.heap[w.heap.size + 1]? = some (.loop (rec .done (some c))) ∧ W.heap[w.heap.size]? = some (.deferred (some [])) ∧ w.heap.size + 1 < W.heap.size)
      W1 (Nat.le_trans hN hE1.size) (fun k hk _ => hE1.same k (Nat.lt_of_lt_of_le hk hN) (fun h => h)) ?_ ?_ ?_ ⟨h0 W1 hE1 (by have := (Array.getElem?_eq_some_iff.1 hL1).1; omega), hL1, hK1, (Array.getElem?_eq_some_iff.1 hL1).1⟩).mono ?_)
    · rintro k A B ⟨hi, hl, hk, hlt⟩ he
      have n1 : ¬ X (w.heap.size + 1) := fun h => by have := hX _ h; omega
      have n2 : ¬ X (w.heap.size) := fun h => by have := hX _ h; omega
      exact ⟨hI k A B hi (he.mono fun b _ h => Or.inl h), (he.same _ hlt n1).trans hl, (he.same _ (by omega) n2).trans hk, Nat.lt_of_lt_of_le hlt he.size⟩
    · rintro A B ⟨c, hi, hl, hk, hlt⟩ he
      have n1 : ¬ X (w.heap.size + 1) := fun h => by have := hX _ h; omega
      have n2 : ¬ X (w.heap.size) := fun h => by have := hX _ h; omega
      exact ⟨c, hIx c A B hi (he.mono fun b _ h => Or.inl h), (he.same _ hlt n1).trans hl, (he.same _ (by omega) n2).trans hk, Nat.lt_of_lt_of_le hlt he.size⟩
    · -- one round
      rintro k hk A ⟨hi, hl, hd, hlt⟩
      have hy := run_yield (P := P) (args := encs xs[k]) hl (by rw [hrec]; exact hps _)
      rw [hrec] at hy
      have hn0 : ∀ {m : Nat} {c : Code} {Q' : Exit → Act → World → Prop} {a' : Act} {W' : World} {ro : Option Nat}, c.wpIn (Fw ro) n P Q' a' W' → c.wpIn (Fw ro) m P Q' a' W' := by
        intro m c Q' a' W' ro h b k' cs h1 h2 _
        exact h b k' cs h1 h2 (fun d hd => by simp [Fence.wide] at hd)
      refine ⟨fn, _, assign, body, hy, roundIn_of_wpIn (F := Fence.wide) trivial ?_⟩
      have hb := hbody k hk A hlt hi
      refine hn0 (wpIn_mono hb ?_)
      rintro e a₁ W₁ hp
      cases e with
      | normal =>
        obtain ⟨e1, e2, hp⟩ := hp
        have hl1 : W₁.heap[w.heap.size + 1]? = some (.loop (rec .ready none)) := e1.trans hl
        have hlt1 := (Array.getElem?_eq_some_iff.1 hl1).1
        refine ⟨_, run_beginRound hl1 (by rw [hrec]), ?_⟩
        have hE : Ext (fun b => b = w.heap.size + 1) W₁ (W₁.putObj (w.heap.size + 1) (.loop { rec .ready none with state := .busy })) := (Ext.refl _ _).putObj _ _ (Or.inr rfl)
        have hl2 : (W₁.putObj (w.heap.size + 1) (.loop { rec .ready none with state := .busy })).heap[w.heap.size + 1]? = some (.loop { rec .ready none with state := .busy }) := World.putObj_heap_same hlt1
        have hd2 : (W₁.putObj (w.heap.size + 1) (.loop { rec .ready none with state := .busy })).heap[w.heap.size]? = some (.deferred (some [])) := ((World.putObj_heap_other (by omega)).trans e2).trans hd
        refine hn0 (wpIn_mono (hp _ hE ⟨_, hl2⟩) ?_)
        have fin : ∀ (jump : Option Code) (W3 : World), W3.heap[w.heap.size + 1]? = some (.loop { rec .ready none with state := .busy }) → W3.heap[w.heap.size]? = some (.deferred (some [])) →
            (Instr.endRound (w.heap.size + 1) jump).run P W3 = .ok (.bool jump.isNone) (W3.putObj (w.heap.size + 1) (.loop (rec (if jump.isNone then .ready else .done) jump))) ∧
            (W3.putObj (w.heap.size + 1) (.loop (rec (if jump.isNone then .ready else .done) jump))).heap[w.heap.size + 1]? = some (.loop (rec (if jump.isNone then .ready else .done) jump)) ∧
            (W3.putObj (w.heap.size + 1) (.loop (rec (if jump.isNone then .ready else .done) jump))).heap[w.heap.size]? = some (.deferred (some [])) ∧ w.heap.size + 1 < (W3.putObj (w.heap.size + 1) (.loop (rec (if jump.isNone then .ready else .done) jump))).heap.size := fun jump W3 hl3 hd3 => by
          have := run_endRound (P := P) jump hl3
          rw [hrec] at this ⊢
          exact ⟨this, World.putObj_heap_same (Array.getElem?_eq_some_iff.1 hl3).1, (World.putObj_heap_other (by omega)).trans hd3, by simpa using (Array.getElem?_eq_some_iff.1 hl3).1⟩
        have hput : ∀ (B : World) (o : Obj), Ext (fun b => X b ∨ b = w.heap.size + 1) B (B.putObj (w.heap.size + 1) o) := fun B o => (Ext.refl _ _).putObj _ _ (Or.inr (Or.inr rfl))
        rintro e a3 W3 ⟨hp, hn⟩
        cases e with
        | normal =>
          obtain ⟨h1, h2, h3, h4, h5⟩ := hp
          obtain ⟨h6, h7⟩ := hn rfl
          obtain ⟨hr, q1, q2, q3⟩ := fin none W3 (h1.trans hl2) (h2.trans hd2)
          refine ⟨_, _, hr, .inl ⟨rfl, ⟨hI _ _ _ h5 (hput _ _), q1, q2, q3⟩, ?_, ?_⟩⟩
          · simp only [World.putObj_size'] at h3 ⊢; omega
          · intro i hi' hy'
            refine (World.putObj_heap_other (by omega)).trans ((h4 i hi' hy').trans ((World.putObj_heap_other (by omega)).trans (h7 i hi' hy')))
        | ret =>
          obtain ⟨h1, h2, h5⟩ := hp
          obtain ⟨hr, q1, q2, q3⟩ := fin (some .ret) W3 (h1.trans hl2) (h2.trans hd2)
          exact ⟨_, _, hr, .inr ⟨rfl, .ret, hIx _ _ _ h5 (hput _ _), q1, q2, q3⟩⟩
        | exit id =>
          obtain ⟨h1, h2, h5⟩ := hp
          obtain ⟨hr, q1, q2, q3⟩ := fin (some (.exit id)) W3 (h1.trans hl2) (h2.trans hd2)
          exact ⟨_, _, hr, .inr ⟨rfl, .exit id, hIx _ _ _ h5 (hput _ _), q1, q2, q3⟩⟩
        | goto t =>
          obtain ⟨h1, h2, h5⟩ := hp
          obtain ⟨hr, q1, q2, q3⟩ := fin (some (.goto t)) W3 (h1.trans hl2) (h2.trans hd2)
          exact ⟨_, _, hr, .inr ⟨rfl, .goto t, hIx _ _ _ h5 (hput _ _), q1, q2, q3⟩⟩
        | panic ch => exact hp.elim
        | outgrown => exact hp.elim
      | exit id => exact hp.elim
      | goto t => exact hp.elim
      | ret => exact hp.elim
      | panic ch => exact hp.elim
      | outgrown => exact hp.elim
    · -- behind the iterator
      have hput : ∀ (B : World) (o : Obj), Ext (fun b => X b ∨ b = w.heap.size + 1) B (B.putObj (w.heap.size + 1) o) := fun B o => (Ext.refl _ _).putObj _ _ (Or.inr (Or.inr rfl))
      rintro e W2 ⟨⟨v, rfl⟩, (⟨hi, hl, hd, hlt⟩ | ⟨c, hi, hl, hd, hlt⟩)⟩
      · exact ⟨none, _, by have := run_endLoop (P := P) hl (by rw [hrec]; simp); rw [hrec] at this; exact this, hdone _ (hI _ _ _ hi (hput _ _)) ((World.putObj_heap_other (by omega)).trans hd)⟩
      · exact ⟨some c, _, by have := run_endLoop (P := P) hl (by rw [hrec]; simp); rw [hrec] at this; exact this, hstop c _ (hIx _ _ _ hi (hput _ _)) ((World.putObj_heap_other (by omega)).trans hd)⟩
end range
end Go.Proofs.Kb
