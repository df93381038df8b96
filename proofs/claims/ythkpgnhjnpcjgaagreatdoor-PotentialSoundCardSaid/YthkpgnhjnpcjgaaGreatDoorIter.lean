/- A range over a function whose iterator keeps memory of its own: what a round may write is told by a set of blocks that grows by new blocks only. -/
import Derived.Test.YthkpgnhjnpcjgaaGreatDoorBase
namespace Go.Proofs.Kb
open Go Go.RowKit

section range2
variable {P : Program}

/-- A function value that hands the elements of xs to yield. X: the blocks that it may turn between two rounds (new ones aside). O0: the blocks that a round may write at first; later ones are new when they are taken up. -/
def Iter2 {α : Type} (P : Program) (g : Nat) (lb : Array Value) (encs : α → Array Value) (xs : List α) (X : Nat → Prop) (O0 : Nat → Prop) (w : World) : Prop :=
  ∀ (l : Nat) (J : Nat → (Nat → Prop) → World → Prop) (Jx : World → Prop) (W : World), w.heap.size ≤ W.heap.size → (∀ k, k < w.heap.size → ¬ O0 k → W.heap[k]? = w.heap[k]?) → (∀ k, O0 k → k < W.heap.size) →
    (∀ k O A B, J k O A → Ext X A B → J k O B) → (∀ A B, Jx A → Ext X A B → Jx B) →
    (∀ (k : Nat) (h : k < xs.length) (O : Nat → Prop) (A : World), J k O A → YieldW P l (encs xs[k]) A fun e B =>
      (e = .returned (.bool true) ∧ (∃ O', J (k + 1) O' B ∧ (∀ i, O' i → O i ∨ A.heap.size ≤ i)) ∧ A.heap.size ≤ B.heap.size ∧ (∀ i, i < A.heap.size → ¬ O i → B.heap[i]? = A.heap[i]?)) ∨ (e = .returned (.bool false) ∧ Jx B)) →
    J 0 O0 W →
    Calls P g (#[.func (.yield l) #[] #[]] ++ lb) W fun e B => (∃ v, e = .returned v) ∧ ((∃ O, J xs.length O B) ∨ Jx B)

/-- How a round's body may end. W: the world before the round; W2: before the body. -/
def roundEnd2 (l D : Nat) (O : Nat → Prop) (I : (Nat → Prop) → World → Prop) (Ix : Code → World → Prop) (W W2 : World) : Exit → Act → World → Prop
  | .normal, _, B => B.heap[l]? = W2.heap[l]? ∧ B.heap[D]? = W2.heap[D]? ∧ (∃ O', I O' B ∧ ∀ i, O' i → O i ∨ W.heap.size ≤ i) ∧ W.heap.size ≤ B.heap.size ∧ ∀ i, i < W.heap.size → i ≠ l → ¬ O i → B.heap[i]? = W.heap[i]?
  | .ret, _, B => B.heap[l]? = W2.heap[l]? ∧ B.heap[D]? = W2.heap[D]? ∧ Ix .ret B
  | .exit id, _, B => B.heap[l]? = W2.heap[l]? ∧ B.heap[D]? = W2.heap[D]? ∧ Ix (.exit id) B
  | .goto t, _, B => B.heap[l]? = W2.heap[l]? ∧ B.heap[D]? = W2.heap[D]? ∧ Ix (.goto t) B
  | .panic _, _, _ => False
  | .outgrown, _, _ => False

/-- A range over a function, not within a round. -/
theorem wp_rangeFunc2 {α : Type} {g : Operand} {ps : Array Tmp} {assign body : Code} {Q : Exit → Act → World → Prop} {a : Act} {w : World} {n : Nat}
    {gf : Nat} {lb : Array Value} (hg : a.eval g = .func (.func gf) #[] lb) (eg : ∀ args w, (callFunc gf args).run P w = .ok (.enter gf args) w)
    {encs : α → Array Value} {xs : List α} {X : Nat → Prop} {O0 : Nat → Prop} (hO : ∀ k, O0 k → k < w.heap.size) (hseq : Iter2 P gf lb encs xs X O0 w)
    (hX : ∀ k, X k → k < w.heap.size) (hps : ∀ x, (encs x).size = ps.size)
    (I : Nat → (Nat → Prop) → World → Prop) (Ix : Code → World → Prop)
    (hI : ∀ k O A B, I k O A → Ext (fun b => X b ∨ b = w.heap.size + 1) A B → I k O B)
    (hIx : ∀ c A B, Ix c A → Ext (fun b => X b ∨ b = w.heap.size + 1) A B → Ix c B)
    (h0 : ∀ W, Ext none' w W → w.heap.size + 2 ≤ W.heap.size → I 0 O0 W)
    (hbody : ∀ (k : Nat) (h : k < xs.length) (O : Nat → Prop) (W : World), w.heap.size + 1 < W.heap.size → I k O W →
      assign.wpIn (Fw (some (w.heap.size + 1))) n P (Exit.then (fun a₁ W₁ => W₁.heap[w.heap.size + 1]? = W.heap[w.heap.size + 1]? ∧ W₁.heap[w.heap.size]? = W.heap[w.heap.size]? ∧ ∀ W₂, Ext (fun b => b = w.heap.size + 1) W₁ W₂ → (∃ r, W₂.heap[w.heap.size + 1]? = some (.loop r)) →
          body.wpIn (Fw (some (w.heap.size + 1))) n P (fun e a₂ B => roundEnd2 (w.heap.size + 1) w.heap.size O (I (k + 1)) Ix W W₂ e a₂ B) a₁ W₂) (fun _ _ _ => False))
        { tmps := (ps.zip (encs xs[k])).foldl (fun t (p, v) => t.setIfInBounds p v) a.tmps, defers := [] } W)
    (hdone : ∀ (O : Nat → Prop) (B : World), I xs.length O B → B.heap[w.heap.size]? = some (.deferred (some [])) → Q .normal { a with defers := { target := .collected w.heap.size, args := #[] } :: a.defers } B)
    (hstop : ∀ (c : Code) (B : World), Ix c B → B.heap[w.heap.size]? = some (.deferred (some [])) → c.wpIn (Fw none) n P Q { a with defers := { target := .collected w.heap.size, args := #[] } :: a.defers } B) :
    (Code.rangeFunc g ps assign body).wpIn (Fw none) n P Q a w := by
  refine wpIn_rangeFunc ?_
  intro fn hfn
  obtain ⟨rec, hrec⟩ : ∃ rec : LoopState → Option Code → Loop, rec = fun st pe => { state := st, pending := pe, fn, tmps := a.tmps, params := ps, assign, body, defers := w.heap.size } := ⟨_, rfl⟩
  obtain ⟨W1, hW1⟩ : ∃ W1, (w.alloc (.deferred (some []))).alloc (.loop (rec .ready none)) = W1 := ⟨_, rfl⟩
  have hL1 : W1.heap[w.heap.size + 1]? = some (.loop (rec .ready none)) := by
    rw [← hW1]; have := World.alloc_heap_new (w.alloc (.deferred (some []))) (.loop (rec .ready none)); rwa [World.size_alloc] at this
  have hK1 : W1.heap[w.heap.size]? = some (.deferred (some [])) := by
    rw [← hW1]; exact (Below.heap_alloc _ _ _ (by simp)).trans (World.alloc_heap_new w _)
  have hE1 : Ext none' w W1 := by rw [← hW1]; exact ((Ext.refl _ w).alloc _).alloc _
  refine ⟨w.heap.size + 1, [{ target := .collected w.heap.size, args := #[] }], W1, { target := .fn (.func gf) lb, args := #[.func (.yield (w.heap.size + 1)) #[] #[]] }, W1, gf,
    #[.func (.yield (w.heap.size + 1)) #[] #[]] ++ lb, W1, ?_, ?_, ?_, ?_, fun h => by simp [Fence.wide] at h, ?_⟩
  · rw [← hW1, hrec]; exact run_enterLoop_outer _ _ _ _ _
  · simp only [resolve, hg]
    simp [go_sem]
  · intro f' _; trivial
  · simp [invoke, go_sem, eg]
  · refine callsIn_of_calls ((hseq (w.heap.size + 1)
      (fun k O W => I k O W ∧ W.heap[w.heap.size + 1]? = some (.loop (rec .ready none)) ∧ W.heap[w.heap.size]? = some (.deferred (some [])) ∧ w.heap.size + 1 < W.heap.size)
      (fun W => ∃ c, Ix c W ∧ W.heap[w.heap.size + 1]? = some (.loop (rec .done (some c))) ∧ W.heap[w.heap.size]? = some (.deferred (some [])) ∧ w.heap.size + 1 < W.heap.size)
      W1 hE1.size (fun k hk _ => hE1.same k hk (fun h => h)) (fun k hk => Nat.lt_of_lt_of_le (hO k hk) hE1.size) ?_ ?_ ?_ ⟨h0 W1 hE1 (by have := (Array.getElem?_eq_some_iff.1 hL1).1; omega), hL1, hK1, (Array.getElem?_eq_some_iff.1 hL1).1⟩).mono ?_)
    · rintro k O A B ⟨hi, hl, hk, hlt⟩ he
      have n1 : ¬ X (w.heap.size + 1) := fun h => by have := hX _ h; omega
      have n2 : ¬ X (w.heap.size) := fun h => by have := hX _ h; omega
      exact ⟨hI k O A B hi (he.mono fun b _ h => Or.inl h), (he.same _ hlt n1).trans hl, (he.same _ (by omega) n2).trans hk, Nat.lt_of_lt_of_le hlt he.size⟩
    · rintro A B ⟨c, hi, hl, hk, hlt⟩ he
      have n1 : ¬ X (w.heap.size + 1) := fun h => by have := hX _ h; omega
      have n2 : ¬ X (w.heap.size) := fun h => by have := hX _ h; omega
      exact ⟨c, hIx c A B hi (he.mono fun b _ h => Or.inl h), (he.same _ hlt n1).trans hl, (he.same _ (by omega) n2).trans hk, Nat.lt_of_lt_of_le hlt he.size⟩
    · -- one round
      rintro k hk O A ⟨hi, hl, hd, hlt⟩
      have hy := run_yield (P := P) (args := encs xs[k]) hl (by rw [hrec]; exact hps _)
      rw [hrec] at hy
      have hn0 : ∀ {m : Nat} {c : Code} {Q' : Exit → Act → World → Prop} {a' : Act} {W' : World} {ro : Option Nat}, c.wpIn (Fw ro) n P Q' a' W' → c.wpIn (Fw ro) m P Q' a' W' := by
        intro m c Q' a' W' ro h b k' cs h1 h2 _
        exact h b k' cs h1 h2 (fun d hd => by simp [Fence.wide] at hd)
      refine ⟨fn, _, assign, body, hy, roundIn_of_wpIn (F := Fence.wide) trivial ?_⟩
      have hb := hbody k hk O A hlt hi
      refine hn0 (wpIn_mono hb ?_)
      rintro e a₁ W₁ hp
      cases e with
      | normal =>
        obtain ⟨e1, e2, hp⟩ := hp
        have hl1 : W₁.heap[w.heap.size + 1]? = some (.loop (rec .ready none)) := e1.trans hl
        have hlt1 := (Array.getElem?_eq_some_iff.1 hl1).1
        refine ⟨_, run_beginRound hl1 (by rw [hrec]), ?_⟩
        have hE : Ext (fun b => b = w.heap.size + 1) W₁ (W₁.putObj (w.heap.size + 1) (.loop { rec .ready none with state := .busy })) := (Ext.refl _ _).putObj _ _ (Or.inr rfl)
        have hl2 : (W₁.putObj (w.heap.size + 1) (.loop { rec .ready none with state := .busy })).heap[w.heap.size + 1]? = some (.loop { rec .ready none with state := .busy }) := World.putObj_heap_same hlt1
        have hd2 : (W₁.putObj (w.heap.size + 1) (.loop { rec .ready none with state := .busy })).heap[w.heap.size]? = some (.deferred (some [])) := ((World.putObj_heap_other (by omega)).trans e2).trans hd
        refine hn0 (wpIn_mono (hp _ hE ⟨_, hl2⟩) ?_)
        have fin : ∀ (jump : Option Code) (W3 : World), W3.heap[w.heap.size + 1]? = some (.loop { rec .ready none with state := .busy }) → W3.heap[w.heap.size]? = some (.deferred (some [])) →
            (Instr.endRound (w.heap.size + 1) jump).run P W3 = .ok (.bool jump.isNone) (W3.putObj (w.heap.size + 1) (.loop (rec (if jump.isNone then .ready else .done) jump))) ∧
            (W3.putObj (w.heap.size + 1) (.loop (rec (if jump.isNone then .ready else .done) jump))).heap[w.heap.size + 1]? = some (.loop (rec (if jump.isNone then .ready else .done) jump)) ∧
            (W3.putObj (w.heap.size + 1) (.loop (rec (if jump.isNone then .ready else .done) jump))).heap[w.heap.size]? = some (.deferred (some [])) ∧ w.heap.size + 1 < (W3.putObj (w.heap.size + 1) (.loop (rec (if jump.isNone then .ready else .done) jump))).heap.size := fun jump W3 hl3 hd3 => by
          have := run_endRound (P := P) jump hl3
          rw [hrec] at this ⊢
          exact ⟨this, World.putObj_heap_same (Array.getElem?_eq_some_iff.1 hl3).1, (World.putObj_heap_other (by omega)).trans hd3, by simpa using (Array.getElem?_eq_some_iff.1 hl3).1⟩
        have hput : ∀ (B : World) (o : Obj), Ext (fun b => X b ∨ b = w.heap.size + 1) B (B.putObj (w.heap.size + 1) o) := fun B o => (Ext.refl _ _).putObj _ _ (Or.inr (Or.inr rfl))
        rintro e a3 W3 hp
        cases e with
        | normal =>
          obtain ⟨h1, h2, ⟨O', h5, h6⟩, h3, h4⟩ := hp
          obtain ⟨hr, q1, q2, q3⟩ := fin none W3 (h1.trans hl2) (h2.trans hd2)
          refine ⟨_, _, hr, .inl ⟨rfl, ⟨O', ⟨hI _ _ _ _ h5 (hput _ _), q1, q2, q3⟩, h6⟩, ?_, ?_⟩⟩
          · simp only [World.putObj_size']; exact h3
          · intro i hi' hy'
            by_cases hil : i = w.heap.size + 1
            · subst hil
              exact q1.trans hl.symm
            · exact (World.putObj_heap_other (by omega)).trans (h4 i hi' hil hy')
        | ret =>
          obtain ⟨h1, h2, h5⟩ := hp
          obtain ⟨hr, q1, q2, q3⟩ := fin (some .ret) W3 (h1.trans hl2) (h2.trans hd2)
          exact ⟨_, _, hr, .inr ⟨rfl, .ret, hIx _ _ _ h5 (hput _ _), q1, q2, q3⟩⟩
        | exit id =>
          obtain ⟨h1, h2, h5⟩ := hp
          obtain ⟨hr, q1, q2, q3⟩ := fin (some (.exit id)) W3 (h1.trans hl2) (h2.trans hd2)
          exact ⟨_, _, hr, .inr ⟨rfl, .exit id, hIx _ _ _ h5 (hput _ _), q1, q2, q3⟩⟩
        | goto t =>
          obtain ⟨h1, h2, h5⟩ := hp
          obtain ⟨hr, q1, q2, q3⟩ := fin (some (.goto t)) W3 (h1.trans hl2) (h2.trans hd2)
          exact ⟨_, _, hr, .inr ⟨rfl, .goto t, hIx _ _ _ h5 (hput _ _), q1, q2, q3⟩⟩
        | panic ch => exact hp.elim
        | outgrown => exact hp.elim
      | exit id => exact hp.elim
      | goto t => exact hp.elim
      | ret => exact hp.elim
      | panic ch => exact hp.elim
      | outgrown => exact hp.elim
    · -- behind the iterator
      have hput : ∀ (B : World) (o : Obj), Ext (fun b => X b ∨ b = w.heap.size + 1) B (B.putObj (w.heap.size + 1) o) := fun B o => (Ext.refl _ _).putObj _ _ (Or.inr (Or.inr rfl))
      rintro e W2 ⟨⟨v, rfl⟩, (⟨O, hi, hl, hd, hlt⟩ | ⟨c, hi, hl, hd, hlt⟩)⟩
      · exact ⟨none, _, by have := run_endLoop (P := P) hl (by rw [hrec]; simp); rw [hrec] at this; exact this, hdone _ _ (hI _ _ _ _ hi (hput _ _)) ((World.putObj_heap_other (by omega)).trans hd)⟩
      · exact ⟨some c, _, by have := run_endLoop (P := P) hl (by rw [hrec]; simp); rw [hrec] at this; exact this, hstop c _ (hIx _ _ _ hi (hput _ _)) ((World.putObj_heap_other (by omega)).trans hd)⟩
end range2
end Go.Proofs.Kb
