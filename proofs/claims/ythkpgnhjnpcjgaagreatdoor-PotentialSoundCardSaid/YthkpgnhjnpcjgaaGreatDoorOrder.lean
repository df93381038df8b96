/- Plain laws of the order of states: it is total, and what is sorted by it is one list. -/
import Derived.Test.YthkpgnhjnpcjgaaGreatDoorPl
import Derived.Sort.Statements
import Derived.Shelf.SlSortCmp.Insertion
namespace Pl

instance : Inhabited Pot := ⟨⟨0, 0, [], false, 0⟩⟩

/-- comparisons that fit together -/
structure Fit {α : Type} (c : α → α → Int) : Prop where
  turn : ∀ x y, c x y < 0 ↔ 0 < c y x
  trans : ∀ x y z, c x y ≤ 0 → c y z ≤ 0 → c x z ≤ 0

theorem Fit.zero {α : Type} {c : α → α → Int} (h : Fit c) (x y : α) : c x y = 0 ↔ c y x = 0 := by
  have h1 := h.turn x y
  have h2 := h.turn y x
  constructor <;> intro e <;> omega

theorem Fit.lex {α : Type} {c d : α → α → Int} (h : Fit c) (k : Fit d) : Fit (fun x y => orI (c x y) (d x y)) where
  turn := by
    intro x y
    have h1 := h.turn x y
    have h2 := h.turn y x
    have h3 := k.turn x y
    unfold orI
    split <;> split <;> omega
  trans := by
    intro x y z
    have h1 := h.trans x y z
    have h2 := k.trans x y z
    have h3 := h.turn x y
    have h4 := h.turn y x
    have h5 := h.turn y z
    have h6 := h.turn z y
    have h7 := h.trans y z x
    have h8 := h.trans z x y
    have h9 := h.turn x z
    have h10 := h.turn z x
    unfold orI
    split <;> split <;> split <;> omega

theorem Fit.int {α : Type} (f : α → Int) : Fit (fun x y => cmpInt (f x) (f y)) where
  turn := by intro x y; unfold cmpInt; split <;> split <;> (try split) <;> omega
  trans := by intro x y z; unfold cmpInt; (repeat' split) <;> omega

theorem cmpStr_turn : ∀ a b : Str, cmpStr a b < 0 ↔ 0 < cmpStr b a
  | [], [] => by decide
  | [], _ :: _ => by simp [cmpStr]
  | _ :: _, [] => by simp [cmpStr]
  | a :: l, b :: m => by
    have ih := cmpStr_turn l m
    simp only [cmpStr]
    by_cases h1 : a < b
    · have h2 : ¬ b < a := fun h => absurd (UInt8.lt_trans h1 h) (UInt8.lt_irrefl a)
      simp [h1, h2]
    · by_cases h2 : b < a
      · simp [h1, h2]
      · simp [h1, h2, ih]

theorem u8_eq {a b : UInt8} (h1 : ¬ a < b) (h2 : ¬ b < a) : a = b := by
  apply UInt8.toNat_inj.1
  rw [UInt8.lt_iff_toNat_lt] at h1 h2
  omega

theorem cmpStr_trans : ∀ a b c : Str, cmpStr a b ≤ 0 → cmpStr b c ≤ 0 → cmpStr a c ≤ 0
  | [], _, [] => by simp [cmpStr]
  | [], _, _ :: _ => by simp [cmpStr]
  | _ :: _, [], _ => by simp [cmpStr]
  | _ :: _, _ :: _, [] => by simp [cmpStr]
  | a :: l, b :: m, c :: n => by
    have ih := cmpStr_trans l m n
    simp only [cmpStr]
    intro h1 h2
    by_cases ab : a < b
    · by_cases bc : b < c
      · simp [UInt8.lt_trans ab bc]
      · by_cases cb : c < b
        · simp [bc, cb] at h2
        · have := u8_eq bc cb
          subst this
          simp [ab]
    · by_cases ba : b < a
      · simp [ab, ba] at h1
      · have := u8_eq ab ba
        subst this
        by_cases bc : a < c
        · simp [bc]
        · by_cases cb : c < a
          · simp [bc, cb] at h2
          · simp [bc, cb, ab] at h1 h2 ⊢
            exact ih h1 h2

theorem Fit.str {α : Type} (f : α → Str) : Fit (fun x y => cmpStr (f x) (f y)) := ⟨fun _ _ => cmpStr_turn _ _, fun _ _ _ => cmpStr_trans _ _ _⟩

theorem fit_compare : Fit compare := by
  unfold compare
  exact (Fit.int Pot.i).lex ((Fit.int Pot.j).lex ((Fit.str Pot.ahead).lex (Fit.int fun x : Pot => bit x.right)))

theorem cmpInt_zero {a b : Int} (h : cmpInt a b = 0) : a = b := by
  unfold cmpInt at h
  (repeat' split at h) <;> omega

theorem cmpStr_zero : ∀ {a b : Str}, cmpStr a b = 0 → a = b
  | [], [], _ => rfl
  | [], _ :: _, h => by simp [cmpStr] at h
  | _ :: _, [], h => by simp [cmpStr] at h
  | a :: l, b :: m, h => by
    simp only [cmpStr] at h
    by_cases h1 : a < b
    · simp [h1] at h
    · by_cases h2 : b < a
      · simp [h1, h2] at h
      · simp [h1, h2] at h
        rw [u8_eq h1 h2, cmpStr_zero h]

theorem orI_zero {a b : Int} (h : orI a b = 0) : a = 0 ∧ b = 0 := by
  unfold orI at h
  split at h
  · exact ⟨by assumption, h⟩
  · exact absurd h (by assumption)

theorem compare_zero {x y : Pot} (h : compare x y = 0) : x.state = y.state := by
  obtain ⟨h1, h⟩ := orI_zero h
  obtain ⟨h2, h⟩ := orI_zero h
  obtain ⟨h3, h4⟩ := orI_zero h
  have h4 := cmpInt_zero h4
  unfold Pot.state
  rw [cmpInt_zero h1, cmpInt_zero h2, cmpStr_zero h3]
  have : x.right = y.right := by
    cases hx : x.right <;> cases hy : y.right <;> simp [hx, hy, bit] at h4 <;> rfl
  rw [this]

open Go.Sort in
theorem Fit.swo {α : Type} [Inhabited α] {c : α → α → Int} (h : Fit c) : SWO (Go.Proofs.ltOf c) where
  irrefl x := by
    have := h.turn x x
    simp only [Go.Proofs.ltOf, decide_eq_false_iff_not]
    omega
  trans x y z h1 h2 := by
    simp only [Go.Proofs.ltOf, decide_eq_true_eq] at *
    have := h.trans x y z
    have := h.trans y z x
    have := h.turn x y
    have := h.turn x z
    have := h.turn z x
    omega
  ntrans x y z h1 h2 := by
    simp only [Go.Proofs.ltOf, decide_eq_false_iff_not] at *
    have := h.trans z y x
    have := h.turn x y
    have := h.turn y z
    have := h.turn x z
    have := h.turn y x
    have := h.turn z y
    have := h.turn z x
    omega

/-! one sorted list -/

theorem pairwise_eq : ∀ {l1 l2 : List Pot}, l1.Perm l2 → l1.Pairwise (fun x y => compare x y < 0) → l2.Pairwise (fun x y => compare x y < 0) → l1 = l2
  | [], l2, hp, _, _ => (List.Perm.nil_eq hp)
  | x :: l1, l2, hp, h1, h2 => by
    cases l2 with
    | nil => exact absurd hp.symm.nil_eq (by simp)
    | cons y l2 =>
      have hxy : x = y := by
        have hx : x ∈ y :: l2 := hp.mem_iff.1 (by simp)
        have hy : y ∈ x :: l1 := hp.mem_iff.2 (by simp)
        rcases List.mem_cons.1 hx with e | hx
        · exact e
        · rcases List.mem_cons.1 hy with e | hy
          · exact e.symm
          · have a := (List.pairwise_cons.1 h1).1 y hy
            have b := (List.pairwise_cons.1 h2).1 x hx
            have := (fit_compare.turn x y).1 a
            omega
      subst hxy
      rw [pairwise_eq (List.Perm.cons_inv hp) (List.pairwise_cons.1 h1).2 (List.pairwise_cons.1 h2).2]

theorem insertP_perm (x : Pot) : ∀ l : List Pot, (insertP x l).Perm (x :: l)
  | [] => .refl _
  | y :: l => by
    unfold insertP
    split
    · exact .refl _
    · exact ((insertP_perm x l).cons y).trans (.swap x y l)

theorem sortP_perm : ∀ l : List Pot, (sortP l).Perm l
  | [] => .refl _
  | x :: l => by
    have := sortP_perm l
    simp only [sortP, List.foldr_cons] at this ⊢
    exact (insertP_perm x _).trans (this.cons x)

theorem lt_of_not {x y : Pot} (h : ¬ compare x y < 0) (hne : x.state ≠ y.state) : compare y x < 0 := by
  have := (fit_compare.turn y x)
  have h0 : compare x y ≠ 0 := fun e => hne (compare_zero e)
  omega

theorem compare_trans {x y z : Pot} (h1 : compare x y < 0) (h2 : compare y z < 0) : compare x z < 0 := by
  have := fit_compare.trans x y z (by omega) (by omega)
  have h3 := fit_compare.turn x z
  have h4 := fit_compare.turn z x
  have h5 := fit_compare.turn x y
  have := fit_compare.trans y z x (by omega)
  omega

theorem insertP_sorted (x : Pot) : ∀ l : List Pot, (∀ y ∈ l, x.state ≠ y.state) → l.Pairwise (fun x y => compare x y < 0) → (insertP x l).Pairwise (fun x y => compare x y < 0)
  | [], _, _ => by simp [insertP]
  | y :: l, hne, h => by
    unfold insertP
    have h' := List.pairwise_cons.1 h
    split
    · rename_i hc
      refine List.pairwise_cons.2 ⟨fun z hz => ?_, h⟩
      rcases List.mem_cons.1 hz with rfl | hz
      · exact hc
      · exact compare_trans hc (h'.1 z hz)
    · rename_i hc
      refine List.pairwise_cons.2 ⟨fun z hz => ?_, insertP_sorted x l (fun z hz => hne z (by simp [hz])) h'.2⟩
      rcases List.mem_cons.1 ((insertP_perm x l).mem_iff.1 hz) with rfl | hz
      · exact lt_of_not hc (hne y (by simp))
      · exact h'.1 z hz

theorem sortP_sorted : ∀ l : List Pot, (l.map Pot.state).Nodup → (sortP l).Pairwise (fun x y => compare x y < 0)
  | [], _ => by simp [sortP]
  | x :: l, h => by
    rw [List.map_cons, List.nodup_cons] at h
    have ih := sortP_sorted l h.2
    have hp := sortP_perm l
    simp only [sortP, List.foldr_cons] at ih hp ⊢
    refine insertP_sorted x _ (fun y hy e => h.1 ?_) ih
    rw [e]
    exact List.mem_map.2 ⟨y, hp.mem_iff.1 hy, rfl⟩

theorem sortP_unique {l l' : List Pot} (hp : l'.Perm l) (hn : (l.map Pot.state).Nodup) (hs : l'.Pairwise (fun x y => ¬ compare y x < 0)) : l' = sortP l := by
  have hn' : (l'.map Pot.state).Nodup := (hp.map _).nodup_iff.2 hn
  refine pairwise_eq (hp.trans (sortP_perm l).symm) ?_ (sortP_sorted l hn)
  have h2 : l'.Pairwise (fun x y => x.state ≠ y.state) := List.pairwise_map.1 hn'
  exact (hs.and h2).imp (fun ⟨a, b⟩ => lt_of_not a (fun e => b e.symm))

theorem potsOf_states (bound : Int) : ∀ m : Memo, (m.map (·.1)).Nodup → ((potsOf bound m).map Pot.state).Nodup ∧ ∀ s ∈ (potsOf bound m).map Pot.state, s ∈ m.map (·.1)
  | [], _ => by simp [potsOf]
  | e :: m, h => by
    rw [List.map_cons, List.nodup_cons] at h
    obtain ⟨h1, h2⟩ := potsOf_states bound m h.2
    unfold potsOf at h1 h2 ⊢
    rw [List.filterMap_cons]
    split
    · exact ⟨h1, fun s hs => by simp [h2 s hs]⟩
    · rename_i q hq
      split at hq
      · cases hq
        rw [List.map_cons, List.nodup_cons]
        refine ⟨⟨fun hm => h.1 (h2 _ hm), h1⟩, fun s hs => ?_⟩
        rcases List.mem_cons.1 hs with rfl | hs
        · simp [Pot.state]
        · simp [h2 s hs]
      · cases hq
end Pl
