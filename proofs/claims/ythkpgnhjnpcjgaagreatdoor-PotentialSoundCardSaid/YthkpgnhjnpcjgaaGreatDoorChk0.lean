/- Plain laws of the checker's two loops. -/
import Derived.Test.YthkpgnhjnpcjgaaGreatDoorOrder
import Derived.Test.YthkpgnhjnpcjgaaGreatDoorLeast
import Derived.Test.YthkpgnhjnpcjgaaGreatDoorMaps
namespace Pl

theorem rising_pre {p : Two} {bound : Int} : ∀ (l m : List Pot) (prev : Option Pot), rising p bound prev (l ++ m) = true → rising p bound prev l = true
  | [], _, _, _ => rfl
  | x :: l, m, prev, h => by
    simp only [List.cons_append, rising, Bool.and_eq_true] at h ⊢
    exact ⟨h.1, rising_pre l m _ h.2⟩

theorem rising_snoc {p : Two} {bound : Int} (x : Pot) : ∀ (l : List Pot) (prev : Option Pot),
    rising p bound prev (l ++ [x]) = (rising p bound prev l && (proper p x bound && (match (l.getLast?).or prev with | some y => decide (compare y x < 0) | none => true)))
  | [], prev => by cases prev <;> simp [rising]
  | y :: l, prev => by
    have ih := rising_snoc (p := p) (bound := bound) x l (some y)
    simp only [List.cons_append, rising, ih, Bool.and_assoc]
    have : ((y :: l).getLast?).or prev = (l.getLast?).or (some y) := by
      cases l with
      | nil => simp
      | cons z l =>
        rw [List.getLast?_cons_cons]
        cases h : (z :: l).getLast? with
        | none => simp at h
        | some w => simp
    rw [this]

theorem take_snoc {α : Type} {l : List α} {j : Nat} {x : α} (h : l[j]? = some x) : l.take (j + 1) = l.take j ++ [x] := by rw [List.take_add_one, h]; rfl

theorem rising_step {p : Two} {bound : Int} {l : List Pot} {j : Nat} {x : Pot} (h : l[j]? = some x) :
    rising p bound none (l.take (j + 1)) = (rising p bound none (l.take j) && (proper p x bound && (decide (j = 0) || decide (compare (l.getD (j - 1) x) x < 0)))) := by
  rw [take_snoc h, rising_snoc]
  congr 2
  have hj := (List.getElem?_eq_some_iff.1 h).1
  cases j with
  | zero => simp
  | succ j =>
    have h1 : (l.take (j + 1)).getLast? = some (l[j]) := by
      rw [List.getLast?_eq_getElem?, List.length_take]
      rw [show min (j + 1) l.length - 1 = j by omega]
      rw [List.getElem?_take]
      simp
    rw [h1]
    simp [List.getElem?_eq_getElem (show j < l.length by omega)]

theorem rising_take {p : Two} {bound : Int} {l : List Pot} (j : Nat) (h : rising p bound none l = true) : rising p bound none (l.take j) = true := by
  refine rising_pre (l.take j) (l.drop j) none ?_
  rw [List.take_append_drop]; exact h

theorem rising_pair {p : Two} {bound : Int} : ∀ (l : List Pot) (prev : Option Pot), rising p bound prev l = true → l.Pairwise (fun x y => compare x y < 0) ∧ ∀ y, prev = some y → ∀ x ∈ l, compare y x < 0
  | [], _, _ => ⟨.nil, fun _ _ _ h => by cases h⟩
  | x :: l, prev, h => by
    simp only [rising, Bool.and_eq_true] at h
    obtain ⟨h1, h2⟩ := rising_pair l (some x) h.2
    refine ⟨List.pairwise_cons.2 ⟨fun y hy => h2 x rfl y hy, h1⟩, ?_⟩
    rintro y rfl z hz
    have hyx : compare y x < 0 := by simpa using h.1.2
    rcases List.mem_cons.1 hz with rfl | hz
    · exact hyx
    · exact compare_trans hyx (h2 x rfl z hz)

theorem compare_self {x y : Pot} (h : x.state = y.state) : compare x y = 0 := by
  have h1 : x.i = y.i := congrArg State.i h
  have h2 : x.j = y.j := congrArg State.j h
  have h3 : x.ahead = y.ahead := congrArg State.ahead h
  have h4 : x.right = y.right := congrArg State.right h
  have hc : ∀ a : Int, cmpInt a a = 0 := fun a => by simp [cmpInt]
  have hs : ∀ a : Str, cmpStr a a = 0 := by
    intro a
    have := cmpStr_turn a a
    omega
  unfold compare
  rw [h1, h2, h3, h4, hc, hc, hs, hc]
  rfl

theorem rising_nodup {p : Two} {bound : Int} {l : List Pot} (h : rising p bound none l = true) : (l.map Pot.state).Nodup := by
  have h1 := (rising_pair l none h).1
  refine List.pairwise_map.2 (h1.imp fun hlt he => ?_)
  rw [compare_self he] at hlt
  omega

theorem heights_take (l : List Pot) (j : Nat) : heights (l.take j) = (heights l).take j := by simp [heights, List.map_take]

theorem heights_put {l : List Pot} {j : Nat} {x : Pot} (h : l[j]? = some x) (hn : ((l.take (j + 1)).map Pot.state).Nodup) : mput (heights (l.take j)) x.state x.h = heights (l.take (j + 1)) := by
  rw [take_snoc h] at hn ⊢
  rw [List.map_append, List.nodup_append] at hn
  have : ∀ e ∈ heights (l.take j), e.1 ≠ x.state := by
    intro e he heq
    obtain ⟨y, hy, rfl⟩ := List.mem_map.1 he
    exact hn.2.2 y.state (List.mem_map.2 ⟨y, hy, rfl⟩) x.state (by simp) heq
  rw [Go.Proofs.Kb.mput_new this]
  simp [heights]

/-- do all moves from an element lead to what is high enough? -/
def moveOk (p : Two) (l : List Pot) (s : State) (h : Int) : Bool := (moves p s).all fun m => decide (h ≤ m.1 + height l m.2)

theorem holds_eq (p : Two) (bound : Int) (l : List Pot) : holds p bound l = (rising p bound none l && (heights l).all (fun e => moveOk p l e.1 e.2) && decide (bound ≤ height l State.start)) := by
  unfold holds
  congr 2
  simp only [heights, List.all_map, Function.comp_def]
  rfl

theorem rising_low {p : Two} {bound : Int} {l : List Pot} (h : rising p bound none l = true) : ∀ x ∈ l, 0 < x.h ∧ x.h ≤ 100000 ∧ x.h ≤ bound ∧ OkState p x.state ∧ x.ahead.length ≤ 3 := by
  intro x hx
  have key : ∀ (l : List Pot) (prev : Option Pot), rising p bound prev l = true → ∀ e ∈ l, proper p e bound = true := by
    intro l
    induction l with
    | nil => intro _ _ _ h; cases h
    | cons y l ih =>
      intro prev h e he
      simp only [rising, Bool.and_eq_true] at h
      rcases List.mem_cons.1 he with rfl | he
      · exact h.1.1
      · exact ih _ h.2 e he
  have hp := key l none h x hx
  simp only [proper, Bool.and_eq_true, decide_eq_true_eq] at hp
  obtain ⟨⟨⟨⟨⟨⟨⟨⟨⟨h1, h2⟩, h3⟩, h4⟩, h5⟩, h6⟩, h7⟩, h8⟩, h9⟩, h10⟩ := hp
  exact ⟨h9, by omega, by omega, ⟨h1, h2, h3, h4⟩, h5⟩

theorem height_range {p : Two} {bound : Int} {l : List Pot} (h : rising p bound none l = true) (s : State) : 0 ≤ height l s ∧ height l s ≤ 100000 := by
  unfold height
  cases hg : mget (heights l) s with
  | none => simp
  | some v =>
    obtain ⟨x, hx, he⟩ := List.mem_map.1 (mget_in hg)
    simp only [Prod.mk.injEq] at he
    have := rising_low h x hx
    simp only [Option.getD_some]
    omega
end Pl
