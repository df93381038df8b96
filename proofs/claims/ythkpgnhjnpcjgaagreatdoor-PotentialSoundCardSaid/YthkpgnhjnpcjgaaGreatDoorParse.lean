/- Plain laws: the letters of a word are found one after the other; a part of a word that is made of its letters has those letters. -/
import Derived.Test.YthkpgnhjnpcjgaaGreatDoorLeast
namespace Pl

inductive Parse (k : Int) : Str → List Str → Prop
  | nil : Parse k [] []
  | cons {s : Str} {l : List Str} (h : lenL k s ≠ 0) (hp : Parse k (s.drop (lenL k s)) l) : Parse k s (s.take (lenL k s) :: l)

theorem isAt_take (s : Str) (m i : Nat) (set : Str) : isAt (s.take m) i set = (decide (i < m) && isAt s i set) := by
  unfold isAt
  by_cases h : i < m
  · rw [List.getElem?_take_of_lt h]; simp [h]
  · rw [List.getElem?_eq_none (by simp; omega)]; simp [h]

theorem lower_take (s : Str) (m : Nat) : lower (s.take m) = (lower s).take m := by simp [lower, List.map_take]

theorem isAt_len {s : Str} {i : Nat} {set : Str} (h : isAt s i set = true) : i < s.length := by
  unfold isAt at h
  cases hs : s[i]? with
  | none => rw [hs] at h; simp at h
  | some c => exact (List.getElem?_eq_some_iff.1 hs).1

theorem lenL_two (k : Int) (s : Str) : lenL k s ≤ 2 := by
  unfold lenL
  repeat' split
  all_goals omega

theorem lenL_le' (k : Int) (s : Str) : lenL k s ≤ s.length := by
  have key2 : isAt (lower (s.take 1)) 0 smalls = true → 0 < s.length := by
    intro h
    cases s with
    | nil => simp [lower, isAt] at h
    | cons a l => simp
  unfold lenL
  repeat' split
  all_goals first
    | omega
    | (have := isAt_len (i := 0) ‹_›; omega)
    | (have := isAt_len (i := 1) ‹_›; omega)
    | (have := key2 ‹_›; omega)
    | (rename_i h; simp only [Bool.and_eq_true] at h; have := isAt_len (i := 1) h.2; omega)

/-- what is cut off behind a letter does not matter -/
theorem lenL_take (k : Int) (s : Str) (m : Nat) (hm : 0 < m) (h : lenL k s ≤ m) : lenL k (s.take m) = lenL k s := by
  have h1 : (s.take m).take 1 = s.take 1 := by rw [List.take_take, Nat.min_eq_left hm]
  have e0 : ∀ set, isAt (s.take m) 0 set = isAt s 0 set := fun set => by rw [isAt_take]; simp [hm]
  by_cases h2 : 2 ≤ m
  · have e1 : ∀ set, isAt (s.take m) 1 set = isAt s 1 set := fun set => by rw [isAt_take]; simp; omega
    unfold lenL
    simp only [e0, e1, h1]
  · obtain rfl : m = 1 := by omega
    have e1 : ∀ set, isAt (s.take 1) 1 set = false := fun set => by rw [isAt_take]; simp
    unfold lenL at h ⊢
    simp only [e0, e1, h1]
    repeat' split at h
    all_goals simp_all
    all_goals omega

theorem parse_flat {k : Int} {s : Str} {l : List Str} (h : Parse k s l) : l.flatten = s := by
  induction h with
  | nil => rfl
  | cons h _ ih => rw [List.flatten_cons, ih, List.take_append_drop]

theorem parse_some {k : Int} {s : Str} {l : List Str} (h : Parse k s l) : ∀ x ∈ l, x ≠ [] := by
  induction h with
  | nil => intro x hx; cases hx
  | @cons s l h _ ih =>
    intro x hx
    rcases List.mem_cons.1 hx with rfl | hx
    · have := lenL_le' k s
      intro e
      have := congrArg List.length e
      simp at this
      rcases this with h0 | h0
      · exact h h0
      · subst h0; simp at *; exact h (by omega)
    · exact ih x hx

theorem parse_det {k : Int} {s : Str} {l l' : List Str} (h : Parse k s l) : Parse k s l' → l = l' := by
  induction h generalizing l' with
  | nil =>
    intro h'
    cases h' with
    | nil => rfl
    | cons h _ => exact absurd (by simpa using lenL_le' k []) h
  | @cons s l h hp ih =>
    intro h'
    cases h' with
    | nil => exact absurd (by simpa using lenL_le' k []) h
    | cons _ hp' => rw [ih hp']

theorem parse_drop {k : Int} {s : Str} {l : List Str} (h : Parse k s l) : ∀ n, Parse k (l.drop n).flatten (l.drop n) := by
  induction h with
  | nil => intro n; simpa using Parse.nil
  | @cons s l h hp ih =>
    intro n
    cases n with
    | zero =>
      have := Parse.cons h hp
      rw [List.drop_zero, parse_flat this]
      exact this
    | succ n => simpa using ih n

theorem parse_take {k : Int} {s : Str} {l : List Str} (h : Parse k s l) : ∀ n, Parse k (l.take n).flatten (l.take n) := by
  induction h with
  | nil => intro n; simpa using Parse.nil
  | @cons s l h hp ih =>
    intro n
    cases n with
    | zero => simpa using Parse.nil
    | succ n =>
      have hle := lenL_le' k s
      have hfl := parse_flat hp
      have hn := ih n
      rw [List.take_succ_cons, List.flatten_cons]
      have hlen : (s.take (lenL k s)).length = lenL k s := by simp; omega
      have hk0 : lenL k (s.take (lenL k s) ++ (l.take n).flatten) = lenL k s := by
        have hs : s = s.take (lenL k s) ++ ((l.take n).flatten ++ (l.drop n).flatten) := by
          rw [← List.flatten_append, List.take_append_drop, hfl, List.take_append_drop]
        have hpre : s.take (lenL k s) ++ (l.take n).flatten = s.take (lenL k s + (l.take n).flatten.length) := by
          generalize s.take (lenL k s) = u at hs hlen ⊢
          generalize (l.take n).flatten = v at hs ⊢
          generalize (l.drop n).flatten = z at hs
          rw [← hlen]
          conv => rhs; rw [hs, ← List.append_assoc, ← List.length_append, List.take_left]
        rw [hpre]
        exact lenL_take k s _ (by omega) (by omega)
      generalize hu : s.take (lenL k s) = u at *
      have := Parse.cons (k := k) (s := u ++ (l.take n).flatten) (l := l.take n) (by rw [hk0]; exact h) (by
        rw [hk0, ← hlen, List.drop_left]; exact hn)
      rw [hk0, ← hlen, List.take_left] at this
      exact this

theorem lettersF_parse {k : Int} : ∀ (n : Nat) (s : Str), (lettersF k n s).2 = [] → Parse k s (lettersF k n s).1
  | 0, s, h => by simp only [lettersF] at h ⊢; subst h; exact Parse.nil
  | n + 1, s, h => by
    unfold lettersF at h ⊢
    by_cases h0 : lenL k s = 0
    · rw [if_pos h0] at h ⊢
      simp only at h ⊢
      subst h
      exact Parse.nil
    · rw [if_neg h0] at h ⊢
      simp only at h ⊢
      exact Parse.cons h0 (lettersF_parse n _ h)

theorem parse_lettersF {k : Int} {s : Str} {l : List Str} (h : Parse k s l) : ∀ n, l.length ≤ n → lettersF k n s = (l, []) := by
  induction h with
  | nil =>
    intro n _
    cases n with
    | zero => rfl
    | succ n => unfold lettersF; rw [if_pos (by simpa using lenL_le' k [])]
  | @cons s l h hp ih =>
    intro n hn
    cases n with
    | zero => simp at hn
    | succ n =>
      have := ih n (by simp at hn; omega)
      unfold lettersF
      rw [if_neg h, this]

theorem letters_parse {k : Int} {w : Str} {l : List Str} : Letters k w = some l ↔ Parse k w l ∧ l ≠ [] ∧ l.length ≤ 12 := by
  unfold Letters
  constructor
  · intro h
    simp only at h
    split at h
    · rename_i hc
      cases h
      exact ⟨lettersF_parse 13 w hc.1, hc.2.1, hc.2.2⟩
    · cases h
  · rintro ⟨h1, h2, h3⟩
    rw [parse_lettersF h1 13 (by omega)]
    simp [h2, h3]

theorem letters_word {k : Int} {x : Str} {l : List Str} (h : lettersOf k x = some l) : ∃ s, Letters k s = some l := by
  unfold lettersOf at h
  cases hf : Fold k x with
  | none => rw [hf] at h; cases h
  | some s => rw [hf] at h; exact ⟨s, h⟩

/-! what a text takes of letters -/

theorem takesR_some : ∀ (l : List Str) (s : Str), (takesR l s).2 = [] → (l.take (takesR l s).1).flatten = s
  | l, [] => fun _ => by cases l <;> simp [takesR]
  | [], c :: r => fun h => by simp [takesR] at h
  | x :: l, c :: r => fun h => by
    by_cases hx : x.isPrefixOf (c :: r) = true
    · rw [takesR_go (by simp) hx] at h ⊢
      simp only at h ⊢
      rw [List.take_succ_cons, List.flatten_cons, takesR_some l _ h]
      obtain ⟨d, hd⟩ := List.isPrefixOf_iff_prefix.1 hx
      rw [← hd]; simp
    · rw [takesR_stop (Or.inr (Or.inr (fun y m e => by cases e; exact Bool.eq_false_iff.2 hx)))] at h
      simp at h

theorem takes_flat {l : List Str} {s : Str} (h : takes l s ≠ 0) : (l.take (takes l s)).flatten = s := by
  unfold takes at h ⊢
  simp only at h ⊢
  split at h
  · rename_i h2
    rw [if_pos h2]
    exact takesR_some l s h2
  · exact absurd rfl h

theorem takesR_take : ∀ (l : List Str) (n : Nat), (∀ x ∈ l, x ≠ []) → n ≤ l.length → takesR l (l.take n).flatten = (n, [])
  | l, 0, _, _ => by cases l <;> simp [takesR]
  | [], n + 1, _, h => by simp at h
  | x :: l, n + 1, hne, h => by
    have hx := hne x (by simp)
    rw [List.take_succ_cons, List.flatten_cons]
    have := takesR_take l n (fun y hy => hne y (by simp [hy])) (by simpa using h)
    rw [takesR_go (by simp [hx]) (isPrefixOf_append _ _)]
    simp [this]

theorem takes_take {l : List Str} {n : Nat} (hne : ∀ x ∈ l, x ≠ []) (h : n ≤ l.length) : takes l (l.take n).flatten = n := by
  unfold takes
  rw [takesR_take l n hne h]
  simp

/-- A text with letters of its own takes just these, if they stand there. -/
theorem takes_letters {k : Int} {s text : Str} {l f : List Str} (hl : Parse k s l) (hf : Parse k text f) : takes l text = if l.take f.length = f then f.length else 0 := by
  by_cases h : l.take f.length = f
  · rw [if_pos h]
    have hle : f.length ≤ l.length := by have := congrArg List.length h; simp at this; omega
    have := takes_take (parse_some hl) hle
    rw [h, parse_flat hf] at this
    exact this
  · rw [if_neg h]
    by_cases h0 : takes l text = 0
    · exact h0
    · exfalso
      have hfl := takes_flat h0
      have hp := parse_take hl (takes l text)
      rw [hfl] at hp
      have he := parse_det hf hp
      have hle := takes_le l text
      refine h ?_
      rw [he]
      simp
end Pl
