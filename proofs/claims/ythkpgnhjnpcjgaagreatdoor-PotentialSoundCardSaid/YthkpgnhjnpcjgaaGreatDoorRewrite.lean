/- Packages script and rewrite: folding; what a table must meet, its parts. -/
import Derived.Test.YthkpgnhjnpcjgaaGreatDoorLetters
import Derived.Shelf.Strings.CaseAny
namespace Go.Proofs.Kb
open Go Go.RowKit Go.Lib Pl

theorem letters_yes (N : Nat) (k : Int) (s : ByteArray) (w : World) (l : List (List UInt8)) (hl : Letters k s.data.toList = some l) (hs : s.size < 35184372088832) (hN : N ≤ w.heap.size) (hT : Tabs N w) :
    Calls Tryz.prog 43 #[.int .i64 k, .string s] w fun e w' => ∃ v, e = .returned (.tuple #[v, .int .i64 0]) ∧ Ext none' w w' ∧ StrsNew w w' v l := by
  refine (letters_walk N k s w hs hN hT).mono ?_
  rintro e w' ⟨v, n, rfl, hE, h⟩
  rw [hl] at h
  obtain ⟨rfl, h⟩ := h
  exact ⟨v, rfl, hE, h⟩

theorem letters_no (N : Nat) (k : Int) (s : ByteArray) (w : World) (hl : Letters k s.data.toList = none) (hs : s.size < 35184372088832) (hN : N ≤ w.heap.size) (hT : Tabs N w) :
    Calls Tryz.prog 43 #[.int .i64 k, .string s] w fun e w' => e = .returned (.tuple #[.slice none 0 0, .int .i64 1]) ∧ Ext none' w w' := by
  refine (letters_walk N k s w hs hN hT).mono ?_
  rintro e w' ⟨v, n, rfl, hE, h⟩
  rw [hl] at h
  obtain ⟨rfl, rfl⟩ := h
  exact ⟨rfl, hE⟩

/-! a word is a text of small bytes -/

theorem isAt_low {s : List UInt8} {i : Nat} {set : List UInt8} (h : isAt s i set = true) (hset : set.all (fun c => decide (c.toNat < 128)) = true) : ∀ c, s[i]? = some c → c.toNat < 128 := by
  intro c hc
  unfold isAt at h
  rw [hc] at h
  have := List.all_eq_true.1 hset c (by simpa using h)
  simpa using this

theorem low_of_lower {c : UInt8} (h : isAt (lower [c]) 0 smalls = true) : c.toNat < 128 := by
  have h1 := isAt_low h (by decide) (lower1 c) (by simp [lower])
  unfold lower1 at h1
  by_cases hb : isBig c = true
  · simp only [isBig, Bool.and_eq_true, decide_eq_true_eq] at hb
    have := hb.2
    have : c.toNat ≤ 90 := by simpa [UInt8.le_iff_toNat_le] using this
    omega
  · rw [if_neg hb] at h1; exact h1

theorem take_low (k : Int) (s : List UInt8) : ∀ c ∈ s.take (lenL k s), c.toNat < 128 := by
  have one0 : ∀ set : List UInt8, isAt s 0 set = true → set.all (fun c => decide (c.toNat < 128)) = true → ∀ c ∈ s.take 1, c.toNat < 128 := by
    intro set h hset c hc
    cases s with
    | nil => simp at hc
    | cons a t => simp at hc; subst hc; exact isAt_low h hset _ rfl
  have two0 : ∀ set : List UInt8, (∀ c ∈ s.take 1, c.toNat < 128) → isAt s 1 set = true → set.all (fun c => decide (c.toNat < 128)) = true → ∀ c ∈ s.take 2, c.toNat < 128 := by
    intro set h1 h hset c hc
    cases s with
    | nil => simp at hc
    | cons a t =>
      cases t with
      | nil => simp at hc; subst hc; exact h1 _ (by simp)
      | cons b t =>
        simp at hc
        rcases hc with rfl | rfl
        · exact h1 _ (by simp)
        · exact isAt_low h hset _ rfl
  have lo1 : isAt (lower (s.take 1)) 0 smalls = true → ∀ c ∈ s.take 1, c.toNat < 128 := by
    intro h c hc
    cases s with
    | nil => simp at hc
    | cons a t => simp at hc; subst hc; exact low_of_lower h
  intro c hc
  unfold lenL at hc
  repeat' split at hc
  all_goals first
    | (simp at hc; done)
    | exact one0 _ ‹_› (by decide) c hc
    | exact two0 _ (lo1 ‹_›) ‹_› (by decide) c hc
    | exact lo1 ‹_› c hc
    | (rename_i h; simp only [Bool.and_eq_true] at h; exact two0 _ (one0 _ h.1 (by decide)) h.2 (by decide) c hc)

theorem flatten_low (k : Int) : ∀ (n : Nat) (s : List UInt8), ∀ c ∈ (lettersF k n s).1.flatten, c.toNat < 128
  | 0, s, c, hc => by simp [lettersF] at hc
  | n + 1, s, c, hc => by
    unfold lettersF at hc
    by_cases h : lenL k s = 0
    · simp [h] at hc
    · simp only [h, if_false, List.flatten_cons, List.mem_append] at hc
      rcases hc with hc | hc
      · exact take_low k s c hc
      · exact flatten_low k n _ c hc

theorem lettersF_join (k : Int) : ∀ (n : Nat) (s : List UInt8), (lettersF k n s).1.flatten ++ (lettersF k n s).2 = s
  | 0, s => by simp [lettersF]
  | n + 1, s => by
    unfold lettersF
    by_cases h : lenL k s = 0
    · simp [h]
    · simp only [h, if_false, List.flatten_cons, List.append_assoc, lettersF_join k n]
      exact List.take_append_drop _ _

theorem Letters_join {k : Int} {s : List UInt8} {l : List (List UInt8)} (h : Letters k s = some l) : l.flatten = s := by
  unfold Letters at h
  simp only at h
  split at h
  · rename_i hc
    cases h
    have := lettersF_join k 13 s
    rw [hc.1, List.append_nil] at this
    exact this
  · cases h

theorem word_low {k : Int} {s : List UInt8} {l : List (List UInt8)} (h : Letters k s = some l) : ∀ c ∈ s, c.toNat < 128 := by
  have hj := Letters_join h
  have h2 : l = (lettersF k 13 s).1 := by
    unfold Letters at h
    simp only at h
    split at h
    · cases h; rfl
    · cases h
  intro c hc
  rw [← hj, h2] at hc
  exact flatten_low k 13 s c hc

theorem lower_same {s : List UInt8} (h : ∀ c ∈ s, c.toNat < 128) : toLowerD s = lower s := by
  rw [toLowerD_ascii s h]
  unfold toLowerA lower
  refine List.map_congr_left fun c _ => ?_
  unfold lowerB lower1
  have e : isUpperB c = isBig c := by
    unfold isUpperB isBig
    rfl
  rw [e]

set_option maxRecDepth 100000 in
set_option maxHeartbeats 1000000 in
theorem fold_yes (N : Nat) (k : Int) (s : ByteArray) (w : World) (l : List (List UInt8)) (hl : Letters k s.data.toList = some l) (hs : s.size < 35184372088832) (hN : N ≤ w.heap.size) (hT : Tabs N w) :
    Calls Tryz.prog 42 #[.int .i64 k, .string s] w fun e w' => e = .returned (.tuple #[.string ⟨(lower s.data.toList).toArray⟩, .int .i64 0]) ∧ Ext none' w w' := by
  have e1 := lower_same (word_low hl)
  have HL := Lib.hid hl
  clear hl
  rw [← e1]
  clear e1
  go_enter Tryz.func42, Tryz.ntmps42
  go_wp2_with fail
  refine (letters_yes N k s w l HL.out hs hN hT).mono ?_
  rintro e w1 ⟨v, rfl, hE, -⟩
  go_wp2_with fail
  refine (toLower_any N s w1 hs (Nat.le_trans hN hE.size) (hT.keep (hE.same0 hN))).mono ?_
  rintro e w2 ⟨rfl, hE2⟩
  go_wp2_with fail
  go_ret2
  exact ⟨rfl, hE.trans hE2⟩

set_option maxRecDepth 100000 in
set_option maxHeartbeats 1000000 in
theorem fold_no (N : Nat) (k : Int) (s : ByteArray) (w : World) (hl : Letters k s.data.toList = none) (hs : s.size < 35184372088832) (hN : N ≤ w.heap.size) (hT : Tabs N w) :
    Calls Tryz.prog 42 #[.int .i64 k, .string s] w fun e w' => e = .returned (.tuple #[.string ⟨#[]⟩, .int .i64 1]) ∧ Ext none' w w' := by
  have HL := Lib.hid hl
  clear hl
  go_enter Tryz.func42, Tryz.ntmps42
  go_wp2_with fail
  refine (letters_no N k s w HL.out hs hN hT).mono ?_
  rintro e w1 ⟨rfl, hE⟩
  go_wp2_with fail
  go_ret2
  exact ⟨rfl, hE⟩

theorem lower_size (s : ByteArray) (hs : s.size < 35184372088832) : (⟨(lower s.data.toList).toArray⟩ : ByteArray).size < 35184372088832 := by
  show (lower s.data.toList).toArray.size < _
  rw [List.size_toArray]
  unfold lower
  rw [List.length_map, Array.length_toList]
  exact hs

/-- the letters of the folded form -/
theorem lettersOf_yes (N : Nat) (k : Int) (s : ByteArray) (w : World) (l : List (List UInt8)) (hl : lettersOf k s.data.toList = some l) (hs : s.size < 35184372088832) (hN : N ≤ w.heap.size) (hT : Tabs N w) :
    Calls Tryz.prog 45 #[.int .i64 k, .string s] w fun e w' => ∃ v, e = .returned (.tuple #[v, .bool true]) ∧ Ext none' w w' ∧ StrsNew w w' v l := by
  unfold lettersOf Fold at hl
  cases hq : Letters k s.data.toList with
  | none => rw [hq] at hl; simp at hl
  | some q =>
    rw [hq] at hl
    simp only [Option.isSome_some, if_true, Option.bind_some] at hl
    have HL := Lib.hid hl
    have HQ := Lib.hid hq
    clear hl hq
    go_enter Tryz.func45, Tryz.ntmps45
    go_wp2_with fail
    refine (fold_yes N k s w q HQ.out hs hN hT).mono ?_
    rintro e w1 ⟨rfl, hE⟩
    go_wp2_with fail
    refine (letters_yes N k _ w1 l HL.out (lower_size s hs) (Nat.le_trans hN hE.size) (hT.keep (hE.same0 hN))).mono ?_
    rintro e w2 ⟨v, rfl, hE2, hv⟩
    go_wp2_with fail
    go_ret2
    exact ⟨v, rfl, hE.trans hE2, hv.1, hv.2.mono hE.size⟩

theorem lettersOf_no (N : Nat) (k : Int) (s : ByteArray) (w : World) (hl : lettersOf k s.data.toList = none) (hs : s.size < 35184372088832) (hN : N ≤ w.heap.size) (hT : Tabs N w) :
    Calls Tryz.prog 45 #[.int .i64 k, .string s] w fun e w' => ∃ v, e = .returned (.tuple #[v, .bool false]) ∧ Ext none' w w' ∧ StrsNew w w' v [] := by
  have hnil : ∀ w' : World, StrsNew w w' (.slice none 0 0) [] := fun w' => ⟨⟨none, 0, rfl, by simp, by unfold maxLen; omega, fun h => absurd rfl h⟩, NewSl.none _ _ _⟩
  unfold lettersOf Fold at hl
  cases hq : Letters k s.data.toList with
  | none =>
    have HQ := Lib.hid hq
    clear hl hq
    have e0 : Letters k (⟨#[]⟩ : ByteArray).data.toList = none := by simp [Letters, lettersF, lenL, isAt, lower]
    have H0 := Lib.hid e0
    clear e0
    go_enter Tryz.func45, Tryz.ntmps45
    go_wp2_with fail
    refine (fold_no N k s w HQ.out hs hN hT).mono ?_
    rintro e w1 ⟨rfl, hE⟩
    go_wp2_with fail
    refine (letters_no N k _ w1 H0.out (by decide) (Nat.le_trans hN hE.size) (hT.keep (hE.same0 hN))).mono ?_
    rintro e w2 ⟨rfl, hE2⟩
    go_wp2_with fail
    go_ret2
    exact ⟨_, rfl, hE.trans hE2, hnil _⟩
  | some q =>
    rw [hq] at hl
    simp only [Option.isSome_some, if_true, Option.bind_some] at hl
    have HL := Lib.hid hl
    have HQ := Lib.hid hq
    clear hl hq
    go_enter Tryz.func45, Tryz.ntmps45
    go_wp2_with fail
    refine (fold_yes N k s w q HQ.out hs hN hT).mono ?_
    rintro e w1 ⟨rfl, hE⟩
    go_wp2_with fail
    refine (letters_no N k _ w1 HL.out (lower_size s hs) (Nat.le_trans hN hE.size) (hT.keep (hE.same0 hN))).mono ?_
    rintro e w2 ⟨rfl, hE2⟩
    go_wp2_with fail
    go_ret2
    exact ⟨_, rfl, hE.trans hE2, hnil _⟩
end Go.Proofs.Kb
