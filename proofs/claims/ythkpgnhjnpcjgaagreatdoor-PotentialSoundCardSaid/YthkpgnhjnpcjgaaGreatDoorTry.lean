import Derived.Test.YthkpgnhjnpcjgaaGreatDoorLib
import Derived.Test.YthkpgnhjnpcjgaaGreatDoorShelf
import Derived.WalkKit
import Derived.WalkSpells
import Derived.WalkLawsBesides
import Derived.Lib.Hide
namespace Go.Proofs.Kb
open Go Go.RowKit Go.Lib Pl

theorem indexByte_any (s : ByteArray) (c : UInt8) (w : World) : Calls Tryz.prog 138 #[.string s, .int .u8 c.toNat] w fun e w' => e = .returned (.int .i64 (indexByte s.data.toList c)) ∧ w' = w := by
  refine (Tryz.strings_IndexByte s c.toNat w).mono ?_
  rintro e w' ⟨rfl, rfl⟩
  refine ⟨?_, rfl⟩
  rw [Int.toNat_natCast, show c.toNat.toUInt8 = c by simp]
theorem toLower_any (N : Nat) (s : ByteArray) (w : World) (hs : s.size < 35184372088832) (_hN : N ≤ w.heap.size) (hT : Tabs N w) : Calls Tryz.prog 69 #[.string s] w fun e w' => e = .returned (.string ⟨(toLowerD s.data.toList).toArray⟩) ∧ Ext none' w w' := by
  refine (Tryz.strings_ToLower_any s w hs hT.var hT.utf8).mono ?_
  rintro e w' ⟨rfl, h⟩
  exact ⟨rfl, Ext.of_below h _⟩

theorem isAt_out {s : List UInt8} {i : Nat} {set : List UInt8} (h : s.length ≤ i) : isAt s i set = false := by simp [isAt, List.getElem?_eq_none h]
theorem isAt_in {s : ByteArray} {i : Nat} {set : List UInt8} (h : i < s.size) : isAt s.data.toList i set = decide (0 ≤ indexByte set s[i]) := by
  have e : s.data.toList[i]? = some s[i] := by simp [ByteArray.getElem_eq_getElem_data, h]
  simp [isAt, e, isAt_index]

set_option maxHeartbeats 400000 in
theorem is_any (s set : ByteArray) (i : Int) (w : World) (h0 : 0 ≤ i) :
    Calls Tryz.prog 124 #[.string s, .int .i64 i, .string set] w fun e w' => e = .returned (.bool (isAt s.data.toList i.toNat set.data.toList)) ∧ w = w' := by
  obtain ⟨n, rfl⟩ := Int.eq_ofNat_of_zero_le h0
  rw [Int.toNat_natCast]
  by_cases h : n < s.size
  · rw [isAt_in h]
    go_enter Tryz.func124, Tryz.ntmps124
    go_wp2_with (go_at_call 138; refine (indexByte_any _ _ _).mono ?_; rintro e w' ⟨rfl, rfl⟩)
    go_ret
    exact ⟨rfl, rfl⟩
  · rw [isAt_out (by simpa using h)]
    go_enter Tryz.func124, Tryz.ntmps124
    go_wp2_with fail
    go_ret
    exact ⟨rfl, rfl⟩

theorem ret_int {k : IntKind} {a b : Int} (h : a = b) : Ending.returned (.int k a) = .returned (.int k b) := by rw [h]

theorem toLowerD_all : ∀ n : Fin 256, isAt (toLowerD [UInt8.ofNat n.val]) 0 smalls = isAt (lower [UInt8.ofNat n.val]) 0 smalls := by decide +kernel

theorem toLowerD_one (b : UInt8) : isAt (toLowerD [b]) 0 smalls = isAt (lower [b]) 0 smalls := by
  have h := toLowerD_all ⟨b.toNat, UInt8.toNat_lt b⟩
  simpa using h


theorem take1 (s : ByteArray) : (s.extract 0 1).data.toList = s.data.toList.take 1 := by simp [ByteArray.data_extract]

theorem isAt_lower (s : ByteArray) : isAt (toLowerD (s.data.toList.take 1)) 0 smalls = isAt (lower (s.data.toList.take 1)) 0 smalls := by
  cases h : s.data.toList with
  | nil => rfl
  | cons b l => exact toLowerD_one b


theorem take_min (s : ByteArray) : List.take (min 1 (s.size : Int)).toNat s.data.toList = s.data.toList.take 1 := by
  by_cases h : s.size = 0
  · have e : s.data.toList = [] := by
      have : s.data.toList.length = 0 := by simpa using h
      exact List.eq_nil_of_length_eq_zero this
    simp [e]
  · rw [show (min 1 (s.size : Int)).toNat = 1 by omega]

set_option maxHeartbeats 2000000 in
theorem length_any (N : Nat) (k : Int) (s : ByteArray) (w : World) (hs : s.size < 35184372088832) (hN : N ≤ w.heap.size) (hT : Tabs N w) :
    Calls Tryz.prog 105 #[.int .i64 k, .string s] w fun e w' => e = .returned (.int .i64 (lenL k s.data.toList)) ∧ Ext none' w w' := by
  by_cases h1 : k = 1
  · subst h1
    go_enter Tryz.func105, Tryz.ntmps105
    go_wp2_with (go_at_call 124; refine (is_any _ _ _ _ (by omega)).mono ?_; rintro e w' ⟨rfl, rfl⟩)
    all_goals (go_ret; refine ⟨ret_int ?_, Ext.refl _ _⟩; simp [lenL, smalls, *])
  by_cases h2 : k = 2
  · subst h2
    have hl := isAt_lower s
    rw [← take_min s] at hl
    have HL := Lib.hid hl
    have HT := Lib.hid (take_min s)
    clear hl
    have fin : ∀ (b1 b2 : Bool), isAt (toLowerD (List.take (min 1 (s.size : Int)).toNat s.data.toList)) 0 smalls = b1 → isAt s.data.toList 1 accents = b2 → lenL 2 s.data.toList = if b1 then (if b2 then 2 else 1) else 0 := by
      intro b1 b2 e1 e2
      rw [HL.out, HT.out] at e1
      simp [lenL, e1, e2]
    have FIN := Lib.hid fin
    clear fin
    by_cases hz : (s.size : Int) < 1
    · have e : s = ⟨#[]⟩ := by
        apply ByteArray.ext
        exact Array.eq_empty_of_size_eq_zero (by have : s.size = s.data.size := rfl; omega)
      subst e
      go_enter Tryz.func105, Tryz.ntmps105
      go_wp2_with (first | (go_at_call 124; refine (is_any _ _ _ _ (by omega)).mono ?_; rintro e w' ⟨rfl, rfl⟩) | (go_at_call 69; refine (toLower_any N _ _ (by decide) hN hT).mono ?_; rintro e w1 ⟨rfl, hE⟩))
      go_ret
      exact ⟨ret_int rfl, hE⟩
    · have hz' : (1 : Int) ≤ s.size := by omega
      go_enter Tryz.func105, Tryz.ntmps105
      go_wp2_with (first | (go_at_call 124; refine (is_any _ _ _ _ (by omega)).mono ?_; rintro e w' ⟨rfl, rfl⟩) | (go_at_call 69; refine (toLower_any N _ _ (by simp; omega) hN hT).mono ?_; rintro e w1 ⟨rfl, hE⟩))
      · have t1 := ‹(!isAt (toLowerD _) 0 _) = true›
        go_ret
        refine ⟨ret_int ?_, hE⟩
        rw [FIN.out _ _ (by simpa [smalls] using t1) rfl]; simp
      · have t1 := ‹(!isAt (toLowerD _) 0 _) = false›
        have t2 := ‹isAt _ 1 _ = true›
        go_ret
        refine ⟨ret_int ?_, hE⟩
        rw [FIN.out _ _ (by simpa [smalls] using t1) t2]; simp
      · have t1 := ‹(!isAt (toLowerD _) 0 _) = false›
        have t2 := ‹isAt _ 1 _ = false›
        go_ret
        refine ⟨ret_int ?_, hE⟩
        rw [FIN.out _ _ (by simpa [smalls] using t1) t2]; simp
  by_cases h3 : k = 3
  · subst h3
    go_enter Tryz.func105, Tryz.ntmps105
    go_wp2_with (go_at_call 124; refine (is_any _ _ _ _ (by omega)).mono ?_; rintro e w' ⟨rfl, rfl⟩)
    all_goals (go_ret; refine ⟨ret_int ?_, Ext.refl _ _⟩; simp [lenL, abjads, *])
  by_cases h4 : k = 4
  · subst h4
    go_enter Tryz.func105, Tryz.ntmps105
    go_wp2_with (go_at_call 124; refine (is_any _ _ _ _ (by omega)).mono ?_; rintro e w' ⟨rfl, rfl⟩)
    all_goals (go_ret; refine ⟨ret_int ?_, Ext.refl _ _⟩; first | (simp [lenL, consonants, vowels, nasal, *]; done) | (simp_all; done))
  · have g1 : (k == 1) = false := by simpa using h1
    have g2 : (k == 2) = false := by simpa using h2
    have g3 : (k == 3) = false := by simpa using h3
    have g4 : (k == 4) = false := by simpa using h4
    have e : lenL k s.data.toList = 0 := by simp [lenL, h1, h2, h3, h4]
    rw [e]
    clear e
    go_enter Tryz.func105, Tryz.ntmps105
    go_wp2_with fail
    go_ret
    exact ⟨rfl, Ext.refl _ _⟩
end Go.Proofs.Kb
