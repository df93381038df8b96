/- customhouselaw12.rest: what is left of a word. -/
import Derived.Test.YthkpgnhjnpcjgaaGreatDoorLawB
namespace Go.Proofs.Kb
open Go Go.RowKit Go.Lib Pl
attribute [local go_sem] Oper.semAt_some run_makeMap

theorem cat_data (m x : List UInt8) : (⟨m.toArray⟩ : ByteArray) ++ (⟨x.toArray⟩ : ByteArray) = ⟨(m ++ x).toArray⟩ := by
  apply ByteArray.ext
  simp

set_option maxRecDepth 100000 in
set_option maxHeartbeats 2000000 in
theorem rest_yes (N : Nat) (k : Int) (s : ByteArray) (w : World) (l : List (List UInt8)) (hl : lettersOf k s.data.toList = some l) (hs : s.size < 35184372088832) (hfl : l.flatten.length ≤ 35184372088832) (n : Nat) (hn : n ≤ l.length) (hN : N ≤ w.heap.size) (hT : Tabs N w) :
    Calls Tryz.prog 20 #[.int .i64 k, .string s, .int .i64 (n : Nat)] w fun e w' => e = .returned (.tuple #[.string ⟨(if n < l.length then (l.drop n).flatten else []).toArray⟩, .bool (decide (n < l.length))]) ∧ Ext none' w w' := by
  obtain ⟨res, hres⟩ : ∃ res, res = if n < l.length then (l.drop n).flatten else [] := ⟨_, rfl⟩
  obtain ⟨bres, hbres⟩ : ∃ bres, bres = decide (n < l.length) := ⟨_, rfl⟩
  rw [← hres, ← hbres]
  have HR := Lib.hid hres
  have HB := Lib.hid hbres
  clear hres hbres
  unfold lettersOf Fold at hl
  cases hq : Letters k s.data.toList with
  | none => rw [hq] at hl; simp at hl
  | some q =>
    rw [hq] at hl
    simp only [Option.isSome_some, if_true, Option.bind_some] at hl
    have HL := Lib.hid hl
    have HQ := Lib.hid hq
    clear hl hq
    go_enter Tryz.func20, Tryz.ntmps20
    go_wp2_with fail
    refine (fold_yes N k s w q HQ.out hs hN hT).mono ?_
    rintro e w1 ⟨rfl, hE⟩
    go_wp2_with fail
    refine (letters_yes N k _ w1 l HL.out (lower_size s hs) (Nat.le_trans hN hE.size) (hT.keep (hE.same0 hN))).mono ?_
    rintro e w2 ⟨v, rfl, hE2, hv, -⟩
    obtain ⟨a, cap, rfl, hc, hm, hr⟩ := hv
    have hlen : l.length ≤ 9223372036854775807 := by unfold maxLen at hm; omega
    have HE := Lib.hid (hE.trans hE2)
    by_cases hlt : n < l.length
    · have h1 := HR.out
      have h2 := HB.out
      rw [if_pos hlt] at h1
      rw [show decide (n < l.length) = true by simpa using hlt] at h2
      have H1 := Lib.hid h1
      have H2 := Lib.hid h2
      clear h1 h2
      have b1 : decide ((l.length : Int) ≤ (n : Int)) = false := by simpa using hlt
      go_wp2_with fail
      go_loop [12, 13] (fun t i => ∃ (m : List UInt8) (j : Nat), t = .string ⟨m.toArray⟩ ∧ i = .int .i64 j ∧ j ≤ l.length ∧ m ++ (l.drop j).flatten = (l.drop n).flatten) (fun _ i => l.length - (intOf i).toNat)
      case atStart => exact ⟨[], n, rfl, rfl, by omega, rfl⟩
      case round =>
        obtain ⟨m, j, rfl, rfl, hj, hA⟩ := hrel
        have HA := Lib.hid hA
        clear hA
        by_cases hjl : j < l.length
        · obtain ⟨x, hd⟩ : ∃ x, l[j]? = some x := ⟨_, List.getElem?_eq_getElem hjl⟩
          obtain ⟨b, o, rfl, hb, hcell⟩ := hr (by intro e; rw [e] at hjl; simp at hjl)
          have c0 : w2.cell? ⟨b, o + j, none⟩ = some (.string ⟨x.toArray⟩) := hcell j x hd
          have hdrop : l.drop j = x :: l.drop (j + 1) := by
            rw [List.drop_eq_getElem_cons hjl]
            rw [List.getElem?_eq_getElem hjl] at hd
            cases hd
            rfl
          have hA2 : (m ++ x) ++ (l.drop (j + 1)).flatten = (l.drop n).flatten := by
            rw [List.append_assoc, ← List.flatten_cons, ← hdrop]; exact HA.out
          have hlm : m.length + x.length ≤ 9223372036854775807 := by
            have h1 := congrArg List.length hA2
            have h2 : (l.drop n).flatten.length ≤ l.flatten.length := by
              conv => rhs; rw [← List.take_append_drop n l]
              rw [List.flatten_append, List.length_append]
              omega
            simp only [List.length_append] at h1
            omega
          have hcat := cat_data m x
          have HA2 := Lib.hid hA2
          clear hdrop hcell hr hA2
          go_wp2_with fail
          exact ⟨⟨m ++ x, j + 1, rfl, rfl, by omega, HA2.out⟩, by simp only [intOf]; omega⟩
        · obtain rfl : j = l.length := by omega
          have hA := HA.out
          rw [List.drop_eq_nil_of_le (Nat.le_refl _), List.flatten_nil, List.append_nil] at hA
          have HA3 := Lib.hid hA
          clear hA
          go_wp2_with fail
          go_ret2
          exact ⟨by rw [H1.out, H2.out, ← HA3.out]; rfl, HE.out⟩
    · have h1 := HR.out
      have h2 := HB.out
      rw [if_neg hlt] at h1
      rw [show decide (n < l.length) = false by simpa using hlt] at h2
      have H1 := Lib.hid h1
      have H2 := Lib.hid h2
      clear h1 h2
      have b1 : decide ((l.length : Int) ≤ (n : Int)) = true := by simpa using hlt
      go_wp2_with fail
      go_ret2
      exact ⟨by rw [H1.out, H2.out]; rfl, HE.out⟩
end Go.Proofs.Kb
