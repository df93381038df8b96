/- Package script: letters of a text, handed out one after the other. -/
import Derived.Test.YthkpgnhjnpcjgaaGreatDoorTry
import Derived.Test.YthkpgnhjnpcjgaaGreatDoorMaps
import Derived.Test.YthkpgnhjnpcjgaaGreatDoorRegion
import Derived.OwnWalkIn
import Derived.TacticsInMore
import Derived.LoopNIn
import Derived.LoopIn
import Derived.RangeFuncLeaves
import Derived.RangeFuncNested
import Derived.Lib.IndexBytes
import Derived.Lib.Strings
import Derived.Outline
namespace Go.Proofs.Kb
open Go Go.RowKit Go.Lib Pl
attribute [local go_sem] Oper.semAt_some

set_option maxRecDepth 100000 in
theorem letters_any (k : Int) (s : ByteArray) (w : World) :
    Calls Tryz.prog 70 #[.int .i64 k, .string s] w fun e w' =>
      e = .returned (.func (.func 104) #[] #[.pointer (some ⟨w.heap.size, 0, none⟩), .pointer (some ⟨w.heap.size + 1, 0, none⟩)]) ∧
      w' = (w.alloc (.cells #[.int .i64 k] 3)).alloc (.cells #[.string s] 9) := by
  go_enter Tryz.func70, Tryz.ntmps70
  go_wp2_with fail
  go_ret
  exact ⟨rfl, rfl⟩

/-- all letters with which a text begins -/
def lettersAll (k : Int) (s : List UInt8) : List (List UInt8) := (lettersF k s.length s).1

theorem lenL_le (k : Int) (s : List UInt8) : lenL k s ≤ s.length := by
  have key : ∀ (i : Nat) (set : List UInt8), isAt s i set = true → i < s.length := by
    intro i set h
    unfold isAt at h
    cases hs : s[i]? with
    | none => rw [hs] at h; simp at h
    | some c => exact (List.getElem?_eq_some_iff.1 hs).1
  have key2 : isAt (lower (s.take 1)) 0 smalls = true → 0 < s.length := by
    intro h
    cases s with
    | nil => simp [lower, isAt] at h
    | cons a l => simp
  unfold lenL
  repeat' split
  all_goals first
    | omega
    | (have := key 0 _ ‹_›; omega)
    | (have := key 1 _ ‹_›; omega)
    | (have := key2 ‹_›; omega)
    | (rename_i h; simp only [Bool.and_eq_true] at h; have := key 1 _ h.2; omega)

theorem lettersF_fuel (k : Int) : ∀ (n m : Nat) (s : List UInt8), s.length ≤ n → s.length ≤ m → lettersF k n s = lettersF k m s
  | 0, 0, s, _, _ => rfl
  | 0, m + 1, s, h, _ => by
    have : s = [] := List.eq_nil_of_length_eq_zero (by omega)
    subst this
    have h0 : lenL k [] = 0 := by have := lenL_le k []; simpa using this
    simp [lettersF, h0]
  | n + 1, 0, s, _, h => by
    have : s = [] := List.eq_nil_of_length_eq_zero (by omega)
    subst this
    have h0 : lenL k [] = 0 := by have := lenL_le k []; simpa using this
    simp [lettersF, h0]
  | n + 1, m + 1, s, h1, h2 => by
    unfold lettersF
    by_cases h : lenL k s = 0
    · simp [h]
    · simp only [h, if_false]
      have hl : (s.drop (lenL k s)).length ≤ n := by simp; omega
      have hm : (s.drop (lenL k s)).length ≤ m := by simp; omega
      rw [lettersF_fuel k n m _ hl hm]

theorem lettersAll_zero {k : Int} {s : List UInt8} (h : lenL k s = 0) : lettersAll k s = [] := by
  unfold lettersAll
  cases s with
  | nil => rfl
  | cons a l => simp [lettersF, h]

theorem lettersAll_cons {k : Int} {s : List UInt8} (h : lenL k s ≠ 0) : lettersAll k s = s.take (lenL k s) :: lettersAll k (s.drop (lenL k s)) := by
  have hl := lenL_le k s
  unfold lettersAll
  cases s with
  | nil => simp at hl; exact absurd hl h
  | cons a l =>
    simp only [List.length_cons, lettersF, h, if_false]
    rw [lettersF_fuel k l.length _ _ (by simp; omega) (Nat.le_refl _)]

theorem mk_take (s : ByteArray) (m : Nat) : (⟨(s.data.toList.take m).toArray⟩ : ByteArray) = s.extract 0 m := by
  apply ByteArray.ext
  apply Array.ext'
  simp [ByteArray.data_extract]

theorem drop_extract (s : ByteArray) (m : Nat) : (s.extract m s.size).data.toList = s.data.toList.drop m := by
  exact Lib.extract_to_end s m

noncomputable def boxLen (W : World) (b : Nat) : Nat := match W.cell? ⟨b, 0, none⟩ with
  | some (.string s) => s.size
  | _ => 0

set_option maxRecDepth 100000 in
set_option maxHeartbeats 2000000 in
/-- The closure that letters returns hands out all letters with which the text begins. -/
theorem letters_iter (N : Nat) (k : Int) (s : ByteArray) (w : World) (bk bs N' : Nat) (Y : Nat → Prop) (hs : s.size < 35184372088832) (_hN : N ≤ N') (_hN' : N' ≤ w.heap.size) (hT : Tabs N w)
    (hk : Boxed w bk 3 (.int .i64 k)) (hb : Boxed w bs 9 (.string s)) (hbk : bk < N') (hbs : bs < N') (hne : bk ≠ bs) (hNs : N ≤ bs) (hY : ∀ i, i < N → ¬ Y i) (hYk : ¬ Y bk) (hYs : ¬ Y bs) :
    Iter Tryz.prog 104 #[.pointer (some ⟨bk, 0, none⟩), .pointer (some ⟨bs, 0, none⟩)] (fun l : List UInt8 => #[.string ⟨l.toArray⟩]) (lettersAll k s.data.toList) (one bs) N' Y w := by
  intro l J Jx W hNW hsame hJ hJx hYield h0
  have hk0 : Boxed W bk 3 (.int .i64 k) := (hsame bk hbk hYk).trans hk
  have hb0 : Boxed W bs 9 (.string s) := (hsame bs hbs hYs).trans hb
  have hT0 : Tabs N W := hT.keep (fun i hi => hsame i (by omega) (hY i hi))
  clear hk hb hT hsame
  have hkc := hk0.cell
  have hbc := hb0.cell
  have HY := Lib.hid hYield
  clear hYield
  refine (callsIn_wide (n := 1)).1 ?_
  refine callsIn_of_wp Tryz.func104 rfl trivial ?_ rfl
  simp only [Tryz.ntmps104, List.size_toArray, List.length_cons, List.length_nil, Nat.reduceAdd, Nat.reduceSub, Array.replicate_succ, Array.replicate_zero, List.push_toArray, List.append_toArray, List.nil_append, List.cons_append]
  gi_wp2_with fail
  refine ⟨trivial, callsIn_of_calls (ro := none) ((length_any N _ _ _ hs (by omega) hT0).mono ?_)⟩
  rintro e w1 ⟨rfl, hE⟩
  gi_wp2_with fail
  gi_loopw [4] (fun n wr => ∃ (j : Nat) (rest : ByteArray), n = .int .i64 (lenL k rest.data.toList) ∧ rest.size ≤ s.size ∧ Boxed wr bs 9 (.string rest) ∧ Boxed wr bk 3 (.int .i64 k) ∧ Tabs N wr ∧ N' ≤ wr.heap.size ∧
      j + (lettersAll k rest.data.toList).length = (lettersAll k s.data.toList).length ∧ (∀ i x, (lettersAll k rest.data.toList)[i]? = some x → (lettersAll k s.data.toList)[j + i]? = some x) ∧ J j wr)
    (fun _ wr => boxLen wr bs)
  case atStart =>
    have nb : ∀ b, b < N' → w1.heap[b]? = W.heap[b]? := fun b h => hE.same b (by omega) (fun hf => hf)
    exact ⟨0, s, rfl, Nat.le_refl _, (nb bs hbs).trans hb0, (nb bk hbk).trans hk0, hT0.keep (fun i hi => nb i (by omega)), Nat.le_trans hNW hE.size, by omega, fun i x h => by simpa using h, hJ _ _ _ h0 (hE.mono fun _ _ h => h.elim)⟩
  case round =>
    obtain ⟨j, rest, rfl, hle, hb1, hk1, hT1, hN1, hcount, hels, hj⟩ := hrel
    have hkc1 := hk1.cell
    have hbc1 := hb1.cell
    have hll := lenL_le k rest.data.toList
    have hrl : rest.data.toList.length = rest.size := by simp
    by_cases hz : lenL k rest.data.toList = 0
    · rw [lettersAll_zero hz] at hcount
      have hjj : j = (lettersAll k s.data.toList).length := by simpa using hcount
      rw [hz]
      clear hels hcount hz
      have HJ := Lib.hid hjj
      clear hjj
      gi_wp2_with fail
      refine ⟨fun _ h => (by cases h), ?_⟩
      gi_wp2_with fail
      go_end0
      rw [HJ.out] at hj
      exact ⟨⟨_, rfl⟩, .inl hj⟩
    · have hcons := lettersAll_cons hz
      have hlt : j < (lettersAll k s.data.toList).length := by rw [hcons] at hcount; simp at hcount; omega
      have hx : (lettersAll k s.data.toList)[j] = rest.data.toList.take (lenL k rest.data.toList) := by
        have := hels 0 _ (by rw [hcons]; rfl)
        exact (List.getElem?_eq_some_iff.1 (by simpa using this)).2
      obtain ⟨fn, tmps, assign, body, hy, hR⟩ := HY.out j hlt wr hj
      rw [hx, mk_take] at hy
      have hcount' : j + 1 + (lettersAll k (rest.data.toList.drop (lenL k rest.data.toList))).length = (lettersAll k s.data.toList).length := by
        rw [hcons] at hcount; simp at hcount; omega
      have hels' : ∀ i x, (lettersAll k (rest.data.toList.drop (lenL k rest.data.toList)))[i]? = some x → (lettersAll k s.data.toList)[j + 1 + i]? = some x := by
        intro i x h
        have := hels (i + 1) x (by rw [hcons]; simpa using h)
        rw [show j + 1 + i = j + (i + 1) by omega]; exact this
      have HC := Lib.hid hcount'
      have HE := Lib.hid hels'
      clear hcount hels hcons hcount' hels' hx
      generalize hm : lenL k rest.data.toList = m at *
      have HM := Lib.hid hm
      clear hm
      have hm1 : 0 < m := by omega
      have hm2 : m ≤ rest.size := by omega
      clear hrl hll hz
      gi_wp2_with fail
      refine hR.mono ?_
      rintro e W3 (⟨rfl, hJ3, hsz, hk3⟩ | ⟨rfl, hJx3⟩)
      · have hb3 : Boxed W3 bs 9 (.string rest) := (hk3 bs hbs hYs).trans hb1
        have hk4 : Boxed W3 bk 3 (.int .i64 k) := (hk3 bk hbk hYk).trans hk1
        have hT3 : Tabs N W3 := hT1.keep (fun i hi => hk3 i (by omega) (hY i hi))
        have hc3 := hb3.cell
        have hf3 := hb3.frozen
        have hb4 := hb3.set (.string (rest.extract m rest.size))
        have hk5 := hk4.other hne (.string (rest.extract m rest.size))
        have hc4 := hb4.cell
        have hc5 := hk5.cell
        have hT4 : Tabs N (W3.setCell ⟨bs, 0, none⟩ (.string (rest.extract m rest.size))) := hT3.keep (((Ext.refl (one bs) W3).setCell ⟨bs, 0, none⟩ _ (Or.inr rfl)).sameN (by omega) (fun k hk => by cases hk; exact hNs))
        have hJ4 := hJ _ _ _ hJ3 ((Ext.refl (one bs) W3).setCell ⟨bs, 0, none⟩ (.string (rest.extract m rest.size)) (Or.inr rfl))
        have hsz4 : (rest.extract m rest.size).size < rest.size := by simp; omega
        gi_wp2_with fail
        refine ⟨trivial, callsIn_of_calls (ro := none) ((length_any N _ _ _ (by omega) (by simp; omega) hT4).mono ?_)⟩
        rintro e w2 ⟨rfl, hE2⟩
        gi_wp2_with fail
        have s1 : W3.heap.size ≤ w2.heap.size := by have := hE2.size; simpa using this
        have nb : ∀ b, b < N' → w2.heap[b]? = (W3.setCell ⟨bs, 0, none⟩ (.string (rest.extract m rest.size))).heap[b]? := fun b h => hE2.same b (by simp; omega) (fun hf => hf)
        have hb5 : Boxed w2 bs 9 (.string (rest.extract m rest.size)) := (nb bs hbs).trans hb4
        refine ⟨⟨j + 1, rest.extract m rest.size, by rw [Lib.extract_data], by omega, hb5, (nb bk hbk).trans hk5, hT4.keep (fun i hi => nb i (by omega)), by omega, ?_, ?_, ?_⟩, ?_⟩
        · rw [drop_extract]; exact HC.out
        · rw [drop_extract]; exact HE.out
        · exact hJ _ _ _ hJ4 (hE2.mono fun _ _ h => h.elim)
        · simp only [boxLen, hb5.cell, hb1.cell]; exact hsz4
      · gi_wp2_with fail
        go_end0
        exact ⟨⟨_, rfl⟩, .inr hJx3⟩
end Go.Proofs.Kb
