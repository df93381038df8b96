/- Package potential: whether an element of a certificate is proper. -/
import Derived.Test.YthkpgnhjnpcjgaaGreatDoorCmp
namespace Go.Proofs.Kb
open Go Go.RowKit Go.Lib Pl
attribute [local go_sem] Oper.semAt_some run_makeMap

/-- is a rune no small letter? -/
def oddR (r : Nat) : Bool := decide (r < 97) || decide (122 < r)

theorem decodeN_high (n b0 b1 b2 b3 : Nat) (h : ¬ b0 < 128) : 128 ≤ (decodeN n b0 b1 b2 b3).1 := by
  unfold decodeN
  rw [if_neg h]
  (repeat' split) <;> simp only <;> omega

theorem odd_from (s : ByteArray) : ∀ (f pos : Nat), s.size ≤ pos + f → (idxFuncFrom oddR true s f pos = -1 ↔ ∀ i, pos ≤ i → i < s.size → isSmall (s.get! i) = true)
  | 0, pos, h => by
    simp only [idxFuncFrom, true_iff]
    intro i h1 h2
    omega
  | f + 1, pos, h => by
    by_cases hp : pos < s.size
    · have hd := decode_at s pos
      have hsm : isSmall (s.get! pos) = (decide (97 ≤ (s.get! pos).toNat) && decide ((s.get! pos).toNat ≤ 122)) := by
        unfold isSmall
        rw [Bool.eq_iff_iff]
        simp only [Bool.and_eq_true, decide_eq_true_eq, UInt8.le_iff_toNat_le]
        exact Iff.rfl
      have ih := odd_from s f (pos + 1) (by omega)
      simp only [idxFuncFrom, if_pos hp]
      by_cases hs : isSmall (s.get! pos) = true
      · have hs2 := hs
        rw [hsm] at hs2
        simp only [Bool.and_eq_true, decide_eq_true_eq] at hs2
        rw [decodeN_ascii _ _ _ _ _ (by omega)] at hd
        rw [hd]
        have ho : oddR (s.get! pos).toNat = false := by
          unfold oddR
          simp only [Bool.or_eq_false_iff, decide_eq_false_iff_not]
          omega
        rw [ho, if_neg (by simp), ih]
        constructor
        · intro h1 i hi hi2
          by_cases e : i = pos
          · subst e; exact hs
          · exact h1 i (by omega) hi2
        · intro h1 i hi hi2
          exact h1 i (by omega) hi2
      · have ho : oddR (Utf8.decode s pos).1 = true := by
          rw [hd]
          by_cases h8 : (s.get! pos).toNat < 128
          · rw [decodeN_ascii _ _ _ _ _ h8]
            rw [hsm] at hs
            simp only [Bool.and_eq_true, decide_eq_true_eq] at hs
            unfold oddR
            simp only [Bool.or_eq_true, decide_eq_true_eq]
            omega
          · have := decodeN_high (s.size - pos) (s.get! pos).toNat (s.get! (pos + 1)).toNat (s.get! (pos + 2)).toNat (s.get! (pos + 3)).toNat h8
            unfold oddR
            simp only [Bool.or_eq_true, decide_eq_true_eq]
            omega
        rw [if_pos ho]
        constructor
        · intro e; omega
        · intro h1
          exact absurd (h1 pos (Nat.le_refl _) hp) hs
    · rw [idxFuncFrom_end _ _ _ _ _ hp]
      simp only [true_iff]
      intro i h1 h2
      omega

theorem odd_all (s : List UInt8) : decide (0 ≤ idxFunc oddR true ⟨s.toArray⟩) = !s.all isSmall := by
  have h := odd_from ⟨s.toArray⟩ s.length 0 (by simp [ByteArray.size])
  have hr := idxFunc_range oddR true ⟨s.toArray⟩
  have hsz : (⟨s.toArray⟩ : ByteArray).size = s.length := rfl
  unfold idxFunc at hr ⊢
  rw [hsz] at hr h ⊢
  have hall : (∀ i, 0 ≤ i → i < s.length → isSmall ((⟨s.toArray⟩ : ByteArray).get! i) = true) ↔ s.all isSmall = true := by
    rw [List.all_eq_true]
    constructor
    · intro h1 x hx
      obtain ⟨i, hi, rfl⟩ := List.getElem_of_mem hx
      have := h1 i (by omega) hi
      simpa [ByteArray.get!, hi] using this
    · intro h1 i _ hi
      have : (⟨s.toArray⟩ : ByteArray).get! i = s[i] := by simp [ByteArray.get!, hi]
      rw [this]
      exact h1 _ (List.getElem_mem hi)
  rw [hall] at h
  rw [Bool.eq_iff_iff]
  simp only [decide_eq_true_eq, Bool.not_eq_true', ← Bool.not_eq_true, ← h]
  omega

theorem odd_fn (W : World) (x : Nat) (hx : x ≤ 1114111) : FnGives Tryz.prog 58 #[] #[encR x] (.bool (oddR x)) W := by
  unfold FnGives
  go_enter Tryz.func58, Tryz.ntmps58
  go_wp2_with fail
  all_goals go_ret
  all_goals refine ⟨ret_bool ?_, 0, rfl⟩
  all_goals (unfold oddR; rw [Bool.eq_iff_iff]; simp only [Bool.or_eq_true, decide_eq_true_eq]; first | omega | (simp; omega))

theorem neq_state (i j i' j' : Int) (a a' : ByteArray) (r r' : Bool) (w : World) :
    (binOp .neq 62 (.agg #[.int .i64 i, .int .i64 j, .string a, .bool r]) (.agg #[.int .i64 i', .int .i64 j', .string a', .bool r'])).run Tryz.prog w = .ok (.bool (!((i == i') && (j == j') && (a.toList == a'.toList) && (r == r')))) w := by
  by_cases h1 : i = i' <;> by_cases h2 : j = j' <;> by_cases h3 : a.toList = a'.toList <;> by_cases h4 : r = r' <;> go_simp
attribute [local go_sem high] neq_state

set_option maxRecDepth 100000 in
set_option maxHeartbeats 8000000 in
theorem proper_any (N : Nat) (p : Two) (cp : Array Value) (x : Pot) (bound : Int) (w : World) (hp : PairAt N w (.agg cp) p) (hx : x.ahead.length < 35184372088832) :
    Calls Tryz.prog 32 #[.agg cp, .agg (encPot x).toArray, .int .i64 bound] w fun e w' => e = .returned (.bool (proper p x bound)) ∧ Ext none' w w' := by
  obtain ⟨vr, vl, vm, hcp, hr, hl, hm', hgood, hl12, hm12⟩ := hp
  cases hcp
  obtain ⟨ra, rc, rfl, -⟩ := hr
  obtain ⟨la, lc, rfl, -⟩ := hl
  obtain ⟨ma, mc, rfl, -⟩ := hm'
  have hct := fun W => Tryz.strings_ContainsFunc_runes 58 #[] (enters_of Tryz.func58 (by kernel_rfl) rfl) oddR ⟨x.ahead.toArray⟩ W (fun W x hx _ => odd_fn W x hx)
  simp only [odd_all] at hct
  obtain ⟨b0, hb0⟩ : ∃ b0, b0 = (decide (0 ≤ x.i) && decide (x.i ≤ p.l.length) && decide (0 ≤ x.j) && decide (x.j ≤ p.m.length)) := ⟨_, rfl⟩
  have hpr : proper p x bound = (b0 && decide (x.ahead.length ≤ 3) && x.ahead.all isSmall && (!x.right || !decide (x.ahead = [])) && !decide (x.state = p.fin) && decide (0 < x.h) && decide (x.h ≤ min bound 100000)) := by rw [hb0]; rfl
  have hst : decide (x.state = p.fin) = ((x.i == (p.l.length : Int)) && (x.j == (p.m.length : Int)) && x.ahead.isEmpty && (x.right == false)) := by
    rw [Bool.eq_iff_iff]
    simp only [Pot.state, Two.fin, State.mk.injEq, decide_eq_true_eq, Bool.and_eq_true, beq_iff_eq, List.isEmpty_iff, and_assoc]
  rw [hst] at hpr
  have HB0 := Lib.hid hb0
  obtain ⟨al, hal⟩ : ∃ al, al = x.ahead.all isSmall := ⟨_, rfl⟩
  rw [← hal] at hpr hct
  clear hal
  have HCT := Lib.hid hct
  have HPR := Lib.hid hpr
  clear hct
  clear hb0 hpr hst
  simp only [encPot, encS]
  go_enter Tryz.func32, Tryz.ntmps32
  go_upto_region 3 with fail
  go_cut [9] from 10 (fun s9 wx => s9 = .bool b0 ∧ wx = ((w.alloc (.cells #[.slice ra p.rules.length rc, .int .i64 p.a, .int .i64 p.b, .slice la p.l.length lc, .slice ma p.m.length mc, .int .i64 p.l.length, .int .i64 p.m.length, .string ⟨#[]⟩, .bool false] 64)).alloc (.cells #[.int .i64 x.i, .int .i64 x.j, .string ⟨x.ahead.toArray⟩, .bool x.right, .int .i64 x.h] 37)).alloc (.cells #[.int .i64 x.i, .int .i64 x.j, .string ⟨x.ahead.toArray⟩, .bool x.right] 62))
  case first =>
    go_wp2_with fail
    all_goals (go_meet; refine ⟨congrArg Value.bool ?_, rfl⟩)
    all_goals (rw [HB0.out]; first | (simp [*]; done) | (simp [*]; omega))
  case rest =>
    obtain ⟨rfl, rfl⟩ := hcut
    have hE0 : Ext none' w (((w.alloc (.cells #[.slice ra p.rules.length rc, .int .i64 p.a, .int .i64 p.b, .slice la p.l.length lc, .slice ma p.m.length mc, .int .i64 p.l.length, .int .i64 p.m.length, .string ⟨#[]⟩, .bool false] 64)).alloc (.cells #[.int .i64 x.i, .int .i64 x.j, .string ⟨x.ahead.toArray⟩, .bool x.right, .int .i64 x.h] 37)).alloc (.cells #[.int .i64 x.i, .int .i64 x.j, .string ⟨x.ahead.toArray⟩, .bool x.right] 62)) := (((Ext.refl _ w).alloc _).alloc _).alloc _
    cases b0 with
    | false =>
      go_wp2_with fail
      go_ret
      exact ⟨ret_bool (by rw [HPR.out]; simp), hE0⟩
    | true =>
      by_cases h3 : x.ahead.length ≤ 3
      · have hsz : (⟨x.ahead.toArray⟩ : ByteArray).size ≤ 3 := h3
        go_wp2_with fail
        refine (HCT.out _).mono ?_
        rintro e w1 ⟨rfl, hE⟩
        have hE1 := Ext.of_below hE none'
        have k0 : w1.heap[w.heap.size]? = some (.cells #[.slice ra p.rules.length rc, .int .i64 p.a, .int .i64 p.b, .slice la p.l.length lc, .slice ma p.m.length mc, .int .i64 p.l.length, .int .i64 p.m.length, .string ⟨#[]⟩, .bool false] 64) :=
          (hE1.same _ (by simp; omega) (fun h => h)).trans (heapKeep (heapKeep (heapNew _ rfl) _) _)
        have k1 : w1.heap[w.heap.size + 1]? = some (.cells #[.int .i64 x.i, .int .i64 x.j, .string ⟨x.ahead.toArray⟩, .bool x.right, .int .i64 x.h] 37) :=
          (hE1.same _ (by simp) (fun h => h)).trans (heapKeep (heapNew _ (by simp)) _)
        have k2 : w1.heap[w.heap.size + 1 + 1]? = some (.cells #[.int .i64 x.i, .int .i64 x.j, .string ⟨x.ahead.toArray⟩, .bool x.right] 62) :=
          (hE1.same _ (by simp) (fun h => h)).trans (heapNew _ (by simp))
        have p5 : w1.cell? ⟨w.heap.size, 5, none⟩ = some (.int .i64 p.l.length) := cellAt k0 5 rfl
        have p6 : w1.cell? ⟨w.heap.size, 6, none⟩ = some (.int .i64 p.m.length) := cellAt k0 6 rfl
        have p7 : w1.cell? ⟨w.heap.size, 7, none⟩ = some (.string ⟨#[]⟩) := cellAt k0 7 rfl
        have p8 : w1.cell? ⟨w.heap.size, 8, none⟩ = some (.bool false) := cellAt k0 8 rfl
        have x2 : w1.cell? ⟨w.heap.size + 1, 2, none⟩ = some (.string ⟨x.ahead.toArray⟩) := cellAt k1 2 rfl
        have x3 : w1.cell? ⟨w.heap.size + 1, 3, none⟩ = some (.bool x.right) := cellAt k1 3 rfl
        have x4 : w1.cell? ⟨w.heap.size + 1, 4, none⟩ = some (.int .i64 x.h) := cellAt k1 4 rfl
        have s0 : w1.cell? ⟨w.heap.size + 1 + 1, 0, none⟩ = some (.int .i64 x.i) := cellAt k2 0 rfl
        have s1 : w1.cell? ⟨w.heap.size + 1 + 1, 1, none⟩ = some (.int .i64 x.j) := cellAt k2 1 rfl
        have s2 : w1.cell? ⟨w.heap.size + 1 + 1, 2, none⟩ = some (.string ⟨x.ahead.toArray⟩) := cellAt k2 2 rfl
        have s3 : w1.cell? ⟨w.heap.size + 1 + 1, 3, none⟩ = some (.bool x.right) := cellAt k2 3 rfl
        have hE2 := hE0.trans hE1
        clear k0 k1 k2 hE hE0 hE1
        cases al with
        | false =>
          go_wp2_with fail
          go_ret
          exact ⟨ret_bool (by rw [HPR.out]; simp), hE2⟩
        | true =>
          go_wp2_with fail
          all_goals go_ret
          all_goals refine ⟨ret_bool ?_, hE2⟩
          all_goals (rw [HPR.out]; first | (simp [*]; done) | (simp [*]; omega))
      · have hsz : ¬ (⟨x.ahead.toArray⟩ : ByteArray).size ≤ 3 := h3
        go_wp2_with fail
        go_ret
        exact ⟨ret_bool (by rw [HPR.out]; simp [h3]), hE0⟩
end Go.Proofs.Kb
