/- Keys of maps: rewrite's keys, potential's states, booleans. -/
import Derived.Test.YthkpgnhjnpcjgaaGreatDoorRewrite
import Derived.DeepKeys4
namespace Go.Proofs.Kb
open Go Go.RowKit Go.Lib Pl
open Go.Maps (Keyed)

theorem laid_out : laidOutB Tryz.prog = true := by kernel_rfl

/-- an int of 64 bits -/
def isInt (n : Int) : Prop := -9223372036854775808 ≤ n ∧ n ≤ 9223372036854775807

theorem isInt_wf {n : Int} (h : isInt n) : (Lit.int .i64 n).wf = true := by
  obtain ⟨h1, h2⟩ := h
  simp only [Lit.wf, Bool.and_eq_true, decide_eq_true_eq]
  exact ⟨h1, h2⟩

theorem row_lt {t : Nat} (h : (decide (t < Tryz.prog.types.size)) = true) : t < Tryz.prog.types.size := of_decide_eq_true h

theorem keyOf_struct {P : Program} {k : TypeId} {fs : Array Go.Field} {cs : Array Value} (hu : P.underlying k = some (.struct fs)) (hk : P.keyType k = true) (hc : P.cellsOf k = cs.size) (hn : fs.all (·.name != "_") = true) (hp : 1 ≤ P.types.size)
    (h : ∀ d, ((fs.toList.mapM fun f => P.keyLits (d + 1) f.type ((cs.toList.drop f.offset).take (P.cellsOf f.type))).map List.flatten).isSome = true) : ∃ l, keyOf P k (.agg cs) = some l := by
  have hd : P.types.size + 1 = (P.types.size - 1) + 2 := by omega
  refine Option.isSome_iff_exists.1 ?_
  unfold keyOf
  rw [hu, hk, hd]
  have hcl : cs.toList.length = P.cellsOf k := by simp [hc]
  have hf : Value.formed P k (.agg cs) = true := by simp [Value.formed, hu, hc]
  have h1 := h (P.types.size - 1)
  simp only [hf, Bool.and_self, if_true, Option.isSome_map]
  unfold Program.keyLits
  rw [hu]
  simp only [Value.cells, hcl, hn, and_self, if_true]
  exact h1

theorem lits_int {P : Program} {t : TypeId} {d : Nat} {n : Int} (hu : P.underlying t = some (.int .i64)) (h : isInt n) : P.keyLits (d + 1) t [.int .i64 n] = some [.int .i64 n] := by
  unfold Program.keyLits
  rw [hu]
  simp [isInt_wf h]
theorem lits_str {P : Program} {t : TypeId} {d : Nat} {s : List UInt8} (hu : P.underlying t = some .string) (h : s.length ≤ maxLen) : P.keyLits (d + 1) t [encS s] = some [.string s] := by
  have h1 : (⟨s.toArray⟩ : ByteArray).size ≤ maxLen := h
  unfold Program.keyLits encS
  rw [hu]
  simp only [h1, if_true]
theorem lits_bool {P : Program} {t : TypeId} {d : Nat} {b : Bool} (hu : P.underlying t = some .bool) : P.keyLits (d + 1) t [.bool b] = some [.bool b] := by
  unfold Program.keyLits
  rw [hu]

def encKey (k : Key) : Value := .agg #[.int .i64 k.script, encS k.frm, encS k.to]
def goodKey (k : Key) : Prop := isInt k.script ∧ k.frm.length ≤ maxLen ∧ k.to.length ≤ maxLen

theorem key_keys : KeyEnc Tryz.prog 142 encKey goodKey where
  keyed := Keyed.of_law (deep_law_laid laid_out (m := 3) (by omega) (row_lt (by kernel_rfl)) (by kernel_rfl) (by kernel_rfl))
  ok := by
    rintro k ⟨h1, h2, h3⟩
    have hi : Tryz.prog.cellsOf 3 = 1 := by kernel_rfl
    have hs : Tryz.prog.cellsOf 9 = 1 := by kernel_rfl
    refine keyOf_struct Tryz.underlying142 (by kernel_rfl) (by kernel_rfl) (by kernel_rfl) (of_decide_eq_true (by kernel_rfl)) fun d => ?_
    simp [hi, hs, lits_int Tryz.underlying3 h1, lits_str Tryz.underlying9 h2, lits_str Tryz.underlying9 h3]
  inj := by
    rintro ⟨a, b, c⟩ ⟨a', b', c'⟩ h
    simp [encKey, encS] at h
    obtain ⟨rfl, rfl, rfl⟩ := h
    rfl

def encState (s : State) : Value := .agg #[.int .i64 s.i, .int .i64 s.j, encS s.ahead, .bool s.right]
def goodState (s : State) : Prop := isInt s.i ∧ isInt s.j ∧ s.ahead.length ≤ maxLen

theorem state_keys : KeyEnc Tryz.prog 62 encState goodState where
  keyed := Keyed.of_law (deep_law_laid laid_out (m := 3) (by omega) (row_lt (by kernel_rfl)) (by kernel_rfl) (by kernel_rfl))
  ok := by
    rintro k ⟨h1, h2, h3⟩
    have hi : Tryz.prog.cellsOf 3 = 1 := by kernel_rfl
    have hs : Tryz.prog.cellsOf 9 = 1 := by kernel_rfl
    have hb : Tryz.prog.cellsOf 4 = 1 := by kernel_rfl
    refine keyOf_struct Tryz.underlying62 (by kernel_rfl) (by kernel_rfl) (by kernel_rfl) (of_decide_eq_true (by kernel_rfl)) fun d => ?_
    simp [hi, hs, hb, lits_int Tryz.underlying3 h1, lits_int Tryz.underlying3 h2, lits_str Tryz.underlying9 h3, lits_bool Tryz.underlying4]
  inj := by
    rintro ⟨a, b, c, d⟩ ⟨a', b', c', d'⟩ h
    simp [encState, encS] at h
    obtain ⟨rfl, rfl, rfl, rfl⟩ := h
    rfl

theorem bool_keys : KeyEnc Tryz.prog 4 (fun b : Bool => .bool b) (fun _ => True) where
  keyed := Go.Maps.bool_keyed Tryz.underlying4
  ok := fun b _ => ⟨_, Go.Maps.keyOf_bool_mk Tryz.underlying4 b⟩
  inj := fun _ _ h => by simpa using h
end Go.Proofs.Kb
