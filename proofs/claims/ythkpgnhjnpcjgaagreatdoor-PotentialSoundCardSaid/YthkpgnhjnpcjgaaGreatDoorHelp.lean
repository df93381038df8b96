/- Regions that never panic, and single operations in them. -/
import Derived.Test.YthkpgnhjnpcjgaaGreatDoorProper
namespace Go.Proofs.Kb
open Go Go.RowKit Go.Lib Pl
attribute [local go_sem] Oper.semAt_some run_makeMap

/-- what is owed where nothing but the plain end may come -/
def onlyN (Q : Exit → Act → World → Prop) : Exit → Act → World → Prop
  | .normal, a, w => Q .normal a w
  | _, _, _ => False

theorem onlyN_to {Q : Exit → Act → World → Prop} {e : Exit} {a : Act} {w : World} (h : onlyN Q e a w) : Q e a w := by
  cases e <;> first | exact h | exact h.elim

theorem wp_region_N {ro : Option Nat} {n : Nat} {P : Program} {ops : Array Oper} {Q : Exit → Act → World → Prop} (k : Nat) (Ob : Nat → World → World → Prop) {id : Nat} {a : Act} {w : World} (hk : ops.size = k) (hm : P.follows .mixedOrders = true)
    (h : wpAnyS ro n P .any ops (onlyN Q) Ob k (Array.replicate k false) a { w with drawn := w.drawn + 1 }) : (Code.region id ops true).wpIn (Fz ro) n P Q a w :=
  wpIn_mono (wp_region_S k Ob hk hm h) fun _ _ _ h => onlyN_to h

theorem wpAnyS_doneN {ro : Option Nat} {n : Nat} {P : Program} {md : Region.Mode} {ops : Array Oper} {Q : Exit → Act → World → Prop} {Ob : Nat → World → World → Prop} {listed : Array Bool} {a : Act} {w : World} (hr : Region.ready md ops listed = []) (h : Q .normal a w) (fuel : Nat) :
    wpAnyS ro n P md ops (onlyN Q) Ob fuel listed a w := wpAnyS_done (Q := onlyN Q) hr (show onlyN Q .normal a w from h) fuel

theorem exec_bin {P : Program} {o : Oper} {a : Act} {w : World} (op : BinOp) (t t2 : TypeId) (x y : Operand) (ho : o.op = .binOp op t x y t2) (xv yv v : Value) (hx : a.eval x = xv) (hy : a.eval y = yv)
    (h : (do eqGuard op t x y xv yv; binOp op t xv yv : Sem Value).run P w = .ok v w) : (execOp a.eval o).run P w = .ok (.value v) w := by
  unfold execOp
  simp only [ho, hx, hy]
  simp only [Sem.run_bind] at h ⊢
  rw [h]
  rfl

theorem exec_index {P : Program} {o : Oper} {a : Act} {w : World} (t : TypeId) (x y : Operand) (ho : o.op = .indexAddr t x y) (xv yv v : Value) (hx : a.eval x = xv) (hy : a.eval y = yv)
    (h : (Instr.indexAt t xv yv).run P w = .ok v w) : (execOp a.eval o).run P w = .ok (.value v) w := by
  unfold execOp
  simp only [ho, hx, hy]
  simp only [Sem.run_bind]
  rw [h]
  rfl

theorem gtr_zero (n : Nat) (x y : Operand) (w : World) : (do eqGuard .gtr 3 x y (.int .i64 ((n + 1 : Nat) : Int)) (.int .i64 0); binOp .gtr 3 (.int .i64 ((n + 1 : Nat) : Int)) (.int .i64 0) : Sem Value).run Tryz.prog w = .ok (.bool true) w := by
  go_simp

theorem geq_zero (c : Int) (x y : Operand) (w : World) : (do eqGuard .geq 3 x y (.int .i64 c) (.int .i64 0); binOp .geq 3 (.int .i64 c) (.int .i64 0) : Sem Value).run Tryz.prog w = .ok (.bool (decide (0 ≤ c))) w := by
  go_simp

theorem sub_one (n : Nat) (h : n + 1 ≤ 9223372036854775807) (x y : Operand) (w : World) : (do eqGuard .sub 3 x y (.int .i64 ((n + 1 : Nat) : Int)) (.int .i64 1); binOp .sub 3 (.int .i64 ((n + 1 : Nat) : Int)) (.int .i64 1) : Sem Value).run Tryz.prog w = .ok (.int .i64 (n : Nat)) w := by
  have hw : IntKind.i64.wrap (n : Int) = (n : Int) := by simp [IntKind.wrap, IntKind.bits, IntKind.signed]; omega
  go_simp

theorem add_int (m n : Int) (h : IntKind.i64.wrap (m + n) = m + n) (x y : Operand) (w : World) : (do eqGuard .add 3 x y (.int .i64 m) (.int .i64 n); binOp .add 3 (.int .i64 m) (.int .i64 n) : Sem Value).run Tryz.prog w = .ok (.int .i64 (m + n)) w := by
  go_simp

theorem gtr_int (m n : Int) (x y : Operand) (w : World) : (do eqGuard .gtr 3 x y (.int .i64 m) (.int .i64 n); binOp .gtr 3 (.int .i64 m) (.int .i64 n) : Sem Value).run Tryz.prog w = .ok (.bool (decide (n < m))) w := by
  go_simp

theorem load_memo (p : Addr) (v : Value) (w : World) (h : w.cell? p = some v) : (loadVar 67 p).run Tryz.prog w = .ok v w := by go_simp

theorem index_pot (b o n c : Nat) (j : Nat) (h : j < n) (w : World) : (Instr.indexAt 26 (.slice (some ⟨b, o, none⟩) n c) (.int .i64 (j : Nat))).run Tryz.prog w = .ok (.pointer (some ⟨b, o + j * 5, none⟩)) w := by
  go_simp

theorem load_pot (b o : Nat) (x : Pot) (w : World) (c0 : w.cell? ⟨b, o, none⟩ = some (.int .i64 x.i)) (c1 : w.cell? ⟨b, o + 1, none⟩ = some (.int .i64 x.j)) (c2 : w.cell? ⟨b, o + 2, none⟩ = some (.string ⟨x.ahead.toArray⟩)) (c3 : w.cell? ⟨b, o + 3, none⟩ = some (.bool x.right)) (c4 : w.cell? ⟨b, o + 4, none⟩ = some (.int .i64 x.h)) :
    (loadVar 37 ⟨b, o, none⟩).run Tryz.prog w = .ok (.agg #[.int .i64 x.i, .int .i64 x.j, .string ⟨x.ahead.toArray⟩, .bool x.right, .int .i64 x.h]) w := by
  go_simp

theorem exec_load {P : Program} {o : Oper} {a : Act} {w : World} (ty : TypeId) (x : Operand) (ho : o.op = .load ty x) (p : Addr) (hx : a.eval x = .pointer (some p)) (v : Value) (ld : (loadVar ty p).run P w = .ok v w) : (execOp a.eval o).run P w = .ok (.value v) w := by
  unfold execOp
  simp only [ho, hx]
  simp [Instr.loadAt, Instr.sureAddr, ld]
end Go.Proofs.Kb
