/- Package potential: the comparison of two elements of a certificate. -/
import Derived.Test.YthkpgnhjnpcjgaaGreatDoorFrom
import Derived.Test.YthkpgnhjnpcjgaaGreatDoorOrder
import Derived.Test.YthkpgnhjnpcjgaaGreatDoorSorts
namespace Go.Proofs.Kb
open Go Go.RowKit Go.Lib Pl
attribute [local go_sem] Oper.semAt_some run_makeMap

def encPot (x : Pot) : List Value := [.int .i64 x.i, .int .i64 x.j, encS x.ahead, .bool x.right, .int .i64 x.h]

theorem compareInt_is (x y : Int) : Lib.compareInt x y = cmpInt x y := rfl
theorem compareBytes_is : ∀ x y : List UInt8, Lib.compareBytes x y = cmpStr x y
  | [], [] => rfl
  | [], _ :: _ => rfl
  | _ :: _, [] => rfl
  | a :: l, b :: m => by simp only [Lib.compareBytes, cmpStr, compareBytes_is l m]

/-- the first that is not 0 -/
def firstI : List Int → Int
  | [] => 0
  | x :: l => if x = 0 then firstI l else x

set_option maxRecDepth 100000 in
set_option maxHeartbeats 2000000 in
theorem or_any (b : Nat) (l : List Int) (c : Nat) (w : World) (hl : ∀ (j : Nat) x, l[j]? = some x → w.cell? ⟨b, j, none⟩ = some (.int .i64 x)) (hn : l.length ≤ 4) :
    Calls Tryz.prog 49 #[.slice (some ⟨b, 0, none⟩) l.length c] w fun e w' => e = .returned (.int .i64 (firstI l)) ∧ w' = w := by
  go_enter Tryz.func49, Tryz.ntmps49
  go_wp2_with fail
  go_loop [8] (fun i => ∃ (j : Nat), i = .int .i64 j ∧ j ≤ l.length ∧ firstI l = firstI (l.drop j)) (fun i => l.length - (intOf i).toNat)
  case atStart => exact ⟨0, rfl, by omega, rfl⟩
  case round =>
    obtain ⟨j, rfl, hj, hA⟩ := hrel
    by_cases hjl : j < l.length
    · obtain ⟨x, hd⟩ : ∃ x, l[j]? = some x := ⟨_, List.getElem?_eq_getElem hjl⟩
      have c0 := hl j x hd
      have hdrop : l.drop j = x :: l.drop (j + 1) := by
        rw [List.drop_eq_getElem_cons hjl]
        rw [List.getElem?_eq_getElem hjl] at hd
        cases hd
        rfl
      rw [hdrop, firstI] at hA
      by_cases hx : x = 0
      · rw [if_pos hx] at hA
        have HA := Lib.hid hA
        have b1 : (x == 0) = true := by simpa using hx
        clear hA hl hdrop
        go_wp2_with fail
        exact ⟨⟨j + 1, rfl, by omega, HA.out⟩, by simp only [intOf]; omega⟩
      · rw [if_neg hx] at hA
        have HA := Lib.hid hA
        have b1 : (x == 0) = false := by simpa using hx
        clear hA hl hdrop
        go_wp2_with fail
        go_ret
        exact ⟨ret_int HA.out.symm, rfl⟩
    · obtain rfl : j = l.length := by omega
      rw [List.drop_length] at hA
      have HA := Lib.hid hA
      clear hA hl
      go_wp2_with fail
      go_ret
      exact ⟨ret_int HA.out.symm, rfl⟩

theorem putObj_new (w : World) (o o' : Obj) {b : Nat} (h : w.heap.size = b) : (w.alloc o).putObj b o' = w.alloc o' := by
  subst h
  unfold World.alloc World.putObj
  simp only [World.mk.injEq, and_self, and_true]
  apply Array.ext_getElem?
  intro i
  simp only [Array.getElem?_setIfInBounds, Array.getElem?_push, Array.size_push]
  by_cases h : w.heap.size = i
  · subst h; simp
  · have h2 : ¬ i = w.heap.size := fun e => h e.symm
    simp [h, h2]

theorem drewN_alloc (w : World) (o : Obj) (q : Nat) : (w.drewN q).alloc o = (w.alloc o).drewN q := rfl
theorem load_str (p : Addr) (v : Value) (w : World) (h : w.cell? p = some v) : (loadVar 9 p).run Tryz.prog w = .ok v w := by go_simp
theorem load_bool (p : Addr) (v : Value) (w : World) (h : w.cell? p = some v) : (loadVar 4 p).run Tryz.prog w = .ok v w := by go_simp

theorem exec_lookup {P : Program} {o : Oper} {a : Act} {w : World} (t : TypeId) (x y : Operand) (c : Bool) (ho : o.op = .lookup t x y c) (xv yv : Value) (hx : a.eval x = xv) (hy : a.eval y = yv) (v : Value) (h : (Instr.lookup t xv yv c).run P w = .ok v w) :
    (execOp a.eval o).run P w = .ok (.value v) w := by
  unfold execOp
  simp only [ho, hx, hy]
  simp [h]

set_option maxRecDepth 100000 in
set_option maxHeartbeats 4000000 in
theorem compare_any (x y : Pot) (w : World) : Calls Tryz.prog 28 #[.agg (encPot x).toArray, .agg (encPot y).toArray] w fun e w' =>
    e = .returned (.int .i64 (Pl.compare x y)) ∧ ∃ q os', w' = Sort.grow (w.drewN q) os' := by
  have hfin : firstI [cmpInt x.i y.i, cmpInt x.j y.j, cmpStr x.ahead y.ahead, cmpInt (bit x.right) (bit y.right)] = Pl.compare x y := by
    unfold Pl.compare orI
    simp only [firstI]
    (repeat' split) <;> first | rfl | (rename_i h; rw [h])
  have HFIN := Lib.hid hfin
  clear hfin
  simp only [encPot, encS]
  go_enter Tryz.func28, Tryz.ntmps28
  have hm0 : MapAt (fun b : Bool => .bool b) (fun n : Int => .int .i64 n) (((w.alloc (.cells #[.int .i64 x.i, .int .i64 x.j, .string ⟨x.ahead.toArray⟩, .bool x.right, .int .i64 x.h] 37)).alloc (.cells #[.int .i64 y.i, .int .i64 y.j, .string ⟨y.ahead.toArray⟩, .bool y.right, .int .i64 y.h] 37)).alloc (.map #[] 0)) (w.heap.size + 1 + 1) ([] : List (Bool × Int)) := ⟨heapNew _ (by simp), by simp⟩
  have hup := hm0.update bool_keys Tryz.underlying113 (by simp) (k := true) trivial 1
  rw [putObj_new _ _ _ (by simp)] at hup
  go_wp2_with fail
  clear hup hm0
  obtain ⟨w2, hw2⟩ : ∃ w2, w2 = ((w.alloc (.cells #[.int .i64 x.i, .int .i64 x.j, .string ⟨x.ahead.toArray⟩, .bool x.right, .int .i64 x.h] 37)).alloc (.cells #[.int .i64 y.i, .int .i64 y.j, .string ⟨y.ahead.toArray⟩, .bool y.right, .int .i64 y.h] 37)).alloc (mobj (fun b : Bool => .bool b) (fun n : Int => .int .i64 n) (mput ([] : List (Bool × Int)) true 1)) := ⟨_, rfl⟩
  have k0 : w2.heap[w.heap.size]? = some (.cells #[.int .i64 x.i, .int .i64 x.j, .string ⟨x.ahead.toArray⟩, .bool x.right, .int .i64 x.h] 37) := by rw [hw2]; exact heapKeep (heapKeep (heapNew _ rfl) _) _
  have k1 : w2.heap[w.heap.size + 1]? = some (.cells #[.int .i64 y.i, .int .i64 y.j, .string ⟨y.ahead.toArray⟩, .bool y.right, .int .i64 y.h] 37) := by rw [hw2]; exact heapKeep (heapNew _ (by simp)) _
  have k2 : MapAt (fun b : Bool => .bool b) (fun n : Int => .int .i64 n) w2 (w.heap.size + 2) [(true, 1)] := ⟨by rw [hw2]; exact heapNew _ (by simp), by simp⟩
  have hsz : w2.heap.size = w.heap.size + 3 := by rw [hw2]; simp
  have hlk := fun (W : World) (h : Ext none' w2 W) (r : Bool) => (h.map0 k2).lookup bool_keys Tryz.underlying113 (zero_int W) (fun _ _ => trivial) (k := r) trivial false
  have hbit : ∀ r : Bool, ((mget [(true, (1 : Int))] r).map (fun n : Int => Value.int .i64 n)).getD (.int .i64 0) = .int .i64 (bit r) := by intro r; cases r <;> rfl
  simp only [hbit, Bool.false_eq_true, if_false] at hlk
  obtain ⟨W3, hW3⟩ : ∃ W3, W3 = w2.drew := ⟨_, rfl⟩
  have e23 : Ext none' w2 W3 := by rw [hW3]; exact (Ext.refl none' w2).drew
  refine (wpIn_wide (n := 1)).1 ?_
  refine wp_region_S (ro := none) 27 (fun _ x y => Ext none' x y) rfl (by kernel_rfl) ?_
  rw [← hw2]
  change wpAnyS _ _ _ _ _ _ _ _ _ _ w2.drew
  rw [← hW3]
  refine wpAnyS_p 0 (some 8) (.pointer (some ⟨w.heap.size, 0, none⟩)) (by kernel_rfl) (by kernel_rfl) (fun _ _ _ h => h) (fun x => Ext.refl _ x) (by kernel_rfl) (by kernel_rfl) ?_
  refine wpAnyS_t 1 (fun W => Ext none' w2 W) (fun _ => true) (some 9) (.int .i64 x.i) (by kernel_rfl) (by kernel_rfl) (fun _ _ _ h => h) (fun j x y _ ho hx => hx.trans ho) (fun x => Ext.refl _ x) e23 (by kernel_rfl) (fun o ho W hW => by cases ho; exact exec_load_cell _ _ rfl ⟨w.heap.size, 0, none⟩ (by kernel_rfl) _ (fun w h => load_int _ _ w h) (cellAt ((hW.same _ (by omega) (fun h => h)).trans k0) 0 rfl)) ?_
  refine wpAnyS_p 2 (some 10) (.pointer (some ⟨(w.heap.size + 1), 0, none⟩)) (by kernel_rfl) (by kernel_rfl) (fun _ _ _ h => h) (fun x => Ext.refl _ x) (by kernel_rfl) (by kernel_rfl) ?_
  refine wpAnyS_t 3 (fun W => Ext none' w2 W) (fun _ => true) (some 11) (.int .i64 y.i) (by kernel_rfl) (by kernel_rfl) (fun _ _ _ h => h) (fun j x y _ ho hx => hx.trans ho) (fun x => Ext.refl _ x) e23 (by kernel_rfl) (fun o ho W hW => by cases ho; exact exec_load_cell _ _ rfl ⟨(w.heap.size + 1), 0, none⟩ (by kernel_rfl) _ (fun w h => load_int _ _ w h) (cellAt ((hW.same _ (by omega) (fun h => h)).trans k1) 0 rfl)) ?_
  refine wpAnyS_p 5 (some 13) (.pointer (some ⟨w.heap.size, 1, none⟩)) (by kernel_rfl) (by kernel_rfl) (fun _ _ _ h => h) (fun x => Ext.refl _ x) (by kernel_rfl) (by kernel_rfl) ?_
  refine wpAnyS_t 6 (fun W => Ext none' w2 W) (fun _ => true) (some 14) (.int .i64 x.j) (by kernel_rfl) (by kernel_rfl) (fun _ _ _ h => h) (fun j x y _ ho hx => hx.trans ho) (fun x => Ext.refl _ x) e23 (by kernel_rfl) (fun o ho W hW => by cases ho; exact exec_load_cell _ _ rfl ⟨w.heap.size, 1, none⟩ (by kernel_rfl) _ (fun w h => load_int _ _ w h) (cellAt ((hW.same _ (by omega) (fun h => h)).trans k0) 1 rfl)) ?_
  refine wpAnyS_p 7 (some 15) (.pointer (some ⟨(w.heap.size + 1), 1, none⟩)) (by kernel_rfl) (by kernel_rfl) (fun _ _ _ h => h) (fun x => Ext.refl _ x) (by kernel_rfl) (by kernel_rfl) ?_
  refine wpAnyS_t 8 (fun W => Ext none' w2 W) (fun _ => true) (some 16) (.int .i64 y.j) (by kernel_rfl) (by kernel_rfl) (fun _ _ _ h => h) (fun j x y _ ho hx => hx.trans ho) (fun x => Ext.refl _ x) e23 (by kernel_rfl) (fun o ho W hW => by cases ho; exact exec_load_cell _ _ rfl ⟨(w.heap.size + 1), 1, none⟩ (by kernel_rfl) _ (fun w h => load_int _ _ w h) (cellAt ((hW.same _ (by omega) (fun h => h)).trans k1) 1 rfl)) ?_
  refine wpAnyS_p 10 (some 18) (.pointer (some ⟨w.heap.size, 2, none⟩)) (by kernel_rfl) (by kernel_rfl) (fun _ _ _ h => h) (fun x => Ext.refl _ x) (by kernel_rfl) (by kernel_rfl) ?_
  refine wpAnyS_t 11 (fun W => Ext none' w2 W) (fun _ => true) (some 19) (.string ⟨x.ahead.toArray⟩) (by kernel_rfl) (by kernel_rfl) (fun _ _ _ h => h) (fun j x y _ ho hx => hx.trans ho) (fun x => Ext.refl _ x) e23 (by kernel_rfl) (fun o ho W hW => by cases ho; exact exec_load_cell _ _ rfl ⟨w.heap.size, 2, none⟩ (by kernel_rfl) _ (fun w h => load_str _ _ w h) (cellAt ((hW.same _ (by omega) (fun h => h)).trans k0) 2 rfl)) ?_
  refine wpAnyS_p 12 (some 20) (.pointer (some ⟨(w.heap.size + 1), 2, none⟩)) (by kernel_rfl) (by kernel_rfl) (fun _ _ _ h => h) (fun x => Ext.refl _ x) (by kernel_rfl) (by kernel_rfl) ?_
  refine wpAnyS_t 13 (fun W => Ext none' w2 W) (fun _ => true) (some 21) (.string ⟨y.ahead.toArray⟩) (by kernel_rfl) (by kernel_rfl) (fun _ _ _ h => h) (fun j x y _ ho hx => hx.trans ho) (fun x => Ext.refl _ x) e23 (by kernel_rfl) (fun o ho W hW => by cases ho; exact exec_load_cell _ _ rfl ⟨(w.heap.size + 1), 2, none⟩ (by kernel_rfl) _ (fun w h => load_str _ _ w h) (cellAt ((hW.same _ (by omega) (fun h => h)).trans k1) 2 rfl)) ?_
  refine wpAnyS_p 15 (some 23) (.map (some (w.heap.size + 2))) (by kernel_rfl) (by kernel_rfl) (fun _ _ _ h => h) (fun x => Ext.refl _ x) (by kernel_rfl) (by kernel_rfl) ?_
  refine wpAnyS_p 16 (some 24) (.pointer (some ⟨w.heap.size, 3, none⟩)) (by kernel_rfl) (by kernel_rfl) (fun _ _ _ h => h) (fun x => Ext.refl _ x) (by kernel_rfl) (by kernel_rfl) ?_
  refine wpAnyS_t 17 (fun W => Ext none' w2 W) (fun _ => true) (some 25) (.bool x.right) (by kernel_rfl) (by kernel_rfl) (fun _ _ _ h => h) (fun j x y _ ho hx => hx.trans ho) (fun x => Ext.refl _ x) e23 (by kernel_rfl) (fun o ho W hW => by cases ho; exact exec_load_cell _ _ rfl ⟨w.heap.size, 3, none⟩ (by kernel_rfl) _ (fun w h => load_bool _ _ w h) (cellAt ((hW.same _ (by omega) (fun h => h)).trans k0) 3 rfl)) ?_
  refine wpAnyS_t 18 (fun W => Ext none' w2 W) (fun _ => true) (some 26) (.int .i64 (bit x.right)) (by kernel_rfl) (by kernel_rfl) (fun _ _ _ h => h) (fun j x y _ ho hx => hx.trans ho) (fun x => Ext.refl _ x) e23 (by kernel_rfl) (fun o ho W hW => by cases ho; exact exec_lookup _ _ _ _ rfl (.map (some (w.heap.size + 2))) (.bool x.right) (by kernel_rfl) (by kernel_rfl) _ (hlk W hW x.right)) ?_
  refine wpAnyS_p 19 (some 27) (.map (some (w.heap.size + 2))) (by kernel_rfl) (by kernel_rfl) (fun _ _ _ h => h) (fun x => Ext.refl _ x) (by kernel_rfl) (by kernel_rfl) ?_
  refine wpAnyS_p 20 (some 28) (.pointer (some ⟨(w.heap.size + 1), 3, none⟩)) (by kernel_rfl) (by kernel_rfl) (fun _ _ _ h => h) (fun x => Ext.refl _ x) (by kernel_rfl) (by kernel_rfl) ?_
  refine wpAnyS_t 21 (fun W => Ext none' w2 W) (fun _ => true) (some 29) (.bool y.right) (by kernel_rfl) (by kernel_rfl) (fun _ _ _ h => h) (fun j x y _ ho hx => hx.trans ho) (fun x => Ext.refl _ x) e23 (by kernel_rfl) (fun o ho W hW => by cases ho; exact exec_load_cell _ _ rfl ⟨(w.heap.size + 1), 3, none⟩ (by kernel_rfl) _ (fun w h => load_bool _ _ w h) (cellAt ((hW.same _ (by omega) (fun h => h)).trans k1) 3 rfl)) ?_
  refine wpAnyS_t 22 (fun W => Ext none' w2 W) (fun _ => true) (some 30) (.int .i64 (bit y.right)) (by kernel_rfl) (by kernel_rfl) (fun _ _ _ h => h) (fun j x y _ ho hx => hx.trans ho) (fun x => Ext.refl _ x) e23 (by kernel_rfl) (fun o ho W hW => by cases ho; exact exec_lookup _ _ _ _ rfl (.map (some (w.heap.size + 2))) (.bool y.right) (by kernel_rfl) (by kernel_rfl) _ (hlk W hW y.right)) ?_
  refine wpAnyS_1 4 (some 12) (.call { callee := .value (.func 50), args := #[.tmp 9, .tmp 11], argTypes := #[3, 3] }) (by kernel_rfl) (by kernel_rfl) (by kernel_rfl) (by kernel_rfl) fun o hod ho K hK => ?_
  refine wpIn_call _ _ _ #[.int .i64 x.i, .int .i64 y.i] _ hod ho (by kernel_rfl) (enters_of Tryz.func50 (by kernel_rfl) rfl) ((Tryz.cmp_Compare_int x.i y.i W3).mono ?_)
  rintro e w5 ⟨rfl, hw5⟩
  rw [hw5]
  clear hw5
  refine ⟨.int .i64 (cmpInt x.i y.i), rfl, hK _ _ ⟨Ext.refl _ _, ?_⟩⟩
  clear hK ho hod
  refine wpAnyS_1 9 (some 17) (.call { callee := .value (.func 50), args := #[.tmp 14, .tmp 16], argTypes := #[3, 3] }) (by kernel_rfl) (by kernel_rfl) (by kernel_rfl) (by kernel_rfl) fun o hod ho K hK => ?_
  refine wpIn_call _ _ _ #[.int .i64 x.j, .int .i64 y.j] _ hod ho (by kernel_rfl) (enters_of Tryz.func50 (by kernel_rfl) rfl) ((Tryz.cmp_Compare_int x.j y.j W3).mono ?_)
  rintro e w5 ⟨rfl, hw5⟩
  rw [hw5]
  clear hw5
  refine ⟨.int .i64 (cmpInt x.j y.j), rfl, hK _ _ ⟨Ext.refl _ _, ?_⟩⟩
  clear hK ho hod
  have hsc := Tryz.strings_Compare ⟨x.ahead.toArray⟩ ⟨y.ahead.toArray⟩ W3
  rw [compareBytes_is] at hsc
  refine wpAnyS_1 14 (some 22) (.call { callee := .value (.func 51), args := #[.tmp 19, .tmp 21], argTypes := #[9, 9] }) (by kernel_rfl) (by kernel_rfl) (by kernel_rfl) (by kernel_rfl) fun o hod ho K hK => ?_
  refine wpIn_call _ _ _ #[.string ⟨x.ahead.toArray⟩, .string ⟨y.ahead.toArray⟩] _ hod ho (by kernel_rfl) (enters_of Tryz.func51 (by kernel_rfl) rfl) ((hsc).mono ?_)
  rintro e w5 ⟨rfl, hw5⟩
  rw [hw5]
  clear hw5
  refine ⟨.int .i64 (cmpStr x.ahead y.ahead), rfl, hK _ _ ⟨Ext.refl _ _, ?_⟩⟩
  clear hK ho hod
  refine wpAnyS_1 23 (some 31) (.call { callee := .value (.func 50), args := #[.tmp 26, .tmp 30], argTypes := #[3, 3] }) (by kernel_rfl) (by kernel_rfl) (by kernel_rfl) (by kernel_rfl) fun o hod ho K hK => ?_
  refine wpIn_call _ _ _ #[.int .i64 (bit x.right), .int .i64 (bit y.right)] _ hod ho (by kernel_rfl) (enters_of Tryz.func50 (by kernel_rfl) rfl) ((Tryz.cmp_Compare_int (bit x.right) (bit y.right) W3).mono ?_)
  rintro e w5 ⟨rfl, hw5⟩
  rw [hw5]
  clear hw5
  refine ⟨.int .i64 (cmpInt (bit x.right) (bit y.right)), rfl, hK _ _ ⟨Ext.refl _ _, ?_⟩⟩
  clear hK ho hod
  refine wpAnyS_only 24 rfl (by kernel_rfl) rfl fun K hK => ?_
  go_simp
  obtain ⟨W4, hW4⟩ : ∃ W4, W4 = ((((w.alloc (.cells #[.int .i64 x.i, .int .i64 x.j, .string ⟨x.ahead.toArray⟩, .bool x.right, .int .i64 x.h] 37)).alloc (.cells #[.int .i64 y.i, .int .i64 y.j, .string ⟨y.ahead.toArray⟩, .bool y.right, .int .i64 y.h] 37)).alloc (mobj (fun b : Bool => .bool b) (fun n : Int => .int .i64 n) (mput ([] : List (Bool × Int)) true 1))).alloc (.cells #[.int .i64 (cmpInt x.i y.i), .int .i64 (cmpInt x.j y.j), .int .i64 (cmpStr x.ahead y.ahead), .int .i64 (cmpInt (bit x.right) (bit y.right))] 3)).drew := ⟨_, rfl⟩
  rw [← hW4]
  have e34 : Ext none' W3 W4 := by rw [hW3, hw2, hW4]; exact (Ext.refl none' _).alloc _
  refine hK _ _ ⟨e34, ?_⟩
  clear hK
  have kr : W4.heap[w.heap.size + 3]? = some (.cells #[.int .i64 (cmpInt x.i y.i), .int .i64 (cmpInt x.j y.j), .int .i64 (cmpStr x.ahead y.ahead), .int .i64 (cmpInt (bit x.right) (bit y.right))] 3) := by rw [hW4]; exact heapNew _ (by simp)
  have hor := or_any (w.heap.size + 3) [cmpInt x.i y.i, cmpInt x.j y.j, cmpStr x.ahead y.ahead, cmpInt (bit x.right) (bit y.right)] 4 W4 (by
    intro j v hv
    refine cellAt kr j ?_
    rcases j with _ | _ | _ | _ | j <;> simp at hv <;> subst hv <;> rfl) (by simp)
  rw [HFIN.out] at hor
  refine wpAnyS_1 25 (some 33) (.call { callee := .value (.func 49), args := #[.tmp 32], argTypes := #[45] }) (by kernel_rfl) (by kernel_rfl) (by kernel_rfl) (by kernel_rfl) fun o hod ho K hK => ?_
  refine wpIn_call _ _ _ #[.slice (some ⟨w.heap.size + 3, 0, none⟩) 4 4] _ hod ho (by kernel_rfl) (enters_of Tryz.func49 (by kernel_rfl) rfl) (hor.mono ?_)
  rintro e w5 ⟨rfl, hw5⟩
  rw [hw5]
  clear hw5
  refine ⟨_, rfl, hK _ _ ⟨Ext.refl _ _, ?_⟩⟩
  clear hK ho hod
  refine wpAnyS_p 26 (some 4) (.int .i64 (Pl.compare x y)) (by kernel_rfl) (by kernel_rfl) (fun _ _ _ h => h) (fun x => Ext.refl _ x) (by kernel_rfl) (by kernel_rfl) ?_
  refine wpAnyS_done (by kernel_rfl) ?_ _
  have HW4 := Lib.hid hW4
  clear hlk hbit k0 k1 k2 kr hW3 hw2 hW4
  go_wp2_with fail
  go_ret
  exact ⟨rfl, 1, _, by rw [HW4.out]; simp only [Sort.alloc_eq_grow, Sort.grow_grow]; rfl⟩

theorem cmp_lays (blk off size : Nat) (w : World) : CmpLays Tryz.prog 28 #[] encPot 5 Pl.compare blk off size w :=
  fun _ _ _ _ x y => compare_any x y _
end Go.Proofs.Kb
