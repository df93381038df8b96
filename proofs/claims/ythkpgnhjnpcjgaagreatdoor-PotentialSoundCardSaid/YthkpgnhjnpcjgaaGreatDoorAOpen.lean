/- Package align: both sides of two words. -/
import Derived.Test.YthkpgnhjnpcjgaaGreatDoorAFits
namespace Go.Proofs.Kb
open Go Go.RowKit Go.Lib Pl
attribute [local go_sem] Oper.semAt_some run_makeMap

/-- v is two words with the rules of their scripts -/
def WordsAt (N : Nat) (w : World) (v : Value) (p : Words) : Prop := ∃ vl vla vm vma, v = .agg #[vl, vla, vm, vma] ∧ StrsAt N w vl p.l ∧ ARulesAt N w vla p.la ∧ StrsAt N w vm p.m ∧ ARulesAt N w vma p.ma

theorem WordsAt.keep {N : Nat} {w w' : World} {v : Value} {p : Words} (h : WordsAt N w v p) (hs : Same N w w') : WordsAt N w' v p := by
  obtain ⟨a, b, c, d, rfl, h1, h2, h3, h4⟩ := h
  exact ⟨a, b, c, d, rfl, h1.keep hs, h2.keep hs, h3.keep hs, h4.keep hs⟩

theorem StrsAt.but {N N' : Nat} {w w' : World} {v : Value} {l : List Str} {B : Nat} {cs : Array Value} {t : TypeId} {fr : Nat × Nat} (h : StrsAt N w v l) (hB : w.heap[B]? = some (.cells cs t fr)) (hno : ∀ (i : Nat) s, cs[i]? ≠ some (.string s)) (hN : N ≤ N') (hs : ∀ k, k < N → k ≠ B → w'.heap[k]? = w.heap[k]?) : StrsAt N' w' v l := by
  obtain ⟨a, cap, hv, hc, hm, hr⟩ := h
  refine ⟨a, cap, hv, hc, hm, fun hl => ?_⟩
  obtain ⟨b, o, ha, hb, hx⟩ := hr hl
  have hne : b ≠ B := by
    rintro rfl
    obtain ⟨x, hx0⟩ : ∃ x, l[0]? = some x := ⟨_, List.getElem?_eq_getElem (List.length_pos_iff.2 hl)⟩
    have := hx 0 x hx0
    unfold World.cell? at this
    rw [hB] at this
    have h2 : cs[o + 0]? = some (.string ⟨x.toArray⟩) := by simpa [encS] using this
    exact hno _ _ h2
  refine ⟨b, o, ha, by omega, fun j x hj => ?_⟩
  rw [← hx j x hj]
  unfold World.cell?
  rw [hs b hb hne]

theorem ARulesAt.but {N N' : Nat} {w w' : World} {v : Value} {rs : List ARule} {B : Nat} {cs : Array Value} {t : TypeId} {fr : Nat × Nat} (h : ARulesAt N w v rs) (hB : w.heap[B]? = some (.cells cs t fr)) (hno : ∀ (i : Nat) s, cs[i]? ≠ some (.string s)) (hni : ∀ (i : Nat) n, cs[i]? ≠ some (.int .i64 n)) (hN : N ≤ N') (hs : ∀ k, k < N → k ≠ B → w'.heap[k]? = w.heap[k]?) : ARulesAt N' w' v rs := by
  obtain ⟨a, cap, hv, hc, hm, hr⟩ := h
  refine ⟨a, cap, hv, hc, hm, fun hl => ?_⟩
  obtain ⟨b, o, ha, hb, hx⟩ := hr hl
  have hne : b ≠ B := by
    rintro rfl
    obtain ⟨x, hx0⟩ : ∃ x, rs[0]? = some x := ⟨_, List.getElem?_eq_getElem (List.length_pos_iff.2 hl)⟩
    obtain ⟨f, _, hcell⟩ := hx 0 x hx0
    have := hcell 0 (.int .i64 x.index) rfl
    unfold World.cell? at this
    rw [hB] at this
    have h2 : cs[o + 0 * 4 + 0]? = some (.int .i64 x.index) := by simpa using this
    exact hni _ _ h2
  refine ⟨b, o, ha, by omega, fun j r hj => ?_⟩
  obtain ⟨f, hf, hcell⟩ := hx j r hj
  refine ⟨f, hf.but hB hno hN hs, fun i u hu => ?_⟩
  rw [← hcell i u hu]
  unfold World.cell?
  rw [hs b hb hne]

theorem nil4_str (i : Nat) (s : ByteArray) : (#[.slice none 0 0, .slice none 0 0, .slice none 0 0, .slice none 0 0] : Array Value)[i]? ≠ some (.string s) := by
  intro h
  have := Array.mem_of_getElem? h
  simp at this

theorem nil4_int (i : Nat) (n : Int) : (#[.slice none 0 0, .slice none 0 0, .slice none 0 0, .slice none 0 0] : Array Value)[i]? ≠ some (.int .i64 n) := by
  intro h
  have := Array.mem_of_getElem? h
  simp at this

/-- sideOf, whatever the word -/
theorem sideOf_any (N : Nat) (v : Value) (t : Table) (k : Int) (s : ByteArray) (w : World) (hv : TabAt N w v t) (hr9 : t.rules.length ≤ 10000) (hs : s.size < 35184372088832) (hN : N ≤ w.heap.size) (hT : Tabs N w) :
    Calls Tryz.prog 65 #[v, .int .i64 k, .string s] w fun e w' => ∃ (la ra : Option Addr) (ln lc rn rc : Nat), e = .returned (.tuple #[.agg #[.slice la ln lc, .slice ra rn rc], .bool (lettersOf k s.data.toList).isSome]) ∧
      (∀ l, lettersOf k s.data.toList = some l → SideAt w'.heap.size w' (.agg #[.slice la ln lc, .slice ra rn rc]) l (sideRules k 0 t.rules)) ∧ Ext none' w w' := by
  cases h : lettersOf k s.data.toList with
  | none =>
    refine (sideOf_no N v t k s w h hv hs hN hT).mono ?_
    rintro e w' ⟨rfl, hE⟩
    exact ⟨none, none, 0, 0, 0, 0, rfl, (fun l hl => by cases hl), hE⟩
  | some l =>
    refine (sideOf_yes N v t k s w l h hv hr9 hs hN hT).mono ?_
    rintro e w' ⟨vl, vr, ⟨la, ra, ln, lc, rn, rc, hsh⟩, rfl, hS, hE⟩
    simp only [Value.agg.injEq, Array.mk.injEq, List.cons.injEq] at hsh
    obtain ⟨rfl, rfl, -⟩ := hsh
    exact ⟨la, ra, ln, lc, rn, rc, rfl, (fun l' hl => by cases hl; exact hS), hE⟩

def OpenPost (t : Table) (a : Int) (x : Str) (b : Int) (y : Str) (w : World) (e : Ending) (w' : World) : Prop :=
  ∃ (l1 r1 l2 r2 : Option Addr) (n1 c1 m1 d1 n2 c2 m2 d2 : Nat), e = .returned (.tuple #[.agg #[.slice l1 n1 c1, .slice r1 m1 d1, .slice l2 n2 c2, .slice r2 m2 d2], .bool (two t a x b y).isSome]) ∧
    (∀ p, two t a x b y = some p → WordsAt w'.heap.size w' (.agg #[.slice l1 n1 c1, .slice r1 m1 d1, .slice l2 n2 c2, .slice r2 m2 d2]) p.words) ∧ Ext none' w w'

set_option maxRecDepth 100000 in
set_option maxHeartbeats 4000000 in
theorem open_any (N : Nat) (v : Value) (t : Table) (a : Int) (x : ByteArray) (b : Int) (y : ByteArray) (w : World) (hv : TabAt N w v t) (hr9 : t.rules.length ≤ 10000) (hx : x.size < 35184372088832) (hy : y.size < 35184372088832) (hN : N ≤ w.heap.size) (hT : Tabs N w) :
    Calls Tryz.prog 38 #[v, .int .i64 a, .string x, .int .i64 b, .string y] w (OpenPost t a x.data.toList b y.data.toList w) := by
  have hv0 := Lib.hid hv
  obtain ⟨vr, vd, ve, rfl, hr, hd, he, hgood⟩ := hv
  obtain ⟨ra, rc, rfl, hrc, hrm, hrx⟩ := hr
  obtain ⟨da, dc, rfl, -⟩ := hd
  obtain ⟨ea, ec, rfl, -⟩ := he
  clear hrx
  obtain ⟨w0, hw0⟩ : ∃ w0, w0 = (w.alloc (.cells #[.slice ra t.rules.length rc, .slice da t.drops.length dc, .slice ea t.ends.length ec, .int .i64 t.drop, .int .i64 t.order, .int .i64 t.initial] 25)).alloc (.cells #[.slice none 0 0, .slice none 0 0, .slice none 0 0, .slice none 0 0] 89) := ⟨_, rfl⟩
  have E0 : Ext none' w w0 := by rw [hw0]; exact ((Ext.refl none' w).alloc _).alloc _
  have s0 : w0.heap.size = w.heap.size + 2 := by rw [hw0]; simp
  have kT0 : w0.heap[w.heap.size]? = some (.cells #[.slice ra t.rules.length rc, .slice da t.drops.length dc, .slice ea t.ends.length ec, .int .i64 t.drop, .int .i64 t.order, .int .i64 t.initial] 25) := by rw [hw0]; exact keepAt (newAt _ rfl) _
  have kD0 : w0.heap[w.heap.size + 1]? = some (.cells #[.slice none 0 0, .slice none 0 0, .slice none 0 0, .slice none 0 0] 89) := by rw [hw0]; exact newAt _ (by simp)
  have cell : ∀ W, Ext none' w0 W → ∀ (i : Nat) (v : Value), (#[.slice ra t.rules.length rc, .slice da t.drops.length dc, .slice ea t.ends.length ec, .int .i64 t.drop, .int .i64 t.order, .int .i64 t.initial] : Array Value)[i]? = some v → W.cell? ⟨w.heap.size, i, none⟩ = some v :=
    fun W h i v hv => cellAt ((h.same _ (by omega) (fun h => h)).trans kT0) i hv
  have CELL := Lib.hid cell
  have so := fun (k : Int) (s : ByteArray) (hs : s.size < 35184372088832) W (hW : Ext none' w0 W) => sideOf_any N _ t k s W (hv0.out.keep ((E0.trans hW).same0 hN)) hr9 hs (Nat.le_trans hN (E0.trans hW).size) (hT.keep ((E0.trans hW).same0 hN))
  have SO := Lib.hid so
  have vl := fun W (hW : Ext none' w0 W) => valid_any N _ t W (hv0.out.keep ((E0.trans hW).same0 hN)) (Nat.le_trans hN (E0.trans hW).size) (hT.keep ((E0.trans hW).same0 hN))
  have VL := Lib.hid vl
  have HW0 := Lib.hid hw0
  have htwo : (two t a x.data.toList b y.data.toList).isSome = ((lettersOf a x.data.toList).isSome && (lettersOf b y.data.toList).isSome && Valid t) := by
    unfold two
    cases lettersOf a x.data.toList <;> cases lettersOf b y.data.toList <;> simp
    cases Valid t <;> simp
  have htwo2 : ∀ p, two t a x.data.toList b y.data.toList = some p → ∃ l m, lettersOf a x.data.toList = some l ∧ lettersOf b y.data.toList = some m ∧ p = ⟨t.rules, a, b, l, m⟩ := by
    intro p hp
    unfold two at hp
    cases h1 : lettersOf a x.data.toList with
    | none => rw [h1] at hp; simp at hp
    | some l =>
      cases h2 : lettersOf b y.data.toList with
      | none => rw [h1, h2] at hp; simp at hp
      | some m =>
        rw [h1, h2] at hp
        simp only at hp
        split at hp
        · cases hp; exact ⟨l, m, rfl, rfl, rfl⟩
        · cases hp
  have HT := Lib.hid htwo
  have HT2 := Lib.hid htwo2
  clear htwo htwo2 so cell hw0 vl
  go_enter Tryz.func38, Tryz.ntmps38
  go_upto_region 1 with fail
  rw [← HW0.out]
  have q0 := CELL.out w0 (Ext.refl _ _) 0 _ rfl
  have q1 := CELL.out w0 (Ext.refl _ _) 1 _ rfl
  have q2 := CELL.out w0 (Ext.refl _ _) 2 _ rfl
  have q3 := CELL.out w0 (Ext.refl _ _) 3 _ rfl
  have q4 := CELL.out w0 (Ext.refl _ _) 4 _ rfl
  have q5 := CELL.out w0 (Ext.refl _ _) 5 _ rfl
  go_wp2_with fail
  clear q0 q1 q2 q3 q4 q5
  refine (SO.out a x hx w0 (Ext.refl _ _)).mono ?_
  rintro e w1 ⟨l1, r1, n1, c1, m1, d1, rfl, hs1, E1⟩
  go_upto_region 2 with fail
  obtain ⟨v1, hv1⟩ : ∃ v1, v1 = w1.alloc (.cells #[.slice l1 n1 c1, .slice r1 m1 d1] 87) := ⟨_, rfl⟩
  rw [← hv1]
  have F1 : Ext none' w1 v1 := by rw [hv1]; exact (Ext.refl none' w1).alloc _
  have k12a : v1.heap[w1.heap.size]? = some (.cells #[.slice l1 n1 c1, .slice r1 m1 d1] 87) := by rw [hv1]; exact newAt _ rfl
  have z1 : v1.heap.size = w1.heap.size + 1 := by rw [hv1]; simp
  clear hv1
  have E01 := E1.trans F1
  have q0 := CELL.out v1 E01 0 _ rfl
  have q1 := CELL.out v1 E01 1 _ rfl
  have q2 := CELL.out v1 E01 2 _ rfl
  have q3 := CELL.out v1 E01 3 _ rfl
  have q4 := CELL.out v1 E01 4 _ rfl
  have q5 := CELL.out v1 E01 5 _ rfl
  have Z1 := Lib.hid z1
  clear z1
  go_wp2_with fail
  clear q0 q1 q2 q3 q4 q5
  refine (SO.out b y hy v1 E01).mono ?_
  rintro e w2 ⟨l2, r2, n2, c2, m2, d2, rfl, hs2, E2⟩
  go_upto_region 3 with fail
  obtain ⟨v2, hv2⟩ : ∃ v2, v2 = w2.alloc (.cells #[.slice l2 n2 c2, .slice r2 m2 d2] 87) := ⟨_, rfl⟩
  rw [← hv2]
  have F2 : Ext none' w2 v2 := by rw [hv2]; exact (Ext.refl none' w2).alloc _
  have k14a : v2.heap[w2.heap.size]? = some (.cells #[.slice l2 n2 c2, .slice r2 m2 d2] 87) := by rw [hv2]; exact newAt _ rfl
  clear hv2
  have E02 := E01.trans (E2.trans F2)
  have z1 := Z1.out
  have y0 := E1.size
  have y2 := E2.size
  have y3 := F2.size
  obtain ⟨v3, hv3⟩ : ∃ v3, v3 = v2.drew := ⟨_, rfl⟩
  have F3 : Ext none' v2 v3 := by rw [hv3]; exact (Ext.refl none' v2).drew
  have E03 := E02.trans F3
  have k5 : v3.heap[w.heap.size]? = some (.cells #[.slice ra t.rules.length rc, .slice da t.drops.length dc, .slice ea t.ends.length ec, .int .i64 t.drop, .int .i64 t.order, .int .i64 t.initial] 25) := (E03.same _ (by omega) (fun h => h)).trans kT0
  have hD : v3.heap[w.heap.size + 1]? = some (.cells #[.slice none 0 0, .slice none 0 0, .slice none 0 0, .slice none 0 0] 89) := (E03.same _ (by omega) (fun h => h)).trans kD0
  have k12 : v3.heap[w1.heap.size]? = some (.cells #[.slice l1 n1 c1, .slice r1 m1 d1] 87) := ((E2.trans (F2.trans F3)).same _ (by omega) (fun h => h)).trans k12a
  have k14 : v3.heap[w2.heap.size]? = some (.cells #[.slice l2 n2 c2, .slice r2 m2 d2] 87) := (F3.same _ (Array.getElem?_eq_some_iff.1 k14a).1 (fun h => h)).trans k14a
  have KD0 := Lib.hid kD0
  clear kT0 kD0 k12a k14a
  refine (wpIn_wide (n := 1)).1 ?_
  refine wp_region_S (ro := none) 13 (fun _ x y => Ext (one (w.heap.size + 1)) x y) rfl (by kernel_rfl) ?_
  change wpAnyS _ _ _ _ _ _ _ _ _ _ v2.drew
  rw [← hv3]
  clear hv3
  refine wpAnyS_t 0 (fun W => W.heap[w1.heap.size]? = some (.cells #[.slice l1 n1 c1, .slice r1 m1 d1] 87)) (fun _ => true) (some 30) (.agg #[.slice l1 n1 c1, .slice r1 m1 d1]) (by kernel_rfl) (by kernel_rfl) (fun _ _ _ h => h) (fun j x y _ ho hx => (ho.same _ (Array.getElem?_eq_some_iff.1 hx).1 (by unfold one; omega)).trans hx) (fun x => Ext.refl _ x) k12 (by kernel_rfl) (fun o ho W hW => by cases ho; exact exec_load_row _ _ rfl _ (by kernel_rfl) _ _ _ hW Tryz.underlying87 rfl (by kernel_rfl)) ?_
  refine wpAnyS_t 1 (fun W => W.heap[w2.heap.size]? = some (.cells #[.slice l2 n2 c2, .slice r2 m2 d2] 87)) (fun _ => true) (some 31) (.agg #[.slice l2 n2 c2, .slice r2 m2 d2]) (by kernel_rfl) (by kernel_rfl) (fun _ _ _ h => h) (fun j x y _ ho hx => (ho.same _ (Array.getElem?_eq_some_iff.1 hx).1 (by unfold one; omega)).trans hx) (fun x => Ext.refl _ x) k14 (by kernel_rfl) (fun o ho W hW => by cases ho; exact exec_load_row _ _ rfl _ (by kernel_rfl) _ _ _ hW Tryz.underlying87 rfl (by kernel_rfl)) ?_
  refine wpAnyS_p 2 (some 32) (.agg #[.slice l1 n1 c1, .slice r1 m1 d1, .slice l2 n2 c2, .slice r2 m2 d2]) (by kernel_rfl) (by kernel_rfl) (fun _ _ _ h => h) (fun x => Ext.refl _ x) (by kernel_rfl) (by kernel_rfl) ?_
  generalize hb1 : (lettersOf a x.data.toList).isSome = b1 at *
  generalize hb2 : (lettersOf b y.data.toList).isSome = b2 at *
  refine wpAnyS_p 3 (some 33) (.bool b1) (by kernel_rfl) (by kernel_rfl) (fun _ _ _ h => h) (fun x => Ext.refl _ x) (by kernel_rfl) (by kernel_rfl) ?_
  refine wpAnyS_p 4 (some 34) (.bool b1) (by kernel_rfl) (by kernel_rfl) (fun _ _ _ h => h) (fun x => Ext.refl _ x) (by kernel_rfl) (by kernel_rfl) ?_
  cases b1 with
  | false =>
    refine wpAnyS_o 5 (some 35) (by kernel_rfl) (by kernel_rfl) (fun _ _ _ h => h) (fun x => Ext.refl _ x) (by kernel_rfl) ?_
    refine wpAnyS_p 6 (some 36) (.bool false) (by kernel_rfl) (by kernel_rfl) (fun _ _ _ h => h) (fun x => Ext.refl _ x) (by kernel_rfl) (by kernel_rfl) ?_
    refine wpAnyS_p 7 (some 37) (.bool false) (by kernel_rfl) (by kernel_rfl) (fun _ _ _ h => h) (fun x => Ext.refl _ x) (by kernel_rfl) (by kernel_rfl) ?_
    refine wpAnyS_o 8 (some 38) (by kernel_rfl) (by kernel_rfl) (fun _ _ _ h => h) (fun x => Ext.refl _ x) (by kernel_rfl) ?_
    refine wpAnyS_o 9 (some 39) (by kernel_rfl) (by kernel_rfl) (fun _ _ _ h => h) (fun x => Ext.refl _ x) (by kernel_rfl) ?_
    refine wpAnyS_p 10 (some 40) (.bool false) (by kernel_rfl) (by kernel_rfl) (fun _ _ _ h => h) (fun x => Ext.refl _ x) (by kernel_rfl) (by kernel_rfl) ?_
    refine wpAnyS_1 11 none (.store 89 (.tmp 10) (.tmp 32)) (by kernel_rfl) (by kernel_rfl) (by kernel_rfl) (by kernel_rfl) fun o hod ho KK hK => ?_
    refine wpIn_store_row _ _ _ ho (w.heap.size + 1) #[.slice l1 n1 c1, .slice r1 m1 d1, .slice l2 n2 c2, .slice r2 m2 d2] (by kernel_rfl) (by kernel_rfl) _ _ hD (by kernel_rfl) (by simp) (by simp [Value.oneCell']) ?_
    rw [hod]
    refine hK _ _ ⟨Ext.setRow (Ext.refl _ _) _ _ (.inr rfl), ?_⟩
    clear hK
    refine wpAnyS_p 12 (some 11) (.bool false) (by kernel_rfl) (by kernel_rfl) (fun _ _ _ h => h) (fun x => Ext.refl _ x) (by kernel_rfl) (by kernel_rfl) ?_
    refine wpAnyS_done (by kernel_rfl) ?_ _
    have hD5 := setRow_heap v3 (w.heap.size + 1) _ #[.slice l1 n1 c1, .slice r1 m1 d1, .slice l2 n2 c2, .slice r2 m2 d2] _ _ hD
    have EF := (E0.trans E03).setRow (w.heap.size + 1) #[.slice l1 n1 c1, .slice r1 m1 d1, .slice l2 n2 c2, .slice r2 m2 d2] (.inl (Nat.le_succ _))
    have ld := run_loadVar_row (P := Tryz.prog) _ (w.heap.size + 1) _ 89 _ _ _ hD5 Tryz.underlying89 rfl (by kernel_rfl)
    simp only [Act.put, List.setIfInBounds_toArray, List.set_cons_succ, List.set_cons_zero]
    have HEF := Lib.hid EF
    have HLD := Lib.hid ld
    clear EF ld hD5 k5 k12 k14
    go_wp2_with fail
    refine bodyPost_ret (results_cell_tmp (t := 10) (u := 11) (ty := 89) (x := .bool false) (a := ⟨w.heap.size + 1, 0, none⟩) (by kernel_rfl) _ _ _ (by kernel_rfl) HLD.out (by kernel_rfl)) (by kernel_rfl) ⟨l1, r1, l2, r2, n1, c1, m1, d1, n2, c2, m2, d2, by rw [HT.out]; simp, ?_, HEF.out⟩
    intro p hp
    have h9 := HT.out
    rw [hp] at h9
    simp at h9
  | true =>
    cases b2 with
    | false =>
      refine wpAnyS_p 5 (some 35) (.bool false) (by kernel_rfl) (by kernel_rfl) (fun _ _ _ h => h) (fun x => Ext.refl _ x) (by kernel_rfl) (by kernel_rfl) ?_
      refine wpAnyS_p 6 (some 36) (.bool false) (by kernel_rfl) (by kernel_rfl) (fun _ _ _ h => h) (fun x => Ext.refl _ x) (by kernel_rfl) (by kernel_rfl) ?_
      refine wpAnyS_p 7 (some 37) (.bool false) (by kernel_rfl) (by kernel_rfl) (fun _ _ _ h => h) (fun x => Ext.refl _ x) (by kernel_rfl) (by kernel_rfl) ?_
      refine wpAnyS_o 8 (some 38) (by kernel_rfl) (by kernel_rfl) (fun _ _ _ h => h) (fun x => Ext.refl _ x) (by kernel_rfl) ?_
      refine wpAnyS_o 9 (some 39) (by kernel_rfl) (by kernel_rfl) (fun _ _ _ h => h) (fun x => Ext.refl _ x) (by kernel_rfl) ?_
      refine wpAnyS_p 10 (some 40) (.bool false) (by kernel_rfl) (by kernel_rfl) (fun _ _ _ h => h) (fun x => Ext.refl _ x) (by kernel_rfl) (by kernel_rfl) ?_
      refine wpAnyS_1 11 none (.store 89 (.tmp 10) (.tmp 32)) (by kernel_rfl) (by kernel_rfl) (by kernel_rfl) (by kernel_rfl) fun o hod ho KK hK => ?_
      refine wpIn_store_row _ _ _ ho (w.heap.size + 1) #[.slice l1 n1 c1, .slice r1 m1 d1, .slice l2 n2 c2, .slice r2 m2 d2] (by kernel_rfl) (by kernel_rfl) _ _ hD (by kernel_rfl) (by simp) (by simp [Value.oneCell']) ?_
      rw [hod]
      refine hK _ _ ⟨Ext.setRow (Ext.refl _ _) _ _ (.inr rfl), ?_⟩
      clear hK
      refine wpAnyS_p 12 (some 11) (.bool false) (by kernel_rfl) (by kernel_rfl) (fun _ _ _ h => h) (fun x => Ext.refl _ x) (by kernel_rfl) (by kernel_rfl) ?_
      refine wpAnyS_done (by kernel_rfl) ?_ _
      have hD5 := setRow_heap v3 (w.heap.size + 1) _ #[.slice l1 n1 c1, .slice r1 m1 d1, .slice l2 n2 c2, .slice r2 m2 d2] _ _ hD
      have EF := (E0.trans E03).setRow (w.heap.size + 1) #[.slice l1 n1 c1, .slice r1 m1 d1, .slice l2 n2 c2, .slice r2 m2 d2] (.inl (Nat.le_succ _))
      have ld := run_loadVar_row (P := Tryz.prog) _ (w.heap.size + 1) _ 89 _ _ _ hD5 Tryz.underlying89 rfl (by kernel_rfl)
      simp only [Act.put, List.setIfInBounds_toArray, List.set_cons_succ, List.set_cons_zero]
      have HEF := Lib.hid EF
      have HLD := Lib.hid ld
      clear EF ld hD5 k5 k12 k14
      go_wp2_with fail
      refine bodyPost_ret (results_cell_tmp (t := 10) (u := 11) (ty := 89) (x := .bool false) (a := ⟨w.heap.size + 1, 0, none⟩) (by kernel_rfl) _ _ _ (by kernel_rfl) HLD.out (by kernel_rfl)) (by kernel_rfl) ⟨l1, r1, l2, r2, n1, c1, m1, d1, n2, c2, m2, d2, by rw [HT.out]; simp, ?_, HEF.out⟩
      intro p hp
      have h9 := HT.out
      rw [hp] at h9
      simp at h9
    | true =>
      refine wpAnyS_p 5 (some 35) (.bool true) (by kernel_rfl) (by kernel_rfl) (fun _ _ _ h => h) (fun x => Ext.refl _ x) (by kernel_rfl) (by kernel_rfl) ?_
      refine wpAnyS_p 6 (some 36) (.bool true) (by kernel_rfl) (by kernel_rfl) (fun _ _ _ h => h) (fun x => Ext.refl _ x) (by kernel_rfl) (by kernel_rfl) ?_
      refine wpAnyS_p 7 (some 37) (.bool true) (by kernel_rfl) (by kernel_rfl) (fun _ _ _ h => h) (fun x => Ext.refl _ x) (by kernel_rfl) (by kernel_rfl) ?_
      refine wpAnyS_t 8 (fun W => W.heap[w.heap.size]? = some (.cells #[.slice ra t.rules.length rc, .slice da t.drops.length dc, .slice ea t.ends.length ec, .int .i64 t.drop, .int .i64 t.order, .int .i64 t.initial] 25)) (fun _ => true) (some 38) (.agg #[.slice ra t.rules.length rc, .slice da t.drops.length dc, .slice ea t.ends.length ec, .int .i64 t.drop, .int .i64 t.order, .int .i64 t.initial]) (by kernel_rfl) (by kernel_rfl) (fun _ _ _ h => h) (fun j x y _ ho hx => (ho.same _ (Array.getElem?_eq_some_iff.1 hx).1 (by unfold one; omega)).trans hx) (fun x => Ext.refl _ x) k5 (by kernel_rfl) (fun o ho W hW => by cases ho; exact exec_load_row _ _ rfl _ (by kernel_rfl) _ _ _ hW Tryz.underlying25 rfl (by kernel_rfl)) ?_
      refine wpAnyS_1 9 (some 39) (.call { callee := .value (.func 46), args := #[.tmp 38], argTypes := #[25] }) (by kernel_rfl) (by kernel_rfl) (by kernel_rfl) (by kernel_rfl) fun o hod ho KK hK => ?_
      refine wpIn_call _ _ _ #[.agg #[.slice ra t.rules.length rc, .slice da t.drops.length dc, .slice ea t.ends.length ec, .int .i64 t.drop, .int .i64 t.order, .int .i64 t.initial]] _ hod ho (by kernel_rfl) (enters_of Tryz.func46 (by kernel_rfl) rfl) ((VL.out v3 E03).mono ?_)
      rintro e w4 ⟨rfl, hE4⟩
      refine ⟨_, rfl, hK _ _ ⟨hE4.mono (fun _ _ h => h.elim), ?_⟩⟩
      clear hK
      have hD4 := (hE4.same _ (Array.getElem?_eq_some_iff.1 hD).1 (fun h => h)).trans hD
      have y4 := hE4.size
      have y5 := F3.size
      have hB1 : w1.heap[w.heap.size + 1]? = some (.cells #[.slice none 0 0, .slice none 0 0, .slice none 0 0, .slice none 0 0] 89) := (E1.same _ (by omega) (fun h => h)).trans KD0.out
      have hB2 : w2.heap[w.heap.size + 1]? = some (.cells #[.slice none 0 0, .slice none 0 0, .slice none 0 0, .slice none 0 0] 89) := ((E01.trans E2).same _ (by omega) (fun h => h)).trans KD0.out
      have E14 : Ext none' w1 w4 := F1.trans (E2.trans (F2.trans (F3.trans hE4)))
      have E24 : Ext none' w2 w4 := F2.trans (F3.trans hE4)
      have HB1 := Lib.hid hB1
      have HB2 := Lib.hid hB2
      clear hB1 hB2
      refine wpAnyS_p 10 (some 40) (.bool (Valid t)) (by kernel_rfl) (by kernel_rfl) (fun _ _ _ h => h) (fun x => Ext.refl _ x) (by kernel_rfl) (by kernel_rfl) ?_
      refine wpAnyS_1 11 none (.store 89 (.tmp 10) (.tmp 32)) (by kernel_rfl) (by kernel_rfl) (by kernel_rfl) (by kernel_rfl) fun o hod ho KK hK => ?_
      refine wpIn_store_row _ _ _ ho (w.heap.size + 1) #[.slice l1 n1 c1, .slice r1 m1 d1, .slice l2 n2 c2, .slice r2 m2 d2] (by kernel_rfl) (by kernel_rfl) _ _ hD4 (by kernel_rfl) (by simp) (by simp [Value.oneCell']) ?_
      rw [hod]
      refine hK _ _ ⟨Ext.setRow (Ext.refl _ _) _ _ (.inr rfl), ?_⟩
      clear hK
      refine wpAnyS_p 12 (some 11) (.bool (Valid t)) (by kernel_rfl) (by kernel_rfl) (fun _ _ _ h => h) (fun x => Ext.refl _ x) (by kernel_rfl) (by kernel_rfl) ?_
      refine wpAnyS_done (by kernel_rfl) ?_ _
      have hD5 := setRow_heap w4 (w.heap.size + 1) _ #[.slice l1 n1 c1, .slice r1 m1 d1, .slice l2 n2 c2, .slice r2 m2 d2] _ _ hD4
      have EF := (E0.trans (E03.trans hE4)).setRow (w.heap.size + 1) #[.slice l1 n1 c1, .slice r1 m1 d1, .slice l2 n2 c2, .slice r2 m2 d2] (.inl (Nat.le_succ _))
      have ld := run_loadVar_row (P := Tryz.prog) _ (w.heap.size + 1) _ 89 _ _ _ hD5 Tryz.underlying89 rfl (by kernel_rfl)
      simp only [Act.put, List.setIfInBounds_toArray, List.set_cons_succ, List.set_cons_zero]
      have HEF := Lib.hid EF
      have HLD := Lib.hid ld
      clear EF ld hD5 k5 k12 k14
      go_wp2_with fail
      refine bodyPost_ret (results_cell_tmp (t := 10) (u := 11) (ty := 89) (x := .bool (Valid t)) (a := ⟨w.heap.size + 1, 0, none⟩) (by kernel_rfl) _ _ _ (by kernel_rfl) HLD.out (by kernel_rfl)) (by kernel_rfl) ⟨l1, r1, l2, r2, n1, c1, m1, d1, n2, c2, m2, d2, by rw [HT.out]; simp, ?_, HEF.out⟩
      intro p hp
      obtain ⟨l, m, e1, e2, rfl⟩ := HT2.out p hp
      obtain ⟨u1, u2, hu, g1, g2⟩ := hs1 l e1
      obtain ⟨u3, u4, hu', g3, g4⟩ := hs2 m e2
      simp only [Value.agg.injEq, Array.mk.injEq, List.cons.injEq] at hu hu'
      obtain ⟨rfl, rfl, -⟩ := hu
      obtain ⟨rfl, rfl, -⟩ := hu'
      have hsz : (w4.setRow (w.heap.size + 1) #[.slice l1 n1 c1, .slice r1 m1 d1, .slice l2 n2 c2, .slice r2 m2 d2]).heap.size = w4.heap.size := by simp
      refine ⟨_, _, _, _, rfl, g1.but HB1.out nil4_str (by omega) (fun k hk hne => ?_), g2.but HB1.out nil4_str nil4_int (by omega) (fun k hk hne => ?_), g3.but HB2.out nil4_str (by omega) (fun k hk hne => ?_), g4.but HB2.out nil4_str nil4_int (by omega) (fun k hk hne => ?_)⟩
      all_goals (rw [setRow_other _ _ _ _ hne]; first | exact E14.same _ hk (fun h => h) | exact E24.same _ hk (fun h => h))
end Go.Proofs.Kb
