/- What the arguments of the law hold, as the row's reading gives it. -/
import Derived.Test.YthkpgnhjnpcjgaaGreatDoorLawB
import Derived.ProofKit
import Derived.OpenShut
import Derived.Deep.Slices
namespace Go.Proofs.Kb
open Go Go.RowKit Go.Lib Pl

section
variable {H : Type} {enc : TypeId × Value → H} {W : World} {x : DataW H × List MemPlace} {cs : List Value} {n : Nat}

theorem cells_int : Tryz.prog.cellsOf 3 = 1 := by kernel_rfl
theorem cells_string : Tryz.prog.cellsOf 9 = 1 := by kernel_rfl
theorem cells_bool : Tryz.prog.cellsOf 4 = 1 := by kernel_rfl
theorem cells_rule : Tryz.prog.cellsOf 41 = 4 := by kernel_rfl
theorem cells_drop : Tryz.prog.cellsOf 109 = 3 := by kernel_rfl
theorem cells_pot : Tryz.prog.cellsOf 37 = 5 := by kernel_rfl
theorem cells_rules : Tryz.prog.cellsOf 22 = 1 := by kernel_rfl
theorem cells_drops : Tryz.prog.cellsOf 23 = 1 := by kernel_rfl
theorem cells_table : Tryz.prog.cellsOf 25 = 6 := by kernel_rfl

theorem int_wf {n : Int} (h : (Lit.int .i64 n).wf = true) : isInt n := bounds_i64 h
theorem str_bytes (s : ByteArray) : (⟨s.data.toList.toArray⟩ : ByteArray) = s := by cases s; simp

set_option maxRecDepth 100000 in
theorem open_rule (h : DataW.trod enc Tryz.prog W 0 (fun _ => true) true n 41 cs = some x) : ∃ r : Rule, cs = encRule r ∧ isInt r.script := by
  obtain ⟨xs, k, _, _, hl, hlen, hf⟩ := DataW.trod_struct Tryz.underlying41 h
  rw [cells_rule] at hl
  match cs, hl with
  | [c0, c1, c2, c3], _ =>
    match xs, hlen with
    | [y0, y1, y2, y3], _ =>
      have f0 := hf 0 _ rfl
      have f1 := hf 1 _ rfl
      have f2 := hf 2 _ rfl
      have f3 := hf 3 _ rfl
      simp only [List.getElem?_cons_zero, List.getElem?_cons_succ] at f0 f1 f2 f3
      obtain ⟨a, ha, _, hw⟩ := DataW.trod_int Tryz.underlying3 f0
      obtain ⟨s1, hs1, _, _⟩ := DataW.trod_string Tryz.underlying9 f1
      obtain ⟨s2, hs2, _, _⟩ := DataW.trod_string Tryz.underlying9 f2
      obtain ⟨c, hc, _, _⟩ := DataW.trod_int Tryz.underlying3 f3
      cases ha; cases hs1; cases hs2; cases hc
      exact ⟨⟨a, s1.data.toList, s2.data.toList, c⟩, by simp [encRule, encS], int_wf hw⟩

set_option maxRecDepth 100000 in
theorem open_drop (h : DataW.trod enc Tryz.prog W 0 (fun _ => true) true n 109 cs = some x) : ∃ r : Drop, cs = encDrop r ∧ isInt r.script := by
  obtain ⟨xs, k, _, _, hl, hlen, hf⟩ := DataW.trod_struct Tryz.underlying109 h
  rw [cells_drop] at hl
  match cs, hl with
  | [c0, c1, c2], _ =>
    match xs, hlen with
    | [y0, y1, y2], _ =>
      have f0 := hf 0 _ rfl
      have f1 := hf 1 _ rfl
      have f2 := hf 2 _ rfl
      simp only [List.getElem?_cons_zero, List.getElem?_cons_succ] at f0 f1 f2
      obtain ⟨a, ha, _, hw⟩ := DataW.trod_int Tryz.underlying3 f0
      obtain ⟨s1, hs1, _, _⟩ := DataW.trod_string Tryz.underlying9 f1
      obtain ⟨c, hc, _, _⟩ := DataW.trod_int Tryz.underlying3 f2
      cases ha; cases hs1; cases hc
      exact ⟨⟨a, s1.data.toList, c⟩, by simp [encDrop, encS], int_wf hw⟩

set_option maxRecDepth 100000 in
theorem open_pot (h : DataW.trod enc Tryz.prog W 0 (fun _ => true) true n 37 cs = some x) : ∃ r : Pot, cs = encPot r ∧ (isInt r.i ∧ isInt r.j ∧ isInt r.h) := by
  obtain ⟨xs, k, _, _, hl, hlen, hf⟩ := DataW.trod_struct Tryz.underlying37 h
  rw [cells_pot] at hl
  match cs, hl with
  | [c0, c1, c2, c3, c4], _ =>
    match xs, hlen with
    | [y0, y1, y2, y3, y4], _ =>
      have f0 := hf 0 _ rfl
      have f1 := hf 1 _ rfl
      have f2 := hf 2 _ rfl
      have f3 := hf 3 _ rfl
      have f4 := hf 4 _ rfl
      simp only [List.getElem?_cons_zero, List.getElem?_cons_succ] at f0 f1 f2 f3 f4
      obtain ⟨a, ha, _, w0⟩ := DataW.trod_int Tryz.underlying3 f0
      obtain ⟨b, hb, _, w1⟩ := DataW.trod_int Tryz.underlying3 f1
      obtain ⟨s1, hs1, _, _⟩ := DataW.trod_string Tryz.underlying9 f2
      obtain ⟨r, hr, _⟩ := DataW.trod_bool Tryz.underlying4 f3
      obtain ⟨c, hc, _, w2⟩ := DataW.trod_int Tryz.underlying3 f4
      cases ha; cases hb; cases hs1; cases hr; cases hc
      exact ⟨⟨a, b, s1.data.toList, r, c⟩, by simp [encPot, encS], int_wf w0, int_wf w1, int_wf w2⟩

theorem cells_each {a : Addr} {k : Nat} {cs : List Value} (h : W.cells? 0 a k = some cs) : cs.length = k ∧ ∀ i u, cs[i]? = some u → W.cell? (a.add i) = some u := by
  obtain ⟨_, h2, h3⟩ := World.cells?_some h
  refine ⟨h2, fun i u hu => ?_⟩
  rw [h3 i (by have := (List.getElem?_eq_some_iff.1 hu).1; omega)]
  exact hu

theorem open_rows {α : Type} {k : Nat} (hk : 0 < k) {ek : α → List Value} {good : α → Prop} {t e : TypeId} (ht : Tryz.prog.underlying t = some (.slice e)) (hc : Tryz.prog.cellsOf e = k)
    (hel : ∀ {n cs} {x : DataW H × List MemPlace}, DataW.trod enc Tryz.prog W 0 (fun _ => true) true n e cs = some x → ∃ r, cs = ek r ∧ good r)
    (h : DataW.trod enc Tryz.prog W 0 (fun _ => true) true n t cs = some x) : ∃ v l, cs = [v] ∧ SlAt k ek W.heap.size W v l ∧ ∀ r ∈ l, good r := by
  rcases Go.Deep.open_slice ht h with ⟨rfl, _⟩ | ⟨a, len, cap, m, n', D, Pl', rfl, _, hlc, hcm, hm, _, hel'⟩
  · exact ⟨_, [], rfl, SlAt.none _ _ _ _, fun _ h => by cases h⟩
  · simp only [if_true] at hm
    rw [hm] at hel'
    clear hm
    have ex : ∀ i : Fin len, ∃ r : α, W.cells? 0 (a.add (i.1 * k)) k = some (ek r) ∧ good r := by
      intro i
      obtain ⟨cs', h1, h2⟩ := hel' i.1 (by omega)
      obtain ⟨r, rfl, hg⟩ := hel h2
      rw [hc] at h1
      exact ⟨r, h1, hg⟩
    let f : Fin len → α := fun i => Classical.choose (ex i)
    have hf : ∀ i, W.cells? 0 (a.add (i.1 * k)) k = some (ek (f i)) ∧ good (f i) := fun i => Classical.choose_spec (ex i)
    have hll : (List.ofFn f).length = len := by simp
    refine ⟨_, List.ofFn f, rfl, ⟨some a, cap, by rw [hll], by rw [hll]; exact hlc, hcm, fun hne => ?_⟩, fun r hr => ?_⟩
    · have h0 : 0 < len := by
        rcases Nat.eq_zero_or_pos len with e | e
        · subst e; exact absurd (by simp) hne
        · exact e
      obtain ⟨b, o, sp⟩ := a
      obtain ⟨hlen0, hcell0⟩ := cells_each (hf ⟨0, h0⟩).1
      obtain ⟨u, hu⟩ : ∃ u, (ek (f ⟨0, h0⟩))[0]? = some u := ⟨_, List.getElem?_eq_getElem (by omega)⟩
      have hc0 := hcell0 0 u hu
      have hsp : sp = none := by simpa [Addr.add] using World.cell?_spot hc0
      subst hsp
      have hblk : b < W.heap.size := by
        have hc1 := hc0
        simp only [Go.WideShapes.add_plain] at hc1
        unfold World.cell? at hc1
        rcases Nat.lt_or_ge b W.heap.size with h | h
        · exact h
        · rw [Array.getElem?_eq_none h] at hc1
          simp at hc1
      refine ⟨b, o, rfl, hblk, fun j r hj i u hu => ?_⟩
      have hjl : j < len := by have := (List.getElem?_eq_some_iff.1 hj).1; omega
      have hr : r = f ⟨j, hjl⟩ := by
        rw [List.getElem?_ofFn] at hj
        simp [hjl] at hj
        exact hj.symm
      subst hr
      have := (cells_each (hf ⟨j, hjl⟩).1).2 i u hu
      rw [Go.WideShapes.add_plain, Go.WideShapes.add_plain] at this
      exact this
    · obtain ⟨i, rfl⟩ := (List.mem_ofFn).1 hr
      exact (hf i).2

set_option maxRecDepth 100000 in
theorem open_table (h : DataW.trod enc Tryz.prog W 0 (fun _ => true) true n 25 cs = some x) : ∃ t : Table, TabRaw W.heap.size W (.agg cs.toArray) t ∧ IntsT t := by
  obtain ⟨xs, k, _, _, hl, hlen, hf⟩ := DataW.trod_struct Tryz.underlying25 h
  rw [cells_table] at hl
  match cs, hl with
  | [c0, c1, c2, c3, c4, c5], _ =>
    match xs, hlen with
    | [y0, y1, y2, y3, y4, y5], _ =>
      have f0 := hf 0 _ rfl
      have f1 := hf 1 _ rfl
      have f2 := hf 2 _ rfl
      have f3 := hf 3 _ rfl
      have f4 := hf 4 _ rfl
      have f5 := hf 5 _ rfl
      simp only [List.getElem?_cons_zero, List.getElem?_cons_succ] at f0 f1 f2 f3 f4 f5
      obtain ⟨v0, l0, e0, h0, g0⟩ := open_rows (k := 4) (by decide) Tryz.underlying22 cells_rule (fun h => open_rule h) f0
      obtain ⟨v1, l1, e1, h1, g1⟩ := open_rows (k := 3) (by decide) Tryz.underlying23 cells_drop (fun h => open_drop h) f1
      obtain ⟨v2, l2, e2, h2, g2⟩ := open_rows (k := 3) (by decide) Tryz.underlying23 cells_drop (fun h => open_drop h) f2
      obtain ⟨a, ha, _, _⟩ := DataW.trod_int Tryz.underlying3 f3
      obtain ⟨b, hb, _, _⟩ := DataW.trod_int Tryz.underlying3 f4
      obtain ⟨c, hc, _, _⟩ := DataW.trod_int Tryz.underlying3 f5
      cases e0; cases e1; cases e2; cases ha; cases hb; cases hc
      exact ⟨⟨l0, l1, l2, a, b, c⟩, ⟨_, _, _, rfl, h0, h1, h2⟩, ⟨g0, g1, g2⟩⟩
end
end Go.Proofs.Kb
