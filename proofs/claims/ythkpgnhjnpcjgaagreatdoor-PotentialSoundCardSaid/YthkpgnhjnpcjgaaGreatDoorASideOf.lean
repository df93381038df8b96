/- Package align: sideOf. -/
import Derived.Test.YthkpgnhjnpcjgaaGreatDoorASide
namespace Go.Proofs.Kb
open Go Go.RowKit Go.Lib Pl
attribute [local go_sem] Oper.semAt_some run_makeMap

theorem keepAt {w : World} {k : Nat} {x : Obj} (h : w.heap[k]? = some x) (o : Obj) : (w.alloc o).heap[k]? = some x := (Below.heap_alloc w o k (Array.getElem?_eq_some_iff.1 h).1).trans h
theorem newAt {w : World} {k : Nat} (o : Obj) (h : w.heap.size = k) : (w.alloc o).heap[k]? = some o := by subst h; exact World.alloc_heap_new w o

theorem low_size {s : ByteArray} (h : s.size < 35184372088832) : (⟨(lower s.data.toList).toArray⟩ : ByteArray).size < 35184372088832 := by
  show (lower s.data.toList).toArray.size < _
  unfold lower
  simpa using h

theorem frozen_of {w : World} {b : Nat} {c : Array Value} {t : TypeId} (h : w.heap[b]? = some (.cells c t (0, 0))) (i : Nat) : w.frozen? ⟨b, i, none⟩ = false := by
  simp [World.frozen?, h]

theorem set_block {w : World} {b : Nat} {c : Array Value} {t : TypeId} {fr : Nat × Nat} (h : w.heap[b]? = some (.cells c t fr)) (i : Nat) (v : Value) : (w.setCell ⟨b, i, none⟩ v).heap[b]? = some (.cells (c.setIfInBounds i v) t fr) := by
  simp [World.setCell, Array.getElem?_modify, h]

theorem load_side {w : World} {b : Nat} {x y : Value} {t : TypeId} (h : w.heap[b]? = some (.cells #[x, y] t (0, 0))) : (loadVar 87 ⟨b, 0, none⟩).run Tryz.prog w = .ok (.agg #[x, y]) w :=
  run_loadVar_row (P := Tryz.prog) w b t 87 #[x, y] (0, 0) _ h Tryz.underlying87 rfl (by kernel_rfl)

set_option maxRecDepth 100000 in
set_option maxHeartbeats 8000000 in
theorem sideOf_no (N : Nat) (v : Value) (t : Table) (k : Int) (s : ByteArray) (w : World) (hl : lettersOf k s.data.toList = none) (hv : TabAt N w v t) (hs : s.size < 35184372088832) (hN : N ≤ w.heap.size) (hT : Tabs N w) :
    Calls Tryz.prog 65 #[v, .int .i64 k, .string s] w fun e w' => e = .returned (.tuple #[.agg #[.slice none 0 0, .slice none 0 0], .bool false]) ∧ Ext none' w w' := by
  obtain ⟨vr, vd, ve, rfl, hr, hd, he, hgood⟩ := hv
  obtain ⟨ra, rc, rfl, -⟩ := hr
  obtain ⟨da, dc, rfl, -⟩ := hd
  obtain ⟨ea, ec, rfl, -⟩ := he
  have EX : ∀ a b, Ext none' w ((w.alloc a).alloc b) := fun a b => ((Ext.refl none' w).alloc a).alloc b
  unfold lettersOf Fold at hl
  cases hq : Letters k s.data.toList with
  | none =>
    have HQ := Lib.hid hq
    clear hq hl
    go_enter Tryz.func65, Tryz.ntmps65
    go_wp2_with fail
    refine (fold_no N k s _ HQ.out hs (Nat.le_trans hN (EX _ _).size) (hT.keep ((EX _ _).same0 hN))).mono ?_
    rintro e w1 ⟨rfl, hE⟩
    have kd : w1.heap[w.heap.size + 1]? = some (.cells #[.slice none 0 0, .slice none 0 0] 87) := (hE.same _ (by simp) (fun h => h)).trans (newAt _ (by simp))
    have c0 := cellAt kd 0 rfl
    have c1 := cellAt kd 1 rfl
    have f0 := frozen_of kd 0
    have f1 := frozen_of kd 1
    go_wp2_with fail
    have kd2 := set_block (set_block kd 0 (.slice none 0 0)) 1 (.slice none 0 0)
    refine bodyPost_ret (results_cell_tmp (t := 6) (u := 7) (ty := 87) (x := .bool false) (a := ⟨w.heap.size + 1, 0, none⟩) (by kernel_rfl) _ _ _ (by kernel_rfl) (load_side kd2) (by kernel_rfl)) (by kernel_rfl) ⟨rfl, ?_⟩
    exact (((EX _ _).trans hE).setCell _ _ (.inl (by simp))).setCell _ _ (.inl (by simp))
  | some q =>
    rw [hq] at hl
    simp only [Option.isSome_some, if_true, Option.bind_some] at hl
    have HL := Lib.hid hl
    have HQ := Lib.hid hq
    clear hl hq
    go_enter Tryz.func65, Tryz.ntmps65
    go_wp2_with fail
    refine (fold_yes N k s _ q HQ.out hs (Nat.le_trans hN (EX _ _).size) (hT.keep ((EX _ _).same0 hN))).mono ?_
    rintro e w1 ⟨rfl, hE⟩
    go_wp2_with fail
    refine (letters_no N k _ w1 HL.out (low_size hs) (Nat.le_trans hN ((EX _ _).trans hE).size) (hT.keep (((EX _ _).trans hE).same0 hN))).mono ?_
    rintro e w2 ⟨rfl, hE2⟩
    have kd : w2.heap[w.heap.size + 1]? = some (.cells #[.slice none 0 0, .slice none 0 0] 87) := ((hE.trans hE2).same _ (by simp) (fun h => h)).trans (newAt _ (by simp))
    have c0 := cellAt kd 0 rfl
    have c1 := cellAt kd 1 rfl
    have f0 := frozen_of kd 0
    have f1 := frozen_of kd 1
    go_wp2_with fail
    have kd2 := set_block (set_block kd 0 (.slice none 0 0)) 1 (.slice none 0 0)
    refine bodyPost_ret (results_cell_tmp (t := 6) (u := 7) (ty := 87) (x := .bool false) (a := ⟨w.heap.size + 1, 0, none⟩) (by kernel_rfl) _ _ _ (by kernel_rfl) (load_side kd2) (by kernel_rfl)) (by kernel_rfl) ⟨rfl, ?_⟩
    exact (((EX _ _).trans (hE.trans hE2)).setCell _ _ (.inl (by simp))).setCell _ _ (.inl (by simp))

/-- what sideOf makes -/
def SidePost (k : Int) (l : List Str) (rules : List Rule) (w : World) (e : Ending) (w' : World) : Prop :=
  ∃ vl vr, SideShape (.agg #[vl, vr]) ∧ e = .returned (.tuple #[.agg #[vl, vr], .bool true]) ∧ SideAt w'.heap.size w' (.agg #[vl, vr]) l (sideRules k 0 rules) ∧ Ext none' w w'

theorem take_snoc' {α : Type} {l : List α} {j : Nat} {x : α} (h : l[j]? = some x) : l.take (j + 1) = l.take j ++ [x] := by rw [List.take_add_one, h]; rfl

theorem Ext.grown {X : Nat → Prop} {w A B : World} (h : Ext X w A) {row : Option Nat} (hg : A.grownBy B row) (hx : ∀ g, row = some g → w.heap.size ≤ g) : Ext X w B :=
  ⟨hg.os.trans h.os, hg.tape.trans h.tape, hg.output.trans h.output, Nat.le_trans h.size hg.size, fun i hi hn => (hg.block i (Nat.lt_of_lt_of_le hi h.size) (fun e => by have := hx i e.symm; omega)).trans (h.same i hi hn)⟩

theorem own_slice {w : World} {base e size n : Nat} {v : Value} {xs : List Value} (h : w.ownsRow base e size v n xs) : ∃ a n c, v = .slice a n c := by
  rcases h.2 with ⟨rfl, _⟩ | ⟨g, cap, cur, rfl, _⟩
  · exact ⟨_, _, _, rfl⟩
  · exact ⟨_, _, _, rfl⟩

theorem own_set {w : World} {base e size n : Nat} {v : Value} {xs : List Value} (h : w.ownsRow base e size v n xs) {b : Nat} (i : Nat) (u : Value) (hb : b < base) : (w.setCell ⟨b, i, none⟩ u).ownsRow base e size v n xs := by
  refine ⟨h.1, ?_⟩
  rcases h.2 with hn | ⟨g, cap, cur, hv, hbg, hg, rest⟩
  · exact .inl hn
  · refine .inr ⟨g, cap, cur, hv, hbg, ?_, rest⟩
    have hne : b ≠ g := by omega
    rw [← hg]
    simp [World.setCell, Array.getElem?_modify, hne]

theorem set_other (w : World) {b k : Nat} (i : Nat) (u : Value) (h : b ≠ k) : (w.setCell ⟨b, i, none⟩ u).heap[k]? = w.heap[k]? := by
  simp [World.setCell, Array.getElem?_modify, h]

/-- one rule more -/
theorem SI.push {k : Int} {rules : List Rule} {w : World} {S : Nat} {vl : Value} {j : Nat} {W : World} {vr : Value} {fs : List Value} (h : SI k rules w S vl j W vr fs) {d : Rule} (hd : rules[j]? = some d) {r : ARule} (har : aruleOf k j d = some r) (hne : r.frm ≠ [])
    {W5 : World} (h5 : Ext none' W W5) {vf : Value} (hvf : StrsAt W5.heap.size W5 vf r.frm) (nvf : NewSl W.heap.size vf) (o : Obj) {v' : Value} {W9 : World}
    (hown : W9.ownsRow (S + 1) 101 4 v' (fs.length + 1) (arRow (sideRules k 0 (rules.take j)) fs ++ arCells r vf)) (hg : (W5.alloc o).grownBy W9 vr.ownBlock) (hat : v'.ownBlock = vr.ownBlock ∨ v'.ownBlock = some (W5.alloc o).heap.size) (hwS : w.heap.size ≤ S) (hS9 : W9.heap[S]? = some (.cells #[vl, vr] 87)) :
    SI k rules w S vl (j + 1) (W9.setCell ⟨S, 1, none⟩ v') v' (fs ++ [vf]) := by
  have hjl := (List.getElem?_eq_some_iff.1 hd).1
  have hsn : sideRules k 0 (rules.take (j + 1)) = sideRules k 0 (rules.take j) ++ [r] := by
    rw [take_snoc' hd, sideRules_snoc, List.length_take, Nat.min_eq_left (by omega), Nat.zero_add, har]; rfl
  have hS := (Array.getElem?_eq_some_iff.1 h.side).1
  have s5 := h5.size
  have s9 := hg.size
  rw [World.size_alloc] at s9
  have hrow : ∀ g, vr.ownBlock = some g → S + 1 ≤ g ∧ g < W.heap.size := by
    intro g hgv
    rcases h.own.2 with ⟨rfl, _⟩ | ⟨g', cap, cur, rfl, hb, hg', _⟩
    · cases hgv
    · cases hgv; exact ⟨hb, (Array.getElem?_eq_some_iff.1 hg').1⟩
  have keepB : ∀ b, b ≠ S → b < W5.heap.size → vr.ownBlock ≠ some b → (W9.setCell ⟨S, 1, none⟩ v').heap[b]? = W5.heap[b]? := by
    intro b h1 h2 h3
    rw [set_other _ _ _ (Ne.symm h1), hg.block b (by rw [World.size_alloc]; omega) (fun e => h3 e.symm)]
    exact Below.heap_alloc W5 o b h2
  have hsz : (W9.setCell ⟨S, 1, none⟩ v').heap.size = W9.heap.size := by simp
  have newp : ∀ p n c, vf = .slice (some p) n c → W.heap.size ≤ p.block ∧ p.block < W5.heap.size := by
    intro p n c e
    refine ⟨nvf p n c e, ?_⟩
    obtain ⟨a, cap, hv, _, _, hr⟩ := hvf
    obtain ⟨b, o', ha, hb, _⟩ := hr hne
    rw [e, ha] at hv
    cases hv
    exact hb
  refine ⟨set_block hS9 1 v', ?_, ?_, ?_, ?_, ?_⟩
  · rw [hsn, List.length_append, List.length_append, h.len]; rfl
  · rw [hsn, arRow_snoc _ _ _ _ h.len, List.length_append]
    exact own_set hown 1 v' (Nat.lt_succ_self _)
  · intro i f r' hf hr'
    rw [hsn] at hr'
    have hl := h.len
    by_cases hi : i < fs.length
    · rw [List.getElem?_append_left hi] at hf
      rw [List.getElem?_append_left (by omega)] at hr'
      have h1 := h.frm i f r' hf hr'
      refine StrsAt.via h1 (by omega) fun p n c e hp => ?_
      obtain ⟨q1, q2, q3⟩ := h.apart f (List.mem_of_getElem? hf) p n c e
      rw [keepB p.block (by omega) (by omega) q3]
      exact h5.same _ hp (fun h => h)
    · rw [List.getElem?_append_right (by omega)] at hf
      rw [List.getElem?_append_right (by omega)] at hr'
      have hi0 : i - fs.length = 0 := by
        have := (List.getElem?_eq_some_iff.1 hf).1
        simp at this
        omega
      rw [hi0] at hf
      rw [show i - (sideRules k 0 (rules.take j)).length = 0 by omega] at hr'
      simp only [List.getElem?_cons_zero, Option.some.injEq] at hf hr'
      subst hf hr'
      refine StrsAt.via hvf (by omega) fun p n c e hp => ?_
      obtain ⟨q1, q2⟩ := newp p n c e
      refine keepB p.block (by omega) q2 fun e' => ?_
      have := hrow _ e'
      omega
  · intro f hf p n c e
    rw [hsz]
    rcases List.mem_append.1 hf with hf | hf
    · obtain ⟨q1, q2, q3⟩ := h.apart f hf p n c e
      refine ⟨q1, by omega, ?_⟩
      rcases hat with h1 | h1
      · rw [h1]; exact q3
      · rw [h1, World.size_alloc]; intro e'; have := Option.some.inj e'; omega
    · rw [List.mem_singleton] at hf
      subst hf
      obtain ⟨q1, q2⟩ := newp p n c e
      refine ⟨by omega, by omega, ?_⟩
      rcases hat with h1 | h1
      · rw [h1]; intro e'; have := hrow _ e'; omega
      · rw [h1, World.size_alloc]; intro e'; have := Option.some.inj e'; omega
  · have e1 : Ext none' w (W5.alloc o) := (h.ext.trans h5).alloc _
    have e2 : Ext none' w W9 := Ext.grown e1 hg (fun g e => by have := hrow g e; omega)
    exact e2.setCell _ _ (.inl hwS)

set_option maxRecDepth 100000 in
set_option maxHeartbeats 8000000 in
theorem sideOf_yes (N : Nat) (v : Value) (t : Table) (k : Int) (s : ByteArray) (w : World) (l : List Str) (hl : lettersOf k s.data.toList = some l) (hv : TabAt N w v t) (hr9 : t.rules.length ≤ 10000) (hs : s.size < 35184372088832) (hN : N ≤ w.heap.size) (hT : Tabs N w) :
    Calls Tryz.prog 65 #[v, .int .i64 k, .string s] w (SidePost k l t.rules w) := by
  obtain ⟨vr, vd, ve, rfl, hr, hd, he, hgood⟩ := hv
  have HR := Lib.hid hr
  obtain ⟨ra, rc, rfl, hrc, hrm, hrx⟩ := hr
  obtain ⟨da, dc, rfl, -⟩ := hd
  obtain ⟨ea, ec, rfl, -⟩ := he
  obtain ⟨q, hq, hl2⟩ : ∃ q, Letters k s.data.toList = some q ∧ Letters k (lower s.data.toList) = some l := by
    unfold lettersOf Fold at hl
    cases hq : Letters k s.data.toList with
    | none => rw [hq] at hl; simp at hl
    | some q => rw [hq] at hl; exact ⟨q, rfl, hl⟩
  have HL := Lib.hid hl2
  have HQ := Lib.hid hq
  clear hl2 hq hl
  have EX : ∀ a b, Ext none' w ((w.alloc a).alloc b) := fun a b => ((Ext.refl none' w).alloc a).alloc b
  go_enter Tryz.func65, Tryz.ntmps65
  go_wp2_with fail
  refine (fold_yes N k s _ q HQ.out hs (Nat.le_trans hN (EX _ _).size) (hT.keep ((EX _ _).same0 hN))).mono ?_
  rintro e w1 ⟨rfl, hE⟩
  go_wp2_with fail
  refine (letters_yes N k _ w1 l HL.out (low_size hs) (Nat.le_trans hN ((EX _ _).trans hE).size) (hT.keep (((EX _ _).trans hE).same0 hN))).mono ?_
  rintro e w2 ⟨vl, rfl, hE2, hvl, nvl⟩
  obtain ⟨la, lc, rfl, -⟩ := id hvl
  have hE12 := (EX (.cells #[.slice ra t.rules.length rc, .slice da t.drops.length dc, .slice ea t.ends.length ec, .int .i64 t.drop, .int .i64 t.order, .int .i64 t.initial] 25) (.cells #[.slice none 0 0, .slice none 0 0] 87)).trans (hE.trans hE2)
  have k0 : w2.heap[w.heap.size]? = some (.cells #[.slice ra t.rules.length rc, .slice da t.drops.length dc, .slice ea t.ends.length ec, .int .i64 t.drop, .int .i64 t.order, .int .i64 t.initial] 25) := ((hE.trans hE2).same _ (by simp; omega) (fun h => h)).trans (keepAt (newAt _ rfl) _)
  have kd : w2.heap[w.heap.size + 1]? = some (.cells #[.slice none 0 0, .slice none 0 0] 87) := ((hE.trans hE2).same _ (by simp) (fun h => h)).trans (newAt _ (by simp))
  have hs12 : w.heap.size + 2 ≤ w2.heap.size := by have := (hE.trans hE2).size; simpa using this
  have hlen : t.rules.length ≤ 9223372036854775807 := by omega
  go_upto_region 8 with fail
  obtain ⟨w3, hw3⟩ : ∃ w3, w3 = w2.alloc (.cells #[.slice la l.length lc, .slice none 0 0] 87) := ⟨_, rfl⟩
  rw [← hw3]
  have hE3 : Ext none' w2 w3 := by rw [hw3]; exact (Ext.refl _ w2).alloc _
  have k3 : w3.heap[w2.heap.size]? = some (.cells #[.slice la l.length lc, .slice none 0 0] 87) := by rw [hw3]; exact newAt _ rfl
  have s3 : w3.heap.size = w2.heap.size + 1 := by rw [hw3]; simp
  have hvl3 : StrsAt w2.heap.size w3 (.slice la l.length lc) l := hvl.keep (hE3.same0 (Nat.le_refl _))
  have hE13 := hE12.trans hE3
  have c0 : w3.cell? ⟨w.heap.size, 0, none⟩ = some (.slice ra t.rules.length rc) := cellAt ((hE3.same _ (by omega) (fun h => h)).trans k0) 0 rfl
  clear hw3 k0
  go_wp2_with fail
  go_loopw [39] (fun i wr => ∃ (j : Nat) (vr : Value) (fs : List Value), i = .int .i64 j ∧ j ≤ t.rules.length ∧ SI k t.rules w2 w2.heap.size (.slice la l.length lc) j wr vr fs) (fun i _ => t.rules.length - (intOf i).toNat)
  case atStart =>
    refine ⟨0, .slice none 0 0, [], rfl, by omega, k3, rfl, World.ownsRow_nil _ _ _ _, (fun i f r h => by simp at h), (fun f h => by cases h), hE3⟩
  case round =>
    obtain ⟨j, vr, fs, rfl, hj, hI⟩ := hrel
    obtain ⟨ra', rn', rc', rfl⟩ := hI.agg
    have kS : wr.heap[w2.heap.size]? = some (.cells #[.slice la l.length lc, .slice ra' rn' rc'] 87) := hI.side
    have cS0 : wr.cell? ⟨w2.heap.size, 0, none⟩ = some (.slice la l.length lc) := cellAt kS 0 rfl
    have cS1 : wr.cell? ⟨w2.heap.size, 1, none⟩ = some (.slice ra' rn' rc') := cellAt kS 1 rfl
    have hsr : w2.heap.size + 1 ≤ wr.heap.size := (Array.getElem?_eq_some_iff.1 hI.side).1
    by_cases hjl : j < t.rules.length
    · obtain ⟨d, hd⟩ : ∃ d, t.rules[j]? = some d := ⟨_, List.getElem?_eq_getElem hjl⟩
      obtain ⟨b, o, rfl, hb, hcell⟩ := hrx (by intro e; rw [e] at hjl; simp at hjl)
      have hS : Same N w wr := (hE12.trans hI.ext).same0 hN
      have d0 : wr.cell? ⟨b, o + j * 4, none⟩ = some (.int .i64 d.script) := (hS.cell (a := ⟨b, _, none⟩) hb).trans (hcell j d hd 0 _ rfl)
      have d1 : wr.cell? ⟨b, o + j * 4 + 1, none⟩ = some (.string ⟨d.frm.toArray⟩) := (hS.cell (a := ⟨b, _, none⟩) hb).trans (hcell j d hd 1 _ rfl)
      have d2 : wr.cell? ⟨b, o + j * 4 + 2, none⟩ = some (.string ⟨d.to.toArray⟩) := (hS.cell (a := ⟨b, _, none⟩) hb).trans (hcell j d hd 2 _ rfl)
      have d3 : wr.cell? ⟨b, o + j * 4 + 3, none⟩ = some (.int .i64 d.cost) := (hS.cell (a := ⟨b, _, none⟩) hb).trans (hcell j d hd 3 _ rfl)
      have hdg := hgood.rules d (List.mem_of_getElem? hd)
      have hsn : sideRules k 0 (t.rules.take (j + 1)) = sideRules k 0 (t.rules.take j) ++ (aruleOf k j d).toList := by
        rw [take_snoc' hd, sideRules_snoc, List.length_take, Nat.min_eq_left hj, Nat.zero_add]
      have HSN := Lib.hid hsn
      have HC := Lib.hid hcell
      have HI := Lib.hid hI
      have hT1 := hT.keep hS
      clear hcell hsn hrx hI
      have hE2r : Ext none' w2 wr := HI.out.ext
      have hNr : N ≤ wr.heap.size := Nat.le_trans hN (hE12.trans hE2r).size
      have skip : ∀ A, Ext none' wr A → aruleOf k j d = none → (∃ (j1 : Nat) (vr : Value) (fs : List Value), Value.int .i64 ((j : Int) + 1) = .int .i64 j1 ∧ j1 ≤ t.rules.length ∧ SI k t.rules w2 w2.heap.size (.slice la l.length lc) j1 A vr fs) ∧
          t.rules.length - (intOf (Value.int .i64 ((j : Int) + 1))).toNat < t.rules.length - (intOf (Value.int .i64 (j : Int))).toNat := by
        intro A hA har
        refine ⟨⟨j + 1, .slice ra' rn' rc', fs, rfl, by omega, ?_⟩, by simp only [intOf]; omega⟩
        have h1 := HI.out.same hA
        have h2 : sideRules k 0 (t.rules.take (j + 1)) = sideRules k 0 (t.rules.take j) := by rw [HSN.out, har]; simp
        exact ⟨h1.side, by rw [h2]; exact h1.len, by rw [h2]; exact h1.own, by rw [h2]; exact h1.frm, h1.apart, h1.ext⟩
      have SK := Lib.hid skip
      clear skip
      have hEr := (Ext.refl none' wr).alloc (.cells #[.int .i64 d.script, .string ⟨d.frm.toArray⟩, .string ⟨d.to.toArray⟩, .int .i64 d.cost] 41)
      by_cases hsc : d.script = k
      · have b1 : (d.script == k) = true := by simpa using hsc
        cases hq : Letters k d.frm with
        | none =>
          have har : aruleOf k j d = none := by unfold aruleOf; rw [if_pos hsc, hq]; rfl
          have HQ2 := Lib.hid hq
          have HAR := Lib.hid har
          clear hq har hsc
          go_wp2_with fail
          refine (letters_no N k _ _ (by exact HQ2.out) (by exact hdg.2.1) (Nat.le_trans hNr hEr.size) (hT1.keep (hEr.same0 hNr))).mono ?_
          rintro e w5 ⟨rfl, hE5⟩
          go_wp2_with fail
          exact SK.out _ (hEr.trans hE5) HAR.out
        | some f =>
          have har : aruleOf k j d = some ⟨j, d.cost, f, d.to⟩ := by unfold aruleOf; rw [if_pos hsc, hq]; rfl
          have hfne := (letters_parse.1 hq).2.1
          have HQ2 := Lib.hid hq
          have HAR := Lib.hid har
          have HNE := Lib.hid hfne
          clear hq har hsc hfne
          go_wp2_with fail
          refine (letters_yes N k _ _ f (by exact HQ2.out) (by exact hdg.2.1) (Nat.le_trans hNr hEr.size) (hT1.keep (hEr.same0 hNr))).mono ?_
          rintro e w5 ⟨vf, rfl, hE5, hvf, nvf⟩
          obtain ⟨fa, fc, rfl, -⟩ := id hvf
          have hEr5 := hEr.trans hE5
          have k13 : w5.heap[wr.heap.size]? = some (.cells #[.int .i64 d.script, .string ⟨d.frm.toArray⟩, .string ⟨d.to.toArray⟩, .int .i64 d.cost] 41) := (hE5.same _ (by simp) (fun h => h)).trans (newAt _ rfl)
          have r2 : w5.cell? ⟨wr.heap.size, 2, none⟩ = some (.string ⟨d.to.toArray⟩) := cellAt k13 2 rfl
          have r3 : w5.cell? ⟨wr.heap.size, 3, none⟩ = some (.int .i64 d.cost) := cellAt k13 3 rfl
          have hI5 := HI.out.same hEr5
          have kS5 := hI5.side
          have cS5 : w5.cell? ⟨w2.heap.size, 1, none⟩ = some (.slice ra' rn' rc') := cellAt kS5 1 rfl
          have hs5 := hEr5.size
          have hfl : fs.length ≤ t.rules.length := by have := HI.out.len; have := sideRules_len k (t.rules.take j) 0; rw [List.length_take] at this; omega
          have hown5 := hI5.own
          have HI5 := Lib.hid hI5
          have nvf2 : NewSl wr.heap.size (.slice fa f.length fc) := fun p n c e => by have := nvf p n c e; simp only [World.size_alloc] at this; omega
          obtain ⟨i0, hi0, hz0, hz1, hz2⟩ := info_three info_arule
          clear hI5 kS k13 nvf
          go_wp2_with (at_builtin; refine wpList_append_own_at _ rfl _ _ 85 rfl (w2.heap.size + 1) 101 i0 _ 4 56 Tryz.underlying85 hi0 hz0 hz1 hz2 rfl (by decide) _ _ _ rfl (hown5.alloc _) ⟨w5.heap.size, 0, none⟩ 1 1 [.int .i64 j, .int .i64 d.cost, .slice fa f.length fc, .string ⟨d.to.toArray⟩] rfl rfl (new_cells _ _ _ rfl) (by simp [Value.oneCell']) (by unfold maxLen; omega) (by omega) (by simp; omega) ?_; intro v' w9 hown' hgrow _ hat; have k9 := (hgrow.block w2.heap.size (by simp; omega) (fun e => by have := hown5.lt _ e.symm; omega)).trans (keepAt kS5 _); have c9 : w9.cell? ⟨w2.heap.size, 1, none⟩ = some (.slice ra' rn' rc') := cellAt k9 1 rfl; have f9 := frozen_of k9 1; obtain ⟨va, vn, vc, rfl⟩ := own_slice hown')
          exact ⟨⟨j + 1, _, _, rfl, by omega, HI.out.push hd HAR.out HNE.out hEr5 hvf nvf2 _ hown' hgrow hat (Nat.le_refl _) k9⟩, by simp only [intOf]; omega⟩
      · have b1 : (d.script == k) = false := by simpa using hsc
        have HAR := Lib.hid (show aruleOf k j d = none by unfold aruleOf; rw [if_neg hsc])
        clear hsc
        go_wp2_with fail
        exact SK.out _ hEr HAR.out
    · obtain rfl : j = t.rules.length := by omega
      have kd2 : wr.heap[w.heap.size + 1]? = some (.cells #[.slice none 0 0, .slice none 0 0] 87) := (hI.ext.same _ (by omega) (fun h => h)).trans kd
      have e0 := cellAt kd2 0 rfl
      have e1 := cellAt kd2 1 rfl
      have f0 := frozen_of kd2 0
      have f1 := frozen_of kd2 1
      have hEw := hE12.trans hI.ext
      have HI := Lib.hid hI
      clear hI hrx
      go_wp2_with fail
      have kd3 := set_block (set_block kd2 0 (.slice la l.length lc)) 1 (.slice ra' rn' rc')
      have hEf := (hEw.setCell ⟨w.heap.size + 1, 0, none⟩ (.slice la l.length lc) (.inl (Nat.le_succ _))).setCell ⟨w.heap.size + 1, 1, none⟩ (.slice ra' rn' rc') (.inl (Nat.le_succ _))
      have hs1 := hE.size
      simp only [World.size_alloc] at hs1
      refine bodyPost_ret (results_cell_tmp (t := 6) (u := 7) (ty := 87) (x := .bool true) (a := ⟨w.heap.size + 1, 0, none⟩) (by kernel_rfl) _ _ _ (by kernel_rfl) (load_side kd3) (by kernel_rfl)) (by kernel_rfl) ⟨.slice la l.length lc, .slice ra' rn' rc', ⟨la, ra', l.length, lc, rn', rc', rfl⟩, rfl, ⟨_, _, rfl, ?_, ?_⟩, hEf⟩
      · refine StrsAt.via hvl (by have := HI.out.ext.size; simp; omega) fun p n c e hp => ?_
        have h1 := nvl p n c e
        rw [set_other _ _ _ (by omega), set_other _ _ _ (by omega)]
        exact HI.out.ext.same _ hp (fun h => h)
      · obtain ⟨_, h2, h3, h4, h5, _⟩ := HI.out
        rw [List.take_length] at h2 h3 h4
        refine rules_of h2 (own_set (own_set h3 0 _ (by omega)) 1 _ (by omega)) fun i f r hf hr => ?_
        refine StrsAt.via (h4 i f r hf hr) (by simp) fun p n c e hp => ?_
        have h6 := h5 f (List.mem_of_getElem? hf) p n c e
        rw [set_other _ _ _ (by omega), set_other _ _ _ (by omega)]
end Go.Proofs.Kb
