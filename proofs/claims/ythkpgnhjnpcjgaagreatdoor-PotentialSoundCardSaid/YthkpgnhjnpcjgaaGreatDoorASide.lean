/- Package align: the letters of a word and the rules of its script. -/
import Derived.Test.YthkpgnhjnpcjgaaGreatDoorPair
import Derived.Test.YthkpgnhjnpcjgaaGreatDoorAPl
import Derived.Maps.OwnIn
namespace Go.Proofs.Kb
open Go Go.RowKit Go.Lib Pl
attribute [local go_sem] Oper.semAt_some run_makeMap

/-- the cells of a rule with the slice of its letters -/
def arCells (r : ARule) (f : Value) : List Value := [.int .i64 r.index, .int .i64 r.cost, f, .string ⟨r.to.toArray⟩]
def arRow (rs : List ARule) (fs : List Value) : List Value := ((rs.zip fs).map fun x => arCells x.1 x.2).flatten

/-- v is a slice of the rules rs, in a block below N -/
def ARulesAt (N : Nat) (w : World) (v : Value) (rs : List ARule) : Prop :=
  ∃ (a : Option Addr) (cap : Nat), v = .slice a rs.length cap ∧ rs.length ≤ cap ∧ cap ≤ maxLen ∧
    (rs ≠ [] → ∃ b o, a = some ⟨b, o, none⟩ ∧ b < N ∧ ∀ j r, rs[j]? = some r → ∃ f, StrsAt N w f r.frm ∧ ∀ i u, (arCells r f)[i]? = some u → w.cell? ⟨b, o + j * 4 + i, none⟩ = some u)

theorem ARulesAt.keep {N : Nat} {w w' : World} {v : Value} {rs : List ARule} (h : ARulesAt N w v rs) (hs : Same N w w') : ARulesAt N w' v rs := by
  obtain ⟨a, cap, hv, hc, hm, hr⟩ := h
  refine ⟨a, cap, hv, hc, hm, fun hl => ?_⟩
  obtain ⟨b, o, ha, hb, hx⟩ := hr hl
  refine ⟨b, o, ha, hb, fun j r hj => ?_⟩
  obtain ⟨f, hf, hcell⟩ := hx j r hj
  exact ⟨f, hf.keep hs, fun i u hu => (hs.cell (a := ⟨b, o + j * 4 + i, none⟩) hb).trans (hcell i u hu)⟩

theorem ARulesAt.up {N N' : Nat} {w : World} {v : Value} {rs : List ARule} (h : ARulesAt N w v rs) (hN : N ≤ N') : ARulesAt N' w v rs := by
  obtain ⟨a, cap, hv, hc, hm, hr⟩ := h
  refine ⟨a, cap, hv, hc, hm, fun hl => ?_⟩
  obtain ⟨b, o, ha, hb, hx⟩ := hr hl
  refine ⟨b, o, ha, by omega, fun j r hj => ?_⟩
  obtain ⟨f, hf, hcell⟩ := hx j r hj
  exact ⟨f, hf.up hN, hcell⟩

theorem ARulesAt.none (N : Nat) (w : World) : ARulesAt N w (.slice none 0 0) [] := ⟨_, 0, rfl, by simp, by decide, fun h => absurd rfl h⟩

theorem sideRules_snoc (k : Int) : ∀ (l : List Rule) (i : Nat) (d : Rule), sideRules k i (l ++ [d]) = sideRules k i l ++ (aruleOf k (i + l.length) d).toList
  | [], i, d => by simp [sideRules]
  | r :: l, i, d => by
    rw [List.cons_append, sideRules, sideRules, sideRules_snoc k l (i + 1) d, List.append_assoc, List.length_cons]
    rw [show i + 1 + l.length = i + (l.length + 1) by omega]

theorem sideRules_len (k : Int) : ∀ (l : List Rule) (i : Nat), (sideRules k i l).length ≤ l.length
  | [], _ => by simp [sideRules]
  | r :: l, i => by
    have := sideRules_len k l (i + 1)
    rw [sideRules, List.length_append, List.length_cons]
    have h : (aruleOf k i r).toList.length ≤ 1 := by cases aruleOf k i r <;> simp
    omega

theorem info_arule : (Tryz.prog.info? 101).map (fun i => (i.zero, i.size, i.bytes)) = some (some (.agg #[.int .i64 0, .int .i64 0, .slice none 0 0, .string ⟨#[]⟩]), 4, 56) := by kernel_rfl

theorem new_cells (w : World) (cs : List Value) (t : TypeId) {b : Nat} (hb : w.heap.size = b) : ∀ (j : Nat) (u : Value), cs[j]? = some u → (w.alloc (.cells cs.toArray t)).cell? ((⟨b, 0, none⟩ : Addr).add j) = some u := by
  intro j u hu
  have h : (w.alloc (.cells cs.toArray t (0, 0))).heap[b]? = some (.cells cs.toArray t (0, 0)) := by subst hb; exact World.alloc_heap_new w _
  have := cellAt h j (v := u) (by simpa using hu)
  unfold Addr.add
  split
  · rename_i h0; subst h0; exact this
  · simpa using this

theorem info_three {P : Program} {t : TypeId} {z : Option Value} {s b : Nat} (h : (P.info? t).map (fun i => (i.zero, i.size, i.bytes)) = some (z, s, b)) : ∃ i, P.info? t = some i ∧ i.zero = z ∧ i.size = s ∧ i.bytes = b := by
  cases hi : P.info? t with
  | none => rw [hi] at h; cases h
  | some i =>
    rw [hi] at h
    simp only [Option.map_some, Option.some.injEq, Prod.mk.injEq] at h
    exact ⟨i, rfl, h.1, h.2.1, h.2.2⟩

/-- what stands at the head of a round of sideOf: S: the block of the side -/
structure SI (k : Int) (rules : List Rule) (w : World) (S : Nat) (vl : Value) (j : Nat) (W : World) (vr : Value) (fs : List Value) : Prop where
  side : W.heap[S]? = some (.cells #[vl, vr] 87)
  len : fs.length = (sideRules k 0 (rules.take j)).length
  own : W.ownsRow (S + 1) 101 4 vr fs.length (arRow (sideRules k 0 (rules.take j)) fs)
  frm : ∀ (i : Nat) (f : Value) (r : ARule), fs[i]? = some f → (sideRules k 0 (rules.take j))[i]? = some r → StrsAt W.heap.size W f r.frm
  apart : ∀ f ∈ fs, ∀ p n c, f = .slice (some p) n c → S < p.block ∧ p.block < W.heap.size ∧ vr.ownBlock ≠ some p.block
  ext : Ext none' w W

theorem arRow_len : ∀ (rs : List ARule) (fs : List Value), fs.length = rs.length → (arRow rs fs).length = rs.length * 4
  | [], [], _ => rfl
  | r :: rs, f :: fs, h => by
    have := arRow_len rs fs (by simpa using h)
    unfold arRow at this ⊢
    rw [List.zip_cons_cons, List.map_cons, List.flatten_cons, List.length_append, this, List.length_cons]
    simp [arCells]
    omega
  | [], _ :: _, h => by simp at h
  | _ :: _, [], h => by simp at h

theorem arRow_snoc (rs : List ARule) (fs : List Value) (r : ARule) (f : Value) (h : fs.length = rs.length) : arRow (rs ++ [r]) (fs ++ [f]) = arRow rs fs ++ arCells r f := by
  unfold arRow
  rw [List.zip_append h.symm, List.map_append, List.flatten_append]
  simp

theorem arRow_at : ∀ (rs : List ARule) (fs : List Value), fs.length = rs.length → ∀ (j : Nat) (r : ARule) (f : Value), rs[j]? = some r → fs[j]? = some f → ∀ (i : Nat) (u : Value), (arCells r f)[i]? = some u → (arRow rs fs)[j * 4 + i]? = some u
  | [], _, _, j, r, f, h, _ => by simp at h
  | r0 :: rs, [], h, _, _, _, _, _ => by simp at h
  | r0 :: rs, f0 :: fs, hl, j, r, f, hr, hf => by
    intro i u hu
    have hi : i < 4 := (List.getElem?_eq_some_iff.1 hu).1
    have e : arRow (r0 :: rs) (f0 :: fs) = arCells r0 f0 ++ arRow rs fs := rfl
    rw [e]
    cases j with
    | zero =>
      simp only [List.getElem?_cons_zero, Option.some.injEq] at hr hf
      subst hr hf
      rw [Nat.zero_mul, Nat.zero_add, List.getElem?_append_left hi]
      exact hu
    | succ j =>
      rw [List.getElem?_append_right (by simp [arCells]; omega)]
      have := arRow_at rs fs (by simpa using hl) j r f (by simpa using hr) (by simpa using hf) i u hu
      rw [show (j + 1) * 4 + i - (arCells r0 f0).length = j * 4 + i by simp [arCells]; omega]
      exact this

theorem rules_of {W : World} {base : Nat} {vr : Value} {rs : List ARule} {fs : List Value} (hl : fs.length = rs.length) (ho : W.ownsRow base 101 4 vr fs.length (arRow rs fs)) (hf : ∀ (i : Nat) (f : Value) (r : ARule), fs[i]? = some f → rs[i]? = some r → StrsAt W.heap.size W f r.frm) : ARulesAt W.heap.size W vr rs := by
  rcases ho.2 with ⟨rfl, h0⟩ | ⟨g, cap, cur, rfl, _, hg, hc, hm, hs, ht⟩
  · have : rs = [] := List.length_eq_zero_iff.1 (by omega)
    subst this
    exact ARulesAt.none _ _
  · refine ⟨_, cap, by rw [hl], by omega, hm, fun _ => ⟨g, 0, rfl, (Array.getElem?_eq_some_iff.1 hg).1, fun j r hj => ?_⟩⟩
    have hjl := (List.getElem?_eq_some_iff.1 hj).1
    obtain ⟨f, hfj⟩ : ∃ f, fs[j]? = some f := ⟨_, List.getElem?_eq_getElem (by omega)⟩
    refine ⟨f, hf j f r hfj hj, fun i u hu => ?_⟩
    have h1 := arRow_at rs fs hl j r f hj hfj i u hu
    rw [← ht, List.getElem?_take] at h1
    split at h1
    · rw [Nat.zero_add]
      exact cellAt hg _ (by simpa using h1)
    · cases h1

/-- what a side is -/
def SideAt (N : Nat) (w : World) (v : Value) (l : List Str) (rs : List ARule) : Prop := ∃ vl vr, v = .agg #[vl, vr] ∧ StrsAt N w vl l ∧ ARulesAt N w vr rs

/-- the cells of a side, whatever they hold -/
def SideShape (v : Value) : Prop := ∃ (la ra : Option Addr) (ln lc rn rc : Nat), v = .agg #[.slice la ln lc, .slice ra rn rc]

theorem SI.agg {k : Int} {rules : List Rule} {w : World} {S : Nat} {vl : Value} {j : Nat} {W : World} {vr : Value} {fs : List Value} (h : SI k rules w S vl j W vr fs) : ∃ a n c, vr = .slice a n c := by
  rcases h.own.2 with ⟨rfl, _⟩ | ⟨g, cap, cur, rfl, _⟩
  · exact ⟨_, _, _, rfl⟩
  · exact ⟨_, _, _, rfl⟩

/-- growth that touches the row's own block and the side's block only -/
theorem SI.same {k : Int} {rules : List Rule} {w : World} {S : Nat} {vl : Value} {j : Nat} {W W' : World} {vr : Value} {fs : List Value} (h : SI k rules w S vl j W vr fs) (he : Ext none' W W') : SI k rules w S vl j W' vr fs := by
  refine ⟨(he.same S (Array.getElem?_eq_some_iff.1 h.side).1 (fun h => h)).trans h.side, h.len, ?_, fun i f r hi hr => ?_, fun f hf p n c e => ?_, h.ext.trans he⟩
  · refine ⟨h.own.1, ?_⟩
    rcases h.own.2 with hn | ⟨g, cap, cur, hv, hb, hg, rest⟩
    · exact .inl hn
    · exact .inr ⟨g, cap, cur, hv, hb, (he.same g (Array.getElem?_eq_some_iff.1 hg).1 (fun h => h)).trans hg, rest⟩
  · exact ((h.frm i f r hi hr).keep (he.same0 (Nat.le_refl _))).up he.size
  · have := h.apart f hf p n c e
    exact ⟨this.1, Nat.lt_of_lt_of_le this.2.1 he.size, this.2.2⟩
end Go.Proofs.Kb
