/- Regions with appends: single operations that write memory, and rows of rules. -/
import Derived.Test.YthkpgnhjnpcjgaaGreatDoorLawB
namespace Go.Proofs.Kb
open Go Go.RowKit Go.Lib Pl
attribute [local go_sem] Oper.semAt_some run_makeMap

section ops
variable {ro : Option Nat} {n : Nat} {P : Program} {o : Oper} {a : Act} {w : World} {K : Act → World → Prop} {Q : Exit → Act → World → Prop}

theorem wpIn_value (v : Value) (w' : World) (hd : ∀ c, o.op ≠ .defer c) (h : (execOp a.eval o).run P w = .ok (.value v) w') (hk : K (a.put o.dst v) w') : o.wpIn (Fz ro) n P a w K Q := by
  unfold Oper.wpIn
  rw [Oper.semAt_eq ro _ _ hd, h]
  exact ⟨fun _ _ => trivial, hk⟩

theorem wpIn_append_own (s x : Operand) (t : TypeId) (hop : o.op = Op.call { callee := Callee.builtin Builtin.append, args := #[s, x], argTypes := #[t, t] })
    (base : Nat) (e : TypeId) (i : TypeInfo) (z : Value) (size bytes : Nat) (h1 : P.underlying t = some (.slice e)) (h2 : P.info? e = some i) (h3 : i.zero = some z) (h4 : i.size = size) (h5 : i.bytes = bytes) (h6 : z.cells.size = size) (h7 : 0 < size)
    (v : Value) (k : Nat) (xs : List Value) (hs : a.eval s = v) (hown : w.ownsRow base e size v k xs) (ad : Addr) (m c : Nat) (news : List Value) (hx : a.eval x = .slice (some ad) m c) (hn : news.length = m * size)
    (hc : ∀ j u, news[j]? = some u → w.cell? (ad.add j) = some u) (h1c : ∀ u ∈ news, u.oneCell' = true) (b1 : k + m ≤ maxLen) (b2 : (k + m) * bytes ≤ 140737488355328) (b3 : base ≤ w.heap.size)
    (hK : ∀ v' w', w'.ownsRow base e size v' (k + m) (xs ++ news) → w.grownBy w' v.ownBlock → K (a.put o.dst v') w') : o.wpIn (Fz ro) n P a w K Q := by
  obtain ⟨v', w', hrun, r1, r2, r3⟩ := run_append_own (P := P) w base t o.type e i z size bytes h1 h2 h3 h4 h5 h6 h7 v k xs hown ad m c news hn hc h1c b1 b2 b3
  refine wpIn_value v' w' (fun c e => by rw [hop] at e; cases e) ?_ (hK v' w' r1 r2)
  simp [execOp, hop, resolve, invoke, builtin, hs, hx, hrun, Result.andThen]

end ops

theorem build_rules {o : Oper} {a : Act} {w : World} (ho : o.op = .buildSlice 22 0 #[]) : (execOp a.eval o).run Tryz.prog w = .ok (.value (.slice (some ⟨w.heap.size, 0, none⟩) 0 0)) (w.alloc (.cells #[] 41)) := by
  unfold execOp
  simp only [ho]
  go_simp

theorem load_rules (p : Addr) (v : Value) (w : World) (h : w.cell? p = some v) : (loadVar 22 p).run Tryz.prog w = .ok v w := by go_simp

theorem store_rules (b j : Nat) (s : Option Addr) (m c : Nat) (u : Value) (w : World) (hu : w.cell? ⟨b, j, none⟩ = some u) (hf : w.frozen? ⟨b, j, none⟩ = false) : (storeVar 22 ⟨b, j, none⟩ (.slice s m c)).run Tryz.prog w = .ok () (w.setCell ⟨b, j, none⟩ (.slice s m c)) := by
  go_simp

theorem wpIn_store {ro : Option Nat} {n : Nat} {P : Program} {o : Oper} {a : Act} {w : World} {K : Act → World → Prop} {Q : Exit → Act → World → Prop} (ty : TypeId) (x y : Operand) (ho : o.op = .store ty x y)
    (p : Addr) (v : Value) (hx : a.eval x = .pointer (some p)) (hy : a.eval y = v) (w' : World) (hs : (storeVar ty p v).run P w = .ok () w') (h : K (a.put o.dst undef) w') : o.wpIn (Fz ro) n P a w K Q := by
  have hd : ∀ c, o.op ≠ .defer c := fun c e => by rw [ho] at e; cases e
  unfold Oper.wpIn
  rw [Oper.semAt_eq ro _ _ hd]
  unfold execOp
  simp only [ho, hx, hy, Instr.storeAt, Instr.sureAddr, Sem.run_bind, Sem.run_pure, Result.andThen_ok, hs]
  exact ⟨fun _ _ => trivial, h⟩

/-- where the row l[k:] begins -/
def sliceOff (b o c k : Nat) : Addr := if c = k then ⟨b, o, none⟩ else ⟨b, o + k * 4, none⟩

theorem slice_to (b o n c k : Nat) (hk : k ≤ n) (hn : n ≤ c) (w : World) : (Instr.sliceAt 22 (.slice (some ⟨b, o, none⟩) n c) none (some (.int .i64 (k : Nat))) none).run Tryz.prog w = .ok (.slice (some ⟨b, o, none⟩) k c) w := by
  have h1 : k ≤ c := by omega
  go_simp

theorem slice_from (b o n c k : Nat) (hk : k ≤ n) (hn : n ≤ c) (hc : c ≤ maxLen) (w : World) : (Instr.sliceAt 22 (.slice (some ⟨b, o, none⟩) n c) (some (.int .i64 (k : Nat))) none none).run Tryz.prog w = .ok (.slice (some (sliceOff b o c k)) (n - k) (c - k)) w := by
  unfold maxLen at hc
  unfold sliceOff
  have h1 : k ≤ c := by omega
  by_cases h2 : c = k
  · subst h2
    obtain rfl : n = c := by omega
    go_simp
  · go_simp

theorem add_one (k : Nat) (h : k + 1 ≤ 9223372036854775807) (x y : Operand) (w : World) : (do eqGuard .add 3 x y (.int .i64 (k : Nat)) (.int .i64 1); binOp .add 3 (.int .i64 (k : Nat)) (.int .i64 1) : Sem Value).run Tryz.prog w = .ok (.int .i64 ((k + 1 : Nat) : Int)) w := by
  have hw : IntKind.i64.wrap ((k : Int) + 1) = (k : Int) + 1 := by simp [IntKind.wrap, IntKind.bits, IntKind.signed]; omega
  go_simp

theorem info_rule : (Tryz.prog.info? 41).map (fun i => (i.zero, i.size, i.bytes)) = some (some (.agg #[.int .i64 0, .string ⟨#[]⟩, .string ⟨#[]⟩, .int .i64 0]), 4, 48) := by kernel_rfl

theorem slAt_of_own {α : Type} {enc : α → List Value} {k : Nat} (hk : ∀ x, (enc x).length = k) (l : List α) {w : World} {base e n : Nat} {v : Value} (hn : n = l.length) (h : w.ownsRow base e k v n ((l.map enc).flatten)) : SlAt k enc w.heap.size w v l := by
  subst hn
  by_cases hl : l.length = 0
  · obtain rfl := List.length_eq_zero_iff.1 hl
    rcases h.2 with ⟨h0, _⟩ | ⟨g, cap, cur, rfl, _, _, h1, h2, _⟩
    · subst h0
      exact ⟨none, 0, rfl, Nat.le_refl _, by decide, fun h => absurd rfl h⟩
    · exact ⟨_, cap, rfl, h1, h2, fun h => absurd rfl h⟩
  · obtain ⟨g, cap, cur, rfl, _, hg, hc, hm, hs, ht⟩ := own_some h hl
    refine ⟨_, cap, rfl, hc, hm, fun _ => ⟨g, 0, rfl, (Array.getElem?_eq_some_iff.1 hg).1, fun j x hj i u hu => cellAt hg _ ?_⟩⟩
    have hf := flat_at hk l j x hj i u hu
    rw [Nat.zero_add]
    refine own_at ht _ ?_ hf
    have h1 := (List.getElem?_eq_some_iff.1 hj).1
    have h2 := (List.getElem?_eq_some_iff.1 hu).1
    rw [hk] at h2
    have : j * k + k ≤ l.length * k := by rw [← Nat.succ_mul]; exact Nat.mul_le_mul_right _ h1
    omega

/-- the cells of a part of a row -/
theorem slAt_part {α : Type} {enc : α → List Value} {k : Nat} (hk : ∀ x, (enc x).length = k) {l : List α} {w : World} {b o : Nat} (h : ∀ j x, l[j]? = some x → ∀ i u, (enc x)[i]? = some u → w.cell? ⟨b, o + j * k + i, none⟩ = some u) :
    ∀ (j : Nat) (u : Value), ((l.map enc).flatten)[j]? = some u → w.cell? ⟨b, o + j, none⟩ = some u := by
  intro j u hu
  induction l generalizing o j with
  | nil => simp at hu
  | cons x l ih =>
    rw [List.map_cons, List.flatten_cons] at hu
    by_cases hj : j < k
    · rw [List.getElem?_append_left (by rw [hk]; exact hj)] at hu
      have := h 0 x rfl j u hu
      simpa using this
    · rw [List.getElem?_append_right (by rw [hk]; omega), hk] at hu
      have := ih (o := o + k) (fun j' x' h' i u h'' => by
        have := h (j' + 1) x' (by simpa using h') i u h''
        rw [Nat.succ_mul] at this
        rw [show o + k + j' * k + i = o + (j' * k + k) + i by omega]
        exact this) (j - k) hu
      rwa [show o + k + (j - k) = o + j by omega] at this

theorem rule_cells (r : Rule) : (encRule r).length = 4 := rfl
theorem rule_one {l : List Rule} : ∀ u ∈ (l.map encRule).flatten, u.oneCell' = true := by
  intro u hu
  obtain ⟨c, hc, hu⟩ := List.mem_flatten.1 hu
  obtain ⟨r, _, rfl⟩ := List.mem_map.1 hc
  simp only [encRule, List.mem_cons, List.not_mem_nil, or_false] at hu
  rcases hu with rfl | rfl | rfl | rfl <;> simp [Value.oneCell', encS]

theorem rules_flat (l : List Rule) (n : Nat) (h : l.length = n) : ((l.map encRule).flatten).length = n * 4 := by
  subst h
  induction l with
  | nil => rfl
  | cons x l ih => rw [List.map_cons, List.flatten_cons, List.length_append, ih, rule_cells, List.length_cons]; omega

theorem frozenAt {w : World} {b : Nat} {c : Array Value} {t : TypeId} (h : w.heap[b]? = some (.cells c t (0, 0))) (i : Nat) : w.frozen? ⟨b, i, none⟩ = false := by
  simp [World.frozen?, h]

theorem rowSet {w : World} {b : Nat} {c : Array Value} {t : TypeId} {fr : Nat × Nat} (h : w.heap[b]? = some (.cells c t fr)) (i : Nat) (v : Value) : (w.setCell ⟨b, i, none⟩ v).heap[b]? = some (.cells (c.setIfInBounds i v) t fr) := by
  simp [World.setCell, Array.getElem?_modify, h]

theorem own_setCell {w : World} {base e size n : Nat} {v : Value} {xs : List Value} (h : w.ownsRow base e size v n xs) {b : Nat} (i : Nat) (u : Value) (hb : b < base) : (w.setCell ⟨b, i, none⟩ u).ownsRow base e size v n xs := by
  refine ⟨h.1, ?_⟩
  rcases h.2 with hn | ⟨g, cap, cur, hv, hbg, hg, rest⟩
  · exact .inl hn
  · refine .inr ⟨g, cap, cur, hv, hbg, ?_, rest⟩
    have hne : b ≠ g := by omega
    rw [← hg]
    simp [World.setCell, Array.getElem?_modify, hne]

theorem addr_add (b o j : Nat) : (⟨b, o, none⟩ : Addr).add j = ⟨b, o + j, none⟩ := by
  unfold Addr.add
  split
  · rename_i h0; subst h0; rfl
  · rfl
end Go.Proofs.Kb
