/- Plain laws: certificates against the cheapest derivations (sound, complete, states). -/
import Derived.Test.YthkpgnhjnpcjgaaGreatDoorAPl
import Derived.Test.YthkpgnhjnpcjgaaGreatDoorChk0
import Derived.Test.YthkpgnhjnpcjgaaGreatDoorMemo
import Derived.Test.YthkpgnhjnpcjgaaGreatDoorLaws1
import Derived.Test.YthkpgnhjnpcjgaaGreatDoorMaps
namespace Pl

/-! what is known is closed -/

def keyed (m : Memo) (s : State) : Prop := ∃ v, mget m s = some v

theorem keyed_of_mem {m : Memo} {e : State × Int} (h : e ∈ m) : keyed m e.1 := by
  unfold keyed mget
  cases hf : m.find? (fun x => decide (x.1 = e.1)) with
  | none => exact absurd (List.find?_eq_none.1 hf e h) (by simp)
  | some x => exact ⟨x.2, rfl⟩

theorem mem_of_keyed {m : Memo} {s : State} (h : keyed m s) : ∃ v, (s, v) ∈ m := by
  obtain ⟨v, hv⟩ := h
  exact ⟨v, mget_in hv⟩

theorem mem_mput {m : Memo} {k : State} {v : Int} {e : State × Int} (h : e ∈ m) : ∃ v', (e.1, v') ∈ mput m k v := by
  unfold mput
  split
  · by_cases he : e.1 = k
    · exact ⟨v, List.mem_map.2 ⟨e, h, by rw [if_pos he, he]⟩⟩
    · exact ⟨e.2, List.mem_map.2 ⟨e, h, by rw [if_neg he]⟩⟩
  · exact ⟨e.2, by simp [h]⟩

theorem mput_has (m : Memo) (k : State) (v : Int) : (k, v) ∈ mput m k v := by
  unfold mput
  split
  · rename_i h
    rw [List.any_eq_true] at h
    obtain ⟨e, he, hk⟩ := h
    have hk : e.1 = k := by simpa using hk
    exact List.mem_map.2 ⟨e, he, by rw [if_pos hk]⟩
  · simp

theorem keyed_mput {m : Memo} {k : State} {v : Int} {s : State} (h : keyed m s) : keyed (mput m k v) s := by
  obtain ⟨u, hu⟩ := mem_of_keyed h
  obtain ⟨v', hv'⟩ := mem_mput (k := k) (v := v) hu
  exact keyed_of_mem hv'

def closedM (p : Two) (m : Memo) : Prop := ∀ e ∈ m, ∀ x ∈ moves p e.1, keyed m x.2

theorem fromM_closed (p : Two) : ∀ (n : Nat) (s : State) (m : Memo), left p s < n → OkState p s → closedM p m →
    closedM p (fromM p n s m).2 ∧ keyed (fromM p n s m).2 s ∧ ∀ k, keyed m k → keyed (fromM p n s m).2 k
  | 0, _, _, h, _, _ => absurd h (by omega)
  | n + 1, s, m, h, hs, hm => by
    unfold fromM
    cases hg : mget m s with
    | some v => exact ⟨hm, ⟨v, hg⟩, fun _ h => h⟩
    | none =>
      have key : ∀ (l : List (Int × State)) (z : Int) (m : Memo), (∀ x ∈ l, OkState p x.2 ∧ left p x.2 < left p s) → closedM p m →
          closedM p (fromL (fromM p n) l z m).2 ∧ (∀ x ∈ l, keyed (fromL (fromM p n) l z m).2 x.2) ∧ ∀ k, keyed m k → keyed (fromL (fromM p n) l z m).2 k := by
        intro l
        induction l with
        | nil => exact fun z m _ hm => ⟨hm, (fun _ h => by cases h), fun _ h => h⟩
        | cons x l ih =>
          intro z m hx hm
          obtain ⟨c, t⟩ := x
          obtain ⟨h1, h2⟩ := hx (c, t) (by simp)
          obtain ⟨e1, e2, e3⟩ := fromM_closed p n t m (by simp only at h2; omega) h1 hm
          obtain ⟨i1, i2, i3⟩ := ih (min z (c + (fromM p n t m).1)) (fromM p n t m).2 (fun y hy => hx y (by simp [hy])) e1
          simp only [fromL]
          refine ⟨i1, fun y hy => ?_, fun k hk => i3 k (e3 k hk)⟩
          rcases List.mem_cons.1 hy with rfl | hy
          · exact i3 _ e2
          · exact i2 y hy
      obtain ⟨e1, e2, e3⟩ := key (moves p s) (if s = p.fin then 0 else never) m (fun x hx => ⟨(moves_ok hs hx).1, (moves_ok hs hx).2.1⟩) hm
      simp only
      refine ⟨fun e he x hx => ?_, keyed_of_mem (mput_has _ _ _), fun k hk => keyed_mput (e3 k hk)⟩
      rcases mput_mem he with he | rfl
      · exact keyed_mput (e1 e he x hx)
      · exact keyed_mput (e2 x hx)

theorem known_closed (p : Two) : closedM p (known p).2 ∧ keyed (known p).2 State.start := by
  have := fromM_closed p (depth p) State.start [] (by unfold left depth State.start; simp only; omega) (start_ok p) (fun _ h => by cases h)
  exact ⟨this.1, this.2.1⟩

theorem known_at {p : Two} {s : State} (h : keyed (known p).2 s) : costAt (known p).2 s = V p s ∧ OkState p s := by
  obtain ⟨v, hv⟩ := h
  have := (known_V p).2 _ (mget_in hv)
  unfold costAt
  rw [hv]
  exact ⟨this.2, this.1⟩

/-! what can be reached -/

/-- letters from a to z, at most three -/
def okAhead (s : Str) : Prop := s.length ≤ 3 ∧ s.all isSmall = true

theorem okAhead_drop {s : Str} (h : okAhead s) (n : Nat) : okAhead (s.drop n) := by
  refine ⟨by have := h.1; simp; omega, ?_⟩
  rw [List.all_eq_true]
  intro x hx
  exact List.all_eq_true.1 h.2 x (List.mem_of_mem_drop hx)

structure Reached (s : State) : Prop where
  right : OkRight s
  ahead : okAhead s.ahead

theorem start_reached : Reached State.start := ⟨(fun h => by cases h), ⟨by decide, rfl⟩⟩

theorem move_reached {p : Two} (hf : ∀ r ∈ p.rules, okAhead r.to) {s : State} (hs : Reached s) {m : Int × State} (hm : m ∈ moves p s) : Reached m.2 := by
  obtain ⟨r, hr, hmv⟩ := List.mem_filterMap.1 hm
  obtain ⟨c, t⟩ := m
  refine ⟨move_right hs.right hmv, ?_⟩
  unfold Pl.move at hmv
  split at hmv
  · cases hmv
  · cases ha : ahead s.ahead r.to s.right (leftMoves p s) with
    | none => rw [ha] at hmv; cases hmv
    | some q =>
      rw [ha] at hmv
      have hq : okAhead q.1 := by
        unfold ahead at ha
        split at ha
        · cases ha; exact okAhead_drop hs.ahead _
        · split at ha
          · cases ha; exact okAhead_drop (hf r hr) _
          · cases ha
      have e : t.ahead = q.1 := by
        obtain ⟨q1, q2⟩ := q
        simp only [Option.some.injEq, Prod.mk.injEq] at hmv
        rw [← hmv.2]
        split <;> rfl
      simp only
      rw [e]
      exact hq

theorem known_reached {p : Two} (hf : ∀ r ∈ p.rules, okAhead r.to) : ∀ e ∈ (known p).2, Reached e.1 :=
  fromM_keys Reached (fun _ hs _ hm => move_reached hf hs hm) (depth p) State.start [] start_reached (fun _ h => by cases h)

/-! bounds of the least cost -/

theorem V_fin {p : Two} (hc0 : ∀ r ∈ p.rules, 0 ≤ r.cost) (hs : OkState p p.fin) : V p p.fin = 0 := by
  have h1 := V_nonneg hc0 (left p p.fin + 1) p.fin (Nat.lt_succ_self _) hs
  have h2 := (leastOf_le (V p) (moves p p.fin) 0).1
  have h3 := V_eq hs
  rw [if_pos rfl] at h3
  omega

theorem V_small {p : Two} (hc : ∀ r ∈ p.rules, 0 ≤ r.cost ∧ r.cost ≤ 1000) : ∀ (n : Nat) (s : State), left p s < n → OkState p s → V p s = never ∨ V p s ≤ 1000 * left p s
  | 0, _, h, _ => absurd h (by omega)
  | n + 1, s, h, hs => by
    rcases leastOf_is (V p) (moves p s) (if s = p.fin then 0 else never) with e | ⟨m, hm, e⟩
    · rw [← V_eq hs] at e
      by_cases hf : s = p.fin
      · rw [if_pos hf] at e; right; rw [e]; omega
      · rw [if_neg hf] at e; exact .inl e
    · rw [← V_eq hs] at e
      obtain ⟨h1, h2, r, hr, h3⟩ := moves_ok hs hm
      have hle := V_le hs
      rcases V_small hc n m.2 (by omega) h1 with e2 | e2
      · left; have := hc r hr; omega
      · right; have := hc r hr; omega

/-! a certificate that holds is a lower bound -/

theorem rising_not_fin {p : Two} {bound : Int} {l : List Pot} (h : rising p bound none l = true) : height l p.fin = 0 := by
  unfold height
  cases hm : mget (heights l) p.fin with
  | none => rfl
  | some v =>
    exfalso
    obtain ⟨e, he, hev⟩ := List.mem_map.1 (mget_in hm)
    have hst : e.state = p.fin := congrArg Prod.fst hev
    have := rising_proper h e he
    simp only [proper, Bool.and_eq_true, Bool.not_eq_true', decide_eq_false_iff_not] at this
    exact this.1.1.2 hst

theorem holds_low {p : Two} {bound : Int} {l : List Pot} (hc0 : ∀ r ∈ p.rules, 0 ≤ r.cost) (h : holds p bound l = true) : ∀ (n : Nat) (s : State), left p s < n → OkState p s → height l s ≤ V p s
  | 0, _, h, _ => absurd h (by omega)
  | n + 1, s, hn, hs => by
    rw [holds_eq] at h
    simp only [Bool.and_eq_true, decide_eq_true_eq] at h
    obtain ⟨⟨h1, h2⟩, _⟩ := h
    have hV := V_nonneg hc0 (n + 1) s hn hs
    by_cases hf : s = p.fin
    · rw [hf, rising_not_fin h1, ← hf]; exact hV
    · cases hm : mget (heights l) s with
      | none => unfold height; rw [hm]; exact hV
      | some v =>
        have hmem := mget_in hm
        have hall := List.all_eq_true.1 h2 _ hmem
        unfold moveOk at hall
        rw [List.all_eq_true] at hall
        have hht : height l s = v := by unfold height; rw [hm]; rfl
        have hrange := height_range h1 s
        rw [hht] at hrange ⊢
        rcases leastOf_is (V p) (moves p s) (if s = p.fin then 0 else never) with e | ⟨m, hmv, e⟩
        · rw [← V_eq hs, if_neg hf] at e
          rw [e]
          unfold never
          omega
        · rw [← V_eq hs] at e
          obtain ⟨g1, g2, _⟩ := moves_ok hs hmv
          have := holds_low hc0 (by rw [holds_eq]; simp only [Bool.and_eq_true, decide_eq_true_eq]; exact ⟨⟨h1, h2⟩, by assumption⟩) n m.2 (by omega) g1
          have h3 := hall m hmv
          simp only [decide_eq_true_eq] at h3
          omega

theorem check_two {t : Table} {a : Int} {x : Str} {b : Int} {y : Str} {bound : Int} {l : List Pot} (h : Check t a x b y bound l = true) : ∃ p, two t a x b y = some p ∧ holds p bound l = true := by
  unfold Check at h
  cases ht : two t a x b y with
  | none => rw [ht] at h; cases h
  | some p => rw [ht] at h; exact ⟨p, rfl, h⟩

theorem two_costs {t : Table} {a : Int} {x : Str} {b : Int} {y : Str} {p : Two} (h : two t a x b y = some p) : ∀ r ∈ p.rules, 0 ≤ r.cost ∧ r.cost ≤ 1000 := by
  obtain ⟨hv, e⟩ := two_rules h
  rw [e]
  exact fun r hr => ⟨(valid_rules hv r hr).1, (valid_rules hv r hr).2.1⟩

theorem two_forms {t : Table} {a : Int} {x : Str} {b : Int} {y : Str} {p : Two} (h : two t a x b y = some p) : ∀ r ∈ p.rules, okAhead r.to := by
  obtain ⟨hv, e⟩ := two_rules h
  rw [e]
  intro r hr
  simp only [Valid, Bool.and_eq_true] at hv
  have := apart_ok hv.1.2 r hr
  simp only [ruleOk, isForm, Bool.and_eq_true, decide_eq_true_eq] at this
  exact ⟨this.1.2.1, this.1.2.2⟩

theorem holds_start_le {p : Two} {bound : Int} {l : List Pot} (hc0 : ∀ r ∈ p.rules, 0 ≤ r.cost) (h : holds p bound l = true) : bound ≤ V p State.start := by
  have h1 := holds_low hc0 h (left p State.start + 1) State.start (Nat.lt_succ_self _) (start_ok p)
  rw [holds_eq] at h
  simp only [Bool.and_eq_true, decide_eq_true_eq] at h
  have := h.2
  omega

theorem bestF_cost (w : Words) (kn : Memo) : ∀ (n : Nat) (s : State) (d : Deriv), (bestF w kn n s d).cost = d.cost
  | 0, _, _ => rfl
  | n + 1, s, d => by
    unfold bestF
    split
    · rfl
    · split
      · rfl
      · rw [bestF_cost]
        unfold Deriv.step
        split <;> rfl

/-- what the cheapest derivation costs -/
theorem abest_is {t : Table} {a : Int} {x : Str} {b : Int} {y : Str} {p : Two} (h : two t a x b y = some p) :
    (V p State.start = never ∧ ABest t a x b y = (Deriv.zero, 11)) ∨ (V p State.start ≤ 24000 ∧ (ABest t a x b y).2 = 0 ∧ (ABest t a x b y).1.cost = V p State.start) := by
  have hk := (known_V p).1
  unfold ABest
  rw [h]
  simp only
  rw [hk]
  by_cases hn : never ≤ V p State.start
  · rw [if_pos hn]
    have := V_le (start_ok p)
    exact .inl ⟨by omega, rfl⟩
  · rw [if_neg hn]
    right
    have hl := V_small (two_costs h) (left p State.start + 1) State.start (Nat.lt_succ_self _) (start_ok p)
    refine ⟨?_, rfl, by rw [bestF_cost]⟩
    have hlen : left p State.start ≤ 24 := by
      have : p.l.length ≤ 12 ∧ p.m.length ≤ 12 := by
        unfold two at h
        cases h1 : lettersOf a x with
        | none => simp [h1] at h
        | some l =>
          cases h2 : lettersOf b y with
          | none => simp [h1, h2] at h
          | some m =>
            simp only [h1, h2] at h
            split at h
            · cases h
              obtain ⟨s, hs⟩ := letters_word h1
              obtain ⟨s', hs'⟩ := letters_word h2
              exact ⟨(letters_parse.1 hs).2.2, (letters_parse.1 hs').2.2⟩
            · cases h
      unfold left State.start
      simp only
      omega
    rcases hl with e | e
    · rw [e] at hn; exact absurd (Int.le_refl _) hn
    · omega

/-! derivations -/

theorem find_rule {k : Int} : ∀ (rs : List Rule) (i : Nat) (j : Int) (r : ARule), (sideRules k i rs).find? (fun r => decide (r.index = j)) = some r → ∃ q ∈ rs, q.script = k ∧ Letters k q.frm = some r.frm ∧ r.cost = q.cost ∧ r.to = q.to
  | [], _, _, _, h => by simp [sideRules] at h
  | q :: rs, i, j, r, h => by
    rw [sideRules, List.find?_append] at h
    cases hf : (aruleOf k i q).toList.find? (fun r => decide (r.index = j)) with
    | none =>
      rw [hf] at h
      obtain ⟨q', hq', h'⟩ := find_rule rs (i + 1) j r (by simpa using h)
      exact ⟨q', by simp [hq'], h'⟩
    | some r' =>
      rw [hf] at h
      simp only [Option.some_or, Option.some.injEq] at h
      subst h
      have hm := List.mem_of_find?_eq_some hf
      unfold aruleOf at hm
      split at hm
      · rename_i hsc
        cases hl : Letters k q.frm with
        | none => rw [hl] at hm; simp at hm
        | some f =>
          rw [hl] at hm
          simp only [Option.map_some, Option.toList_some, List.mem_singleton] at hm
          subst hm
          exact ⟨q, by simp, hsc, hl, rfl, rfl⟩
      · simp at hm

/-- rules that were written are a derivation -/
theorem writtenF_der {k : Int} {rs : List Rule} {l : List Str} (hl : ∃ s, Parse k s l) : ∀ (is : List Int) (at' : Int) (form : Str) (cost : Int) (f : Str) (c e : Int), 0 ≤ at' → at' ≤ l.length →
    writtenF l (sideRules k 0 rs) is at' form cost = some (f, c, e) → e = l.length → ∃ f' c', Der rs k (l.drop at'.toNat) f' c' ∧ f = form ++ f' ∧ c = cost + c'
  | [], at', form, cost, f, c, e, h0, h1, h, he => by
    simp only [writtenF, Option.some.injEq, Prod.mk.injEq] at h
    obtain ⟨rfl, rfl, rfl⟩ := h
    refine ⟨[], 0, ?_, by simp, by simp⟩
    rw [List.drop_eq_nil_of_le (by omega)]
    exact .nil
  | i :: is, at', form, cost, f, c, e, h0, h1, h, he => by
    unfold writtenF at h
    cases hf : (sideRules k 0 rs).find? (fun r => decide (r.index = i)) with
    | none => rw [hf] at h; cases h
    | some r =>
      rw [hf] at h
      simp only at h
      split at h
      · rename_i hfit
        obtain ⟨q, hq, hsc, hlt, hco, hto⟩ := find_rule rs 0 i r hf
        have htk := takes_afits hl h0 h1 (r := r) hlt
        rw [if_pos hfit] at htk
        have hne := (letters_parse.1 hlt).2.1
        have hfit' := hfit
        simp only [afits, Bool.and_eq_true, decide_eq_true_eq] at hfit'
        obtain ⟨f', c', hd, e1, e2⟩ := writtenF_der hl is (at' + r.frm.length) (form ++ r.to) (cost + r.cost) f c e (by omega) hfit'.1 h he
        have hdr : (l.drop at'.toNat).drop r.frm.length = l.drop (at' + r.frm.length).toNat := drop_toNat h0
        refine ⟨r.to ++ f', r.cost + c', ?_, by rw [e1, List.append_assoc], by rw [e2]; omega⟩
        rw [hto, hco]
        refine .cons q hq hsc (by rw [htk]; simpa using hne) ?_
        rw [htk, hdr]
        exact hd
      · cases h

theorem written_der {k : Int} {rs : List Rule} {l : List Str} (hl : ∃ s, Parse k s l) {is : List Int} (h : (written l (sideRules k 0 rs) is).2.2 = true) : Der rs k l (written l (sideRules k 0 rs) is).1 (written l (sideRules k 0 rs) is).2.1 := by
  unfold written at h ⊢
  cases hw : writtenF l (sideRules k 0 rs) is 0 [] 0 with
  | none => rw [hw] at h; cases h
  | some q =>
    obtain ⟨f, c, e⟩ := q
    rw [hw] at h
    simp only [decide_eq_true_eq] at h
    obtain ⟨f', c', hd, e1, e2⟩ := writtenF_der hl is 0 [] 0 f c e (Int.le_refl _) (by omega) hw h
    simp only
    simp only [List.nil_append] at e1
    subst e1
    rw [show c = c' by omega]
    exact hd

theorem acheck_fits {t : Table} {a : Int} {x : Str} {b : Int} {y : Str} {d : Deriv} (h : ACheck t a x b y d = true) : ∃ p, two t a x b y = some p ∧ Fits p State.start d.cost := by
  unfold ACheck at h
  cases ht : two t a x b y with
  | none => rw [ht] at h; cases h
  | some p =>
    rw [ht] at h
    simp only [Bool.and_eq_true, decide_eq_true_eq] at h
    obtain ⟨⟨⟨⟨h1, h2⟩, h3⟩, h4⟩, h5⟩ := h
    have hp := two_ok ht
    have d1 := written_der hp.l h1
    have d2 := written_der hp.m h2
    exact ⟨p, rfl, _, _, _, _, d1, d2, by rw [if_neg (by simp [State.start])]; simp only [State.start, List.nil_append]; exact h3.trans h4.symm, h5.symm⟩

/-- P12.2 -/
theorem check_sound {t : Table} {a : Int} {x : Str} {b : Int} {y : Str} {bound : Int} {l : List Pot} (h : Check t a x b y bound l = true) :
    ((ABest t a x b y).2 = 0 ∧ bound ≤ (ABest t a x b y).1.cost ∨ (ABest t a x b y).2 = 11) ∧ ∀ d, ACheck t a x b y d = true → bound ≤ d.cost := by
  obtain ⟨p, hp, hh⟩ := check_two h
  have hc0 := fun r hr => (two_costs hp r hr).1
  have hs := holds_start_le hc0 hh
  constructor
  · rcases abest_is hp with ⟨_, e⟩ | ⟨_, e1, e2⟩
    · exact .inr (by rw [e])
    · exact .inl ⟨e1, by rw [e2]; exact hs⟩
  · intro d hd
    obtain ⟨p', hp', hf⟩ := acheck_fits hd
    obtain rfl : p = p' := Option.some.inj (hp.symm.trans hp')
    have := (V_least hc0 (left p State.start + 1) State.start (Nat.lt_succ_self _) (start_ok p) start_reached.right).1 _ hf
    omega
end Pl
