/- Plain laws: the certificate that is made holds; the states of a certificate. -/
import Derived.Test.YthkpgnhjnpcjgaaGreatDoorALaws
import Derived.Test.YthkpgnhjnpcjgaaGreatDoorOrder
namespace Pl
open Go.Proofs.Kb (mget_of_getElem mget_none mput_nodup)

theorem fromM_nodup (p : Two) : ∀ (n : Nat) (s : State) (m : Memo), (m.map (·.1)).Nodup → ((fromM p n s m).2.map (·.1)).Nodup
  | 0, _, _, h => h
  | n + 1, s, m, hm => by
    unfold fromM
    cases hg : mget m s with
    | some v => exact hm
    | none =>
      have key : ∀ (l : List (Int × State)) (z : Int) (m : Memo), (m.map (·.1)).Nodup → ((fromL (fromM p n) l z m).2.map (·.1)).Nodup := by
        intro l
        induction l with
        | nil => exact fun z m hm => hm
        | cons x l ih =>
          intro z m hm
          obtain ⟨c, t⟩ := x
          exact ih _ _ (fromM_nodup p n t m hm)
      exact mput_nodup (key _ _ _ hm) _ _

theorem known_nodup (p : Two) : ((known p).2.map (·.1)).Nodup := fromM_nodup p _ _ _ .nil

theorem height_of_mem {l : List Pot} (hn : (l.map Pot.state).Nodup) {e : Pot} (he : e ∈ l) : height l e.state = e.h := by
  obtain ⟨j, hj⟩ := List.getElem?_of_mem he
  have hn' : ((heights l).map (·.1)).Nodup := by
    unfold heights
    rw [List.map_map]
    exact hn
  have hj' : (heights l)[j]? = some (e.state, e.h) := by unfold heights; rw [List.getElem?_map, hj]; rfl
  unfold height
  rw [mget_of_getElem hn' hj']
  rfl

theorem height_of_not {l : List Pot} {s : State} (h : ∀ e ∈ l, e.state ≠ s) : height l s = 0 := by
  unfold height
  rw [mget_none]
  · rfl
  · intro e he
    obtain ⟨x, hx, rfl⟩ := List.mem_map.1 he
    exact h x hx

theorem rising_of {p : Two} {bound : Int} : ∀ (l : List Pot) (prev : Option Pot), (∀ e ∈ l, proper p e bound = true) → l.Pairwise (fun x y => compare x y < 0) → (∀ y, prev = some y → ∀ x ∈ l, compare y x < 0) → rising p bound prev l = true
  | [], _, _, _, _ => rfl
  | x :: l, prev, h1, h2, h3 => by
    rw [List.pairwise_cons] at h2
    have ih := rising_of l (some x) (fun e he => h1 e (by simp [he])) h2.2 (fun y hy z hz => by cases hy; exact h2.1 z hz)
    simp only [rising, Bool.and_eq_true]
    refine ⟨⟨h1 x (by simp), ?_⟩, ih⟩
    cases prev with
    | none => rfl
    | some y => simpa using h3 y rfl x (by simp)

theorem mem_potsOf {bound : Int} {m : Memo} {e : Pot} (h : e ∈ potsOf bound m) : ∃ v, (e.state, v) ∈ m ∧ e.h = min v bound ∧ 0 < min v bound := by
  unfold potsOf at h
  obtain ⟨x, hx, he⟩ := List.mem_filterMap.1 h
  split at he
  · cases he
    exact ⟨x.2, hx, rfl, by assumption⟩
  · cases he

theorem potsOf_mem {bound : Int} {m : Memo} {s : State} {v : Int} (h : (s, v) ∈ m) (h0 : 0 < min v bound) : ∃ e ∈ potsOf bound m, e.state = s ∧ e.h = min v bound :=
  ⟨⟨s.i, s.j, s.ahead, s.right, min v bound⟩, List.mem_filterMap.2 ⟨(s, v), h, by simp only; rw [if_pos h0]⟩, rfl, rfl⟩

theorem made_height {p : Two} (hc0 : ∀ r ∈ p.rules, 0 ≤ r.cost) {bound : Int} (hb : 0 ≤ bound) {s : State} (h : keyed (known p).2 s) : height (sortP (potsOf bound (known p).2)) s = min (V p s) bound := by
  have hnd := potsOf_states bound _ (known_nodup p)
  have hperm := sortP_perm (potsOf bound (known p).2)
  have hn2 : ((sortP (potsOf bound (known p).2)).map Pot.state).Nodup := (hperm.map _).nodup_iff.2 hnd.1
  obtain ⟨v, hv⟩ := mem_of_keyed h
  obtain ⟨hs, hvV⟩ := (known_V p).2 _ hv
  simp only at hvV hs
  have hnn := V_nonneg hc0 (left p s + 1) s (Nat.lt_succ_self _) hs
  by_cases h0 : 0 < min v bound
  · obtain ⟨e, he, e1, e2⟩ := potsOf_mem hv h0
    have := height_of_mem hn2 (hperm.mem_iff.2 he)
    rw [e1, e2, hvV] at this
    exact this
  · rw [height_of_not]
    · rw [hvV] at h0; omega
    · intro e he hst
      obtain ⟨v', hv', e1, e2⟩ := mem_potsOf (hperm.mem_iff.1 he)
      rw [hst] at hv'
      have := ((known_V p).2 _ hv').2
      simp only at this
      rw [this] at e2
      rw [hvV] at h0
      exact h0 e2

theorem made_holds {p : Two} (hc : ∀ r ∈ p.rules, 0 ≤ r.cost ∧ r.cost ≤ 1000) (hf : ∀ r ∈ p.rules, okAhead r.to) {bound : Int} (hb : 0 ≤ bound) (hb1 : bound ≤ 100000) (h : bound ≤ V p State.start) :
    holds p bound (sortP (potsOf bound (known p).2)) = true := by
  have hc0 := fun r hr => (hc r hr).1
  have hnd := potsOf_states bound _ (known_nodup p)
  have hperm := sortP_perm (potsOf bound (known p).2)
  simp only [holds, Bool.and_eq_true, decide_eq_true_eq]
  refine ⟨⟨rising_of _ _ ?_ (sortP_sorted _ hnd.1) (fun y hy => by cases hy), ?_⟩, ?_⟩
  · intro e he
    obtain ⟨v, hv, e1, e2⟩ := mem_potsOf (hperm.mem_iff.1 he)
    obtain ⟨hs, hvV⟩ := (known_V p).2 _ hv
    simp only at hvV hs
    obtain ⟨hr1, hr2, hr3⟩ := known_reached hf _ hv
    have hne : e.state ≠ p.fin := by
      intro hfin
      rw [hfin] at hvV hs
      rw [V_fin hc0 hs] at hvV
      omega
    obtain ⟨q1, q2, q3, q4⟩ := hs
    simp only [Pot.state] at q1 q2 q3 q4 hr1 hr2 hr3
    unfold OkRight at hr1
    simp only at hr1
    unfold proper
    simp only [Bool.and_eq_true, decide_eq_true_eq, Bool.or_eq_true, Bool.not_eq_true', decide_eq_false_iff_not]
    refine ⟨⟨⟨⟨⟨⟨⟨⟨⟨q1, q2⟩, q3⟩, q4⟩, hr2⟩, hr3⟩, ?_⟩, hne⟩, by omega⟩, by omega⟩
    cases hr : e.right with
    | false => exact .inl rfl
    | true => exact .inr (hr1 hr)
  · rw [List.all_eq_true]
    intro e he
    obtain ⟨v, hv, e1, e2⟩ := mem_potsOf (hperm.mem_iff.1 he)
    obtain ⟨hs, hvV⟩ := (known_V p).2 _ hv
    simp only at hvV hs
    rw [List.all_eq_true]
    intro m hm
    have hk := (known_closed p).1 _ hv m hm
    rw [made_height hc0 hb hk, decide_eq_true_eq, e1, hvV]
    have h1 := (leastOf_le (V p) (moves p e.state) (if e.state = p.fin then 0 else never)).2 m hm
    rw [← V_eq hs] at h1
    obtain ⟨_, _, r, hr, hmc⟩ := moves_ok hs hm
    have := hc0 r hr
    omega
  · rw [made_height hc0 hb (known_closed p).2]
    omega

/-- P12.3 -/
theorem make_complete {t : Table} {a : Int} {x : Str} {b : Int} {y : Str} {p : Two} (hp : two t a x b y = some p) {bound : Int} (hb : 0 ≤ bound) (hb1 : bound ≤ 100000) :
    (V p State.start < bound → Make t a x b y bound = ([], 11)) ∧ (bound ≤ V p State.start → (Make t a x b y bound).2 = 0 ∧ Check t a x b y bound (Make t a x b y bound).1 = true) := by
  have hk := (known_V p).1
  have hm : Make t a x b y bound = if V p State.start < bound then ([], 11) else (sortP (potsOf bound (known p).2), 0) := by
    unfold Make
    rw [hp]
    simp only
    rw [if_neg (by simp; omega), hk]
  constructor
  · intro h; rw [hm, if_pos h]
  · intro h
    rw [hm, if_neg (by omega)]
    refine ⟨rfl, ?_⟩
    unfold Check
    rw [hp]
    exact made_holds (two_costs hp) (two_forms hp) hb hb1 h

theorem make_none {t : Table} {a : Int} {x : Str} {b : Int} {y : Str} (hp : two t a x b y = none) (bound : Int) : Make t a x b y bound = ([], 1) ∧ ABest t a x b y = (Deriv.zero, 1) := by
  unfold Make ABest
  rw [hp]
  exact ⟨rfl, rfl⟩

/-! P12.4: the words that are left -/

theorem lower_lower (s : Str) : lower (lower s) = lower s := by
  unfold lower
  rw [List.map_map]
  refine List.map_congr_left fun c _ => ?_
  simp only [Function.comp]
  unfold lower1
  by_cases h : isBig c = true
  · rw [if_pos h]
    have : isBig (c + 32) = false := by
      unfold isBig at h ⊢
      simp only [Bool.and_eq_true, decide_eq_true_eq, UInt8.le_iff_toNat_le] at h
      simp only [Bool.and_eq_false_iff, decide_eq_false_iff_not, UInt8.le_iff_toNat_le, UInt8.toNat_add]
      have h1 : (65 : UInt8).toNat = 65 := rfl
      have h2 : (90 : UInt8).toNat = 90 := rfl
      have h3 : (32 : UInt8).toNat = 32 := rfl
      omega
    rw [this]; simp
  · simp [h]

theorem lettersOf_lower {k : Int} {x : Str} {l : List Str} (h : lettersOf k x = some l) : Letters k (lower x) = some l ∧ lower l.flatten = l.flatten := by
  unfold lettersOf Fold at h
  split at h
  · have h' : Letters k (lower x) = some l := h
    refine ⟨h', ?_⟩
    rw [parse_flat (letters_parse.1 h').1, lower_lower]
  · cases h

theorem lower_append (a b : Str) : lower (a ++ b) = lower a ++ lower b := by simp [lower]

theorem lettersOf_drop {k : Int} {x : Str} {l : List Str} (h : lettersOf k x = some l) {i : Nat} (hi : i < l.length) : lettersOf k (l.drop i).flatten = some (l.drop i) := by
  obtain ⟨h1, h2⟩ := lettersOf_lower h
  obtain ⟨q1, q2, q3⟩ := letters_parse.1 h1
  have hl : Letters k (l.drop i).flatten = some (l.drop i) := letters_parse.2 ⟨parse_drop q1 i, by intro e; have := congrArg List.length e; simp at this; omega, by simp; omega⟩
  have hlow : lower (l.drop i).flatten = (l.drop i).flatten := by
    have hs : l.flatten = (l.take i).flatten ++ (l.drop i).flatten := by rw [← List.flatten_append, List.take_append_drop]
    rw [hs, lower_append] at h2
    exact (List.append_inj h2 (by unfold lower; rw [List.length_map])).2
  unfold lettersOf Fold
  rw [hl]
  simp only [Option.isSome_some, if_true, Option.bind_some]
  rw [hlow]
  exact hl

theorem two_drop {t : Table} {a : Int} {x : Str} {b : Int} {y : Str} {p : Two} (hp : two t a x b y = some p) {i j : Nat} (hi : i < p.l.length) (hj : j < p.m.length) :
    two t a (p.l.drop i).flatten b (p.m.drop j).flatten = some ⟨p.rules, a, b, p.l.drop i, p.m.drop j⟩ ∧ p.a = a ∧ p.b = b := by
  unfold two at hp
  cases h1 : lettersOf a x with
  | none => simp [h1] at hp
  | some l =>
    cases h2 : lettersOf b y with
    | none => simp [h1, h2] at hp
    | some m =>
      simp only [h1, h2] at hp
      split at hp
      · rename_i hv
        cases hp
        simp only at hi hj ⊢
        unfold two
        rw [lettersOf_drop h1 hi, lettersOf_drop h2 hj]
        simp [hv]
      · cases hp

/-- P12.4: an element of a certificate with nothing ahead bounds the cost of what is left -/
theorem check_states {t : Table} {a : Int} {x : Str} {b : Int} {y : Str} {bound : Int} {l : List Pot} {p : Two} (hp : two t a x b y = some p) (h : Check t a x b y bound l = true) {e : Pot} (he : e ∈ l) (ha : e.ahead = []) {i j : Nat} (hei : e.i = i) (hej : e.j = j) (hi : i < p.l.length) (hj : j < p.m.length) :
    (ABest t a (p.l.drop i).flatten b (p.m.drop j).flatten).2 = 11 ∨ ((ABest t a (p.l.drop i).flatten b (p.m.drop j).flatten).2 = 0 ∧ e.h ≤ (ABest t a (p.l.drop i).flatten b (p.m.drop j).flatten).1.cost) := by
  obtain ⟨p', hp', hh⟩ := check_two h
  obtain rfl : p = p' := Option.some.inj (hp.symm.trans hp')
  obtain ⟨hq, hpa, hpb⟩ := two_drop hp hi hj
  have hc0 := fun r hr => (two_costs hp r hr).1
  rcases abest_is hq with ⟨_, e1⟩ | ⟨h24, e1, e2⟩
  · exact .inl (by rw [e1])
  · right
    refine ⟨e1, ?_⟩
    rw [e2]
    have hh' := hh
    rw [holds_eq] at hh'
    simp only [Bool.and_eq_true] at hh'
    have hris := hh'.1.1
    have hok := (rising_low hris e he).2.2.2.1
    have hpr := rising_proper hris e he
    have hright : e.right = false := by
      simp only [proper, Bool.and_eq_true, Bool.or_eq_true, Bool.not_eq_true', decide_eq_false_iff_not, ha] at hpr
      rcases hpr.1.1.1.2 with h0 | h0
      · exact h0
      · exact absurd trivial h0
    have hht := height_of_mem (rising_nodup hris) he
    have hlow := holds_low hc0 hh (left p e.state + 1) e.state (Nat.lt_succ_self _) hok
    rw [hht] at hlow
    have hst : e.state = ⟨i, j, [], false⟩ := by unfold Pot.state; rw [hei, hej, ha, hright]
    have hle : V p e.state ≤ V ⟨p.rules, a, b, p.l.drop i, p.m.drop j⟩ State.start := by
      have hq0 : ∀ r ∈ (⟨p.rules, a, b, p.l.drop i, p.m.drop j⟩ : Two).rules, 0 ≤ r.cost := hc0
      rcases (V_least hq0 _ State.start (Nat.lt_succ_self _) (start_ok _) start_reached.right).2 with e0 | hfit
      · rw [e0]; exact V_le hok
      · refine (V_least hc0 _ e.state (Nat.lt_succ_self _) hok (by rw [hst]; intro h0; cases h0)).1 _ ?_
        obtain ⟨f, g, c1, c2, d1, d2, hfg, hc⟩ := hfit
        refine ⟨f, g, c1, c2, ?_, ?_, ?_, hc⟩
        · rw [hst, hpa]; simpa [State.start] using d1
        · rw [hst, hpb]; simpa [State.start] using d2
        · rw [hst]
          rw [if_neg (by simp [State.start])] at hfg
          rw [if_neg (by simp)]
          simpa [State.start] using hfg
    omega
end Pl
