/- Plain laws of certificates: fewer rules, dearer rules, one bound. -/
import Derived.Test.YthkpgnhjnpcjgaaGreatDoorPl
namespace Pl

theorem apart_sub {α κ : Type} [DecidableEq κ] (key : α → κ) (ok : α → Bool) : ∀ (l : List α) (seen seen' : List κ) , (∀ x, x ∈ seen' → x ∈ seen) → apart key ok seen l = true → ∀ l', l'.Sublist l → apart key ok seen' l' = true
  | [], _, _, _, _, l', hs => by cases hs; rfl
  | x :: l, seen, seen', hsub, h, l', hs => by
    simp only [apart, Bool.and_eq_true, Bool.not_eq_true', List.contains_eq_mem, decide_eq_false_iff_not] at h
    obtain ⟨⟨h1, h2⟩, h3⟩ := h
    cases hs with
    | cons _ hs => exact apart_sub key ok l _ seen' (fun y hy => by simp [hsub y hy]) h3 l' hs
    | cons_cons _ hs =>
      simp only [apart, Bool.and_eq_true, Bool.not_eq_true', List.contains_eq_mem, decide_eq_false_iff_not]
      refine ⟨⟨fun hm => h1 (hsub _ hm), h2⟩, apart_sub key ok l _ _ (fun y hy => ?_) h3 _ hs⟩
      simp only [List.mem_append] at hy ⊢
      exact hy.imp (hsub y) id

theorem valid_sub {t : Table} {rules : List Rule} (hv : Valid t = true) (hs : rules.Sublist t.rules) (hne : rules ≠ []) : Valid { t with rules := rules } = true := by
  simp only [Valid, Bool.and_eq_true, Bool.not_eq_true', Bool.or_eq_false_iff, decide_eq_false_iff_not] at hv ⊢
  obtain ⟨⟨⟨⟨⟨⟨h1, h2⟩, h3⟩, h4⟩, h5⟩, h6⟩, h7⟩ := hv
  have := hs.length_le
  exact ⟨⟨⟨⟨⟨⟨by simpa using hne, by omega⟩, h3⟩, h4⟩, h5⟩, apart_sub Rule.key ruleOk _ _ [] (fun _ h => h) h6 _ hs⟩, h7⟩

theorem moves_sub {p : Two} {rules : List Rule} (hs : rules.Sublist p.rules) (s : State) : ∀ m, m ∈ moves { p with rules := rules } s → m ∈ moves p s := by
  intro m hm
  unfold moves at hm ⊢
  obtain ⟨r, hr, hmr⟩ := List.mem_filterMap.1 hm
  exact List.mem_filterMap.2 ⟨r, hs.subset hr, hmr⟩

theorem rising_rules (p : Two) (rules : List Rule) (bound : Int) : ∀ (l : List Pot) (prev : Option Pot), rising { p with rules := rules } bound prev l = rising p bound prev l
  | [], _ => rfl
  | x :: l, prev => by
    have h : proper { p with rules := rules } x bound = proper p x bound := rfl
    simp only [rising, h, rising_rules p rules bound l]

theorem holds_fewer {p : Two} {rules : List Rule} {bound : Int} {l : List Pot} (hs : rules.Sublist p.rules) (h : holds p bound l = true) : holds { p with rules := rules } bound l = true := by
  simp only [holds, Bool.and_eq_true, rising_rules] at h ⊢
  refine ⟨⟨h.1.1, ?_⟩, h.2⟩
  have h2 := h.1.2
  rw [List.all_eq_true] at h2 ⊢
  intro e he
  have := h2 e he
  rw [List.all_eq_true] at this ⊢
  exact fun m hm => this m (moves_sub hs e.state m hm)

theorem check_fewer {t : Table} {a : Int} {x : Str} {b : Int} {y : Str} {bound : Int} {l : List Pot} {rules : List Rule} (hs : rules.Sublist t.rules) (hne : rules ≠ [])
    (h : Check t a x b y bound l = true) : Check { t with rules := rules } a x b y bound l = true := by
  unfold Check two at h ⊢
  cases h1 : lettersOf a x with
  | none => simp [h1] at h
  | some p =>
    cases h2 : lettersOf b y with
    | none => simp [h1, h2] at h
    | some q =>
      simp only [h1, h2] at h ⊢
      by_cases hv : Valid t = true
      · rw [if_pos hv] at h
        rw [if_pos (valid_sub hv hs hne)]
        exact holds_fewer (p := ⟨t.rules, a, b, p, q⟩) hs h
      · rw [if_neg hv] at h; simp at h

/-! dearer rules -/

/-- the same rules, some of which cost more -/
inductive Dearer : List Rule → List Rule → Prop
  | nil : Dearer [] []
  | cons {r r' : Rule} {l l' : List Rule} (hs : r'.script = r.script) (hf : r'.frm = r.frm) (ht : r'.to = r.to) (hc : r.cost ≤ r'.cost) (hok : isCost r.cost = true → isCost r'.cost = true) (h : Dearer l l') : Dearer (r :: l) (r' :: l')

theorem Dearer.refl : ∀ l, Dearer l l
  | [] => .nil
  | _ :: l => .cons rfl rfl rfl (Int.le_refl _) id (Dearer.refl l)

theorem dearer_set : ∀ (l : List Rule) (k : Nat) (r : Rule) (c : Int), l[k]? = some r → r.cost ≤ c ∨ isCost r.cost = false → (isCost r.cost = true → isCost c = true) → r.cost ≤ c → Dearer l (l.set k { r with cost := c })
  | [], _, _, _, h, _, _, _ => by simp at h
  | x :: l, 0, r, c, h, _, hok, hc => by
    simp at h; subst h
    exact .cons rfl rfl rfl hc hok (Dearer.refl l)
  | x :: l, k + 1, r, c, h, h1, hok, hc => by
    simp at h
    exact .cons rfl rfl rfl (Int.le_refl _) id (dearer_set l k r c h h1 hok hc)

theorem apart_dearer {l l' : List Rule} (h : Dearer l l') : ∀ seen, apart Rule.key ruleOk seen l = true → apart Rule.key ruleOk seen l' = true := by
  induction h with
  | nil => exact fun _ h => h
  | cons hs hf ht hc hok _ ih =>
    rename_i r r' l l' _
    intro seen h
    have hk : r'.key = r.key := by simp [Rule.key, hs, hf, ht]
    simp only [apart, Bool.and_eq_true, hk] at h ⊢
    refine ⟨⟨h.1.1, ?_⟩, ih _ h.2⟩
    have := h.1.2
    simp only [ruleOk, Bool.and_eq_true, hs, hf, ht] at this ⊢
    exact ⟨this.1, hok this.2⟩

theorem Dearer.length {l l' : List Rule} (h : Dearer l l') : l'.length = l.length := by
  induction h with
  | nil => rfl
  | cons _ _ _ _ _ _ ih => simp [ih]

theorem valid_dearer {t : Table} {rules : List Rule} (hd : Dearer t.rules rules) (hv : Valid t = true) : Valid { t with rules := rules } = true := by
  simp only [Valid, Bool.and_eq_true, hd.length] at hv ⊢
  exact ⟨⟨hv.1.1, apart_dearer hd _ hv.1.2⟩, hv.2⟩

theorem moves_dearer {p : Two} {rules : List Rule} (hd : Dearer p.rules rules) (s : State) : ∀ m, m ∈ moves { p with rules := rules } s → ∃ c, c ≤ m.1 ∧ (c, m.2) ∈ moves p s := by
  unfold moves
  have key : ∀ r r' : Rule, r'.script = r.script → r'.frm = r.frm → r'.to = r.to → ∀ m, move { p with rules := rules } s r' = some m → ∃ m', move p s r = some (m', m.2) ∧ m.1 = r'.cost ∧ m' = r.cost := by
    intro r r' h1 h2 h3 m hm
    have e1 : uses { p with rules := rules } s r' = uses p s r := by simp [uses, h1, h2]; rfl
    have e2 : leftMoves { p with rules := rules } s = leftMoves p s := rfl
    simp only [move, e1, e2, h3] at hm ⊢
    by_cases h0 : uses p s r = 0
    · simp [h0] at hm
    · rw [if_neg h0] at hm ⊢
      cases ha : ahead s.ahead r.to s.right (leftMoves p s) with
      | none => rw [ha] at hm; simp at hm
      | some q =>
        rw [ha] at hm
        simp at hm
        subst hm
        exact ⟨_, rfl, rfl, rfl⟩
  have gen : ∀ l l' : List Rule, Dearer l l' → ∀ m, m ∈ l'.filterMap (move { p with rules := rules } s) → ∃ c, c ≤ m.1 ∧ (c, m.2) ∈ l.filterMap (move p s) := by
    intro l l' h
    induction h with
    | nil => intro m hm; simp at hm
    | cons hs hf ht hc _ _ ih =>
      rename_i r r' l l' _ _
      intro m hm
      simp only [List.filterMap_cons] at hm ⊢
      cases hmr : move { p with rules := rules } s r' with
      | none =>
        rw [hmr] at hm
        obtain ⟨c, h1, h2⟩ := ih m hm
        refine ⟨c, h1, ?_⟩
        cases move p s r <;> simp [h2]
      | some q =>
        rw [hmr] at hm
        simp only [List.mem_cons] at hm
        rcases hm with rfl | hm
        · obtain ⟨m', e1, e2, e3⟩ := key r r' hs hf ht _ hmr
          exact ⟨m', by rw [e2, e3]; exact hc, by rw [e1]; simp⟩
        · obtain ⟨c, h1, h2⟩ := ih m hm
          refine ⟨c, h1, ?_⟩
          cases move p s r <;> simp [h2]
  exact gen _ _ hd

theorem holds_dearer {p : Two} {rules : List Rule} {bound : Int} {l : List Pot} (hd : Dearer p.rules rules) (h : holds p bound l = true) : holds { p with rules := rules } bound l = true := by
  simp only [holds, Bool.and_eq_true, rising_rules] at h ⊢
  refine ⟨⟨h.1.1, ?_⟩, h.2⟩
  have h2 := h.1.2
  rw [List.all_eq_true] at h2 ⊢
  intro e he
  have := h2 e he
  rw [List.all_eq_true] at this ⊢
  intro m hm
  obtain ⟨c, h1, h2⟩ := moves_dearer hd e.state m hm
  have := this _ h2
  simp only [decide_eq_true_eq] at this ⊢
  omega

theorem check_dearer {t : Table} {a : Int} {x : Str} {b : Int} {y : Str} {bound : Int} {l : List Pot} {rules : List Rule} (hd : Dearer t.rules rules)
    (h : Check t a x b y bound l = true) : Check { t with rules := rules } a x b y bound l = true := by
  unfold Check two at h ⊢
  cases h1 : lettersOf a x with
  | none => simp [h1] at h
  | some p =>
    cases h2 : lettersOf b y with
    | none => simp [h1, h2] at h
    | some q =>
      simp only [h1, h2] at h ⊢
      by_cases hv : Valid t = true
      · rw [if_pos hv] at h
        rw [if_pos (valid_dearer hd hv)]
        exact holds_dearer (p := ⟨t.rules, a, b, p, q⟩) hd h
      · rw [if_neg hv] at h; simp at h

/-! one bound -/

theorem mget_mem {κ ν : Type} [DecidableEq κ] {m : List (κ × ν)} {k : κ} {v : ν} (h : mget m k = some v) : (k, v) ∈ m := by
  unfold mget at h
  cases hf : m.find? (fun e => decide (e.1 = k)) with
  | none => rw [hf] at h; simp at h
  | some e =>
    rw [hf] at h
    simp at h
    have h1 := List.find?_some hf
    simp at h1
    have h2 := List.mem_of_find?_eq_some hf
    subst h1; subst h
    exact h2

theorem rising_proper {p : Two} {bound : Int} : ∀ {l : List Pot} {prev : Option Pot}, rising p bound prev l = true → ∀ e ∈ l, proper p e bound = true
  | x :: l, prev, h, e, he => by
    simp only [rising, Bool.and_eq_true] at h
    rcases List.mem_cons.1 he with rfl | he
    · exact h.1.1
    · exact rising_proper h.2 e he

theorem holds_start {p : Two} {bound : Int} {l : List Pot} (hb : 1 ≤ bound) (h : holds p bound l = true) : height l State.start = bound := by
  simp only [holds, Bool.and_eq_true, decide_eq_true_eq] at h
  obtain ⟨⟨h1, _⟩, h3⟩ := h
  unfold height at h3 ⊢
  cases hm : mget (heights l) State.start with
  | none => rw [hm] at h3; simp at h3; omega
  | some v =>
    rw [hm] at h3
    simp at h3
    have := mget_mem hm
    obtain ⟨e, he, hev⟩ := List.mem_map.1 this
    simp at hev
    have hp := rising_proper h1 e he
    simp only [proper, Bool.and_eq_true, decide_eq_true_eq] at hp
    have := hp.2
    simp
    omega

theorem check_bounds {t : Table} {a : Int} {x : Str} {b : Int} {y : Str} {bound other : Int} {l : List Pot} (hb : 1 ≤ bound) (h : Check t a x b y bound l = true) :
    Check t a x b y other l = decide (other = bound) := by
  by_cases e : other = bound
  · subst e; simp [h]
  · simp only [e, decide_false]
    unfold Check at h ⊢
    cases ht : two t a x b y with
    | none => simp [ht] at h
    | some p =>
      simp only [ht] at h ⊢
      have hs := holds_start hb h
      cases ho : holds p other l with
      | false => rfl
      | true =>
        exfalso
        by_cases h1 : 1 ≤ other
        · exact e ((holds_start h1 ho).symm.trans hs)
        · -- a bound that is not positive: no element, so the begin has 0
          simp only [holds, Bool.and_eq_true] at ho
          cases l with
          | nil => simp [height, heights, mget] at hs; omega
          | cons x l =>
            have hp := rising_proper ho.1.1 x (by simp)
            simp only [proper, Bool.and_eq_true, decide_eq_true_eq] at hp
            have h2 := hp.1.2
            have h3 := hp.2
            omega
end Pl
