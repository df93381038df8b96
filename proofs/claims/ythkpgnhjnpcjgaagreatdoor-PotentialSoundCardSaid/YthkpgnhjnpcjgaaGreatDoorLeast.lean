/- Plain laws of moves and of the least cost from a state: where moves lead; what is known is the least cost; the least cost is that of the cheapest two derivations of one form, so it is the same with the words exchanged. -/
import Derived.Test.YthkpgnhjnpcjgaaGreatDoorPl
namespace Pl

theorem takesR_stop {l : List Str} {s : Str} (h : l = [] ∨ s = [] ∨ ∀ x m, l = x :: m → x.isPrefixOf s = false) : takesR l s = (0, s) := by
  cases s with
  | nil => cases l <;> rfl
  | cons c r =>
    cases l with
    | nil => rfl
    | cons x m =>
      rcases h with h | h | h
      · cases h
      · cases h
      · unfold takesR
        rw [h x m rfl]
        rfl

theorem takesR_go {x : Str} {l : List Str} {s : Str} (hs : s ≠ []) (h : x.isPrefixOf s = true) : takesR (x :: l) s = ((takesR l (s.drop x.length)).1 + 1, (takesR l (s.drop x.length)).2) := by
  cases s with
  | nil => exact absurd rfl hs
  | cons c r =>
    conv => lhs; unfold takesR
    rw [if_pos h]

theorem takesR_le : ∀ (l : List Str) (s : Str), (takesR l s).1 ≤ l.length
  | l, [] => by cases l <;> simp [takesR]
  | [], c :: r => by simp [takesR]
  | x :: l, c :: r => by
    by_cases h : x.isPrefixOf (c :: r) = true
    · rw [takesR_go (by simp) h]
      have := takesR_le l ((c :: r).drop x.length)
      simp; omega
    · rw [takesR_stop (.inr (.inr (fun y m e => by cases e; exact Bool.eq_false_iff.2 h)))]
      simp

theorem takes_le (l : List Str) (s : Str) : takes l s ≤ l.length := by
  unfold takes
  have := takesR_le l s
  simp only
  split <;> omega

/-- what a state must meet -/
structure OkState (p : Two) (s : State) : Prop where
  i0 : 0 ≤ s.i
  i1 : s.i ≤ p.l.length
  j0 : 0 ≤ s.j
  j1 : s.j ≤ p.m.length

/-- how many letters are left -/
def left (p : Two) (s : State) : Nat := (p.l.length + p.m.length - s.i - s.j).toNat

theorem uses_le (p : Two) (s : State) (r : Rule) : (leftMoves p s = true → (uses p s r : Int) ≤ p.l.length - s.i ∨ uses p s r = 0) ∧ (leftMoves p s = false → (uses p s r : Int) ≤ p.m.length - s.j ∨ uses p s r = 0) := by
  unfold uses
  constructor <;> intro h <;> rw [h]
  · simp only [if_true]
    split
    · have := takes_le (p.l.drop s.i.toNat) r.frm
      rw [List.length_drop] at this
      omega
    · exact .inr rfl
  · simp only [Bool.false_eq_true, if_false]
    split
    · have := takes_le (p.m.drop s.j.toNat) r.frm
      rw [List.length_drop] at this
      omega
    · exact .inr rfl

/-- where a move leads -/
theorem move_ok {p : Two} {s : State} {r : Rule} {c : Int} {t : State} (hs : OkState p s) (h : Pl.move p s r = some (c, t)) : OkState p t ∧ left p t < left p s ∧ c = r.cost ∧ (t.ahead.length ≤ s.ahead.length ∨ t.ahead.length ≤ r.to.length) := by
  obtain ⟨i0, i1, j0, j1⟩ := hs
  obtain ⟨u1, u2⟩ := uses_le p s r
  unfold Pl.move at h
  by_cases hu : uses p s r = 0
  · rw [if_pos hu] at h; cases h
  rw [if_neg hu] at h
  have ha : ∀ ah rt, Pl.ahead s.ahead r.to s.right (leftMoves p s) = some (ah, rt) → ah.length ≤ s.ahead.length ∨ ah.length ≤ r.to.length := by
    intro ah rt hh
    unfold Pl.ahead at hh
    split at hh
    · cases hh; left; simp
    · split at hh
      · cases hh; right; simp
      · cases hh
  split at h
  · rename_i ah rt hh
    have h3 := ha _ _ hh
    cases hl : leftMoves p s with
    | true =>
      have u := u1 hl
      simp only [hl, if_true, Option.some.injEq, Prod.mk.injEq] at h
      obtain ⟨rfl, rfl⟩ := h
      refine ⟨⟨by show 0 ≤ s.i + _; omega, by show s.i + _ ≤ _; omega, j0, j1⟩, ?_, rfl, h3⟩
      unfold left
      simp only
      omega
    | false =>
      have u := u2 hl
      simp only [hl, Bool.false_eq_true, if_false, Option.some.injEq, Prod.mk.injEq] at h
      obtain ⟨rfl, rfl⟩ := h
      refine ⟨⟨i0, i1, by show 0 ≤ s.j + _; omega, by show s.j + _ ≤ _; omega⟩, ?_, rfl, h3⟩
      unfold left
      simp only
      omega
  · cases h

theorem moves_ok {p : Two} {s : State} {m : Int × State} (hs : OkState p s) (h : m ∈ moves p s) : OkState p m.2 ∧ left p m.2 < left p s ∧ ∃ r ∈ p.rules, m.1 = r.cost := by
  obtain ⟨r, hr, hm⟩ := List.mem_filterMap.1 h
  obtain ⟨c, t⟩ := m
  obtain ⟨h1, h2, h3, _⟩ := move_ok hs hm
  exact ⟨h1, h2, r, hr, h3⟩

/-! the least cost, without a memory -/

/-- the least of a cost and those of moves -/
def leastOf (V : State → Int) (l : List (Int × State)) (z : Int) : Int := l.foldl (fun z m => min z (m.1 + V m.2)) z

theorem leastOf_congr {V W : State → Int} : ∀ {l : List (Int × State)} {z : Int}, (∀ m ∈ l, V m.2 = W m.2) → leastOf V l z = leastOf W l z
  | [], _, _ => rfl
  | m :: l, z, h => by
    simp only [leastOf, List.foldl_cons, h m (by simp)]
    exact leastOf_congr fun m hm => h m (by simp [hm])

theorem leastOf_le (V : State → Int) : ∀ (l : List (Int × State)) (z : Int), leastOf V l z ≤ z ∧ ∀ m ∈ l, leastOf V l z ≤ m.1 + V m.2
  | [], _ => ⟨Int.le_refl _, fun _ h => by cases h⟩
  | m :: l, z => by
    obtain ⟨h1, h2⟩ := leastOf_le V l (min z (m.1 + V m.2))
    simp only [leastOf, List.foldl_cons] at h1 h2 ⊢
    refine ⟨by omega, fun m' hm' => ?_⟩
    rcases List.mem_cons.1 hm' with rfl | hm'
    · omega
    · exact h2 m' hm'

theorem leastOf_is (V : State → Int) : ∀ (l : List (Int × State)) (z : Int), leastOf V l z = z ∨ ∃ m ∈ l, leastOf V l z = m.1 + V m.2
  | [], _ => .inl rfl
  | m :: l, z => by
    simp only [leastOf, List.foldl_cons]
    rcases leastOf_is V l (min z (m.1 + V m.2)) with h | ⟨m', hm', h⟩
    · simp only [leastOf] at h
      rw [h]
      by_cases hz : z ≤ m.1 + V m.2
      · left; omega
      · right; exact ⟨m, by simp, by omega⟩
    · exact .inr ⟨m', by simp [hm'], h⟩

def fromV (p : Two) : Nat → State → Int
  | 0, _ => never
  | n + 1, s => leastOf (fromV p n) (moves p s) (if s = p.fin then 0 else never)

theorem fromV_same (p : Two) : ∀ (n n' : Nat) (s : State), left p s < n → left p s < n' → OkState p s → fromV p n s = fromV p n' s
  | 0, _, _, h, _, _ => absurd h (by omega)
  | _ + 1, 0, _, _, h, _ => absurd h (by omega)
  | n + 1, n' + 1, s, h, h', hs => by
    simp only [fromV]
    refine leastOf_congr fun m hm => ?_
    obtain ⟨h1, h2, _⟩ := moves_ok hs hm
    exact fromV_same p n n' m.2 (by omega) (by omega) h1

/-- the least cost from a state -/
def V (p : Two) (s : State) : Int := fromV p (left p s + 1) s

theorem V_eq {p : Two} {s : State} (hs : OkState p s) : V p s = leastOf (V p) (moves p s) (if s = p.fin then 0 else never) := by
  unfold V
  rw [fromV]
  refine leastOf_congr fun m hm => ?_
  obtain ⟨h1, h2, _⟩ := moves_ok hs hm
  exact fromV_same p _ _ m.2 (by omega) (by omega) h1

theorem V_le {p : Two} {s : State} (hs : OkState p s) : V p s ≤ never := by
  rw [V_eq hs]
  refine Int.le_trans (leastOf_le (V p) (moves p s) (if s = p.fin then 0 else never)).1 ?_
  split <;> decide

theorem V_nonneg {p : Two} (hc : ∀ r ∈ p.rules, 0 ≤ r.cost) : ∀ (n : Nat) (s : State), left p s < n → OkState p s → 0 ≤ V p s
  | 0, _, h, _ => absurd h (by omega)
  | n + 1, s, h, hs => by
    rw [V_eq hs]
    rcases leastOf_is (V p) (moves p s) (if s = p.fin then 0 else never) with e | ⟨m, hm, e⟩
    · rw [e]; split <;> decide
    · rw [e]
      obtain ⟨h1, h2, r, hr, h3⟩ := moves_ok hs hm
      have := V_nonneg hc n m.2 (by omega) h1
      have := hc r hr
      omega

/-- what is known is right -/
def rightM (p : Two) (m : Memo) : Prop := ∀ e ∈ m, OkState p e.1 ∧ e.2 = V p e.1

theorem mget_in {m : Memo} {k : State} {v : Int} (h : mget m k = some v) : (k, v) ∈ m := by
  unfold mget at h
  cases hf : m.find? (fun e => decide (e.1 = k)) with
  | none => rw [hf] at h; simp at h
  | some e =>
    rw [hf] at h
    simp at h
    have h1 := List.find?_some hf
    simp at h1
    have h2 := List.mem_of_find?_eq_some hf
    subst h1; subst h
    exact h2

theorem mput_mem {m : Memo} {k : State} {v : Int} {e : State × Int} (h : e ∈ mput m k v) : e ∈ m ∨ e = (k, v) := by
  unfold mput at h
  split at h
  · obtain ⟨e', he', rfl⟩ := List.mem_map.1 h
    by_cases hk : e'.1 = k
    · right; rw [if_pos hk]
    · left; rw [if_neg hk]; exact he'
  · simpa using h

theorem fromM_V (p : Two) : ∀ (n : Nat) (s : State) (m : Memo), left p s < n → OkState p s → rightM p m → (fromM p n s m).1 = V p s ∧ rightM p (fromM p n s m).2
  | 0, _, _, h, _, _ => absurd h (by omega)
  | n + 1, s, m, h, hs, hm => by
    unfold fromM
    cases hg : mget m s with
    | some v => exact ⟨(hm _ (mget_in hg)).2, hm⟩
    | none =>
      have key : ∀ (l : List (Int × State)) (z : Int) (m : Memo), (∀ x ∈ l, OkState p x.2 ∧ left p x.2 < left p s) → rightM p m → (fromL (fromM p n) l z m).1 = leastOf (V p) l z ∧ rightM p (fromL (fromM p n) l z m).2 := by
        intro l
        induction l with
        | nil => exact fun z m _ hm => ⟨rfl, hm⟩
        | cons x l ih =>
          intro z m hx hm
          obtain ⟨c, t⟩ := x
          obtain ⟨h1, h2⟩ := hx (c, t) (by simp)
          obtain ⟨e1, e2⟩ := fromM_V p n t m (by simp only at h2; omega) h1 hm
          simp only [fromL, leastOf, List.foldl_cons, e1]
          exact ih _ _ (fun y hy => hx y (by simp [hy])) e2
      obtain ⟨e1, e2⟩ := key (moves p s) (if s = p.fin then 0 else never) m (fun x hx => ⟨(moves_ok hs hx).1, (moves_ok hs hx).2.1⟩) hm
      simp only
      refine ⟨e1.trans (V_eq hs).symm, fun e he => ?_⟩
      rcases mput_mem he with he | rfl
      · exact e2 e he
      · exact ⟨hs, e1.trans (V_eq hs).symm⟩

theorem start_ok (p : Two) : OkState p State.start := ⟨by decide, by simp [State.start], by decide, by simp [State.start]⟩

theorem known_V (p : Two) : (known p).1 = V p State.start ∧ rightM p (known p).2 := by
  refine fromM_V p _ _ _ ?_ (start_ok p) (fun e he => by cases he)
  unfold left depth State.start
  simp only
  omega

/-! derivations -/

/-- rules that rewrite letters, with the form that they write and their cost -/
inductive Der (rs : List Rule) (k : Int) : List Str → Str → Int → Prop
  | nil : Der rs k [] [] 0
  | cons {l : List Str} {f : Str} {c : Int} (r : Rule) (hr : r ∈ rs) (hk : r.script = k) (hn : takes l r.frm ≠ 0) (h : Der rs k (l.drop (takes l r.frm)) f c) : Der rs k l (r.to ++ f) (r.cost + c)

/-- two derivations of what is left that write one form, with the cost of both -/
def Fits (p : Two) (s : State) (c : Int) : Prop :=
  ∃ f g c1 c2, Der p.rules p.a (p.l.drop s.i.toNat) f c1 ∧ Der p.rules p.b (p.m.drop s.j.toNat) g c2 ∧ (if s.right = true then f = s.ahead ++ g else s.ahead ++ f = g) ∧ c = c1 + c2

/-- only what is not empty is ahead -/
def OkRight (s : State) : Prop := s.right = true → s.ahead ≠ []

theorem move_right {p : Two} {s : State} {r : Rule} {c : Int} {t : State} (_hs : OkRight s) (h : Pl.move p s r = some (c, t)) : OkRight t := by
  unfold Pl.move at h
  by_cases hu : uses p s r = 0
  · rw [if_pos hu] at h; cases h
  rw [if_neg hu] at h
  have ha : ∀ ah rt, Pl.ahead s.ahead r.to s.right (leftMoves p s) = some (ah, rt) → rt = true → ah ≠ [] := by
    intro ah rt hh
    unfold Pl.ahead at hh
    split at hh
    · rename_i hc
      cases hh
      simp only [Bool.and_eq_true, Bool.not_eq_true', decide_eq_false_iff_not] at hc
      exact fun _ => hc.2
    · split at hh
      · cases hh
        intro h
        simp only [Bool.and_eq_true, Bool.not_eq_true', decide_eq_false_iff_not] at h
        exact h.2
      · cases hh
  split at h
  · rename_i ah rt hh
    have h3 := ha _ _ hh
    simp only [Option.some.injEq, Prod.mk.injEq] at h
    obtain ⟨-, rfl⟩ := h
    intro hr
    by_cases hl : leftMoves p s = true
    · rw [if_pos hl] at hr ⊢; exact h3 hr
    · rw [if_neg hl] at hr ⊢; exact h3 hr
  · cases h

theorem takes_nil (s : Str) : takes [] s = 0 := by
  have := takes_le [] s
  simpa using this

theorem der_nil {rs : List Rule} {k : Int} {f : Str} {c : Int} (h : Der rs k [] f c) : f = [] ∧ c = 0 := by
  generalize hl : ([] : List Str) = l at h
  cases h with
  | nil => exact ⟨rfl, rfl⟩
  | cons r hr hk hn h => subst hl; exact absurd (takes_nil _) hn

/-- a text that begins both ways -/
theorem two_begins {a b f g : Str} (h : a ++ f = b ++ g) : (∃ d, b = a ++ d ∧ f = d ++ g) ∨ (∃ d, d ≠ [] ∧ a = b ++ d ∧ g = d ++ f) := by
  rcases List.append_eq_append_iff.1 h with ⟨d, h1, h2⟩ | ⟨d, h1, h2⟩
  · exact .inl ⟨d, h1, h2⟩
  · by_cases hd : d = []
    · subst hd
      simp only [List.append_nil, List.nil_append] at h1 h2
      exact .inl ⟨[], by simp [h1], by simp [h2]⟩
    · exact .inr ⟨d, hd, h1, h2⟩

theorem isPrefixOf_append (a d : Str) : a.isPrefixOf (a ++ d) = true := List.isPrefixOf_iff_prefix.2 ⟨d, rfl⟩

/-- the text behind the begin of what is ahead -/
theorem ahead_inside {b d : Str} {right l : Bool} (hd : d ≠ []) : Pl.ahead (b ++ d) b right l = some (d, right) := by
  unfold Pl.ahead
  simp [isPrefixOf_append, hd]

theorem ahead_beyond {a d : Str} {right l : Bool} : Pl.ahead a (a ++ d) right l = some (d, !l && !decide (d = [])) := by
  unfold Pl.ahead
  have h0 : ((a ++ d).isPrefixOf a && !decide (a.drop (a ++ d).length = [])) = false := by
    rw [List.drop_eq_nil_of_le (by simp)]
    simp
  rw [h0, if_neg (by simp), if_pos (isPrefixOf_append a d)]
  simp

theorem drop_toNat {α : Type} {l : List α} {i : Int} {n : Nat} (h : 0 ≤ i) : (l.drop i.toNat).drop n = l.drop (i + n).toNat := by
  rw [List.drop_drop]
  congr 1
  omega

/-- two derivations begin with a move, or there is nothing left -/
theorem fits_step {p : Two} {s : State} {c : Int} (hs : OkState p s) (hr : OkRight s) (h : Fits p s c) : (s = p.fin ∧ c = 0) ∨ ∃ m ∈ moves p s, ∃ c', Fits p m.2 c' ∧ c = m.1 + c' := by
  obtain ⟨f, g, c1, c2, h1, h2, h3, rfl⟩ := h
  obtain ⟨i0, i1, j0, j1⟩ := hs
  cases hl : leftMoves p s with
  | true =>
    have hne : p.l.drop s.i.toNat ≠ [] := by
      intro he
      rw [he] at h1
      obtain ⟨rfl, -⟩ := der_nil h1
      cases hrt : s.right with
      | true =>
        rw [hrt] at h3
        simp at h3
        exact hr hrt h3.1
      | false =>
        simp only [leftMoves, hrt, Bool.false_or, Bool.and_eq_true, decide_eq_true_eq, Bool.not_eq_true', decide_eq_false_iff_not] at hl
        rw [List.drop_eq_nil_iff] at he
        omega
    generalize hL : p.l.drop s.i.toNat = L at h1 hne
    cases h1 with
    | nil => exact absurd rfl hne
    | @cons _ f c r hrr hk hn h1 =>
      subst hL
      have hu : uses p s r = takes (p.l.drop s.i.toNat) r.frm := by simp [uses, hl, hk]
      rw [drop_toNat i0] at h1
      have hmv : ∀ d rt, Pl.ahead s.ahead r.to s.right true = some (d, rt) → Pl.move p s r = some (r.cost, ⟨s.i + uses p s r, s.j, d, rt⟩) := by
        intro d rt ha
        unfold Pl.move
        rw [hl, ha, if_neg (by rw [hu]; exact hn)]
        simp
      right
      cases hrt : s.right with
      | true =>
        rw [hrt] at h3 hmv
        simp only [if_true] at h3
        rcases two_begins h3 with ⟨d, e1, e2⟩ | ⟨d, hd, e1, e2⟩
        · -- the rule writes a part of what is ahead
          by_cases hd : d = []
          · subst hd
            simp only [List.append_nil, List.nil_append] at e1 e2
            refine ⟨_, List.mem_filterMap.2 ⟨r, hrr, hmv [] false (by rw [e1]; have := ahead_beyond (a := r.to) (d := []) (right := true) (l := true); simpa using this)⟩, c + c2, ⟨f, g, c, c2, by rw [hu]; exact h1, h2, ?_, rfl⟩, by simp only; omega⟩
            simp [e2]
          · refine ⟨_, List.mem_filterMap.2 ⟨r, hrr, hmv d true (by rw [e1]; exact ahead_inside hd)⟩, c + c2, ⟨f, g, c, c2, by rw [hu]; exact h1, h2, ?_, rfl⟩, by simp only; omega⟩
            simp [e2]
        · refine ⟨_, List.mem_filterMap.2 ⟨r, hrr, hmv d false (by rw [e1, ahead_beyond]; simp)⟩, c + c2, ⟨f, g, c, c2, by rw [hu]; exact h1, h2, ?_, rfl⟩, by simp only; omega⟩
          simp [e2]
      | false =>
        rw [hrt] at h3 hmv
        simp only [Bool.false_eq_true, if_false] at h3
        simp only [leftMoves, hrt, Bool.false_or, Bool.and_eq_true, decide_eq_true_eq] at hl
        rw [hl.1] at h3 hmv
        simp only [List.nil_append] at h3
        refine ⟨_, List.mem_filterMap.2 ⟨r, hrr, hmv r.to false (by have := ahead_beyond (a := []) (d := r.to) (right := false) (l := true); simpa using this)⟩, c + c2, ⟨f, g, c, c2, by rw [hu]; exact h1, h2, ?_, rfl⟩, by simp only; omega⟩
        simp [h3]
  | false =>
    have hrt : s.right = false := by
      cases hh : s.right with
      | false => rfl
      | true => simp [leftMoves, hh] at hl
    rw [hrt] at h3
    simp only [Bool.false_eq_true, if_false] at h3
    by_cases hm : p.m.drop s.j.toNat = []
    · rw [hm] at h2
      obtain ⟨rfl, rfl⟩ := der_nil h2
      simp only [List.append_eq_nil_iff] at h3
      obtain ⟨ha, rfl⟩ := h3
      simp only [leftMoves, hrt, ha, decide_true, Bool.true_and, Bool.false_or, Bool.not_eq_false', decide_eq_true_eq] at hl
      left
      rw [List.drop_eq_nil_iff] at hm
      rw [List.drop_eq_nil_of_le (by omega)] at h1
      obtain ⟨-, rfl⟩ := der_nil h1
      refine ⟨?_, rfl⟩
      cases s
      simp only at hl ha hrt hm j1 j0
      subst hl ha hrt
      have : (_ : Int) = p.m.length := Int.le_antisymm j1 (by omega)
      simp only [Two.fin, State.mk.injEq, true_and, and_true]
      exact this
    · right
      generalize hL : p.m.drop s.j.toNat = L at h2 hm
      cases h2 with
      | nil => exact absurd rfl hm
      | @cons _ g c r hrr hk hn h2 =>
        subst hL
        have hu : uses p s r = takes (p.m.drop s.j.toNat) r.frm := by simp [uses, hl, hk]
        rw [drop_toNat j0] at h2
        have hmv : ∀ d rt, Pl.ahead s.ahead r.to false false = some (d, rt) → Pl.move p s r = some (r.cost, ⟨s.i, s.j + uses p s r, d, rt⟩) := by
          intro d rt ha
          unfold Pl.move
          rw [hl, hrt, ha, if_neg (by rw [hu]; exact hn)]
          simp
        rcases two_begins h3 with ⟨d, e1, e2⟩ | ⟨d, hd, e1, e2⟩
        · refine ⟨_, List.mem_filterMap.2 ⟨r, hrr, hmv d _ (by rw [e1]; exact ahead_beyond)⟩, c1 + c, ⟨f, g, c1, c, h1, by rw [hu]; exact h2, ?_, rfl⟩, by simp only; omega⟩
          by_cases hd : d = []
          · simp [hd] at e2 ⊢; exact e2
          · simp [hd, e2]
        · refine ⟨_, List.mem_filterMap.2 ⟨r, hrr, hmv d false (by rw [e1]; exact ahead_inside hd)⟩, c1 + c, ⟨f, g, c1, c, h1, by rw [hu]; exact h2, ?_, rfl⟩, by simp only; omega⟩
          simp [e2]

/-- a move before two derivations -/
theorem fits_move {p : Two} {s : State} {m : Int × State} {c : Int} (hs : OkState p s) (hm : m ∈ moves p s) (h : Fits p m.2 c) : Fits p s (m.1 + c) := by
  obtain ⟨r, hr, hmv⟩ := List.mem_filterMap.1 hm
  obtain ⟨f, g, c1, c2, h1, h2, h3, rfl⟩ := h
  obtain ⟨i0, i1, j0, j1⟩ := hs
  unfold Pl.move at hmv
  by_cases hu : uses p s r = 0
  · rw [if_pos hu] at hmv; cases hmv
  rw [if_neg hu] at hmv
  cases ha : Pl.ahead s.ahead r.to s.right (leftMoves p s) with
  | none => rw [ha] at hmv; cases hmv
  | some q =>
    obtain ⟨d, rt⟩ := q
    rw [ha] at hmv
    simp only [Option.some.injEq] at hmv
    subst hmv
    -- what the rule writes and what was and is ahead
    have hw : (s.ahead = r.to ++ d ∧ d ≠ [] ∧ rt = s.right) ∨ (r.to = s.ahead ++ d ∧ rt = (!leftMoves p s && !decide (d = []))) := by
      unfold Pl.ahead at ha
      split at ha
      · rename_i hc
        cases ha
        simp only [Bool.and_eq_true, Bool.not_eq_true', decide_eq_false_iff_not] at hc
        obtain ⟨d, hd⟩ := List.isPrefixOf_iff_prefix.1 hc.1
        left
        rw [← hd]
        refine ⟨by simp, by rw [hd]; exact hc.2, rfl⟩
      · split at ha
        · rename_i hc
          cases ha
          obtain ⟨d, hd⟩ := List.isPrefixOf_iff_prefix.1 hc
          right
          rw [← hd]
          simp
        · cases ha
    cases hl : leftMoves p s with
    | true =>
      have hk : r.script = p.a ∧ takes (p.l.drop s.i.toNat) r.frm ≠ 0 ∧ uses p s r = takes (p.l.drop s.i.toNat) r.frm := by
        unfold uses at hu ⊢
        rw [hl] at hu ⊢
        simp only [if_true] at hu ⊢
        by_cases hk : r.script = p.a
        · rw [if_pos hk] at hu ⊢; exact ⟨hk, hu, rfl⟩
        · rw [if_neg hk] at hu; exact absurd rfl hu
      simp only [hl, if_true] at h1 h2 h3 ⊢
      rw [hk.2.2, ← drop_toNat i0] at h1
      refine ⟨r.to ++ f, g, r.cost + c1, c2, .cons r hr hk.1 hk.2.1 h1, h2, ?_, by omega⟩
      rw [hl] at hw
      rcases hw with ⟨e1, hd, rfl⟩ | ⟨e1, rfl⟩
      · cases hrt : s.right with
        | true =>
          rw [hrt] at h3
          simp only [if_true] at h3 ⊢
          rw [e1, h3]; simp
        | false =>
          simp only [leftMoves, hrt, Bool.false_or, Bool.and_eq_true, decide_eq_true_eq] at hl
          rw [hl.1] at e1
          have := congrArg List.length e1
          simp at this
          exact absurd (List.length_eq_zero_iff.1 (by omega)) hd
      · simp only [Bool.not_true, Bool.false_and, Bool.false_eq_true, if_false] at h3
        cases hrt : s.right with
        | true => simp only [if_true]; rw [e1, ← h3]; simp
        | false =>
          simp only [leftMoves, hrt, Bool.false_or, Bool.and_eq_true, decide_eq_true_eq] at hl
          simp only [Bool.false_eq_true, if_false]
          rw [e1, hl.1, ← h3]; simp
    | false =>
      have hk : r.script = p.b ∧ takes (p.m.drop s.j.toNat) r.frm ≠ 0 ∧ uses p s r = takes (p.m.drop s.j.toNat) r.frm := by
        unfold uses at hu ⊢
        rw [hl] at hu ⊢
        simp only [Bool.false_eq_true, if_false] at hu ⊢
        by_cases hk : r.script = p.b
        · rw [if_pos hk] at hu ⊢; exact ⟨hk, hu, rfl⟩
        · rw [if_neg hk] at hu; exact absurd rfl hu
      have hrt : s.right = false := by
        cases hh : s.right with
        | false => rfl
        | true => simp [leftMoves, hh] at hl
      simp only [hl, Bool.false_eq_true, if_false] at h1 h2 h3 ⊢
      rw [hk.2.2, ← drop_toNat j0] at h2
      refine ⟨f, r.to ++ g, c1, r.cost + c2, h1, .cons r hr hk.1 hk.2.1 h2, ?_, by omega⟩
      rw [hrt]
      simp only [Bool.false_eq_true, if_false]
      rw [hl] at hw
      rcases hw with ⟨e1, hd, rfl⟩ | ⟨e1, rfl⟩
      · rw [hrt] at h3
        simp only [Bool.false_eq_true, if_false] at h3
        rw [e1, ← h3]; simp
      · by_cases hd : d = []
        · simp [hd] at h3 e1
          rw [e1, h3]
        · simp [hd] at h3
          rw [e1, h3]; simp

theorem fits_fin (p : Two) : Fits p p.fin 0 := by
  refine ⟨[], [], 0, 0, ?_, ?_, by simp [Two.fin], rfl⟩
  · rw [List.drop_eq_nil_of_le (by simp [Two.fin])]; exact .nil
  · rw [List.drop_eq_nil_of_le (by simp [Two.fin])]; exact .nil

/-- the least cost is that of the two cheapest derivations of one form -/
theorem V_least {p : Two} (hc0 : ∀ r ∈ p.rules, 0 ≤ r.cost) : ∀ (n : Nat) (s : State), left p s < n → OkState p s → OkRight s → (∀ c, Fits p s c → V p s ≤ c) ∧ (V p s = never ∨ Fits p s (V p s))
  | 0, _, h, _, _ => absurd h (by omega)
  | n + 1, s, h, hs, hr => by
    have ih : ∀ m ∈ moves p s, (∀ c, Fits p m.2 c → V p m.2 ≤ c) ∧ (V p m.2 = never ∨ Fits p m.2 (V p m.2)) := by
      intro m hm
      obtain ⟨h1, h2, _⟩ := moves_ok hs hm
      obtain ⟨r, _, hmv⟩ := List.mem_filterMap.1 hm
      obtain ⟨c, t⟩ := m
      exact V_least hc0 n t (by simp only at h2; omega) h1 (move_right hr hmv)
    obtain ⟨l1, l2⟩ := leastOf_le (V p) (moves p s) (if s = p.fin then 0 else never)
    constructor
    · intro c hc
      rw [V_eq hs]
      rcases fits_step hs hr hc with ⟨e, rfl⟩ | ⟨m, hm, c', hc', rfl⟩
      · rw [if_pos e] at l1 ⊢; exact l1
      · have := (ih m hm).1 c' hc'
        have := l2 m hm
        omega
    · have hle := V_le hs
      rcases leastOf_is (V p) (moves p s) (if s = p.fin then 0 else never) with e | ⟨m, hm, e⟩
      · rw [V_eq hs, e]
        by_cases hf : s = p.fin
        · rw [if_pos hf, hf]; exact .inr (fits_fin p)
        · rw [if_neg hf]; exact .inl rfl
      · rw [← V_eq hs] at e
        rcases (ih m hm).2 with e2 | h2
        · obtain ⟨_, _, r, hr', h3⟩ := moves_ok hs hm
          have := hc0 r hr'
          exact .inl (by omega)
        · right
          rw [e]
          exact fits_move hs hm h2

/-- the words exchanged -/
def Two.turn (p : Two) : Two := ⟨p.rules, p.b, p.a, p.m, p.l⟩

theorem fits_turn {p : Two} {c : Int} (h : Fits p State.start c) : Fits p.turn State.start c := by
  obtain ⟨f, g, c1, c2, h1, h2, h3, rfl⟩ := h
  refine ⟨g, f, c2, c1, h2, h1, ?_, by omega⟩
  simp only [State.start, Bool.false_eq_true, if_false, List.nil_append] at h3 ⊢
  exact h3.symm

theorem V_turn_le {p : Two} (hc0 : ∀ r ∈ p.rules, 0 ≤ r.cost) : V p State.start ≤ V p.turn State.start := by
  rcases (V_least (p := p.turn) hc0 _ State.start (Nat.lt_succ_self _) (start_ok _) (fun h => by cases h)).2 with e | h
  · rw [e]; exact V_le (start_ok p)
  · exact (V_least hc0 _ State.start (Nat.lt_succ_self _) (start_ok p) (fun h => by cases h)).1 _ (fits_turn h)

theorem V_turn {p : Two} (hc0 : ∀ r ∈ p.rules, 0 ≤ r.cost) : V p State.start = V p.turn State.start :=
  Int.le_antisymm (V_turn_le hc0) (V_turn_le (p := p.turn) hc0)

theorem apart_ok {α κ : Type} [DecidableEq κ] {key : α → κ} {ok : α → Bool} : ∀ {l : List α} {seen : List κ}, apart key ok seen l = true → ∀ x ∈ l, ok x = true
  | x :: l, seen, h, y, hy => by
    simp only [apart, Bool.and_eq_true] at h
    rcases List.mem_cons.1 hy with rfl | hy
    · exact h.1.2
    · exact apart_ok h.2 y hy

theorem valid_rules {t : Table} (h : Valid t = true) : ∀ r ∈ t.rules, 0 ≤ r.cost ∧ r.cost ≤ 1000 ∧ r.to.length ≤ 3 := by
  intro r hr
  simp only [Valid, Bool.and_eq_true] at h
  have := apart_ok h.1.2 r hr
  simp only [ruleOk, isCost, isForm, Bool.and_eq_true, decide_eq_true_eq] at this
  exact ⟨this.2.1, this.2.2, this.1.2.1⟩

theorem two_rules {t : Table} {a : Int} {x : Str} {b : Int} {y : Str} {p : Two} (h : two t a x b y = some p) : Valid t = true ∧ p.rules = t.rules := by
  unfold two at h
  split at h
  · split at h
    · cases h; exact ⟨by assumption, rfl⟩
    · cases h
  · cases h

theorem two_turn (t : Table) (a : Int) (x : Str) (b : Int) (y : Str) : two t b y a x = (two t a x b y).map Two.turn := by
  unfold two
  cases lettersOf a x <;> cases lettersOf b y <;> simp
  split <;> simp [Two.turn]

/-- P12.8 -/
theorem make_turned (t : Table) (a : Int) (x : Str) (b : Int) (y : Str) (bound : Int) : (Make t a x b y bound).2 = (Make t b y a x bound).2 := by
  unfold Make
  rw [two_turn t a x b y]
  cases h : two t a x b y with
  | none => rfl
  | some p =>
    obtain ⟨hv, hr⟩ := two_rules h
    have hc0 : ∀ r ∈ p.rules, 0 ≤ r.cost := by rw [hr]; exact fun r h => (valid_rules hv r h).1
    simp only [Option.map_some, (known_V p).1, (known_V p.turn).1, ← V_turn hc0]
    by_cases h1 : (decide (bound < 0) || decide (100000 < bound)) = true
    · rw [if_pos h1, if_pos h1]
    · rw [if_neg h1, if_neg h1]
      by_cases h2 : V p State.start < bound
      · rw [if_pos h2, if_pos h2]
      · rw [if_neg h2, if_neg h2]

/-! a lesser bound -/

def Pot.low (less : Int) (e : Pot) : Pot := { e with h := min e.h less }

theorem low_compare (less : Int) (x y : Pot) : compare (x.low less) (y.low less) = compare x y := rfl

theorem low_insert (less : Int) (x : Pot) : ∀ l : List Pot, (insertP x l).map (Pot.low less) = insertP (x.low less) (l.map (Pot.low less))
  | [] => rfl
  | y :: l => by
    simp only [insertP, List.map_cons, low_compare]
    by_cases h : compare x y < 0
    · simp [h]
    · simp [h, low_insert less x l]

theorem low_sort (less : Int) : ∀ l : List Pot, (sortP l).map (Pot.low less) = sortP (l.map (Pot.low less))
  | [] => rfl
  | x :: l => by
    have := low_sort less l
    simp only [sortP, List.foldr_cons, List.map_cons] at this ⊢
    rw [low_insert, this]

theorem potsOf_low {bound less : Int} (h1 : 1 ≤ less) (h2 : less ≤ bound) : ∀ m : Memo, (potsOf bound m).map (Pot.low less) = potsOf less m
  | [] => rfl
  | e :: m => by
    have ih := potsOf_low h1 h2 m
    unfold potsOf at ih ⊢
    simp only [List.filterMap_cons]
    by_cases h0 : 0 < e.2
    · rw [if_pos (show 0 < min e.2 bound by omega), if_pos (show 0 < min e.2 less by omega)]
      simp only [List.map_cons, ih, List.cons.injEq, and_true]
      simp only [Pot.low, Pot.mk.injEq, true_and]
      omega
    · rw [if_neg (show ¬ 0 < min e.2 bound by omega), if_neg (show ¬ 0 < min e.2 less by omega)]
      exact ih

/-- P12.5 -/
theorem make_less {t : Table} {a : Int} {x : Str} {b : Int} {y : Str} {bound less : Int} {l : List Pot} (h1 : 1 ≤ less) (h2 : less ≤ bound) (h : Make t a x b y bound = (l, 0)) :
    Make t a x b y less = (l.map (Pot.low less), 0) := by
  unfold Make at h ⊢
  cases ht : two t a x b y with
  | none => rw [ht] at h; simp at h
  | some p =>
    rw [ht] at h
    simp only at h ⊢
    by_cases hb : (decide (bound < 0) || decide (100000 < bound)) = true
    · rw [if_pos hb] at h; simp at h
    · rw [if_neg hb] at h
      by_cases hk : (known p).1 < bound
      · rw [if_pos hk] at h; simp at h
      · rw [if_neg hk] at h
        simp only [Prod.mk.injEq, and_true] at h
        simp only [Bool.or_eq_true, decide_eq_true_eq] at hb
        rw [if_neg (by simp only [Bool.or_eq_true, decide_eq_true_eq]; omega), if_neg (by omega), ← h, low_sort, potsOf_low h1 h2]
end Pl
