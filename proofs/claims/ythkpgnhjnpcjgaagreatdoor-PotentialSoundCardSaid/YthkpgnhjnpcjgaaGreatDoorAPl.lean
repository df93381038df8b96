/- Plain functions of package align, and that their moves are those of package potential. -/
import Derived.Test.YthkpgnhjnpcjgaaGreatDoorParse
namespace Pl

/-- a rule with the letters of its From -/
structure ARule where
  index : Int
  cost : Int
  frm : List Str
  to : Str
  deriving DecidableEq, Repr

def aruleOf (k : Int) (i : Nat) (r : Rule) : Option ARule := if r.script = k then (Letters k r.frm).map (fun f => ⟨i, r.cost, f, r.to⟩) else none

def sideRules (k : Int) : Nat → List Rule → List ARule
  | _, [] => []
  | i, r :: l => (aruleOf k i r).toList ++ sideRules k (i + 1) l

structure Words where
  l : List Str
  la : List ARule
  m : List Str
  ma : List ARule
  deriving DecidableEq, Repr

def Words.two (w : Words) (s : State) : Bool := decide (s.i = (w.l.length : Int)) && decide (s.j = (w.m.length : Int)) && decide (s.ahead = [])

def afits (l : List Str) (r : ARule) (at' : Int) : Bool := decide (at' + r.frm.length ≤ l.length) && decide ((l.drop at'.toNat).take r.frm.length = r.frm)

def aleft (w : Words) (s : State) : Bool := s.right || (decide (s.ahead = []) && decide (s.i < (w.l.length : Int)))

def aahead (ah to : Str) (right left : Bool) : Option (Str × Bool) :=
  if to.isPrefixOf ah then some (ah.drop to.length, right && !decide (ah.drop to.length = []))
  else if ah.isPrefixOf to then some (to.drop ah.length, !left)
  else none

def amove (w : Words) (s : State) (r : ARule) : Option (ARule × State) :=
  if afits (if aleft w s then w.l else w.m) r (if aleft w s then s.i else s.j) then
    match aahead s.ahead r.to s.right (aleft w s) with
    | some (ah, right) => some (r, if aleft w s then ⟨s.i + r.frm.length, s.j, ah, right⟩ else ⟨s.i, s.j + r.frm.length, ah, right⟩)
    | none => none
  else none

def amoves (w : Words) (s : State) : List (ARule × State) := (if aleft w s then w.la else w.ma).filterMap (amove w s)

structure Deriv where
  cost : Int
  left : List Int
  right : List Int
  form : Str
  deriving DecidableEq, Repr

def Deriv.zero : Deriv := ⟨0, [], [], []⟩

def costAt (m : Memo) (s : State) : Int := (mget m s).getD 0

/-- one move of the best derivation -/
def Deriv.step (d : Deriv) (s : State) (m : ARule × State) : Deriv :=
  if s.i < m.2.i then { d with left := d.left ++ [m.1.index], form := d.form ++ m.1.to } else { d with right := d.right ++ [m.1.index] }

def tight (kn : Memo) (s : State) (m : ARule × State) : Bool := decide (m.1.cost + costAt kn m.2 = costAt kn s)

def bestF (w : Words) (kn : Memo) : Nat → State → Deriv → Deriv
  | 0, _, d => d
  | n + 1, s, d => if w.two s then d else match (amoves w s).find? (tight kn s) with
    | none => d
    | some m => bestF w kn n m.2 (d.step s m)

def Two.words (p : Two) : Words := ⟨p.l, sideRules p.a 0 p.rules, p.m, sideRules p.b 0 p.rules⟩

/-- the first of the cheapest derivations, or the number of an error -/
def ABest (t : Table) (a : Int) (x : Str) (b : Int) (y : Str) : Deriv × Int :=
  match two t a x b y with
  | none => (Deriv.zero, 1)
  | some p => if never ≤ (known p).1 then (Deriv.zero, 11)
    else (bestF p.words (known p).2 (depth p) State.start ⟨(known p).1, [], [], []⟩, 0)

/-- the form and the cost of rules that rewrite the letters from an index on, and where they end -/
def writtenF (l : List Str) (rs : List ARule) : List Int → Int → Str → Int → Option (Str × Int × Int)
  | [], at', form, cost => some (form, cost, at')
  | i :: is, at', form, cost => match rs.find? (fun r => decide (r.index = i)) with
    | none => none
    | some r => if afits l r at' then writtenF l rs is (at' + r.frm.length) (form ++ r.to) (cost + r.cost) else none

def written (l : List Str) (rs : List ARule) (is : List Int) : Str × Int × Bool := match writtenF l rs is 0 [] 0 with
  | some (f, c, at') => (f, c, decide (at' = (l.length : Int)))
  | none => ([], 0, false)

def ACheck (t : Table) (a : Int) (x : Str) (b : Int) (y : Str) (d : Deriv) : Bool :=
  match two t a x b y with
  | none => false
  | some p =>
    let u := written p.words.l p.words.la d.left
    let v := written p.words.m p.words.ma d.right
    u.2.2 && v.2.2 && decide (u.1 = d.form) && decide (v.1 = d.form) && decide (u.2.1 + v.2.1 = d.cost)

/-! the moves are the same -/

theorem aahead_is (ah to : Str) (right left : Bool) : aahead ah to right left = ahead ah to right left := by
  unfold aahead ahead
  by_cases h1 : to.isPrefixOf ah = true
  · obtain ⟨d, hd⟩ := List.isPrefixOf_iff_prefix.1 h1
    by_cases h2 : ah.drop to.length = []
    · have : d = [] := by rw [← hd] at h2; simpa using h2
      subst this
      simp only [List.append_nil] at hd
      subst hd
      simp
    · simp [h1, h2]
  · have h1' : to.isPrefixOf ah = false := Bool.eq_false_iff.2 h1
    by_cases h2 : ah.isPrefixOf to = true
    · have h3 : to.drop ah.length ≠ [] := by
        obtain ⟨d, hd⟩ := List.isPrefixOf_iff_prefix.1 h2
        rw [← hd]
        simp only [List.drop_left, ne_eq]
        rintro rfl
        simp only [List.append_nil] at hd
        subst hd
        simp at h1
      simp [h1', h2, h3]
    · simp [h1', h2]

theorem folded_letters {k : Int} {s : Str} {most : Int} (h : folded k s most = true) : ∃ f, Letters k s = some f ∧ f ≠ [] := by
  unfold folded at h
  cases hf : Fold k s with
  | none => rw [hf] at h; simp at h
  | some f =>
    rw [hf] at h
    simp only [Bool.and_eq_true] at h
    cases hl : Letters k s with
    | none => rw [hl] at h; simp at h
    | some l => exact ⟨l, rfl, (letters_parse.1 hl).2.1⟩

/-- what of the words and rules the moves hang on -/
structure OkTwo (p : Two) : Prop where
  l : ∃ s, Parse p.a s p.l
  m : ∃ s, Parse p.b s p.m
  rules : ∀ r ∈ p.rules, ∃ f, Letters r.script r.frm = some f ∧ f ≠ []

theorem two_ok {t : Table} {a : Int} {x : Str} {b : Int} {y : Str} {p : Two} (h : two t a x b y = some p) : OkTwo p := by
  unfold two at h
  cases h1 : lettersOf a x with
  | none => simp [h1] at h
  | some l =>
    cases h2 : lettersOf b y with
    | none => simp [h1, h2] at h
    | some m =>
      simp only [h1, h2] at h
      split at h
      · rename_i hv
        cases h
        obtain ⟨s, hs⟩ := letters_word h1
        obtain ⟨s', hs'⟩ := letters_word h2
        refine ⟨⟨s, (letters_parse.1 hs).1⟩, ⟨s', (letters_parse.1 hs').1⟩, fun r hr => ?_⟩
        simp only [Valid, Bool.and_eq_true] at hv
        have := apart_ok hv.1.2 r hr
        simp only [ruleOk, Bool.and_eq_true] at this
        exact folded_letters this.1.1
      · cases h

theorem aleft_is {p : Two} {s : State} (hs : OkState p s) : aleft p.words s = leftMoves p s := by
  obtain ⟨_, h, _, _⟩ := hs
  unfold aleft leftMoves Two.words
  congr 2
  by_cases e : s.i = (p.l.length : Int)
  · simp [e]
  · have : s.i < p.l.length := by omega
    simp [e, this]

theorem takes_afits {k : Int} {l : List Str} (hl : ∃ s, Parse k s l) {at' : Int} (h0 : 0 ≤ at') (h1 : at' ≤ l.length) {r : ARule} {text : Str} (hf : Letters k text = some r.frm) : takes (l.drop at'.toNat) text = if afits l r at' then r.frm.length else 0 := by
  obtain ⟨s, hs⟩ := hl
  obtain ⟨q1, _, _⟩ := letters_parse.1 hf
  rw [takes_letters (parse_drop hs at'.toNat) q1]
  unfold afits
  by_cases h : (l.drop at'.toNat).take r.frm.length = r.frm
  · have := congrArg List.length h
    simp at this
    rw [if_pos h, h]
    have h2 : at' + (r.frm.length : Int) ≤ l.length := by omega
    simp [h2]
  · rw [if_neg h]; simp [h]

theorem amoves_gen {p : Two} (hp : OkTwo p) {s : State} (hs : OkState p s) (k : Int) (hk : k = if leftMoves p s then p.a else p.b) : ∀ (l : List Rule) (i : Nat), (∀ r ∈ l, r ∈ p.rules) →
    ((sideRules k i l).filterMap (amove p.words s)).map (fun m => (m.1.cost, m.2)) = l.filterMap (move p s)
  | [], _, _ => rfl
  | r :: l, i, hl => by
    obtain ⟨f, hf, hne⟩ := hp.rules r (hl r (by simp))
    have ih := amoves_gen hp hs k hk l (i + 1) (fun r hr => hl r (by simp [hr]))
    have key : ((aruleOf k i r).toList.filterMap (amove p.words s)).map (fun m => (m.1.cost, m.2)) = (move p s r).toList := by
      unfold aruleOf
      by_cases hsc : r.script = k
      · rw [if_pos hsc]
        rw [hsc] at hf
        rw [hf]
        simp only [Option.map_some, Option.toList_some]
        have hu : uses p s r = if afits (if leftMoves p s then p.l else p.m) ⟨i, r.cost, f, r.to⟩ (if leftMoves p s then s.i else s.j) then f.length else 0 := by
          unfold uses
          cases hlm : leftMoves p s with
          | true =>
            rw [hlm] at hk
            simp only [if_true] at hk ⊢
            rw [if_pos (by rw [hsc, hk])]
            exact takes_afits (k := k) (r := ⟨i, r.cost, f, r.to⟩) (by rw [hk]; exact hp.l) hs.1 hs.2 hf
          | false =>
            rw [hlm] at hk
            simp only [Bool.false_eq_true, if_false] at hk ⊢
            rw [if_pos (by rw [hsc, hk])]
            exact takes_afits (k := k) (r := ⟨i, r.cost, f, r.to⟩) (by rw [hk]; exact hp.m) hs.3 hs.4 hf
        have hlen : f.length ≠ 0 := by simpa using hne
        have hm : amove p.words s ⟨i, r.cost, f, r.to⟩ = if afits (if leftMoves p s then p.l else p.m) ⟨i, r.cost, f, r.to⟩ (if leftMoves p s then s.i else s.j) then
            match ahead s.ahead r.to s.right (leftMoves p s) with
            | some (ah, right) => some (⟨i, r.cost, f, r.to⟩, if leftMoves p s then ⟨s.i + f.length, s.j, ah, right⟩ else ⟨s.i, s.j + f.length, ah, right⟩)
            | none => none
          else none := by
          unfold amove
          rw [aleft_is hs, aahead_is]
          rfl
        rw [List.filterMap_cons, List.filterMap_nil, hm]
        unfold move
        rw [hu]
        cases hfit : afits (if leftMoves p s then p.l else p.m) ⟨i, r.cost, f, r.to⟩ (if leftMoves p s then s.i else s.j) with
        | false => simp
        | true =>
          simp only [if_true, hlen, if_false]
          cases ahead s.ahead r.to s.right (leftMoves p s) with
          | none => rfl
          | some q => rfl
      · rw [if_neg hsc]
        have hu : uses p s r = 0 := by
          unfold uses
          cases hlm : leftMoves p s with
          | true =>
            rw [hlm] at hk
            simp only [if_true] at hk ⊢
            rw [if_neg (by rw [← hk]; exact hsc)]
          | false =>
            rw [hlm] at hk
            simp only [Bool.false_eq_true, if_false] at hk ⊢
            rw [if_neg (by rw [← hk]; exact hsc)]
        unfold move
        simp [hu]
    rw [sideRules, List.filterMap_append, List.map_append, key, ih, List.filterMap_cons]
    cases move p s r <;> rfl

theorem amoves_is {p : Two} (hp : OkTwo p) {s : State} (hs : OkState p s) : (amoves p.words s).map (fun m => (m.1.cost, m.2)) = moves p s := by
  unfold amoves moves
  rw [aleft_is hs]
  cases hlm : leftMoves p s with
  | true => exact amoves_gen hp hs p.a (by rw [hlm]; rfl) p.rules 0 (fun _ h => h)
  | false => exact amoves_gen hp hs p.b (by rw [hlm]; rfl) p.rules 0 (fun _ h => h)

theorem two_fin {p : Two} {s : State} (hr : OkRight s) : p.words.two s = decide (s = p.fin) := by
  unfold Words.two Two.words Two.fin
  obtain ⟨i, j, ah, right⟩ := s
  unfold OkRight at hr
  simp only at hr ⊢
  cases right with
  | false => simp [Bool.and_assoc]
  | true => have := hr rfl; simp [this]
end Pl
