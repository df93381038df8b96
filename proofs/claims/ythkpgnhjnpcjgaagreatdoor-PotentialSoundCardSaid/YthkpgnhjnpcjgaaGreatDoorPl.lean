/- Plain functions: words of scripts, tables, states of derivations and certificates, as lists of bytes and numbers; no program in sight. -/
namespace Pl

abbrev Str := List UInt8

def isSmall (c : UInt8) : Bool := decide (97 ≤ c) && decide (c ≤ 122)
def isBig (c : UInt8) : Bool := decide (65 ≤ c) && decide (c ≤ 90)
def lower1 (c : UInt8) : UInt8 := if isBig c then c + 32 else c
def lower (s : Str) : Str := s.map lower1

/-- is the byte at an index of a text one of a set? -/
def isAt (s : Str) (i : Nat) (set : Str) : Bool := match s[i]? with
  | some c => set.contains c
  | none => false

def smalls : Str := [97, 98, 99, 100, 101, 102, 103, 104, 105, 106, 107, 108, 109, 110, 111, 112, 113, 114, 115, 116, 117, 118, 119, 120, 121, 122]
def accents : Str := [39, 96, 94]
def abjads : Str := [98, 100, 102, 103, 104, 106, 107, 108, 109, 110, 112, 113, 114, 115, 116, 119, 120, 121, 122, 39]
def vowels : Str := [97, 105, 117, 101, 111]
def consonants : Str := [107, 115, 116, 110, 104, 109, 121, 114, 119, 103, 122, 100, 98, 112]
def nasal : Str := [110]

/-- the length of the letter with which a text begins -/
def lenL (k : Int) (s : Str) : Nat :=
  if k = 1 then (if isAt s 0 smalls then 1 else 0)
  else if k = 2 then (if isAt (lower (s.take 1)) 0 smalls then (if isAt s 1 accents then 2 else 1) else 0)
  else if k = 3 then (if isAt s 0 abjads then 1 else 0)
  else if k = 4 then (if isAt s 0 consonants && isAt s 1 vowels then 2 else if isAt s 0 vowels then 1 else if isAt s 0 nasal then 1 else 0)
  else 0

/-- at most n letters from the begin of a text, and what is left -/
def lettersF (k : Int) : Nat → Str → List Str × Str
  | 0, s => ([], s)
  | n + 1, s => if lenL k s = 0 then ([], s) else
      let r := lettersF k n (s.drop (lenL k s))
      (s.take (lenL k s) :: r.1, r.2)

def Letters (k : Int) (w : Str) : Option (List Str) :=
  let r := lettersF k 13 w
  if r.2 = [] ∧ r.1 ≠ [] ∧ r.1.length ≤ 12 then some r.1 else none

def Fold (k : Int) (w : Str) : Option Str := if (Letters k w).isSome then some (lower w) else none

def lettersOf (k : Int) (w : Str) : Option (List Str) := (Fold k w).bind (Letters k)

def folded (k : Int) (s : Str) (most : Int) : Bool :=
  match Fold k s with
  | none => false
  | some f => decide (f = s) && (match Letters k s with
    | none => false
    | some l => decide ((l.length : Int) ≤ most))

def isForm (s : Str) : Bool := decide (s.length ≤ 3) && s.all isSmall
def isCost (n : Int) : Bool := decide (0 ≤ n) && decide (n ≤ 1000)

structure Rule where
  script : Int
  frm : Str
  to : Str
  cost : Int
  deriving DecidableEq, Repr

structure Drop where
  script : Int
  word : Str
  cost : Int
  deriving DecidableEq, Repr

structure Table where
  rules : List Rule
  drops : List Drop
  ends : List Drop
  drop : Int
  order : Int
  initial : Int
  deriving DecidableEq, Repr

/-- what no two rules, drops or ends may have in common -/
structure Key where
  script : Int
  frm : Str
  to : Str
  deriving DecidableEq, Repr

def Rule.key (r : Rule) : Key := ⟨r.script, r.frm, r.to⟩
def Drop.key (d : Drop) : Key := ⟨d.script, d.word, []⟩

def ruleOk (r : Rule) : Bool := folded r.script r.frm 3 && isForm r.to && isCost r.cost
def dropOk (most : Int) (d : Drop) : Bool := folded d.script d.word most && isCost d.cost

/-- all keys differ from those seen and from each other, and each element is right -/
def apart {α κ : Type} [DecidableEq κ] (key : α → κ) (ok : α → Bool) : List κ → List α → Bool
  | _, [] => true
  | seen, x :: l => !(seen.contains (key x)) && ok x && apart key ok (seen ++ [key x]) l

def dropsOk (l : List Drop) (most : Int) : Bool := apart Drop.key (dropOk most) [] l && decide (l.length ≤ 40)

def Valid (t : Table) : Bool :=
  !(decide (t.rules.length = 0) || decide (80 < t.rules.length) || !isCost t.drop || !isCost t.order || !isCost t.initial) &&
  apart Rule.key ruleOk [] t.rules && (dropsOk t.drops 12 && dropsOk t.ends 4)

structure State where
  i : Int
  j : Int
  ahead : Str
  right : Bool
  deriving DecidableEq, Repr

/-- two words that are to be brought to one form -/
structure Two where
  rules : List Rule
  a : Int
  b : Int
  l : List Str
  m : List Str
  deriving DecidableEq, Repr

def Two.fin (p : Two) : State := ⟨p.l.length, p.m.length, [], false⟩
def State.start : State := ⟨0, 0, [], false⟩

def two (t : Table) (a : Int) (x : Str) (b : Int) (y : Str) : Option Two :=
  match lettersOf a x, lettersOf b y with
  | some l, some m => if Valid t then some ⟨t.rules, a, b, l, m⟩ else none
  | _, _ => none

/-- how many of the first letters make a text, and what of the text is left -/
def takesR : List Str → Str → Nat × Str
  | _, [] => (0, [])
  | [], c :: r => (0, c :: r)
  | x :: l, c :: r => if x.isPrefixOf (c :: r) then
      let q := takesR l ((c :: r).drop x.length)
      (q.1 + 1, q.2) else (0, c :: r)

/-- how many of the first letters make a text; 0 if none do -/
def takes (l : List Str) (text : Str) : Nat := let q := takesR l text; if q.2 = [] then q.1 else 0

def leftMoves (p : Two) (s : State) : Bool := s.right || (decide (s.ahead = []) && !decide (s.i = (p.l.length : Int)))

/-- what is ahead behind a move -/
def ahead (ah to : Str) (right left : Bool) : Option (Str × Bool) :=
  if to.isPrefixOf ah && !decide (ah.drop to.length = []) then some (ah.drop to.length, right)
  else if ah.isPrefixOf to then some (to.drop ah.length, !left && !decide (to.drop ah.length = []))
  else none

def uses (p : Two) (s : State) (r : Rule) : Nat :=
  if leftMoves p s then (if r.script = p.a then takes (p.l.drop s.i.toNat) r.frm else 0)
  else (if r.script = p.b then takes (p.m.drop s.j.toNat) r.frm else 0)

def move (p : Two) (s : State) (r : Rule) : Option (Int × State) :=
  if uses p s r = 0 then none else
  match ahead s.ahead r.to s.right (leftMoves p s) with
  | some (ah, right) => some (r.cost, if leftMoves p s then ⟨s.i + uses p s r, s.j, ah, right⟩ else ⟨s.i, s.j + uses p s r, ah, right⟩)
  | none => none

def moves (p : Two) (s : State) : List (Int × State) := p.rules.filterMap (move p s)

def never : Int := 1099511627776

section maps
variable {κ ν : Type} [DecidableEq κ]
def mget (m : List (κ × ν)) (k : κ) : Option ν := (m.find? (fun e => decide (e.1 = k))).map (·.2)
def mput (m : List (κ × ν)) (k : κ) (v : ν) : List (κ × ν) :=
  if m.any (fun e => decide (e.1 = k)) then m.map (fun e => if e.1 = k then (k, v) else e) else m ++ [(k, v)]
end maps

abbrev Memo := List (State × Int)

/-- the least of a cost and those of moves, one after the other; f: the least cost from a state -/
def fromL (f : State → Memo → Int × Memo) : List (Int × State) → Int → Memo → Int × Memo
  | [], least, m => (least, m)
  | (c, to) :: rest, least, m => fromL f rest (min least (c + (f to m).1)) (f to m).2

/-- the least cost from a state, and what is known behind it; n: how deep it may go -/
def fromM (p : Two) : Nat → State → Memo → Int × Memo
  | 0, _, m => (never, m)
  | n + 1, s, m => match mget m s with
    | some h => (h, m)
    | none =>
      let r := fromL (fromM p n) (moves p s) (if s = p.fin then 0 else never) m
      (r.1, mput r.2 s r.1)

/-- an element of a certificate -/
structure Pot where
  i : Int
  j : Int
  ahead : Str
  right : Bool
  h : Int
  deriving DecidableEq, Repr

def Pot.state (e : Pot) : State := ⟨e.i, e.j, e.ahead, e.right⟩

def cmpInt (a b : Int) : Int := if a < b then -1 else if b < a then 1 else 0
def cmpStr : Str → Str → Int
  | [], [] => 0
  | [], _ :: _ => -1
  | _ :: _, [] => 1
  | a :: l, b :: m => if a < b then -1 else if b < a then 1 else cmpStr l m
def bit (b : Bool) : Int := if b then 1 else 0
def orI (a b : Int) : Int := if a = 0 then b else a
def compare (a b : Pot) : Int := orI (cmpInt a.i b.i) (orI (cmpInt a.j b.j) (orI (cmpStr a.ahead b.ahead) (cmpInt (bit a.right) (bit b.right))))

def proper (p : Two) (x : Pot) (bound : Int) : Bool :=
  decide (0 ≤ x.i) && decide (x.i ≤ p.l.length) && decide (0 ≤ x.j) && decide (x.j ≤ p.m.length) && decide (x.ahead.length ≤ 3) && x.ahead.all isSmall &&
    (!x.right || !decide (x.ahead = [])) && !decide (x.state = p.fin) && decide (0 < x.h) && decide (x.h ≤ min bound 100000)

/-- all elements are proper, and they increase -/
def rising (p : Two) (bound : Int) : Option Pot → List Pot → Bool
  | _, [] => true
  | prev, x :: l => proper p x bound && (match prev with | some y => decide (compare y x < 0) | none => true) && rising p bound (some x) l

def heights (l : List Pot) : Memo := l.map fun e => (e.state, e.h)
def height (l : List Pot) (s : State) : Int := (mget (heights l) s).getD 0

def holds (p : Two) (bound : Int) (l : List Pot) : Bool :=
  rising p bound none l && l.all (fun e => (moves p e.state).all fun m => decide (e.h ≤ m.1 + height l m.2)) && decide (bound ≤ height l State.start)

def Check (t : Table) (a : Int) (x : Str) (b : Int) (y : Str) (bound : Int) (l : List Pot) : Bool :=
  match two t a x b y with
  | none => false
  | some p => holds p bound l

def insertP (x : Pot) : List Pot → List Pot
  | [] => [x]
  | y :: l => if compare x y < 0 then x :: y :: l else y :: insertP x l
def sortP (l : List Pot) : List Pot := l.foldr insertP []

def depth (p : Two) : Nat := p.l.length + p.m.length + 1
def known (p : Two) : Int × Memo := fromM p (depth p) State.start []

def potsOf (bound : Int) (m : Memo) : List Pot := m.filterMap fun e => if 0 < min e.2 bound then some ⟨e.1.i, e.1.j, e.1.ahead, e.1.right, min e.2 bound⟩ else none

/-- the certificate, or the number of an error -/
def Make (t : Table) (a : Int) (x : Str) (b : Int) (y : Str) (bound : Int) : List Pot × Int :=
  match two t a x b y with
  | none => ([], 1)
  | some p =>
    if bound < 0 || 100000 < bound then ([], 1)
    else if (known p).1 < bound then ([], 11)
    else (sortP (potsOf bound (known p).2), 0)

/-! the examples of the chapter -/
def sample : Table := ⟨[⟨1, [97], [97], 0⟩, ⟨1, [98], [98], 0⟩, ⟨1, [99], [98], 2⟩], [], [], 0, 0, 0⟩
def want : List Pot := [⟨0, 0, [], false, 2⟩, ⟨1, 0, [97], false, 2⟩, ⟨1, 1, [], false, 2⟩, ⟨2, 1, [98], false, 2⟩]

end Pl
