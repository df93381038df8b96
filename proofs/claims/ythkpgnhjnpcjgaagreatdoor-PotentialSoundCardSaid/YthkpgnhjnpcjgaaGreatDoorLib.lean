/- What the functions of Go's library do that the program calls. -/
import Derived.Test.YthkpgnhjnpcjgaaGreatDoorProg
import Derived.Test.YthkpgnhjnpcjgaaGreatDoorBase
import Derived.Test.YthkpgnhjnpcjgaaGreatDoorPl
import Derived.Shelf.Unicode.CaseTo
import Derived.Shelf.Unicode.DecodeSlow
import Derived.Lib.MapU
import Derived.Lib.CaseU
import Derived.Lib.Bytealg
import Derived.Lib.IndexAny
namespace Go.Proofs.Kb
open Go Go.RowKit Go.Lib

/-- The tables of Go's library lie in blocks below N as their text lays them. -/
structure Tabs (N : Nat) (w : World) : Prop where
  small : 1 < N ∧ 2 < N ∧ 3 < N
  cases : ∃ R oR cap, R < N ∧ w.cell? ⟨1, 0, none⟩ = some (.slice (some ⟨R, oR, none⟩) caseA.size cap) ∧ CaseTab R oR caseA w
  utf8 : Utf8Tabs 2 3 w

theorem Tabs.var {N : Nat} {w : World} (h : Tabs N w) : CaseVar 1 caseA w := by
  obtain ⟨R, oR, cap, _, h1, h2⟩ := h.cases
  exact ⟨R, oR, cap, h1, h2⟩

/-- What lies below N lies as it lay. -/
def Same (N : Nat) (w w' : World) : Prop := ∀ k, k < N → w'.heap[k]? = w.heap[k]?

theorem Same.refl (N : Nat) (w : World) : Same N w w := fun _ _ => rfl
theorem Same.trans {N : Nat} {a b c : World} (h : Same N a b) (k : Same N b c) : Same N a c := fun i hi => (k i hi).trans (h i hi)
theorem Ext.sameN {X : Nat → Prop} {N : Nat} {w w' : World} (h : Ext X w w') (hN : N ≤ w.heap.size) (hX : ∀ k, X k → N ≤ k) : Same N w w' :=
  fun k hk => h.same k (Nat.lt_of_lt_of_le hk hN) (fun hx => by have := hX k hx; omega)
theorem Ext.same0 {N : Nat} {w w' : World} (h : Ext none' w w') (hN : N ≤ w.heap.size) : Same N w w' := h.sameN hN (fun _ hx => hx.elim)
theorem Same.cell {N : Nat} {w w' : World} (h : Same N w w') {a : Addr} (ha : a.block < N) : w'.cell? a = w.cell? a := by
  simp [World.cell?, h a.block ha]

theorem Tabs.keep {N : Nat} {w w' : World} (h : Tabs N w) (hs : Same N w w') : Tabs N w' := by
  obtain ⟨⟨h1, h2, h3⟩, ⟨R, oR, cap, hR, hc, ht⟩, hu⟩ := h
  refine ⟨⟨h1, h2, h3⟩, ⟨R, oR, cap, hR, (hs.cell (a := ⟨_, 0, none⟩) h1).trans hc, ?_⟩, ?_⟩
  · intro i hi
    have := ht i hi
    simp only [hs.cell (a := ⟨R, _, none⟩) hR]
    exact this
  · obtain ⟨hu1, hu2⟩ := hu
    refine ⟨fun c hc => (hs.cell (a := ⟨_, c, none⟩) h2).trans (hu1 c hc), fun i hi => ⟨(hs.cell (a := ⟨_, _, none⟩) h3).trans (hu2 i hi).1, (hs.cell (a := ⟨_, _, none⟩) h3).trans (hu2 i hi).2⟩⟩

theorem isAt_index (set : List UInt8) (c : UInt8) : decide (0 ≤ indexByte set c) = set.contains c := (contains_iff_indexByte set c).symm

end Go.Proofs.Kb
