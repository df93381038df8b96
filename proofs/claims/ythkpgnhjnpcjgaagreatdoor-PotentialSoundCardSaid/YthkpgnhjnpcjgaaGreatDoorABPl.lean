/- Plain laws: the best derivation goes on along moves that are tight. -/
import Derived.Test.YthkpgnhjnpcjgaaGreatDoorALaws
namespace Pl

theorem find_first {α : Type} {f : α → Bool} : ∀ (l : List α) (k : Nat) (x : α), l[k]? = some x → (∀ i y, i < k → l[i]? = some y → f y = false) → f x = true → l.find? f = some x
  | [], k, x, h, _, _ => by simp at h
  | y :: l, 0, x, h, _, hx => by
    simp only [List.getElem?_cons_zero, Option.some.injEq] at h
    subst h
    rw [List.find?_cons, hx]
  | y :: l, k + 1, x, h, hl, hx => by
    have h0 := hl 0 y (by omega) rfl
    rw [List.find?_cons, h0]
    exact find_first l k x (by simpa using h) (fun i z hi hz => hl (i + 1) z (by omega) (by simpa using hz)) hx

/-- a state from which the end can be reached, among those that are known -/
structure OnWay (p : Two) (s : State) : Prop where
  keyed : keyed (known p).2 s
  low : V p s < never
  right : OkRight s
  ahead : s.ahead.length ≤ 3

theorem tight_some {p : Two} (hp : OkTwo p) {s : State} (h : OnWay p s) (hne : s ≠ p.fin) :
    ∃ m ∈ amoves p.words s, tight (known p).2 s m = true := by
  obtain ⟨hs1, hs2⟩ := known_at h.keyed
  rcases leastOf_is (V p) (moves p s) (if s = p.fin then 0 else never) with e | ⟨m, hm, e⟩
  · rw [← V_eq hs2, if_neg hne] at e
    have := h.low
    omega
  · rw [← V_eq hs2] at e
    obtain ⟨v, hv⟩ := mem_of_keyed h.keyed
    have hk := (known_closed p).1 _ hv m hm
    rw [← amoves_is hp hs2] at hm
    obtain ⟨x, hx, rfl⟩ := List.mem_map.1 hm
    refine ⟨x, hx, ?_⟩
    unfold tight
    rw [hs1, (known_at hk).1, decide_eq_true_eq]
    exact e.symm

theorem way_on {p : Two} (hc : ∀ r ∈ p.rules, 0 ≤ r.cost ∧ r.cost ≤ 1000) (hf : ∀ r ∈ p.rules, okAhead r.to) (hp : OkTwo p) {s : State} (h : OnWay p s) {m : ARule × State} (hm : m ∈ amoves p.words s) (ht : tight (known p).2 s m = true) :
    OnWay p m.2 ∧ left p m.2 < left p s := by
  obtain ⟨hs1, hs2⟩ := known_at h.keyed
  have hmv : (m.1.cost, m.2) ∈ moves p s := by rw [← amoves_is hp hs2]; exact List.mem_map.2 ⟨m, hm, rfl⟩
  obtain ⟨v, hv⟩ := mem_of_keyed h.keyed
  have hk := (known_closed p).1 _ hv _ hmv
  obtain ⟨h1, h2, r, hr, h3⟩ := moves_ok hs2 hmv
  simp only at hk h1 h2 h3
  unfold tight at ht
  rw [hs1, (known_at hk).1, decide_eq_true_eq] at ht
  have hcr := hc r hr
  have hlow := h.low
  obtain ⟨v2, hv2⟩ := mem_of_keyed hk
  have hre := known_reached hf _ hv2
  exact ⟨⟨hk, by omega, hre.right, hre.ahead.1⟩, h2⟩

theorem way_start {p : Two} (h : V p State.start < never) : OnWay p State.start := ⟨(known_closed p).2, h, start_reached.right, by decide⟩

theorem costAt_range {p : Two} (hc : ∀ r ∈ p.rules, 0 ≤ r.cost) (s : State) : 0 ≤ costAt (known p).2 s ∧ costAt (known p).2 s ≤ never := by
  unfold costAt
  cases hm : mget (known p).2 s with
  | none => exact ⟨by decide, by decide⟩
  | some v =>
    have := (known_V p).2 _ (mget_in hm)
    simp only at this
    simp only [Option.getD_some]
    rw [this.2]
    exact ⟨V_nonneg hc (left p s + 1) s (Nat.lt_succ_self _) this.1, V_le this.1⟩

theorem costAt_start (p : Two) : costAt (known p).2 State.start = (known p).1 := by
  rw [(known_at (known_closed p).2).1, (known_V p).1]
end Pl
