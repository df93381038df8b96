/- Package script: the letters of a word. -/
import Derived.Test.YthkpgnhjnpcjgaaGreatDoorScript
import Derived.Maps.AppendAt
namespace Go.Proofs.Kb
open Go Go.RowKit Go.Lib Pl
attribute [local go_sem] Oper.semAt_some

/-- strings as values -/
def encS (l : List UInt8) : Value := .string ⟨l.toArray⟩

/-- v is a slice of the strings l, in a block below N. -/
def StrsAt (N : Nat) (w : World) (v : Value) (l : List (List UInt8)) : Prop :=
  ∃ (a : Option Addr) (cap : Nat), v = .slice a l.length cap ∧ l.length ≤ cap ∧ cap ≤ maxLen ∧
    (l ≠ [] → ∃ b o, a = some ⟨b, o, none⟩ ∧ b < N ∧ ∀ j x, l[j]? = some x → w.cell? ⟨b, o + j, none⟩ = some (encS x))

theorem StrsAt.keep {N : Nat} {w w' : World} {v : Value} {l : List (List UInt8)} (h : StrsAt N w v l) (hs : Same N w w') : StrsAt N w' v l := by
  obtain ⟨a, cap, hv, hc, hm, hr⟩ := h
  refine ⟨a, cap, hv, hc, hm, fun hl => ?_⟩
  obtain ⟨b, o, ha, hb, hx⟩ := hr hl
  exact ⟨b, o, ha, hb, fun j x hj => (hs.cell (a := ⟨b, o + j, none⟩) hb).trans (hx j x hj)⟩

theorem StrsAt.of_owns {w : World} {base : Nat} {v : Value} {l : List (List UInt8)} (h : w.ownsRow base 9 1 v l.length (l.map encS)) : StrsAt w.heap.size w v l := by
  have hlt := h.lt
  rcases h.2 with ⟨rfl, h0⟩ | ⟨g, cap, cur, rfl, _, _, hc, hm, _⟩
  · exact ⟨none, 0, by rw [h0], by omega, by unfold maxLen; omega, fun hl => absurd (List.eq_nil_of_length_eq_zero h0) hl⟩
  · refine ⟨_, cap, rfl, hc, hm, fun _ => ⟨g, 0, rfl, (hlt g rfl).2, fun j x hj => ?_⟩⟩
    have := h.cells (g := g) rfl j (encS x) (by rw [List.getElem?_map, hj]; rfl)
    rw [← this]
    cases j with
    | zero => rfl
    | succ j => simp [Addr.add]

theorem lettersF_eq (k : Int) : ∀ (n : Nat) (s : List UInt8), lettersF k n s = ((lettersAll k s).take n, s.drop ((lettersAll k s).take n).flatten.length)
  | 0, s => by simp [lettersF]
  | n + 1, s => by
    by_cases h : lenL k s = 0
    · simp [lettersF, h, lettersAll_zero h]
    · have hl := lenL_le k s
      simp only [lettersF, h, if_false, lettersAll_cons h, List.take_succ_cons, List.flatten_cons, List.length_append, lettersF_eq k n (s.drop (lenL k s)), List.drop_drop, List.length_take]
      rw [Nat.min_eq_left hl]

theorem Letters_eq (k : Int) (s : List UInt8) : Letters k s =
    if s.drop ((lettersAll k s).take 13).flatten.length = [] ∧ (lettersAll k s).take 13 ≠ [] ∧ ((lettersAll k s).take 13).length ≤ 12 then some ((lettersAll k s).take 13) else none := by
  simp only [Letters, lettersF_eq]

/-- v's slice lies in a block from B on -/
def NewSl (B : Nat) (v : Value) : Prop := ∀ p n c, v = .slice (some p) n c → B ≤ p.block
theorem NewSl.mono {A B : Nat} {v : Value} (h : NewSl B v) (hab : A ≤ B) : NewSl A v := fun p n c e => Nat.le_trans hab (h p n c e)
theorem NewSl.none (B n c : Nat) : NewSl B (.slice none n c) := fun p _ _ e => by cases e
/-- v is a slice of the strings l, in a block that the call from w to w' has made -/
def StrsNew (w w' : World) (v : Value) (l : List (List UInt8)) : Prop := StrsAt w'.heap.size w' v l ∧ NewSl w.heap.size v

/-- what Letters hands back -/
def LettersPost (r : Option (List (List UInt8))) (w : World) (e : Ending) (w' : World) : Prop :=
  ∃ (v : Value) (n : Int), e = .returned (.tuple #[v, .int .i64 n]) ∧ Ext none' w w' ∧ (match r with
    | some l => n = 0 ∧ StrsNew w w' v l
    | none => n = 1 ∧ v = .slice none 0 0)

/-- between two rounds -/
def LI (k : Int) (s : List UInt8) (w : World) (j : Nat) (W : World) : Prop :=
  ∃ (v : Value) (rest : ByteArray), Boxed W w.heap.size 59 v ∧ Boxed W (w.heap.size + 1) 9 (.string rest) ∧
    W.ownsRow (w.heap.size + 6) 9 1 v j (((lettersAll k s).take j).map encS) ∧ rest.data.toList = s.drop ((lettersAll k s).take j).flatten.length ∧ Ext none' w W ∧ w.heap.size + 6 ≤ W.heap.size

theorem LI.keep {k : Int} {s : List UInt8} {w : World} {j : Nat} {A B : World} (h : LI k s w j A) (he : Ext (fun b => b = w.heap.size + 3 ∨ b = w.heap.size + 5) A B) : LI k s w j B := by
  obtain ⟨v, rest, h1, h2, h3, h4, h5, h6⟩ := h
  have n0 : B.heap[w.heap.size]? = A.heap[w.heap.size]? := he.same _ h1.lt (by omega)
  have n1 : B.heap[w.heap.size + 1]? = A.heap[w.heap.size + 1]? := he.same _ h2.lt (by omega)
  refine ⟨v, rest, n0.trans h1, n1.trans h2, ?_, h4, ⟨he.os.trans h5.os, he.tape.trans h5.tape, he.output.trans h5.output, Nat.le_trans h5.size he.size, fun i hi hx => (he.same i (Nat.lt_of_lt_of_le hi h5.size) (by omega)).trans (h5.same i hi hx)⟩, Nat.le_trans h6 he.size⟩
  refine ⟨h3.1, ?_⟩
  rcases h3.2 with hn | ⟨g, cap, cur, hv, hb, hg, rest'⟩
  · exact .inl hn
  · exact .inr ⟨g, cap, cur, hv, hb, (he.same g (Array.getElem?_eq_some_iff.1 hg).1 (by omega)).trans hg, rest'⟩

theorem lettersAll_len (k : Int) : ∀ (n : Nat) (s : List UInt8), s.length ≤ n → (lettersAll k s).flatten.length ≤ s.length
  | 0, s, h => by
    have : s = [] := List.eq_nil_of_length_eq_zero (by omega)
    subst this
    simp [lettersAll, lettersF]
  | n + 1, s, h => by
    by_cases hz : lenL k s = 0
    · simp [lettersAll_zero hz]
    · have hl := lenL_le k s
      have ih := lettersAll_len k n (s.drop (lenL k s)) (by simp; omega)
      rw [lettersAll_cons hz]
      simp only [List.flatten_cons, List.length_append, List.length_take, List.length_drop] at ih ⊢
      omega

theorem letter_le (k : Int) (s : List UInt8) (j : Nat) (h : j < (lettersAll k s).length) : ((lettersAll k s).take j).flatten.length + (lettersAll k s)[j].length ≤ s.length := by
  have h1 := lettersAll_len k s.length s (Nat.le_refl _)
  have h2 : lettersAll k s = (lettersAll k s).take j ++ (lettersAll k s)[j] :: (lettersAll k s).drop (j + 1) := by
    rw [List.getElem_cons_drop, List.take_append_drop]
  have h3 := congrArg (fun l => l.flatten.length) h2
  simp only [List.flatten_append, List.length_append, List.flatten_cons] at h3
  omega

theorem owns_shape {w : World} {base e size n : Nat} {v : Value} {xs : List Value} (h : w.ownsRow base e size v n xs) : ∃ a cap, v = .slice a n cap := by
  rcases h.2 with ⟨rfl, rfl⟩ | ⟨g, cap, cur, rfl, _⟩
  · exact ⟨_, _, rfl⟩
  · exact ⟨_, _, rfl⟩

theorem byteArray_toList (s : ByteArray) : s.toList = s.data.toList := ByteArray.toList_eq s

theorem LI.ends {k : Int} {s : List UInt8} {w : World} {m : Nat} {B : World} {v : Value} (hE : Ext none' w B) (hl : m ≤ (lettersAll k s).length) (h3 : B.ownsRow (w.heap.size + 6) 9 1 v m (((lettersAll k s).take m).map encS))
    (ht : (lettersAll k s).take 13 = (lettersAll k s).take m) (hr : s.drop ((lettersAll k s).take m).flatten.length = []) (h0 : m ≠ 0) (h12 : m ≤ 12) (D : Nat) (hDb : w.heap.size ≤ D) (hD : B.heap[D]? = some (.deferred (some []))) :
    LettersPost (Letters k s) w (.returned (.tuple #[v, .int .i64 0])) (B.putObj D (.deferred none)) := by
  have hlen : ((lettersAll k s).take m).length = m := by simp; omega
  have e : Letters k s = some ((lettersAll k s).take m) := by
    rw [Letters_eq, ht, if_pos ⟨hr, fun h => h0 (by rw [← hlen, h]; rfl), by omega⟩]
  rw [e]
  refine ⟨v, 0, rfl, hE.putObj D _ (Or.inl hDb), rfl, ?_⟩
  have q : (B.putObj D (.deferred none)).ownsRow (w.heap.size + 6) 9 1 v m (((lettersAll k s).take m).map encS) := ownsRow_putObj h3 _ hD rfl
  refine ⟨StrsAt.of_owns (by rw [hlen]; exact q), fun p n c e => ?_⟩
  rcases h3.2 with ⟨hn, -⟩ | ⟨g, cap, cur, hv, hb, -⟩
  · rw [hn] at e; cases e
  · rw [hv] at e; cases e; exact Nat.le_trans (Nat.le_add_right _ 6) hb

theorem LI.fails {k : Int} {s : List UInt8} {w : World} {m : Nat} {B : World} (hE : Ext none' w B) (hl : m ≤ (lettersAll k s).length)
    (ht : (lettersAll k s).take 13 = (lettersAll k s).take m) (hr : s.drop ((lettersAll k s).take m).flatten.length ≠ [] ∨ m = 0 ∨ 12 < m) (D : Nat) (hDb : w.heap.size ≤ D) :
    LettersPost (Letters k s) w (.returned (.tuple #[.slice none 0 0, .int .i64 1])) (B.putObj D (.deferred none)) := by
  have hlen : ((lettersAll k s).take m).length = m := by simp; omega
  have e : Letters k s = none := by
    rw [Letters_eq, ht, if_neg]
    rintro ⟨q1, q2, q3⟩
    rcases hr with h | h | h
    · exact h q1
    · subst h; simp at q2
    · omega
  rw [e]
  exact ⟨_, 1, rfl, hE.putObj D _ (Or.inl hDb), rfl, rfl⟩

theorem info_string : (Tryz.prog.info? 9).map (fun i => (i.zero, i.size, i.bytes)) = some (some (.string ⟨#[]⟩), 1, 16) := by kernel_rfl

set_option maxRecDepth 100000 in
set_option maxHeartbeats 4000000 in
theorem letters_walk (N : Nat) (k : Int) (s : ByteArray) (w : World) (hs : s.size < 35184372088832) (hN : N ≤ w.heap.size) (hT : Tabs N w) :
    Calls Tryz.prog 43 #[.int .i64 k, .string s] w (LettersPost (Letters k s.data.toList) w) := by
  refine (callsIn_wide (n := 1)).1 ?_
  refine callsIn_of_wp_marks Tryz.func43 rfl trivial ?_ rfl
  simp only [Tryz.ntmps43, List.size_toArray, List.length_cons, List.length_nil, Nat.reduceAdd, Nat.reduceSub, Array.replicate_succ, Array.replicate_zero, List.push_toArray, List.append_toArray, List.nil_append, List.cons_append]
  gi_wp2_with fail
  refine ⟨trivial, callsIn_of_calls (ro := none) ((letters_any _ _ _).mono ?_)⟩
  rintro e w1 ⟨rfl, hw1⟩
  have HW := Lib.hid hw1
  clear hw1
  gi_wp2_with fail
  have hsz : w1.heap.size = w.heap.size + 4 := by rw [HW.out]; simp
  have hE1 : Ext none' w w1 := by rw [HW.out]; exact ((((Ext.refl _ w).alloc _).alloc _).alloc _).alloc _
  have b0 : Boxed w1 w.heap.size 59 (.slice none 0 0) := by rw [HW.out]; exact (((Boxed.new w _ _).alloc _).alloc _).alloc _
  have b1 : Boxed w1 (w.heap.size + 1) 9 (.string s) := by
    rw [HW.out]
    have := Boxed.new (w.alloc (.cells #[.slice none 0 0] 59)) 9 (.string s)
    rw [World.size_alloc] at this
    exact (this.alloc _).alloc _
  have b2 : Boxed w1 (w.heap.size + 2) 3 (.int .i64 k) := by
    rw [HW.out]
    have := Boxed.new ((w.alloc (.cells #[.slice none 0 0] 59)).alloc (.cells #[.string s] 9)) 3 (.int .i64 k)
    rw [World.size_alloc, World.size_alloc] at this
    exact this.alloc _
  have b3 : Boxed w1 (w.heap.size + 3) 9 (.string s) := by
    rw [HW.out]
    have := Boxed.new (((w.alloc (.cells #[.slice none 0 0] 59)).alloc (.cells #[.string s] 9)).alloc (.cells #[.int .i64 k] 3)) 9 (.string s)
    rw [World.size_alloc, World.size_alloc, World.size_alloc] at this
    exact this
  have hT1 : Tabs N w1 := hT.keep (hE1.same0 hN)
  have hit := letters_iter N k s w1 (w.heap.size + 2) (w.heap.size + 3) (w.heap.size + 4) (fun b => b = w.heap.size ∨ b = w.heap.size + 1) hs (by omega) (by omega) hT1 (by simpa using b2) (by simpa using b3) (by omega) (by omega) (by omega) (by omega) (by omega) (by omega) (by omega)
  refine wp_rangeFunc (X := one (w.heap.size + 3)) (N := w.heap.size + 4) (Y := fun b => b = w.heap.size ∨ b = w.heap.size + 1) (gf := 104) (lb := #[.pointer (some ⟨w.heap.size + 2, 0, none⟩), .pointer (some ⟨w.heap.size + 3, 0, none⟩)])
    (by simp [Act.eval]) (enters_of Tryz.func104 (by kernel_rfl) rfl) (by omega) hit (fun b hb => by cases hb; omega) (fun _ => rfl)
    (fun j W => LI k s.data.toList w j W ∧ j ≤ 12) (fun c W => c = .exit 0 ∧ LI k s.data.toList w 13 W) ?hI ?hIx ?h0 ?hbody ?hdone ?hstop
  case hI =>
    rintro j A B ⟨h, hj⟩ he
    exact ⟨h.keep (he.mono fun b _ hb => by rw [hsz] at hb; exact hb), hj⟩
  case hIx =>
    rintro c A B ⟨h, hj⟩ he
    exact ⟨h, hj.keep (he.mono fun b _ hb => by rw [hsz] at hb; exact hb)⟩
  case h0 =>
    intro W he hW
    have nb : ∀ b, b < w.heap.size + 4 → W.heap[b]? = w1.heap[b]? := fun b hb => he.same b (by omega) (fun h => h)
    refine ⟨⟨_, _, (nb _ (by omega)).trans b0, (nb _ (by omega)).trans b1, World.ownsRow_nil _ _ _ _, by simp, ?_, by omega⟩, by omega⟩
    exact hE1.trans (⟨he.os, he.tape, he.output, he.size, fun i hi _ => he.same i hi (fun h => h)⟩)
  case hbody =>
    rintro j hj W hlt ⟨⟨v, rest, h1, h2, h3, h4, h5, h6⟩, hj12⟩
    gi_wp2_with fail
    refine ⟨trivial, trivial, fun W2 he2 hr2 => ?_⟩
    obtain ⟨r2, hr2⟩ := hr2
    have nb : ∀ b, b < W.heap.size → b ≠ w.heap.size + 5 → W2.heap[b]? = W.heap[b]? := fun b hb hne => he2.same b hb (by rw [hsz]; omega)
    have g1 : Boxed W2 w.heap.size 59 v := (nb _ h1.lt (by omega)).trans h1
    have g2 : Boxed W2 (w.heap.size + 1) 9 (.string rest) := (nb _ h2.lt (by omega)).trans h2
    have c1 := g1.cell
    have c2 := g2.cell
    gi_wp2_with fail
    have hm : (lettersAll k s.data.toList)[j].length ≤ rest.size := by
      have q := letter_le k s.data.toList j hj
      have q2 : rest.data.toList.length = rest.size := by simp
      rw [h4, List.length_drop] at q2
      omega
    generalize hx : (lettersAll k s.data.toList)[j] = x at *
    have HX := Lib.hid hx
    clear hx
    have hsl : (⟨x.toArray⟩ : ByteArray).size = x.length := by simp [ByteArray.size]
    refine wp_region_S 10 (fun j x y => (j ≠ 8 → j ≠ 9 → y.cell? ⟨w.heap.size, 0, none⟩ = x.cell? ⟨w.heap.size, 0, none⟩) ∧ (j ≠ 9 → y.cell? ⟨w.heap.size + 1, 0, none⟩ = x.cell? ⟨w.heap.size + 1, 0, none⟩)) rfl (by kernel_rfl) ?_
    have orefl : ∀ j (x : World), (j ≠ 8 → j ≠ 9 → x.cell? ⟨w.heap.size, 0, none⟩ = x.cell? ⟨w.heap.size, 0, none⟩) ∧ (j ≠ 9 → x.cell? ⟨w.heap.size + 1, 0, none⟩ = x.cell? ⟨w.heap.size + 1, 0, none⟩) := fun _ _ => ⟨fun _ _ => rfl, fun _ => rfl⟩
    refine wpAnyS_take 0 (fun w' => w'.cell? ⟨w.heap.size, 0, none⟩ = some v) (fun j => j != 8 && j != 9) v rfl (by kernel_rfl) (fun _ _ _ h => h) (fun j x y hj ho hx => (ho.1 (by simp at hj; omega) (by simp at hj; omega)).trans hx) (orefl 0) c1 (.inl ⟨rfl, fun w' hw' => by go_simp⟩) ?_
    refine wpAnyS_take 4 (fun w' => w'.cell? ⟨w.heap.size + 1, 0, none⟩ = some (.string rest)) (fun j => j != 9) (.string rest) rfl (by kernel_rfl) (fun _ _ _ h => h) (fun j x y hj ho hx => (ho.2 (by simp at hj; omega)).trans hx) (orefl 4) c2 (.inl ⟨rfl, fun w' hw' => by go_simp⟩) ?_
    refine wpAnyS_pure 1 (.string ⟨x.toArray⟩) rfl (by kernel_rfl) (fun _ _ _ h => h) (orefl 1) (.inl ⟨rfl, fun w' _ => by go_simp⟩) ?_
    refine wpAnyS_pure 5 (.string ⟨x.toArray⟩) rfl (by kernel_rfl) (fun _ _ _ h => h) (orefl 5) (.inl ⟨rfl, fun w' _ => by go_simp⟩) ?_
    refine wpAnyS_pure 6 (.int .i64 x.length) rfl (by kernel_rfl) (fun _ _ _ h => h) (orefl 6) (.inl ⟨rfl, fun w' _ => by go_simp⟩) ?_
    refine wpAnyS_pure 7 (.string (rest.extract x.length rest.size)) rfl (by kernel_rfl) (fun _ _ _ h => h) (orefl 7) (.inl ⟨rfl, fun w' _ => by go_simp⟩) ?_
    refine wpAnyS_only 2 rfl (by kernel_rfl) rfl fun K hK => ?_
    go_simp
    have hs22 := he2.size
    refine hK _ _ ⟨⟨fun _ _ => (g1.alloc _).cell.trans c1.symm, fun _ => (g2.alloc _).cell.trans c2.symm⟩, ?_⟩
    clear hK
    obtain ⟨W3, hW3⟩ : ∃ W3, W3 = (W2.alloc (.cells #[.string ⟨x.toArray⟩] 9)).drew := ⟨_, rfl⟩
    rw [← hW3]
    have k1 : Boxed W3 w.heap.size 59 v := by rw [hW3]; exact g1.alloc _
    have k2 : Boxed W3 (w.heap.size + 1) 9 (.string rest) := by rw [hW3]; exact g2.alloc _
    have k3 : W3.ownsRow (w.heap.size + 6) 9 1 v j (((lettersAll k s.data.toList).take j).map encS) := by
      rw [hW3]
      refine World.ownsRow.drew (World.ownsRow.alloc ?_ _)
      refine ⟨h3.1, ?_⟩
      rcases h3.2 with hn | ⟨g, cap, cur, hv, hb, hg, rest'⟩
      · exact .inl hn
      · exact .inr ⟨g, cap, cur, hv, hb, (nb g (Array.getElem?_eq_some_iff.1 hg).1 (by omega)).trans hg, rest'⟩
    have knew : ∀ i u, [encS x][i]? = some u → W3.cell? ((⟨W2.heap.size, 0, none⟩ : Addr).add i) = some u := by
      intro i u hu
      rw [hW3]
      cases i with
      | zero => simp at hu; subst hu; simp [Addr.add, encS, World.cell?_alloc_new]
      | succ i => simp at hu
    have ksz : W2.heap.size + 1 = W3.heap.size := by rw [hW3]; simp
    obtain ⟨i0, hi, hz0, hz1, hz2⟩ := info_parts info_string
    have HW3 := Lib.hid hW3
    clear hW3
    refine wpAnyS_only 3 rfl (by kernel_rfl) rfl fun K hK => ?_
    refine wpIn_of_list (ops := #[]) rfl ?_
    refine wpListIn_append_own _ rfl _ _ 59 rfl (w.heap.size + 6) 9 i0 (.string ⟨#[]⟩) 1 16 Tryz.underlying59 hi hz0 hz1 hz2 rfl (by decide) _ _ _ rfl k3 ⟨W2.heap.size, 0, none⟩ 1 1 [encS x] rfl rfl knew (by simp [encS, Value.oneCell']) (by unfold maxLen; omega) (by omega) (by omega) ?_
    intro v' w4 hown' hgrow _
    have hvb : v.ownBlock ≠ some w.heap.size ∧ v.ownBlock ≠ some (w.heap.size + 1) := by
      refine ⟨fun e => ?_, fun e => ?_⟩ <;> (have := (k3.lt _ e).1; omega)
    have m1 : Boxed w4 w.heap.size 59 v := k1.kept hgrow (fun e => hvb.1 e.symm)
    have m2 : Boxed w4 (w.heap.size + 1) 9 (.string rest) := k2.kept hgrow (fun e => hvb.2 e.symm)
    refine hK _ _ ⟨⟨fun _ _ => m1.cell.trans k1.cell.symm, fun _ => m2.cell.trans k2.cell.symm⟩, ?_⟩
    clear hK
    obtain ⟨g', cap', hv'⟩ := ownsRow_succ hown'
    subst hv'
    have n1 := m1.set (.slice (some ⟨g', 0, none⟩) (j + 1) cap')
    have n2 := m2.other (by omega : w.heap.size + 1 ≠ w.heap.size) (.slice (some ⟨g', 0, none⟩) (j + 1) cap')
    have d1 := m1.cell
    have d2 := m1.frozen
    have d3 := n2.cell
    have d4 := n2.frozen
    refine wpAnyS_only 8 rfl (by kernel_rfl) rfl fun K hK => ?_
    go_simp
    refine hK _ _ ⟨⟨fun h => absurd rfl h, fun _ => d3.trans m2.cell.symm⟩, ?_⟩
    clear hK
    refine wpAnyS_only 9 rfl (by kernel_rfl) rfl fun K hK => ?_
    go_simp
    refine hK _ _ ⟨⟨fun _ h => absurd rfl h, fun h => absurd rfl h⟩, ?_⟩
    clear hK
    refine wpAnyS_done (by kernel_rfl) ?_ _
    have o1 := n1.other (by omega : w.heap.size ≠ w.heap.size + 1) (.string (rest.extract x.length rest.size))
    have o2 := n2.set (.string (rest.extract x.length rest.size))
    have p1 := o1.cell
    have hE25 : Ext (fun b => b = w.heap.size ∨ b = w.heap.size + 1 ∨ w.heap.size + 6 ≤ b) W2 ((w4.setCell ⟨w.heap.size, 0, none⟩ (.slice (some ⟨g', 0, none⟩) (j + 1) cap')).setCell ⟨w.heap.size + 1, 0, none⟩ (.string (rest.extract x.length rest.size))) := by
      have e3 : Ext (fun b => b = w.heap.size ∨ b = w.heap.size + 1 ∨ w.heap.size + 6 ≤ b) W2 w4 := by
        refine Ext.trans ?_ (Ext.of_grownBy hgrow (fun b e => Or.inr (Or.inr (k3.lt _ e).1)))
        rw [HW3.out]
        exact ((Ext.refl _ W2).alloc _).drew
      have e4 := e3.setCell ⟨w.heap.size, 0, none⟩ (.slice (some ⟨g', 0, none⟩) (j + 1) cap') (Or.inr (Or.inl rfl))
      exact e4.setCell ⟨w.heap.size + 1, 0, none⟩ (.string (rest.extract x.length rest.size)) (Or.inr (Or.inr (Or.inl rfl)))
    have hLI : LI k s.data.toList w (j + 1) ((w4.setCell ⟨w.heap.size, 0, none⟩ (.slice (some ⟨g', 0, none⟩) (j + 1) cap')).setCell ⟨w.heap.size + 1, 0, none⟩ (.string (rest.extract x.length rest.size))) := by
      have hj' : (lettersAll k s.data.toList)[j]? = some x := by rw [List.getElem?_eq_getElem hj, HX.out]
      have htk : (lettersAll k s.data.toList).take (j + 1) = (lettersAll k s.data.toList).take j ++ [x] := by rw [List.take_add_one, hj']; rfl
      refine ⟨_, _, o1, o2, ?_, ?_, ?_, ?_⟩
      · rw [htk, List.map_append]
        have q := ownsRow_setCell_other (ownsRow_setCell_other hown' (a := ⟨w.heap.size, 0, none⟩) (fun e => by have h := (hown'.lt _ e).1; dsimp only at h; omega) (.slice (some ⟨g', 0, none⟩) (j + 1) cap')) (a := ⟨w.heap.size + 1, 0, none⟩) (fun e => by have h := (hown'.lt _ e).1; dsimp only at h; omega) (.string (rest.extract x.length rest.size))
        exact q
      · rw [drop_extract, h4, htk, List.flatten_append, List.length_append, List.drop_drop]; simp
      · refine ⟨hE25.os.trans (he2.os.trans h5.os), hE25.tape.trans (he2.tape.trans h5.tape), hE25.output.trans (he2.output.trans h5.output), ?_, fun i hi _ => ?_⟩
        · have := hE25.size; omega
        · exact (hE25.same i (by omega) (by omega)).trans ((nb i (by omega) (by omega)).trans (h5.same i hi (fun h => h)))
      · have := hE25.size; omega
    have e1 : ∀ b, b < w.heap.size + 6 → b ≠ w.heap.size → b ≠ w.heap.size + 1 → ((w4.setCell ⟨w.heap.size, 0, none⟩ (.slice (some ⟨g', 0, none⟩) (j + 1) cap')).setCell ⟨w.heap.size + 1, 0, none⟩ (.string (rest.extract x.length rest.size))).heap[b]? = W2.heap[b]? := fun b hb h0 h1 => hE25.same b (by omega) (by omega)
    have e2 := hE25.size
    have HLI := Lib.hid hLI
    have HE1 := Lib.hid e1
    clear hLI e1 hE25
    by_cases h12 : j + 1 ≤ 12
    · gi_wp2_with fail
      exact ⟨HE1.out _ (by omega) (by omega) (by omega), HE1.out _ (by omega) (by omega) (by omega), e2, fun i hi hy => HE1.out i (by omega) (by omega) (by omega), HLI.out⟩
    · gi_wp2_with fail
      obtain rfl : j = 12 := by omega
      exact ⟨HE1.out _ (by omega) (by omega) (by omega), HE1.out _ (by omega) (by omega) (by omega), rfl, HLI.out⟩
  case hdone =>
    rintro B ⟨⟨v, rest, h1, h2, h3, h4, h5, h6⟩, hle⟩ hD
    obtain ⟨a, cap, rfl⟩ := owns_shape h3
    have c1 := h1.cell
    have c2 := h2.cell
    rw [hsz] at hD
    have ht : (lettersAll k s.data.toList).take 13 = (lettersAll k s.data.toList).take (lettersAll k s.data.toList).length := by
      rw [List.take_of_length_le (by omega), List.take_length]
    have HT := Lib.hid ht
    have H4 := Lib.hid h4
    clear ht h4
    have fin := fun hr h0 => LI.ends (D := w.heap.size + 4) h5 (Nat.le_refl _) h3 HT.out hr h0 hle (by omega) hD
    have bad := fun hr => LI.fails (D := w.heap.size + 4) h5 (Nat.le_refl _) HT.out hr (by omega)
    have FIN := Lib.hid fin
    have BAD := Lib.hid bad
    clear fin bad
    generalize (lettersAll k s.data.toList).length = m at *
    have hm12 : ¬ 12 < m := by omega
    gi_wp2_with fail
    · have t1 : rest.toList = [] := by assumption
      have t2 : m = 0 := by assumption
      exact ⟨by simp, .inl ⟨_, _, rfl, run_takeDeferred hD, _, results_tmp2 (t := 4) (u := 5) rfl _ _ _, BAD.out (.inr (.inl t2))⟩⟩
    · exfalso
      have t1 : ¬ m = 0 := by assumption
      have t2 : ((m : Int) == 0) = true ∨ 12 < (m : Int) := by assumption
      rcases t2 with t2 | t2
      · simp at t2; omega
      · omega
    · have t1 : rest.toList = [] := by assumption
      have t2 : ¬ m = 0 := by assumption
      exact ⟨by simp, .inl ⟨_, _, rfl, run_takeDeferred hD, _, results_tmp2 (t := 4) (u := 5) rfl _ _ _, FIN.out (by rw [← H4.out, ← byteArray_toList]; exact t1) t2⟩⟩
    · have t1 : ¬ rest.toList = [] := by assumption
      exact ⟨by simp, .inl ⟨_, _, rfl, run_takeDeferred hD, _, results_tmp2 (t := 4) (u := 5) rfl _ _ _, BAD.out (.inl (by rw [← H4.out, ← byteArray_toList]; exact t1))⟩⟩
  case hstop =>
    rintro c B ⟨rfl, v, rest, h1, h2, h3, h4, h5, h6⟩ hD
    obtain ⟨a, cap, rfl⟩ := owns_shape h3
    have c1 := h1.cell
    have c2 := h2.cell
    rw [hsz] at hD
    have hl13 : 13 ≤ (lettersAll k s.data.toList).length := by
      have := h3.1
      simp at this
      omega
    have bad := LI.fails (D := w.heap.size + 4) h5 hl13 rfl (.inr (.inr (by omega))) (by omega)
    have BAD := Lib.hid bad
    clear bad h4
    gi_wp2_with fail
    all_goals exact ⟨by simp, .inl ⟨_, _, rfl, run_takeDeferred hD, _, results_tmp2 (t := 4) (u := 5) rfl _ _ _, BAD.out⟩⟩
end Go.Proofs.Kb
