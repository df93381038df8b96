/- Package potential: the maker of certificates. -/
import Derived.Test.YthkpgnhjnpcjgaaGreatDoorCheck
import Derived.Shelf.SlSortCmp.NoneTotal
import Derived.Test.YthkpgnhjnpcjgaaGreatDoorMemo
namespace Go.Proofs.Kb
open Go Go.RowKit Go.Lib Pl
attribute [local go_sem] Oper.semAt_some run_makeMap

theorem ownsRow_putObj {w : World} {base e size n : Nat} {v : Value} {xs : List Value} (h : w.ownsRow base e size v n xs) (o : Obj) {b : Nat} (hb : b < base) : (w.putObj b o).ownsRow base e size v n xs := by
  refine ⟨h.1, ?_⟩
  rcases h.2 with hn | ⟨g, cap, cur, hv, hbg, hg, rest⟩
  · exact .inl hn
  · exact .inr ⟨g, cap, cur, hv, hbg, (World.putObj_heap_other (by omega)).trans hg, rest⟩

theorem info_pot : (Tryz.prog.info? 37).map (fun i => (i.zero, i.size, i.bytes)) = some (some (.agg #[.int .i64 0, .int .i64 0, .string ⟨#[]⟩, .bool false, .int .i64 0]), 5, 48) := by kernel_rfl

theorem pot_cells (w : World) (cs : List Value) (t : TypeId) {b : Nat} (hb : w.heap.size = b) : ∀ (j : Nat) (u : Value), cs[j]? = some u → (w.alloc (.cells cs.toArray t)).cell? ((⟨b, 0, none⟩ : Addr).add j) = some u := by
  intro j u hu
  have h := heapNew (.cells cs.toArray t (0, 0)) hb
  have := cellAt h j (v := u) (by simpa using hu)
  unfold Addr.add
  split
  · rename_i h0; subst h0; exact this
  · simpa using this

theorem nodup_snoc {l : List Nat} {j : Nat} (h : l.Nodup) (hj : j ∉ l) : (l ++ [j]).Nodup := by
  refine List.nodup_append.2 ⟨h, by simp, ?_⟩
  intro a ha b hb
  rw [List.mem_singleton] at hb
  rintro rfl
  subst hb
  exact hj ha

theorem snoc_lt {l : List Nat} {j n : Nat} (h : ∀ i ∈ l, i < n) (hj : j < n) : ∀ i ∈ l ++ [j], i < n := by
  intro i hi
  rcases List.mem_append.1 hi with hi | hi
  · exact h i hi
  · rw [List.mem_singleton] at hi; subst hi; exact hj

theorem encPot_len (x : Pot) : (encPot x).length = 5 := rfl

theorem flat_get : ∀ (ls : List Pot) (j : Nat), ((ls.map encPot).flatten)[j]? = (ls[j / 5]?).bind (fun x => (encPot x)[j % 5]?)
  | [], j => by simp
  | x :: ls, j => by
    rw [List.map_cons, List.flatten_cons]
    by_cases h : j < 5
    · rw [List.getElem?_append_left (by rw [encPot_len]; exact h), Nat.div_eq_of_lt h, Nat.mod_eq_of_lt h]
      rfl
    · rw [List.getElem?_append_right (by rw [encPot_len]; omega), encPot_len, flat_get ls (j - 5)]
      have e1 : j / 5 = (j - 5) / 5 + 1 := by omega
      have e2 : (j - 5) % 5 = j % 5 := by omega
      rw [e1, e2]
      rfl

theorem holds_of_own {w : World} {base e n g cap : Nat} {ls : List Pot} (h : w.ownsRow base e 5 (.slice (some ⟨g, 0, none⟩) n cap) n ((ls.map encPot).flatten)) (hn : n = ls.length) : Go.Sort.HoldsK encPot 5 w g 0 ls.toArray := by
  subst hn
  rcases h.2 with ⟨h1, _⟩ | ⟨g', cap', cur, hv, _, hg, _, _, _, ht⟩
  · cases h1
  · cases hv
    intro j hj
    rw [Go.Sort.size_flatK] at hj
    simp only [List.size_toArray] at hj
    have hc : cur.toList[j]? = ((ls.map encPot).flatten)[j]? := by
      rw [← ht, List.getElem?_take, if_pos hj]
    rw [flat_get] at hc
    have hlt : j / 5 < ls.length := by omega
    rw [List.getElem?_eq_getElem hlt, Option.bind_some] at hc
    have h5 : j % 5 < (encPot ls[j / 5]).length := by rw [encPot_len]; omega
    rw [List.getElem?_eq_getElem h5] at hc
    have hc2 : cur[j]? = some ((encPot ls[j / 5])[j % 5]) := by rw [← hc]; simp
    have hfl : (Go.Sort.flatK encPot 5 ls.toArray)[j]! = (encPot ls[j / 5])[j % 5] := by
      rw [Go.Sort.get_flatK _ _ _ _ (by simpa using hj)]
      simp [hlt, h5]
    rw [hfl]
    refine ⟨by simpa using cellAt hg j hc2, ?_⟩
    simp [World.frozen?, hg]

theorem sort_ext (w : World) (blk n : Nat) (d : Array Pot) (os : Array Obj) : Ext (one blk) w (sortWorldK encPot 5 w blk 0 n d os) := by
  refine ⟨rfl, rfl, rfl, ?_, fun k hk hx => ?_⟩
  · unfold sortWorldK
    rw [Sort.size_grow, Go.Sort.size_putRowK]
    exact Nat.le_add_right _ _
  · unfold sortWorldK
    have hk2 : k < (Go.Sort.putRowK encPot 5 (Sort.ahead w n) blk 0 d).heap.size := by rw [Go.Sort.size_putRowK]; exact hk
    show ((Go.Sort.putRowK encPot 5 (Sort.ahead w n) blk 0 d).heap ++ os)[k]? = _
    rw [Array.getElem?_append_left hk2]
    have hne : blk ≠ k := fun e => hx e.symm
    simp [Go.Sort.putRowK, Sort.putRow, Sort.mapBlock, Sort.ahead, Array.getElem?_modify, hne]

set_option maxRecDepth 100000 in
theorem sort_pots (base : Nat) (v : Value) (ls : List Pot) (w : World) (h : w.ownsRow base 37 5 v ls.length ((ls.map encPot).flatten)) (hn : ls.length < 4611686018427387904) :
    Calls Tryz.prog 27 #[v, .func (.func 28) #[] #[]] w fun e w' =>
      e = .returned (.tuple #[]) ∧ ∃ qs, qs.Perm ls ∧ qs.Pairwise (fun x y => ¬ Pl.compare y x < 0) ∧ SlAt 5 encPot w'.heap.size w' v qs ∧ Ext (fun i => base ≤ i) w w' := by
  have hown := h
  rcases h.2 with ⟨rfl, h0⟩ | ⟨g, cap, cur, rfl, hb, hg, hc, hm, hcs, ht⟩
  · have hl : ls = [] := List.length_eq_zero_iff.1 h0
    subst hl
    have c := AnyF.slices_SortFunc_none Tryz.sortPots none 0 (.func (.func 28) #[] #[]) w
    refine Calls.mono (P := Tryz.prog) (f := 27) c ?_
    rintro e w' ⟨he, rfl⟩
    exact ⟨he, [], .refl _, .nil, ⟨none, 0, rfl, by simp, by decide, fun h => absurd rfl h⟩, Ext.refl _ _⟩
  · have hH := holds_of_own hown rfl
    have hlt : g < w.heap.size := (Array.getElem?_eq_some_iff.1 hg).1
    have c := AnyQ.slices_SortFunc Tryz.sortPots 5 Tryz.isAgg37 Tryz.sizeOf37 encPot encPot_len (fun x v hv => by simp [encPot, encS] at hv; rcases hv with rfl | rfl | rfl | rfl | rfl <;> rfl) Pl.compare fit_compare.swo 28 #[] g 0 cap ls.toArray w
      (enters_of Tryz.func28 (by kernel_rfl) rfl) (cmp_lays g 0 ls.toArray.size w) hH hlt (by simpa using hn)
    refine Calls.mono (P := Tryz.prog) (f := 27) c ?_
    rintro e w' ⟨he, d', n, os, ⟨p1, p2, p3⟩, hs, rfl⟩
    have hsz : d'.toList.length = ls.length := by simpa using p1
    have hp : d'.toList.Perm ls := by
      have e1 : (d'.extract 0 ls.toArray.size).toList = d'.toList := by rw [← p1]; simp
      have e2 : (ls.toArray.extract 0 ls.toArray.size).toList = ls := by simp
      rw [e1, e2] at p3
      exact p3
    have hK := holdsK_sortWorldK_c encPot 5 w g 0 ls.toArray d' n os hH hlt p1
    refine ⟨he, d'.toList, hp, ?_, ⟨some ⟨g, 0, none⟩, cap, by rw [hsz], by rw [hsz]; exact hc, hm, fun _ => ⟨g, 0, rfl, ?_, ?_⟩⟩, (sort_ext w g n d' os).mono (fun i _ hx => by have hx : i = g := hx; omega)⟩
    · rw [List.pairwise_iff_getElem]
      intro i j hi hj hij
      have := hs i j (Nat.zero_le _) hij (by simpa using hsz ▸ hj)
      simp only [ltOf, decide_eq_false_iff_not] at this
      have e1 : d'[j]! = d'.toList[j] := by simp [show j < d'.size by simpa using hj]
      have e2 : d'[i]! = d'.toList[i] := by simp [show i < d'.size by simpa using hi]
      rw [e1, e2] at this
      exact this
    · have := (sort_ext w g n d' os).size; omega
    · intro j x hj i u hu
      have hjl := (List.getElem?_eq_some_iff.1 hj).1
      have hil := (List.getElem?_eq_some_iff.1 hu).1
      rw [encPot_len] at hil
      have hjs : j < d'.size := by simpa using hjl
      have hq := (hK (j * 5 + i) (by rw [Go.Sort.size_flatK]; omega)).1
      rw [Go.Sort.get_flatK _ _ _ _ (by omega)] at hq
      have e1 : (j * 5 + i) / 5 = j := by omega
      have e2 : (j * 5 + i) % 5 = i := by omega
      have e3 : d'[j]! = x := by
        have := (List.getElem?_eq_some_iff.1 hj).2
        simp [hjs]
        simpa using this
      rw [e1, e2, e3] at hq
      have e4 : (encPot x)[i]! = u := by
        rw [getElem!_pos _ i (by rw [encPot_len]; exact hil)]
        exact (List.getElem?_eq_some_iff.1 hu).2
      rw [e4] at hq
      simpa [Nat.add_assoc] using hq

theorem valid_80 {t : Table} (h : Valid t = true) : t.rules.length ≤ 80 := by
  simp only [Valid, Bool.and_eq_true, Bool.not_eq_true', Bool.or_eq_false_iff, decide_eq_false_iff_not] at h
  omega

theorem two_len {t : Table} {a : Int} {x : List UInt8} {b : Int} {y : List UInt8} {p : Two} (h : two t a x b y = some p) : (0 < p.l.length ∧ p.l.length ≤ 12) ∧ (0 < p.m.length ∧ p.m.length ≤ 12) := by
  unfold two at h
  cases h1 : lettersOf a x with
  | none => simp [h1] at h
  | some l =>
    cases h2 : lettersOf b y with
    | none => simp [h1, h2] at h
    | some m =>
      simp only [h1, h2] at h
      split at h
      · cases h; exact ⟨lettersOf_len h1, lettersOf_len h2⟩
      · cases h

set_option maxRecDepth 100000 in
set_option maxHeartbeats 40000000 in
theorem make_any (N : Nat) (vt : Value) (t : Table) (a : Int) (x : ByteArray) (b : Int) (y : ByteArray) (bound : Int) (w : World) (hv : TabAt N w vt t) (hx : x.size < 35184372088832) (hy : y.size < 35184372088832)
    (hN : N ≤ w.heap.size) (hT : Tabs N w) :
    Calls Tryz.prog 14 #[vt, .int .i64 a, .string x, .int .i64 b, .string y, .int .i64 bound] w fun e w' =>
      ∃ v, e = .returned (.tuple #[v, .int .i64 (Pl.Make t a x.data.toList b y.data.toList bound).2]) ∧ SlAt 5 encPot w'.heap.size w' v (Pl.Make t a x.data.toList b y.data.toList bound).1 ∧ Ext none' w w' := by
  have hv0 := Lib.hid hv
  obtain ⟨vr, vd, ve, rfl, hr, hd, he, hgood⟩ := hv
  obtain ⟨ra, rc, rfl, -⟩ := hr
  obtain ⟨da, dc, rfl, -⟩ := hd
  obtain ⟨ea, ec, rfl, -⟩ := he
  obtain ⟨w0, hw0⟩ : ∃ w0, w0 = (w.alloc (.cells #[.slice ra t.rules.length rc, .slice da t.drops.length dc, .slice ea t.ends.length ec, .int .i64 t.drop, .int .i64 t.order, .int .i64 t.initial] 25)) := ⟨_, rfl⟩
  have hE0 : Ext none' w w0 := by rw [hw0]; exact (Ext.refl _ w).alloc _
  have hof := of_any N _ t a x b y w0 (hv0.out.keep (hE0.same0 hN)) hx hy (Nat.le_trans hN hE0.size) (hT.keep (hE0.same0 hN))
  have hs0 : w0.heap.size = w.heap.size + 1 := by rw [hw0]; simp
  rw [hw0] at hof
  have HW0 := Lib.hid hw0
  clear hw0
  have nilAt : ∀ w' : World, SlAt 5 encPot w'.heap.size w' (.slice none 0 0) [] := fun w' => ⟨none, 0, rfl, by simp, by decide, fun h => absurd rfl h⟩
  unfold Pl.Make
  cases htwo : two t a x.data.toList b y.data.toList with
  | none =>
    simp only
    rw [htwo] at hof
    have HOF := Lib.hid hof
    clear hof
    refine (callsIn_wide (n := 1)).1 ?_
    refine callsIn_of_wp Tryz.func14 rfl trivial ?_ rfl
    simp only [Tryz.ntmps14, List.size_toArray, List.length_cons, List.length_nil, Nat.reduceAdd, Nat.reduceSub, Array.replicate_succ, Array.replicate_zero, List.push_toArray, List.append_toArray, List.nil_append, List.cons_append]
    gi_wp2_with fail
    refine ⟨trivial, callsIn_of_calls (ro := none) (HOF.out.mono ?_)⟩
    rintro e w1 ⟨u, ⟨pra, pla, pma, prn, prc, pln, plc, pmn, pmc, pa, pb, pi, pj, rfl⟩, rfl, hpair, hE1⟩
    rw [← HW0.out] at hE1
    simp only [Option.isSome_none]
    gi_wp2_with fail
    go_ret2
    exact ⟨_, rfl, nilAt _, hE0.trans (hE1.alloc _)⟩
  | some p =>
    simp only
    rw [htwo] at hof
    have HOF := Lib.hid hof
    clear hof
    by_cases hbd : bound < 0 ∨ 100000 < bound
    · rw [if_pos (by simpa using hbd)]
      refine (callsIn_wide (n := 1)).1 ?_
      refine callsIn_of_wp Tryz.func14 rfl trivial ?_ rfl
      simp only [Tryz.ntmps14, List.size_toArray, List.length_cons, List.length_nil, Nat.reduceAdd, Nat.reduceSub, Array.replicate_succ, Array.replicate_zero, List.push_toArray, List.append_toArray, List.nil_append, List.cons_append]
      gi_wp2_with fail
      refine ⟨trivial, callsIn_of_calls (ro := none) (HOF.out.mono ?_)⟩
      rintro e w1 ⟨u, ⟨pra, pla, pma, prn, prc, pln, plc, pmn, pmc, pa, pb, pi, pj, rfl⟩, rfl, hpair, hE1⟩
      rw [← HW0.out] at hE1
      simp only [Option.isSome_some]
      rcases hbd with hbd | hbd
      · have b1 : decide (bound < 0) = true := by simpa using hbd
        gi_wp2_with fail
        all_goals first | (exfalso; omega) | (go_ret2; exact ⟨_, rfl, nilAt _, hE0.trans (hE1.alloc _)⟩)
      · have b1 : decide (bound < 0) = false := by simp; omega
        have b2 : decide (100000 < bound) = true := by simpa using hbd
        gi_wp2_with fail
        all_goals first | (exfalso; omega) | (go_ret2; exact ⟨_, rfl, nilAt _, hE0.trans (hE1.alloc _)⟩)
    · rw [if_neg (by simpa using hbd)]
      have hb0 : 0 ≤ bound := by omega
      have hb1 : bound ≤ 100000 := by omega
      obtain ⟨hvalid, hrules⟩ := two_rules htwo
      have ho : OkRules p := by unfold OkRules; rw [hrules]; exact valid_rules hvalid
      have hp12 : (0 < p.l.length ∧ p.l.length ≤ 12) ∧ (0 < p.m.length ∧ p.m.length ≤ 12) := two_len htwo
      by_cases hlow : (known p).1 < bound
      · rw [if_pos hlow]
        refine (callsIn_wide (n := 1)).1 ?_
        refine callsIn_of_wp Tryz.func14 rfl trivial ?_ rfl
        simp only [Tryz.ntmps14, List.size_toArray, List.length_cons, List.length_nil, Nat.reduceAdd, Nat.reduceSub, Array.replicate_succ, Array.replicate_zero, List.push_toArray, List.append_toArray, List.nil_append, List.cons_append]
        gi_wp2_with fail
        refine ⟨trivial, callsIn_of_calls (ro := none) (HOF.out.mono ?_)⟩
        rintro e w1 ⟨u, ⟨pra, pla, pma, prn, prc, pln, plc, pmn, pmc, pa, pb, pi, pj, rfl⟩, rfl, hpair, hE1⟩
        rw [← HW0.out] at hE1
        have hp := hpair p rfl
        clear hpair
        simp only [Option.isSome_some]
        obtain ⟨wB, hwB⟩ : ∃ wB, wB = ((w1.alloc (.cells #[.slice pra prn prc, .int .i64 pa, .int .i64 pb, .slice pla pln plc, .slice pma pmn pmc, .int .i64 pi, .int .i64 pj, .string ⟨#[]⟩, .bool false] 64)).alloc (.map #[] 0)).alloc (.cells #[.slice pra prn prc, .int .i64 pa, .int .i64 pb, .slice pla pln plc, .slice pma pmn pmc, .int .i64 pi, .int .i64 pj, .string ⟨#[]⟩, .bool false, .map (some (w1.heap.size + 1))] 69) := ⟨_, rfl⟩
        have hEB : Ext none' w1 wB := by rw [hwB]; exact (((Ext.refl none' w1).alloc _).alloc _).alloc _
        have sB : wB.heap.size = w1.heap.size + 3 := by rw [hwB]; simp
        have kmB : MapAt encState encCost wB (w1.heap.size + 1) [] := ⟨by rw [hwB]; exact heapKeep (heapNew _ (by simp)) _, by simp⟩
        have kcB : wB.heap[w1.heap.size + 2]? = some (.cells #[.slice pra prn prc, .int .i64 pa, .int .i64 pb, .slice pla pln plc, .slice pma pmn pmc, .int .i64 pi, .int .i64 pj, .string ⟨#[]⟩, .bool false, .map (some (w1.heap.size + 1))] 69) := by rw [hwB]; exact heapNew _ (by simp)
        have HWB := Lib.hid hwB
        clear hwB
        have hpB := hp.keep (hEB.same0 (Nat.le_refl _))
        have cf := from_any w1.heap.size p #[.slice pra prn prc, .int .i64 pa, .int .i64 pb, .slice pla pln plc, .slice pma pmn pmc, .int .i64 pi, .int .i64 pj, .string ⟨#[]⟩, .bool false] (w1.heap.size + 1) ho (depth p) State.start [] wB (by unfold left depth State.start; simp only; omega) (start_ok p) (by decide) (fun _ h => by cases h) hpB kmB (by omega)
        rw [show fromM p (depth p) State.start [] = known p from rfl] at cf
        change Calls _ _ #[.agg #[.slice pra prn prc, .int .i64 pa, .int .i64 pb, .slice pla pln plc, .slice pma pmn pmc, .int .i64 pi, .int .i64 pj, .string ⟨#[]⟩, .bool false, .map (some (w1.heap.size + 1))], .agg #[.int .i64 0, .int .i64 0, .string ⟨#[]⟩, .bool false]] _ _ at cf
        have CF := Lib.hid cf
        clear cf
        gi_wp2_with fail
        rw [← HWB.out]
        refine ⟨trivial, callsIn_of_calls (ro := none) (CF.out.mono ?_)⟩
        rintro _ w2 ⟨rfl, hM2, hm2, hE2, hk0, hk1⟩
        have s1 := hE0.size
        have s2 := hE1.size
        have s3 := hE2.size
        have hE12 : Ext (one (w1.heap.size + 1)) w1 w2 := (hEB.mono (fun _ _ h => h.elim) : Ext (one (w1.heap.size + 1)) w1 wB).trans hE2
        have hEw2 : Ext none' w w2 := (hE0.trans hE1).later hE12 (fun i hi hx => by have hx : i = w1.heap.size + 1 := hx; omega)
        generalize (known p).1 = kn at *
        gi_wp2_with fail
        go_ret2
        exact ⟨_, rfl, nilAt _, hEw2⟩
      · rw [if_neg hlow]
        refine (callsIn_wide (n := 1)).1 ?_
        refine callsIn_of_wp Tryz.func14 rfl trivial ?_ rfl
        simp only [Tryz.ntmps14, List.size_toArray, List.length_cons, List.length_nil, Nat.reduceAdd, Nat.reduceSub, Array.replicate_succ, Array.replicate_zero, List.push_toArray, List.append_toArray, List.nil_append, List.cons_append]
        gi_wp2_with fail
        refine ⟨trivial, callsIn_of_calls (ro := none) (HOF.out.mono ?_)⟩
        rintro e w1 ⟨u, ⟨pra, pla, pma, prn, prc, pln, plc, pmn, pmc, pa, pb, pi, pj, rfl⟩, rfl, hpair, hE1⟩
        rw [← HW0.out] at hE1
        have hp := hpair p rfl
        clear hpair
        simp only [Option.isSome_some]
        obtain ⟨wB, hwB⟩ : ∃ wB, wB = ((w1.alloc (.cells #[.slice pra prn prc, .int .i64 pa, .int .i64 pb, .slice pla pln plc, .slice pma pmn pmc, .int .i64 pi, .int .i64 pj, .string ⟨#[]⟩, .bool false] 64)).alloc (.map #[] 0)).alloc (.cells #[.slice pra prn prc, .int .i64 pa, .int .i64 pb, .slice pla pln plc, .slice pma pmn pmc, .int .i64 pi, .int .i64 pj, .string ⟨#[]⟩, .bool false, .map (some (w1.heap.size + 1))] 69) := ⟨_, rfl⟩
        have hEB : Ext none' w1 wB := by rw [hwB]; exact (((Ext.refl none' w1).alloc _).alloc _).alloc _
        have sB : wB.heap.size = w1.heap.size + 3 := by rw [hwB]; simp
        have kmB : MapAt encState encCost wB (w1.heap.size + 1) [] := ⟨by rw [hwB]; exact heapKeep (heapNew _ (by simp)) _, by simp⟩
        have kcB : wB.heap[w1.heap.size + 2]? = some (.cells #[.slice pra prn prc, .int .i64 pa, .int .i64 pb, .slice pla pln plc, .slice pma pmn pmc, .int .i64 pi, .int .i64 pj, .string ⟨#[]⟩, .bool false, .map (some (w1.heap.size + 1))] 69) := by rw [hwB]; exact heapNew _ (by simp)
        have HWB := Lib.hid hwB
        clear hwB
        have hpB := hp.keep (hEB.same0 (Nat.le_refl _))
        have cf := from_any w1.heap.size p #[.slice pra prn prc, .int .i64 pa, .int .i64 pb, .slice pla pln plc, .slice pma pmn pmc, .int .i64 pi, .int .i64 pj, .string ⟨#[]⟩, .bool false] (w1.heap.size + 1) ho (depth p) State.start [] wB (by unfold left depth State.start; simp only; omega) (start_ok p) (by decide) (fun _ h => by cases h) hpB kmB (by omega)
        rw [show fromM p (depth p) State.start [] = known p from rfl] at cf
        change Calls _ _ #[.agg #[.slice pra prn prc, .int .i64 pa, .int .i64 pb, .slice pla pln plc, .slice pma pmn pmc, .int .i64 pi, .int .i64 pj, .string ⟨#[]⟩, .bool false, .map (some (w1.heap.size + 1))], .agg #[.int .i64 0, .int .i64 0, .string ⟨#[]⟩, .bool false]] _ _ at cf
        have CF := Lib.hid cf
        clear cf
        gi_wp2_with fail
        rw [← HWB.out]
        refine ⟨trivial, callsIn_of_calls (ro := none) (CF.out.mono ?_)⟩
        rintro _ w2 ⟨rfl, hM2, hm2, hE2, hk0, hk1⟩
        have s1 := hE0.size
        have s2 := hE1.size
        have s3 := hE2.size
        have hE12 : Ext (one (w1.heap.size + 1)) w1 w2 := (hEB.mono (fun _ _ h => h.elim) : Ext (one (w1.heap.size + 1)) w1 wB).trans hE2
        have hEw2 : Ext none' w w2 := (hE0.trans hE1).later hE12 (fun i hi hx => by have hx : i = w1.heap.size + 1 := hx; omega)
        have h108 := known_length (p := p) (fun r hr => (ho r hr).2.2) (by rw [hrules]; exact valid_80 hvalid) hp12.1.2 hp12.2.2 hM2.nodup
        generalize hkn : known p = kn at *
        obtain ⟨kn, mm⟩ := kn
        simp only at hk0 hk1 hM2 hm2 h108 hlow
        have v9 : w2.cell? ⟨w1.heap.size + 1 + 1, 9, none⟩ = some (.map (some (w1.heap.size + 1))) := cellAt ((hE2.same _ (by omega) (by unfold one; omega)).trans kcB) 9 rfl
        have hrg := hM2.range (P := Tryz.prog) Tryz.underlying67
        clear kcB kmB
        gi_wp2_with fail
        clear v9 hrg
        obtain ⟨wL, hwL⟩ : ∃ wL, wL = w2.alloc (iterObj (w1.heap.size + 1) mm.length []) := ⟨_, rfl⟩
        rw [← hwL]
        have sL : wL.heap.size = w2.heap.size + 1 := by rw [hwL]; simp
        have hitL : wL.heap[w2.heap.size]? = some (iterObj (w1.heap.size + 1) mm.length []) := by rw [hwL]; exact heapNew _ rfl
        have eL : Ext none' w2 wL := by rw [hwL]; exact (Ext.refl none' w2).alloc _
        clear hwL
        gi_loopg [17] mm.length (fun gk out wr => ∃ seen : List Nat, wr.heap[w2.heap.size]? = some (iterObj (w1.heap.size + 1) mm.length seen) ∧ seen.Nodup ∧ (∀ i ∈ seen, i < mm.length) ∧ seen.length + gk = mm.length ∧ wr.ownsRow (w2.heap.size + 1) 37 5 out (inOrder bound mm seen).length ((inOrder bound mm seen).map encPot).flatten ∧ Ext (one w2.heap.size) wL wr)
        case atStart => exact ⟨[], hitL, .nil, (fun _ h => by cases h), by simp, World.ownsRow_nil _ _ _ _, Ext.refl _ _⟩
        case round =>
          obtain ⟨seen, hit, hsn, hsl, hsg, hown, hEl⟩ := hrel
          have s' := hEl.size
          have hEr : Ext none' w2 wr := eL.later hEl (fun i hi hx => by have hx : i = w2.heap.size := hx; omega)
          have hMr := hEr.map0 hM2
          have hMl := hM2.lt
          rcases hMr.next (P := Tryz.prog) hit 0 with ⟨hall, hnx⟩ | ⟨j, e, w3, hej, hjs, hw3, hnx⟩
          · have hperm := inOrder_all (bound := bound) hsn hsl hall
            have hnd := (potsOf_states bound mm hM2.nodup).1
            have hEwr : Ext none' w wr := hEw2.trans hEr
            have hln := inOrder_length (bound := bound) hsn hsl
            obtain ⟨ps, hps⟩ : ∃ ps, ps = inOrder bound mm seen := ⟨_, rfl⟩
            rw [← hps] at hperm hown hln
            have HPERM := Lib.hid hperm
            have HND := Lib.hid hnd
            clear hperm hnd hps
            have cs := sort_pots (w2.heap.size + 1) u17 ps wr hown (by omega)
            have CS := Lib.hid cs
            clear cs hln
            gi_wp2_with fail
            refine ⟨trivial, callsIn_of_calls (ro := none) (CS.out.mono ?_)⟩
            rintro _ w9 ⟨rfl, qs, hqp, hqs, hsl9, hE9⟩
            gi_wp2_with fail
            go_ret2
            refine ⟨_, rfl, ?_, hEwr.later hE9 (fun i hi hx => by have hx : w2.heap.size + 1 ≤ i := hx; omega)⟩
            rw [show (known p).2 = mm by rw [hkn], ← sortP_unique (hqp.trans HPERM.out) HND.out (hqs.imp fun h => by omega)]
            exact hsl9
          · obtain ⟨wn, hwn⟩ : ∃ wn, wn = w3.putObj w2.heap.size (iterObj (w1.heap.size + 1) mm.length (seen ++ [j])) := ⟨_, rfl⟩
            rw [← hwn] at hnx
            have e3 : Ext none' wr w3 := by rcases hw3 with rfl | rfl; exact Ext.refl _ _; exact (Ext.refl none' wr).drew
            have hEn : Ext (one w2.heap.size) wr wn := by rw [hwn]; exact (e3.mono (fun _ _ h => h.elim) : Ext (one w2.heap.size) wr w3).putObj _ _ (.inr rfl)
            have hitn : wn.heap[w2.heap.size]? = some (iterObj (w1.heap.size + 1) mm.length (seen ++ [j])) := by rw [hwn]; exact World.putObj_heap_same (by have := e3.size; omega)
            have sn := hEn.size
            have hMn := hMr.same (hEn.same _ hMr.lt (by unfold one; omega))
            have hen := hMn.entry (P := Tryz.prog) hitn hej
            have hown3 : w3.ownsRow (w2.heap.size + 1) 37 5 u17 (inOrder bound mm seen).length ((inOrder bound mm seen).map encPot).flatten := by
              rcases hw3 with rfl | rfl
              · exact hown
              · exact hown.drew
            have hownn : wn.ownsRow (w2.heap.size + 1) 37 5 u17 (inOrder bound mm seen).length ((inOrder bound mm seen).map encPot).flatten := by
              rw [hwn]; exact ownsRow_putObj hown3 _ (Nat.lt_succ_self _)
            clear hwn hw3
            have hjn := (List.getElem?_eq_some_iff.1 hej).1
            obtain ⟨sx, hx9⟩ := e
            simp only [encState, encS, encCost] at hnx hen
            by_cases hpos : 0 < min hx9 bound
            · have hlen := inOrder_length (bound := bound) hsn hsl
              have hpt : potOf bound (sx, hx9) = some ⟨sx.i, sx.j, sx.ahead, sx.right, min hx9 bound⟩ := by unfold potOf; rw [if_pos hpos]
              have hsnoc := inOrder_snoc bound mm seen hej
              rw [hpt] at hsnoc
              have HSN := Lib.hid hsnoc
              obtain ⟨i0, hi0, hz0, hz1, hz2⟩ := info_parts info_pot
              clear hsnoc hpt
              gi_wp2_with (refine wpListIn_append_own _ rfl _ _ 26 rfl (w2.heap.size + 1) 37 i0 _ 5 48 Tryz.underlying26 hi0 hz0 hz1 hz2 rfl (by decide) _ _ _ rfl ((hownn.alloc _).alloc _) ⟨wn.heap.size + 1, 0, none⟩ 1 1 [.int .i64 sx.i, .int .i64 sx.j, .string ⟨sx.ahead.toArray⟩, .bool sx.right, .int .i64 (min hx9 bound)] rfl rfl (pot_cells _ _ _ (by simp)) (by simp [Value.oneCell']) (by unfold maxLen; omega) (by omega) (by simp; omega) ?_; intro v' w9 hown' hgrow _)
              gi_roundg (gk - 1)
              case measure => have := nodup_lt mm.length (j :: seen) (List.nodup_cons.2 ⟨hjs, hsn⟩) (fun i hi => by rcases List.mem_cons.1 hi with rfl | hi; exact hjn; exact hsl i hi); rw [List.length_cons] at this; omega
              case rel =>
                have hgE := Ext.of_grownBy hgrow (X := fun b => w2.heap.size < b) (fun b hb => (hownn.lt b hb).1)
                have hEnn : Ext (fun b => b = w2.heap.size ∨ w2.heap.size < b) wr w9 := (hEn.mono (fun _ _ h => .inl h) : Ext (fun b => b = w2.heap.size ∨ w2.heap.size < b) wr wn).trans ((((Ext.refl _ wn).alloc _).alloc _).trans (hgE.mono (fun _ _ h => .inr h)))
                refine ⟨seen ++ [j], (hgE.same _ (by simp; omega) (by omega)).trans (heapKeep (heapKeep hitn _) _), nodup_snoc hsn hjs, snoc_lt hsl hjn, ?_, ?_, hEl.later hEnn (fun i hi hx => by unfold one; omega)⟩
                · have := nodup_lt mm.length (j :: seen) (List.nodup_cons.2 ⟨hjs, hsn⟩) (fun i hi => by rcases List.mem_cons.1 hi with rfl | hi; exact hjn; exact hsl i hi)
                  rw [List.length_cons] at this
                  rw [List.length_append, List.length_singleton]
                  omega
                · rw [HSN.out, List.length_append, List.map_append, List.flatten_append]
                  simpa [encPot, encS] using hown'
            · have hpt : potOf bound (sx, hx9) = none := by unfold potOf; rw [if_neg hpos]
              have hsnoc := inOrder_snoc bound mm seen hej
              rw [hpt] at hsnoc
              simp only [Option.toList_none, List.append_nil] at hsnoc
              have HSN := Lib.hid hsnoc
              clear hsnoc hpt
              gi_wp2_with fail
              gi_roundg (gk - 1)
              case measure => have := nodup_lt mm.length (j :: seen) (List.nodup_cons.2 ⟨hjs, hsn⟩) (fun i hi => by rcases List.mem_cons.1 hi with rfl | hi; exact hjn; exact hsl i hi); rw [List.length_cons] at this; omega
              case rel =>
                refine ⟨seen ++ [j], heapKeep hitn _, nodup_snoc hsn hjs, snoc_lt hsl hjn, ?_, ?_, hEl.trans (hEn.alloc _)⟩
                · have := nodup_lt mm.length (j :: seen) (List.nodup_cons.2 ⟨hjs, hsn⟩) (fun i hi => by rcases List.mem_cons.1 hi with rfl | hi; exact hjn; exact hsl i hi)
                  rw [List.length_cons] at this
                  rw [List.length_append, List.length_singleton]
                  omega
                · rw [HSN.out]
                  exact hownn.alloc _
end Go.Proofs.Kb
