/- Package potential: two words, and how letters make a text. -/
import Derived.Test.YthkpgnhjnpcjgaaGreatDoorTable
import Derived.Test.YthkpgnhjnpcjgaaGreatDoorLeast
namespace Go.Proofs.Kb
open Go Go.RowKit Go.Lib Pl
attribute [local go_sem] Oper.semAt_some run_makeMap

theorem SlAt.up {α : Type} {k : Nat} {enc : α → List Value} {N N' : Nat} {w : World} {v : Value} {l : List α} (h : SlAt k enc N w v l) (hN : N ≤ N') : SlAt k enc N' w v l := by
  obtain ⟨a, cap, hv, hc, hm, hr⟩ := h
  refine ⟨a, cap, hv, hc, hm, fun hl => ?_⟩
  obtain ⟨b, o, ha, hb, hx⟩ := hr hl
  exact ⟨b, o, ha, by omega, hx⟩

theorem StrsAt.up {N N' : Nat} {w : World} {v : Value} {l : List (List UInt8)} (h : StrsAt N w v l) (hN : N ≤ N') : StrsAt N' w v l := by
  obtain ⟨a, cap, hv, hc, hm, hr⟩ := h
  refine ⟨a, cap, hv, hc, hm, fun hl => ?_⟩
  obtain ⟨b, o, ha, hb, hx⟩ := hr hl
  exact ⟨b, o, ha, by omega, hx⟩

/-- v is the pair p, its slices in blocks below N -/
def PairAt (N : Nat) (w : World) (v : Value) (p : Two) : Prop :=
  ∃ vr vl vm, v = .agg #[vr, .int .i64 p.a, .int .i64 p.b, vl, vm, .int .i64 p.l.length, .int .i64 p.m.length, .string ⟨#[]⟩, .bool false] ∧ SlAt 4 encRule N w vr p.rules ∧ StrsAt N w vl p.l ∧ StrsAt N w vm p.m ∧
    (∀ r ∈ p.rules, goodRule r) ∧ (0 < p.l.length ∧ p.l.length ≤ 12) ∧ (0 < p.m.length ∧ p.m.length ≤ 12)

/-- the cells of a pair, whatever they hold -/
def PairShape (u : Value) : Prop := ∃ (ra la ma : Option Addr) (rn rc ln lc mn mc : Nat) (a b i j : Int), u = .agg #[.slice ra rn rc, .int .i64 a, .int .i64 b, .slice la ln lc, .slice ma mn mc, .int .i64 i, .int .i64 j, .string ⟨#[]⟩, .bool false]

theorem hasPrefix_is (s p : List UInt8) : hasPrefix s p = p.isPrefixOf s := rfl

set_option maxRecDepth 100000 in
set_option maxHeartbeats 2000000 in
theorem takes_any (N : Nat) (v : Value) (l : List (List UInt8)) (text : ByteArray) (w : World) (hl : StrsAt N w v l) :
    Calls Tryz.prog 61 #[v, .string text] w fun e w' => e = .returned (.int .i64 (takes l text.data.toList)) ∧ w' = w := by
  obtain ⟨a, cap, rfl, hc, hm, hr⟩ := hl
  have hlen : l.length ≤ 9223372036854775807 := by unfold maxLen at hm; omega
  go_enter Tryz.func61, Tryz.ntmps61
  go_wp2_with fail
  go_loop [5, 6] (fun i s => ∃ (j : Nat) (rest : ByteArray), i = .int .i64 j ∧ s = .string rest ∧ j ≤ l.length ∧ takesR l text.data.toList = ((takesR (l.drop j) rest.data.toList).1 + j, (takesR (l.drop j) rest.data.toList).2)) (fun i s => l.length - (intOf i).toNat)
  case atStart =>
    exact ⟨0, text, rfl, rfl, by omega, rfl⟩
  case round =>
    obtain ⟨j, rest, rfl, rfl, hj, hA⟩ := hrel
    have fin : takesR (l.drop j) rest.data.toList = (0, rest.data.toList) → takes l text.data.toList = if rest.data.toList = [] then j else 0 := by
      intro h
      unfold takes
      rw [hA, h]
      simp
    have FIN := Lib.hid fin
    have HA := Lib.hid hA
    clear hA fin
    by_cases hjl : j < l.length
    · obtain ⟨x, hd⟩ : ∃ x, l[j]? = some x := ⟨_, List.getElem?_eq_getElem hjl⟩
      obtain ⟨b, o, rfl, hb, hcell⟩ := hr (by intro e; rw [e] at hjl; simp at hjl)
      have c0 : w.cell? ⟨b, o + j, none⟩ = some (.string ⟨x.toArray⟩) := hcell j x hd
      have hdrop : l.drop j = x :: l.drop (j + 1) := by
        rw [List.drop_eq_getElem_cons hjl]
        rw [List.getElem?_eq_getElem hjl] at hd
        cases hd
        rfl
      have HD := Lib.hid hdrop
      clear hdrop hcell hr
      by_cases hz : rest.toList = []
      · have hz' : rest.data.toList = [] := by rw [← byteArray_toList]; exact hz
        have HR := Lib.hid ((FIN.out (takesR_stop (.inr (.inl hz')))).trans (if_pos hz'))
        clear hz'
        go_wp2_with fail
        go_ret
        exact ⟨ret_int (by rw [HR.out]), rfl⟩
      · have hz2 : rest.toList.isEmpty = false := by simpa using hz
        have hz' : rest.data.toList ≠ [] := by rw [← byteArray_toList]; exact hz
        cases hp : x.isPrefixOf rest.data.toList with
        | false =>
          have HR := Lib.hid ((FIN.out (takesR_stop (.inr (.inr (fun y m e => by rw [HD.out] at e; cases e; exact hp))))).trans (if_neg hz'))
          have HP := Lib.hid hp
          clear hz' hp
          go_wp2_with (go_at_call 95; refine (Tryz.strings_HasPrefix _ _ _).mono ?_; rintro e w' ⟨rfl, hw'⟩; rw [hw', show hasPrefix rest.data.toList (⟨x.toArray⟩ : ByteArray).data.toList = false from HP.out]; clear hw')
          go_ret
          exact ⟨ret_int (by rw [HR.out]; rfl), rfl⟩
        | true =>
          have hgo := takesR_go (l := l.drop (j + 1)) hz' hp
          have hle : x.length ≤ rest.size := by
            have h := List.IsPrefix.length_le (List.isPrefixOf_iff_prefix.1 hp)
            simpa using h
          have hA2 : takesR l text.data.toList = ((takesR (l.drop (j + 1)) (rest.extract x.length rest.size).data.toList).1 + (j + 1), (takesR (l.drop (j + 1)) (rest.extract x.length rest.size).data.toList).2) := by
            rw [HA.out, HD.out, hgo, drop_extract]
            simp only [Nat.add_assoc, Nat.add_comm 1 j]
          have HA2 := Lib.hid hA2
          have HP := Lib.hid hp
          clear hz' hp hgo hA2
          go_wp2_with (go_at_call 95; refine (Tryz.strings_HasPrefix _ _ _).mono ?_; rintro e w' ⟨rfl, hw'⟩; rw [hw', show hasPrefix rest.data.toList (⟨x.toArray⟩ : ByteArray).data.toList = true from HP.out]; clear hw')
          refine ⟨⟨j + 1, _, rfl, rfl, by omega, HA2.out⟩, ?_⟩
          simp only [intOf]
          omega
    · obtain rfl : j = l.length := by omega
      have HF := Lib.hid (FIN.out (takesR_stop (.inl List.drop_length)))
      clear hr
      by_cases hz : rest.toList = []
      · have hz' : rest.data.toList = [] := by rw [← byteArray_toList]; exact hz
        have HR := Lib.hid (HF.out.trans (if_pos hz'))
        clear hz'
        go_wp2_with fail
        go_ret
        exact ⟨ret_int (by rw [HR.out]), rfl⟩
      · have hz2 : rest.toList.isEmpty = false := by simpa using hz
        have hz' : rest.data.toList ≠ [] := by rw [← byteArray_toList]; exact hz
        have HR := Lib.hid (HF.out.trans (if_neg hz'))
        clear hz'
        go_wp2_with fail
        go_ret
        exact ⟨ret_int (by rw [HR.out]; rfl), rfl⟩

theorem Ext.setRow {X : Nat → Prop} {a b : World} (h : Ext X a b) (g : Nat) (cs : Array Value) (hg : a.heap.size ≤ g ∨ X g) : Ext X a (b.setRow g cs) :=
  ⟨h.os, h.tape, h.output, by simpa using h.size, fun k hk hx => (setRow_other b g k cs (by
    intro e; subst e; rcases hg with hg | hg
    · omega
    · exact hx hg)).trans (h.same k hk hx)⟩

theorem wpIn_store_row {ro : Option Nat} {n : Nat} {P : Program} {o : Oper} {a : Act} {w : World} {K : Act → World → Prop} {Q : Exit → Act → World → Prop} (ty : TypeId) (x y : Operand) (ho : o.op = .store ty x y)
    (g : Nat) (cells : Array Value) (hx : a.eval x = .pointer (some ⟨g, 0, none⟩)) (hy : a.eval y = .agg cells)
    (t : TypeId) (old : Array Value) (hg : w.heap[g]? = some (.cells old t (0, 0))) (hi : (P.info? ty).map (·.size) = some cells.size)
    (hold : old.size = cells.size) (h1 : cells.all (·.oneCell') = true)
    (h : K (a.put o.dst undef) (w.setRow g cells)) : o.wpIn (Fz ro) n P a w K Q := by
  have hd : ∀ c, o.op ≠ .defer c := fun c e => by rw [ho] at e; cases e
  unfold Oper.wpIn
  rw [Oper.semAt_eq ro _ _ hd]
  unfold execOp
  simp only [ho, hx, hy, Instr.storeAt, Instr.sureAddr, Sem.run_bind, Sem.run_pure, Result.andThen_ok, run_storeVar_row w g t ty old cells hg hi hold h1]
  exact ⟨fun _ _ => trivial, h⟩

theorem results_cell_tmp {fn : Func} {t u : Tmp} {ty : TypeId} (h : fn.results = #[.cell t ty, .tmp u]) (tmps : Array Value) (P : Program) (w : World) {a : Addr} {v x : Value} (ha : tmps.getD t undef = .pointer (some a)) (hl : (loadVar ty a).run P w = .ok v w) (hx : tmps.getD u undef = x) :
    (results fn tmps).run P w = .ok (.tuple #[v, x]) w := by
  rw [← hx]
  have ha' : (asAddr (tmps.getD t undef)).run P w = .ok a w := by rw [ha]; rfl
  unfold results
  rw [h]
  simp [-Array.getD_eq_getD_getElem?, Sem.run_bind, ha', hl]

theorem exec_load_row {P : Program} {o : Oper} {a : Act} {w : World} (ty : TypeId) (x : Operand) (ho : o.op = .load ty x) (g : Nat) (hx : a.eval x = .pointer (some ⟨g, 0, none⟩)) (t : TypeId) (cs : Array Value) (fr : Nat × Nat) {d : TypeDesc} (hg : w.heap[g]? = some (.cells cs t fr))
    (hu : P.underlying ty = some d) (hd : (match d with | .struct _ | .array _ _ => true | _ => false) = true) (hi : (P.info? ty).map (·.size) = some cs.size) :
    (execOp a.eval o).run P w = .ok (.value (.agg cs)) w := by
  have ld := run_loadVar_row (P := P) w g t ty cs fr d hg hu hd hi
  unfold execOp
  simp only [ho, hx]
  simp [Instr.loadAt, Instr.sureAddr, ld]

theorem cellAt {w : World} {b : Nat} {c : Array Value} {t : TypeId} {fr : Nat × Nat} (h : w.heap[b]? = some (.cells c t fr)) (i : Nat) {v : Value} (hv : c[i]? = some v) : w.cell? ⟨b, i, none⟩ = some v := by
  unfold World.cell?
  rw [h]
  simpa using hv

theorem StrsAt.via {N N' : Nat} {w w' : World} {v : Value} {l : List (List UInt8)} (h : StrsAt N w v l) (hN : N ≤ N') (hs : ∀ p n c, v = .slice (some p) n c → p.block < N → w'.heap[p.block]? = w.heap[p.block]?) : StrsAt N' w' v l := by
  obtain ⟨a, cap, hv, hc, hm, hr⟩ := h
  refine ⟨a, cap, hv, hc, hm, fun hl => ?_⟩
  obtain ⟨b, o, ha, hb, hx⟩ := hr hl
  subst ha
  refine ⟨b, o, rfl, by omega, fun j x hj => ?_⟩
  have e := hs _ _ _ hv hb
  rw [← hx j x hj]
  unfold World.cell?
  rw [e]

theorem letters_both (N : Nat) (k : Int) (s : ByteArray) (w : World) (hs : s.size < 35184372088832) (hN : N ≤ w.heap.size) (hT : Tabs N w) :
    Calls Tryz.prog 45 #[.int .i64 k, .string s] w fun e w' => ∃ v, e = .returned (.tuple #[v, .bool (lettersOf k s.data.toList).isSome]) ∧ Ext none' w w' ∧ StrsNew w w' v ((lettersOf k s.data.toList).getD []) := by
  cases h : lettersOf k s.data.toList with
  | none => exact lettersOf_no N k s w h hs hN hT
  | some l => exact lettersOf_yes N k s w l h hs hN hT

theorem lettersOf_len {k : Int} {s : List UInt8} {l : List (List UInt8)} (h : lettersOf k s = some l) : 0 < l.length ∧ l.length ≤ 12 := by
  unfold lettersOf Fold at h
  cases hq : Letters k s with
  | none => rw [hq] at h; simp at h
  | some q =>
    rw [hq] at h
    simp only [Option.isSome_some, if_true, Option.bind_some] at h
    unfold Letters at h
    simp only at h
    split at h
    · rename_i hc
      cases h
      exact ⟨List.length_pos_iff.2 hc.2.1, hc.2.2⟩
    · cases h

set_option maxRecDepth 100000 in
set_option maxHeartbeats 4000000 in
theorem of_any (N : Nat) (v : Value) (t : Table) (a : Int) (x : ByteArray) (b : Int) (y : ByteArray) (w : World) (hv : TabAt N w v t) (hx : x.size < 35184372088832) (hy : y.size < 35184372088832) (hN : N ≤ w.heap.size) (hT : Tabs N w) :
    Calls Tryz.prog 25 #[v, .int .i64 a, .string x, .int .i64 b, .string y] w fun e w' => ∃ u, PairShape u ∧ e = .returned (.tuple #[u, .bool (two t a x.data.toList b y.data.toList).isSome]) ∧ (∀ p, two t a x.data.toList b y.data.toList = some p → PairAt w'.heap.size w' u p) ∧ Ext none' w w' := by
  have hv0 := Lib.hid hv
  obtain ⟨vr, vd, ve, rfl, hr, hd, he, hgood⟩ := hv
  obtain ⟨ra, rc, rfl, -⟩ := id hr
  obtain ⟨da, dc, rfl, -⟩ := id hd
  obtain ⟨ea, ec, rfl, -⟩ := id he
  have q : ∀ w3, Ext none' ((w.alloc (.cells #[.slice ra t.rules.length rc, .slice da t.drops.length dc, .slice ea t.ends.length ec, .int .i64 t.drop, .int .i64 t.order, .int .i64 t.initial] 25)).alloc (.cells #[.slice none 0 0, .int .i64 0, .int .i64 0, .slice none 0 0, .slice none 0 0, .int .i64 0, .int .i64 0, .string ⟨#[]⟩, .bool false] 64)) w3 →
      w3.cell? ⟨w.heap.size, 0, none⟩ = some (.slice ra t.rules.length rc) ∧ w3.cell? ⟨w.heap.size, 1, none⟩ = some (.slice da t.drops.length dc) ∧ w3.cell? ⟨w.heap.size, 2, none⟩ = some (.slice ea t.ends.length ec) ∧ w3.cell? ⟨w.heap.size, 3, none⟩ = some (.int .i64 t.drop) ∧ w3.cell? ⟨w.heap.size, 4, none⟩ = some (.int .i64 t.order) ∧ w3.cell? ⟨w.heap.size, 5, none⟩ = some (.int .i64 t.initial) :=
    fun w3 h3 => ⟨h3.cell0 (by go_simp) (by simp; omega), h3.cell0 (by go_simp) (by simp; omega), h3.cell0 (by go_simp) (by simp; omega), h3.cell0 (by go_simp) (by simp; omega), h3.cell0 (by go_simp) (by simp; omega), h3.cell0 (by go_simp) (by simp; omega)⟩
  obtain ⟨o1, h1⟩ : ∃ o1, lettersOf a x.data.toList = o1 := ⟨_, rfl⟩
  obtain ⟨o2, h2⟩ : ∃ o2, lettersOf b y.data.toList = o2 := ⟨_, rfl⟩
  have htwo : (two t a x.data.toList b y.data.toList).isSome = (o1.isSome && o2.isSome && Valid t) := by
    unfold two
    rw [h1, h2]
    cases o1 <;> cases o2 <;> simp
    cases Valid t <;> simp
  have htwo2 : ∀ p, two t a x.data.toList b y.data.toList = some p → p = ⟨t.rules, a, b, o1.getD [], o2.getD []⟩ ∧ o1.isSome = true ∧ o2.isSome = true ∧ (0 < (o1.getD []).length ∧ (o1.getD []).length ≤ 12) ∧ (0 < (o2.getD []).length ∧ (o2.getD []).length ≤ 12) := by
    intro p hp
    unfold two at hp
    rw [h1, h2] at hp
    cases o1 with
    | none => simp at hp
    | some l =>
      cases o2 with
      | none => simp at hp
      | some m =>
        simp only at hp
        split at hp
        · cases hp; exact ⟨rfl, rfl, rfl, lettersOf_len h1, lettersOf_len h2⟩
        · cases hp
  rw [htwo]
  have HT2 := Lib.hid htwo2
  have HL1 := Lib.hid h1
  have HL2 := Lib.hid h2
  clear htwo htwo2
  have EX := ((Ext.refl none' w).alloc (.cells #[.slice ra t.rules.length rc, .slice da t.drops.length dc, .slice ea t.ends.length ec, .int .i64 t.drop, .int .i64 t.order, .int .i64 t.initial] 25)).alloc (.cells #[.slice none 0 0, .int .i64 0, .int .i64 0, .slice none 0 0, .slice none 0 0, .int .i64 0, .int .i64 0, .string ⟨#[]⟩, .bool false] 64)
  have cl1 := letters_both N a x ((w.alloc (.cells #[.slice ra t.rules.length rc, .slice da t.drops.length dc, .slice ea t.ends.length ec, .int .i64 t.drop, .int .i64 t.order, .int .i64 t.initial] 25)).alloc (.cells #[.slice none 0 0, .int .i64 0, .int .i64 0, .slice none 0 0, .slice none 0 0, .int .i64 0, .int .i64 0, .string ⟨#[]⟩, .bool false] 64)) hx (Nat.le_trans hN EX.size) (hT.keep (EX.same0 hN))
  have cl2 := fun w1 (h : Ext none' w w1) => letters_both N b y w1 hy (Nat.le_trans hN h.size) (hT.keep (h.same0 hN))
  rw [h1] at cl1
  rw [h2] at cl2
  have CL1 := Lib.hid cl1
  have CL2 := Lib.hid cl2
  clear cl1 cl2 h1 h2
  have HR := Lib.hid hr
  have HQ := Lib.hid q
  clear q hr hd he
  generalize o1.isSome = b1 at *
  generalize o2.isSome = b2 at *
  go_enter Tryz.func25, Tryz.ntmps25
  go_wp2_with fail
  refine CL1.out.mono ?_
  rintro e w1 ⟨vl, rfl, hE1, hvl, nvl⟩
  obtain ⟨la, lc, rfl, -⟩ := id hvl
  go_wp2_with fail
  refine (CL2.out w1 (EX.trans hE1)).mono ?_
  rintro e w2 ⟨vm, rfl, hE2, hvm, nvm⟩
  obtain ⟨ma, mc, rfl, -⟩ := id hvm
  obtain ⟨q0, q1, q2, q3, q4, q5⟩ := HQ.out w2 (hE1.trans hE2)
  go_wp2_with fail
  have H13 := (EX.trans (hE1.trans hE2))
  have hs2 : w.heap.size + 2 ≤ w2.heap.size := by have := (hE1.trans hE2).size; simpa using this
  have hD : w2.heap[w.heap.size + 1]? = some (.cells #[.slice none 0 0, .int .i64 0, .int .i64 0, .slice none 0 0, .slice none 0 0, .int .i64 0, .int .i64 0, .string ⟨#[]⟩, .bool false] 64) := by
    rw [(hE1.trans hE2).same _ (by simp) (fun h => h)]
    have := World.alloc_heap_new (w.alloc (.cells #[.slice ra t.rules.length rc, .slice da t.drops.length dc, .slice ea t.ends.length ec, .int .i64 t.drop, .int .i64 t.order, .int .i64 t.initial] 25)) (.cells #[.slice none 0 0, .int .i64 0, .int .i64 0, .slice none 0 0, .slice none 0 0, .int .i64 0, .int .i64 0, .string ⟨#[]⟩, .bool false] 64)
    rw [World.size_alloc] at this
    exact this
  refine (wpIn_wide (n := 1)).1 ?_
  refine wp_region_S (ro := none) 11 (fun _ x y => Ext (one (w.heap.size + 1)) x y) rfl (by kernel_rfl) ?_
  refine wpAnyS_t 0 (fun w' => w'.heap[w2.heap.size]? = some (.cells #[.slice ra t.rules.length rc, .int .i64 a, .int .i64 b, .slice la (o1.getD []).length lc, .slice ma (o2.getD []).length mc, .int .i64 (o1.getD []).length, .int .i64 (o2.getD []).length, .string ⟨#[]⟩, .bool false] 64)) (fun j => j != 9) (some 43) (.agg #[.slice ra t.rules.length rc, .int .i64 a, .int .i64 b, .slice la (o1.getD []).length lc, .slice ma (o2.getD []).length mc, .int .i64 (o1.getD []).length, .int .i64 (o2.getD []).length, .string ⟨#[]⟩, .bool false]) (by kernel_rfl) (by kernel_rfl) (fun _ _ _ h => h)
    (fun j x y hj ho hx => (ho.same _ (Array.getElem?_eq_some_iff.1 hx).1 (by intro e; have e : w2.heap.size = w.heap.size + 1 := e; omega)).trans hx) (fun x => Ext.refl _ x) ?_ (by kernel_rfl) (fun o ho w' hw' => ?_) ?_
  · exact World.alloc_heap_new w2 _
  · cases ho
    exact exec_load_row _ _ rfl _ (by kernel_rfl) _ _ _ hw' Tryz.underlying64 rfl (by kernel_rfl)
  refine wpAnyS_p 1 (some 44) (.bool b1) (by kernel_rfl) (by kernel_rfl) (fun _ _ _ h => h) (fun x => Ext.refl _ x) (by kernel_rfl) (by kernel_rfl) ?_
  refine wpAnyS_p 2 (some 45) (.bool b1) (by kernel_rfl) (by kernel_rfl) (fun _ _ _ h => h) (fun x => Ext.refl _ x) (by kernel_rfl) (by kernel_rfl) ?_
  obtain ⟨W3, hW3⟩ : ∃ W3, W3 = (w2.alloc (.cells #[.slice ra t.rules.length rc, .int .i64 a, .int .i64 b, .slice la (o1.getD []).length lc, .slice ma (o2.getD []).length mc, .int .i64 (o1.getD []).length, .int .i64 (o2.getD []).length, .string ⟨#[]⟩, .bool false] 64)).drew := ⟨_, rfl⟩
  have e23 : Ext none' w2 W3 := by rw [hW3]; exact ((Ext.refl none' w2).alloc _).drew
  have hS3 := (H13.trans e23)
  have hD3 : W3.heap[w.heap.size + 1]? = some (.cells #[.slice none 0 0, .int .i64 0, .int .i64 0, .slice none 0 0, .slice none 0 0, .int .i64 0, .int .i64 0, .string ⟨#[]⟩, .bool false] 64) := (e23.same _ (by omega) (fun h => h)).trans hD
  have hB3 : W3.heap[w.heap.size]? = some (.cells #[.slice ra t.rules.length rc, .slice da t.drops.length dc, .slice ea t.ends.length ec, .int .i64 t.drop, .int .i64 t.order, .int .i64 t.initial] 25) := by
    refine (((hE1.trans hE2).trans e23).same _ (by simp; omega) (fun h => h)).trans ?_
    exact (Below.heap_alloc _ _ _ (by simp)).trans (World.alloc_heap_new w _)
  change wpAnyS _ _ _ _ _ _ _ _ _ _ ((w2.alloc _).drew)
  rw [← hW3]
  clear hW3
  cases b1 with
  | false =>
    refine wpAnyS_o 3 (some 46) (by kernel_rfl) (by kernel_rfl) (fun _ _ _ h => h) (fun x => Ext.refl _ x) (by kernel_rfl) ?_
    refine wpAnyS_p 4 (some 47) (.bool false) (by kernel_rfl) (by kernel_rfl) (fun _ _ _ h => h) (fun x => Ext.refl _ x) (by kernel_rfl) (by kernel_rfl) ?_
    refine wpAnyS_p 5 (some 48) (.bool false) (by kernel_rfl) (by kernel_rfl) (fun _ _ _ h => h) (fun x => Ext.refl _ x) (by kernel_rfl) (by kernel_rfl) ?_
    refine wpAnyS_o 6 (some 49) (by kernel_rfl) (by kernel_rfl) (fun _ _ _ h => h) (fun x => Ext.refl _ x) (by kernel_rfl) ?_
    refine wpAnyS_o 7 (some 50) (by kernel_rfl) (by kernel_rfl) (fun _ _ _ h => h) (fun x => Ext.refl _ x) (by kernel_rfl) ?_
    have hD4 := hD3
    refine wpAnyS_p 8 (some 51) (.bool false) (by kernel_rfl) (by kernel_rfl) (fun _ _ _ h => h) (fun x => Ext.refl _ x) (by kernel_rfl) (by kernel_rfl) ?_
    refine wpAnyS_1 9 none (.store 64 (.tmp 10) (.tmp 43)) (by kernel_rfl) (by kernel_rfl) (by kernel_rfl) (by kernel_rfl) fun o hod ho K hK => ?_
    refine wpIn_store_row _ _ _ ho (w.heap.size + 1) #[.slice ra t.rules.length rc, .int .i64 a, .int .i64 b, .slice la (o1.getD []).length lc, .slice ma (o2.getD []).length mc, .int .i64 (o1.getD []).length, .int .i64 (o2.getD []).length, .string ⟨#[]⟩, .bool false] (by kernel_rfl) (by kernel_rfl) _ _ hD4 (by kernel_rfl) (by simp) (by simp [Value.oneCell']) ?_
    rw [hod]
    refine hK _ _ ⟨Ext.setRow (Ext.refl _ _) _ _ (.inr rfl), ?_⟩
    clear hK
    refine wpAnyS_p 10 (some 11) (.bool false) (by kernel_rfl) (by kernel_rfl) (fun _ _ _ h => h) (fun x => Ext.refl _ x) (by kernel_rfl) (by kernel_rfl) ?_
    refine wpAnyS_done (by kernel_rfl) ?_ _
    have hD5 := setRow_heap W3 (w.heap.size + 1) _ #[.slice ra t.rules.length rc, .int .i64 a, .int .i64 b, .slice la (o1.getD []).length lc, .slice ma (o2.getD []).length mc, .int .i64 (o1.getD []).length, .int .i64 (o2.getD []).length, .string ⟨#[]⟩, .bool false] _ _ hD4
    have EF : Ext none' w (W3.setRow (w.heap.size + 1) #[.slice ra t.rules.length rc, .int .i64 a, .int .i64 b, .slice la (o1.getD []).length lc, .slice ma (o2.getD []).length mc, .int .i64 (o1.getD []).length, .int .i64 (o2.getD []).length, .string ⟨#[]⟩, .bool false]) := hS3.setRow _ _ (.inl (by omega))
    have ld := run_loadVar_row (P := Tryz.prog) _ (w.heap.size + 1) _ 64 _ _ _ hD5 Tryz.underlying64 rfl (by kernel_rfl)
    clear hD hD3 hD4 hD5 hB3
    go_wp2_with fail
    refine bodyPost_ret (results_cell_tmp (t := 10) (u := 11) (ty := 64) (x := .bool false) (a := ⟨w.heap.size + 1, 0, none⟩) (by kernel_rfl) _ _ _ (by kernel_rfl) ld (by kernel_rfl)) (by kernel_rfl) ⟨_, ⟨_, _, _, _, _, _, _, _, _, _, _, _, _, rfl⟩, rfl, ?_, EF⟩
    intro p hp
    obtain ⟨-, h1, -⟩ := HT2.out p hp
    cases h1
  | true =>
    cases b2 with
    | false =>
      refine wpAnyS_p 3 (some 46) (.bool false) (by kernel_rfl) (by kernel_rfl) (fun _ _ _ h => h) (fun x => Ext.refl _ x) (by kernel_rfl) (by kernel_rfl) ?_
      refine wpAnyS_p 4 (some 47) (.bool false) (by kernel_rfl) (by kernel_rfl) (fun _ _ _ h => h) (fun x => Ext.refl _ x) (by kernel_rfl) (by kernel_rfl) ?_
      refine wpAnyS_p 5 (some 48) (.bool false) (by kernel_rfl) (by kernel_rfl) (fun _ _ _ h => h) (fun x => Ext.refl _ x) (by kernel_rfl) (by kernel_rfl) ?_
      refine wpAnyS_o 6 (some 49) (by kernel_rfl) (by kernel_rfl) (fun _ _ _ h => h) (fun x => Ext.refl _ x) (by kernel_rfl) ?_
      refine wpAnyS_o 7 (some 50) (by kernel_rfl) (by kernel_rfl) (fun _ _ _ h => h) (fun x => Ext.refl _ x) (by kernel_rfl) ?_
      have hD4 := hD3
      refine wpAnyS_p 8 (some 51) (.bool false) (by kernel_rfl) (by kernel_rfl) (fun _ _ _ h => h) (fun x => Ext.refl _ x) (by kernel_rfl) (by kernel_rfl) ?_
      refine wpAnyS_1 9 none (.store 64 (.tmp 10) (.tmp 43)) (by kernel_rfl) (by kernel_rfl) (by kernel_rfl) (by kernel_rfl) fun o hod ho K hK => ?_
      refine wpIn_store_row _ _ _ ho (w.heap.size + 1) #[.slice ra t.rules.length rc, .int .i64 a, .int .i64 b, .slice la (o1.getD []).length lc, .slice ma (o2.getD []).length mc, .int .i64 (o1.getD []).length, .int .i64 (o2.getD []).length, .string ⟨#[]⟩, .bool false] (by kernel_rfl) (by kernel_rfl) _ _ hD4 (by kernel_rfl) (by simp) (by simp [Value.oneCell']) ?_
      rw [hod]
      refine hK _ _ ⟨Ext.setRow (Ext.refl _ _) _ _ (.inr rfl), ?_⟩
      clear hK
      refine wpAnyS_p 10 (some 11) (.bool false) (by kernel_rfl) (by kernel_rfl) (fun _ _ _ h => h) (fun x => Ext.refl _ x) (by kernel_rfl) (by kernel_rfl) ?_
      refine wpAnyS_done (by kernel_rfl) ?_ _
      have hD5 := setRow_heap W3 (w.heap.size + 1) _ #[.slice ra t.rules.length rc, .int .i64 a, .int .i64 b, .slice la (o1.getD []).length lc, .slice ma (o2.getD []).length mc, .int .i64 (o1.getD []).length, .int .i64 (o2.getD []).length, .string ⟨#[]⟩, .bool false] _ _ hD4
      have EF : Ext none' w (W3.setRow (w.heap.size + 1) #[.slice ra t.rules.length rc, .int .i64 a, .int .i64 b, .slice la (o1.getD []).length lc, .slice ma (o2.getD []).length mc, .int .i64 (o1.getD []).length, .int .i64 (o2.getD []).length, .string ⟨#[]⟩, .bool false]) := hS3.setRow _ _ (.inl (by omega))
      have ld := run_loadVar_row (P := Tryz.prog) _ (w.heap.size + 1) _ 64 _ _ _ hD5 Tryz.underlying64 rfl (by kernel_rfl)
      clear hD hD3 hD4 hD5 hB3
      go_wp2_with fail
      refine bodyPost_ret (results_cell_tmp (t := 10) (u := 11) (ty := 64) (x := .bool false) (a := ⟨w.heap.size + 1, 0, none⟩) (by kernel_rfl) _ _ _ (by kernel_rfl) ld (by kernel_rfl)) (by kernel_rfl) ⟨_, ⟨_, _, _, _, _, _, _, _, _, _, _, _, _, rfl⟩, rfl, ?_, EF⟩
      intro p hp
      obtain ⟨-, -, h2, -⟩ := HT2.out p hp
      cases h2
    | true =>
      refine wpAnyS_p 3 (some 46) (.bool true) (by kernel_rfl) (by kernel_rfl) (fun _ _ _ h => h) (fun x => Ext.refl _ x) (by kernel_rfl) (by kernel_rfl) ?_
      refine wpAnyS_p 4 (some 47) (.bool true) (by kernel_rfl) (by kernel_rfl) (fun _ _ _ h => h) (fun x => Ext.refl _ x) (by kernel_rfl) (by kernel_rfl) ?_
      refine wpAnyS_p 5 (some 48) (.bool true) (by kernel_rfl) (by kernel_rfl) (fun _ _ _ h => h) (fun x => Ext.refl _ x) (by kernel_rfl) (by kernel_rfl) ?_
      refine wpAnyS_t 6 (fun w' => w'.heap[w.heap.size]? = some (.cells #[.slice ra t.rules.length rc, .slice da t.drops.length dc, .slice ea t.ends.length ec, .int .i64 t.drop, .int .i64 t.order, .int .i64 t.initial] 25)) (fun _ => true) (some 49) (.agg #[.slice ra t.rules.length rc, .slice da t.drops.length dc, .slice ea t.ends.length ec, .int .i64 t.drop, .int .i64 t.order, .int .i64 t.initial]) (by kernel_rfl) (by kernel_rfl) (fun _ _ _ h => h)
        (fun j x y hj ho hx => (ho.same _ (Array.getElem?_eq_some_iff.1 hx).1 (by intro e; have e : w.heap.size = w.heap.size + 1 := e; omega)).trans hx) (fun x => Ext.refl _ x) hB3 (by kernel_rfl) (fun o ho w' hw' => ?_) ?_
      · cases ho
        exact exec_load_row _ _ rfl _ (by kernel_rfl) _ _ _ hw' Tryz.underlying25 rfl (by kernel_rfl)
      refine wpAnyS_1 7 (some 50) (.call { callee := .value (.func 46), args := #[.tmp 49], argTypes := #[25] }) (by kernel_rfl) (by kernel_rfl) (by kernel_rfl) (by kernel_rfl) fun o hod ho K hK => ?_
      refine wpIn_call _ _ _ #[.agg #[.slice ra t.rules.length rc, .slice da t.drops.length dc, .slice ea t.ends.length ec, .int .i64 t.drop, .int .i64 t.order, .int .i64 t.initial]] _ hod ho (by kernel_rfl) (enters_of Tryz.func46 (by kernel_rfl) rfl) ((valid_any N _ t W3 (hv0.out.keep (hS3.same0 hN)) (Nat.le_trans hN hS3.size) (hT.keep (hS3.same0 hN))).mono ?_)
      rintro e w4 ⟨rfl, hE4⟩
      refine ⟨_, rfl, hK _ _ ⟨hE4.mono (fun _ _ h => h.elim), ?_⟩⟩
      clear hK
      have hD4 := (hE4.same _ (Array.getElem?_eq_some_iff.1 hD3).1 (fun h => h)).trans hD3
      refine wpAnyS_p 8 (some 51) (.bool (Valid t)) (by kernel_rfl) (by kernel_rfl) (fun _ _ _ h => h) (fun x => Ext.refl _ x) (by kernel_rfl) (by kernel_rfl) ?_
      refine wpAnyS_1 9 none (.store 64 (.tmp 10) (.tmp 43)) (by kernel_rfl) (by kernel_rfl) (by kernel_rfl) (by kernel_rfl) fun o hod ho K hK => ?_
      refine wpIn_store_row _ _ _ ho (w.heap.size + 1) #[.slice ra t.rules.length rc, .int .i64 a, .int .i64 b, .slice la (o1.getD []).length lc, .slice ma (o2.getD []).length mc, .int .i64 (o1.getD []).length, .int .i64 (o2.getD []).length, .string ⟨#[]⟩, .bool false] (by kernel_rfl) (by kernel_rfl) _ _ hD4 (by kernel_rfl) (by simp) (by simp [Value.oneCell']) ?_
      rw [hod]
      refine hK _ _ ⟨Ext.setRow (Ext.refl _ _) _ _ (.inr rfl), ?_⟩
      clear hK
      refine wpAnyS_p 10 (some 11) (.bool (Valid t)) (by kernel_rfl) (by kernel_rfl) (fun _ _ _ h => h) (fun x => Ext.refl _ x) (by kernel_rfl) (by kernel_rfl) ?_
      refine wpAnyS_done (by kernel_rfl) ?_ _
      have hD5 := setRow_heap w4 (w.heap.size + 1) _ #[.slice ra t.rules.length rc, .int .i64 a, .int .i64 b, .slice la (o1.getD []).length lc, .slice ma (o2.getD []).length mc, .int .i64 (o1.getD []).length, .int .i64 (o2.getD []).length, .string ⟨#[]⟩, .bool false] _ _ hD4
      have EF : Ext none' w (w4.setRow (w.heap.size + 1) #[.slice ra t.rules.length rc, .int .i64 a, .int .i64 b, .slice la (o1.getD []).length lc, .slice ma (o2.getD []).length mc, .int .i64 (o1.getD []).length, .int .i64 (o2.getD []).length, .string ⟨#[]⟩, .bool false]) := (hS3.trans hE4).setRow _ _ (.inl (by omega))
      have ld := run_loadVar_row (P := Tryz.prog) _ (w.heap.size + 1) _ 64 _ _ _ hD5 Tryz.underlying64 rfl (by kernel_rfl)
      clear hD hD3 hD4 hD5 hB3
      go_wp2_with fail
      refine bodyPost_ret (results_cell_tmp (t := 10) (u := 11) (ty := 64) (x := .bool (Valid t)) (a := ⟨w.heap.size + 1, 0, none⟩) (by kernel_rfl) _ _ _ (by kernel_rfl) ld (by kernel_rfl)) (by kernel_rfl) ⟨_, ⟨_, _, _, _, _, _, _, _, _, _, _, _, _, rfl⟩, rfl, ?_, EF⟩
      intro p hp
      obtain ⟨rfl, -, -, hs3, hs4⟩ := HT2.out p hp
      have s1 := EF.size
      have s4 := (e23.trans hE4).size
      have sz : (w4.setRow (w.heap.size + 1) #[.slice ra t.rules.length rc, .int .i64 a, .int .i64 b, .slice la (o1.getD []).length lc, .slice ma (o2.getD []).length mc, .int .i64 (o1.getD []).length, .int .i64 (o2.getD []).length, .string ⟨#[]⟩, .bool false]).heap.size = w4.heap.size := by simp
      have e24 : ∀ k, k < w2.heap.size → k ≠ w.heap.size + 1 → (w4.setRow (w.heap.size + 1) #[.slice ra t.rules.length rc, .int .i64 a, .int .i64 b, .slice la (o1.getD []).length lc, .slice ma (o2.getD []).length mc, .int .i64 (o1.getD []).length, .int .i64 (o2.getD []).length, .string ⟨#[]⟩, .bool false]).heap[k]? = w2.heap[k]? := fun k hk hk1 => (setRow_other _ _ _ _ hk1).trans ((e23.trans hE4).same k hk (fun h => h))
      refine ⟨_, _, _, rfl, (HR.out.keep (EF.same0 hN)).up (by omega), ?_, ?_, hgood.rules, ?_, ?_⟩
      · refine StrsAt.via hvl (by have := hE2.size; omega) (fun p n c e => ?_)
        cases e
        have := nvl _ _ _ rfl
        simp only [World.size_alloc] at this
        refine fun hp => (e24 _ (by have := hE2.size; omega) (by omega)).trans (hE2.same _ hp (fun h => h))
      · refine StrsAt.via hvm (by omega) (fun p n c e => ?_)
        cases e
        have := nvm _ _ _ rfl
        have s7 := hE1.size
        simp only [World.size_alloc] at s7
        exact fun hp => e24 _ hp (by omega)
      · exact hs3
      · exact hs4
end Go.Proofs.Kb
