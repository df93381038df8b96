/- Package rewrite: what a table must meet, its parts. -/
import Derived.Test.YthkpgnhjnpcjgaaGreatDoorKeys
import Derived.Carry
namespace Go.Proofs.Kb
open Go Go.RowKit Go.Lib Pl
attribute [local go_sem] Oper.semAt_some run_makeMap

/-- v is a slice of the elements of l, each of k cells, in a block below N. -/
def SlAt {α : Type} (k : Nat) (enc : α → List Value) (N : Nat) (w : World) (v : Value) (l : List α) : Prop :=
  ∃ (a : Option Addr) (cap : Nat), v = .slice a l.length cap ∧ l.length ≤ cap ∧ cap ≤ maxLen ∧
    (l ≠ [] → ∃ b o, a = some ⟨b, o, none⟩ ∧ b < N ∧ ∀ j x, l[j]? = some x → ∀ i u, (enc x)[i]? = some u → w.cell? ⟨b, o + j * k + i, none⟩ = some u)

theorem SlAt.keep {α : Type} {k : Nat} {enc : α → List Value} {N : Nat} {w w' : World} {v : Value} {l : List α} (h : SlAt k enc N w v l) (hs : Same N w w') : SlAt k enc N w' v l := by
  obtain ⟨a, cap, hv, hc, hm, hr⟩ := h
  refine ⟨a, cap, hv, hc, hm, fun hl => ?_⟩
  obtain ⟨b, o, ha, hb, hx⟩ := hr hl
  exact ⟨b, o, ha, hb, fun j x hj i u hi => (hs.cell (a := ⟨b, o + j * k + i, none⟩) hb).trans (hx j x hj i u hi)⟩

def encDrop (d : Drop) : List Value := [.int .i64 d.script, encS d.word, .int .i64 d.cost]
def encRule (r : Rule) : List Value := [.int .i64 r.script, encS r.frm, encS r.to, .int .i64 r.cost]

theorem ret_bool {a b : Bool} (h : a = b) : Ending.returned (.bool a) = .returned (.bool b) := by rw [h]

theorem isCost_any (n : Int) (w : World) : Calls Tryz.prog 73 #[.int .i64 n] w fun e w' => e = .returned (.bool (isCost n)) ∧ w' = w := by
  go_enter Tryz.func73, Tryz.ntmps73
  go_wp2_with fail
  all_goals (go_ret; refine ⟨ret_bool ?_, rfl⟩; (first | (simp [isCost, *]; done) | (simp [isCost]; omega)))

theorem dropWhile_nil_iff {α : Type} {p : α → Bool} {l : List α} : l.dropWhile p = [] ↔ ∀ x ∈ l, p x = true := by
  induction l with
  | nil => simp
  | cons a l ih =>
    by_cases h : p a = true
    · rw [List.dropWhile_cons_of_pos h, ih]; simp [h]
    · rw [List.dropWhile_cons_of_neg h]
      simp [h]

theorem trimS_all (s : List UInt8) : (trimS s smalls = []) ↔ s.all isSmall = true := by
  have key : ∀ c : UInt8, smalls.contains c = isSmall c := by
    intro c
    have h : ∀ n : Fin 256, smalls.contains (UInt8.ofNat n.val) = isSmall (UInt8.ofNat n.val) := by decide +kernel
    have := h ⟨c.toNat, UInt8.toNat_lt c⟩
    simpa using this
  have kf : (fun c : UInt8 => smalls.contains c) = isSmall := funext key
  unfold trimS trimRightS trimLeftS
  rw [kf]
  constructor
  · intro h
    have h1 : ∀ c ∈ (s.reverse.dropWhile isSmall).reverse, isSmall c = true := by
      have h2 := h
      rw [dropWhile_nil_iff] at h2
      exact h2
    rw [List.all_eq_true]
    cases hd : s.reverse.dropWhile isSmall with
    | nil =>
      have h3 := (dropWhile_nil_iff (p := isSmall) (l := s.reverse)).1 hd
      exact fun c hc => h3 c (by simpa using hc)
    | cons a t =>
      exfalso
      have h4 : isSmall a = false := by
        have := List.head_dropWhile_not isSmall (by rw [hd]; simp : s.reverse.dropWhile isSmall ≠ [])
        simpa [hd] using this
      have h5 := h1 a (by rw [hd]; simp)
      rw [h4] at h5
      cases h5
  · intro h
    have h1 : s.reverse.dropWhile isSmall = [] := (dropWhile_nil_iff (p := isSmall)).2 (fun c hc => List.all_eq_true.1 h c (by simpa using hc))
    rw [h1]
    rfl

theorem isForm_any (s : ByteArray) (w : World) (hs : s.size < 35184372088832) :
    Calls Tryz.prog 75 #[.string s] w fun e w' => e = .returned (.bool (isForm s.data.toList)) ∧ Ext none' w w' := by
  go_enter Tryz.func75, Tryz.ntmps75
  go_wp2_with (go_at_call 106; refine (Tryz.strings_Trim_laid _ _ _ (by omega) (by decide) (ascii_of_all (by decide))).mono ?_; rintro e w1 ⟨rfl, hE⟩)
  · go_ret
    refine ⟨ret_bool ?_, Ext.of_below hE _⟩
    have e1 := trimS_all s.data.toList
    have e2 : s.data.toList.length ≤ 3 := by
      have : s.data.toList.length = s.size := by simp
      omega
    show (trimS s.data.toList smalls).isEmpty = isForm s.data.toList
    unfold isForm
    simp only [e2, decide_true, Bool.true_and]
    rw [Bool.eq_iff_iff, List.isEmpty_iff]
    exact e1
  · go_ret
    refine ⟨ret_bool ?_, Ext.refl _ _⟩
    have e2 : ¬ s.data.toList.length ≤ 3 := by
      have : s.data.toList.length = s.size := by simp
      omega
    unfold isForm
    rw [decide_eq_false e2]
    rfl

theorem folded_any (N : Nat) (k : Int) (s : ByteArray) (most : Int) (w : World) (hs : s.size < 35184372088832) (hN : N ≤ w.heap.size) (hT : Tabs N w) :
    Calls Tryz.prog 74 #[.int .i64 k, .string s, .int .i64 most] w fun e w' => e = .returned (.bool (folded k s.data.toList most)) ∧ Ext none' w w' := by
  cases hq : Letters k s.data.toList with
  | none =>
    have HQ := Lib.hid hq
    clear hq
    go_enter Tryz.func74, Tryz.ntmps74
    go_wp2_with fail
    refine (fold_no N k s w HQ.out hs hN hT).mono ?_
    rintro e w1 ⟨rfl, hE⟩
    go_wp2_with fail
    go_ret
    exact ⟨ret_bool (by simp [folded, Fold, HQ.out]), hE⟩
  | some l =>
    have HQ := Lib.hid hq
    clear hq
    go_enter Tryz.func74, Tryz.ntmps74
    go_wp2_with fail
    refine (fold_yes N k s w l HQ.out hs hN hT).mono ?_
    rintro e w1 ⟨rfl, hE⟩
    go_wp2_with fail
    · go_ret
      have t1 := ‹(!lower s.data.toList == s.toList) = true›
      refine ⟨ret_bool ?_, hE⟩
      rw [byteArray_toList] at t1
      simp only [Bool.not_eq_true', beq_eq_false_iff_ne] at t1
      simp [folded, Fold, HQ.out, t1]
    · have t1 := ‹(!lower s.data.toList == s.toList) = false›
      rw [byteArray_toList] at t1
      simp only [Bool.not_eq_false', beq_iff_eq] at t1
      have FIN := Lib.hid (show folded k s.data.toList most = decide ((l.length : Int) ≤ most) by simp [folded, Fold, HQ.out, t1])
      refine (letters_yes N k s w1 l HQ.out hs (Nat.le_trans hN hE.size) (hT.keep (hE.same0 hN))).mono ?_
      rintro e w2 ⟨v, rfl, hE2, hv⟩
      obtain ⟨⟨va, vc, rfl, -⟩, -⟩ := hv
      clear t1
      go_wp2_with fail
      go_ret
      exact ⟨ret_bool FIN.out.symm, hE.trans hE2⟩

theorem Ext.cell0 {w w' : World} (h : Ext none' w w') {a : Addr} {v : Option Value} (hv : w.cell? a = v) (ha : a.block < w.heap.size) : w'.cell? a = v := by
  rw [← hv]
  simp [World.cell?, h.same a.block ha (fun h => h)]

theorem Ext.map0 {κ ν : Type} {ek : κ → Value} {ev : ν → Value} {w w' : World} {b : Nat} {m : List (κ × ν)} (h : Ext none' w w') (hM : MapAt ek ev w b m) : MapAt ek ev w' b m := hM.same (h.same b hM.lt (fun h => h))

/-- a table of what has been seen -/
def seenMap (l : List Key) : List (Key × Bool) := l.map fun k => (k, true)

theorem seen_get (l : List Key) (k : Key) : ((mget (seenMap l) k).map (fun b => Value.bool b)).getD (.bool false) = .bool (l.contains k) := by
  unfold seenMap
  induction l with
  | nil => rfl
  | cons a l ih =>
    by_cases h : a = k
    · subst h; simp [mget]
    · have h' : (k == a) = false := by simpa using fun e => h e.symm
      simp only [List.map_cons, mget, List.find?_cons, h, decide_false] at ih ⊢
      rw [List.contains_cons, h', Bool.false_or]
      exact ih

theorem seen_put (l : List Key) (k : Key) (h : l.contains k = false) : mput (seenMap l) k true = seenMap (l ++ [k]) := by
  have hn : ∀ e ∈ seenMap l, e.1 ≠ k := by
    intro e he hk
    obtain ⟨x, hx, rfl⟩ := List.mem_map.1 he
    subst hk
    have : l.contains x = true := by simpa using hx
    rw [h] at this
    cases this
  rw [mput_new hn]
  simp [seenMap]

theorem zero_bool (w : World) : (zeroValue 4).run Tryz.prog w = .ok (.bool false) w := by kernel_rfl

def goodDrop (d : Drop) : Prop := isInt d.script ∧ d.word.length < 35184372088832
def goodRule (r : Rule) : Prop := isInt r.script ∧ r.frm.length < 35184372088832 ∧ r.to.length < 35184372088832

theorem goodDrop.key {d : Drop} (h : goodDrop d) : goodKey d.key := ⟨h.1, by have := h.2; simp only [Drop.key, maxLen]; omega, by simp [Drop.key]⟩
theorem goodRule.key {r : Rule} (h : goodRule r) : goodKey r.key := ⟨h.1, by have := h.2.1; simp only [Rule.key, maxLen]; omega, by have := h.2.2; simp only [Rule.key, maxLen]; omega⟩

set_option maxRecDepth 100000 in
set_option maxHeartbeats 2000000 in
theorem checkDrops_any (N : Nat) (v : Value) (l : List Drop) (most : Int) (w : World) (hl : SlAt 3 encDrop N w v l) (hg : ∀ d ∈ l, goodDrop d) (hN : N ≤ w.heap.size) (hT : Tabs N w) :
    Calls Tryz.prog 76 #[v, .int .i64 most] w fun e w' => e = .returned (.bool (dropsOk l most)) ∧ Ext none' w w' := by
  obtain ⟨a, cap, rfl, hc, hm, hr⟩ := hl
  have hlen : l.length ≤ 9223372036854775807 := by unfold maxLen at hm; omega
  go_enter Tryz.func76, Tryz.ntmps76
  go_wp2_with fail
  go_loopw [12] (fun i wr => ∃ j : Nat, i = .int .i64 j ∧ j ≤ l.length ∧ Ext none' w wr ∧ w.heap.size < wr.heap.size ∧ MapAt encKey (fun b : Bool => .bool b) wr w.heap.size (seenMap ((l.take j).map Drop.key)) ∧
      apart Drop.key (dropOk most) [] l = apart Drop.key (dropOk most) ((l.take j).map Drop.key) (l.drop j)) (fun i _ => l.length - (intOf i).toNat)
  case atStart =>
    exact ⟨0, rfl, by omega, (Ext.refl _ w).alloc _, by simp, MapAt.new _ _ _, rfl⟩
  case round =>
    obtain ⟨j, rfl, hj, hE, hsz, hM, hA⟩ := hrel
    by_cases hjl : j < l.length
    · obtain ⟨d, hd⟩ : ∃ d, l[j]? = some d := ⟨_, List.getElem?_eq_getElem hjl⟩
      obtain ⟨b, o, rfl, hb, hcell⟩ := hr (by intro e; rw [e] at hjl; simp at hjl)
      have hS : Same N w wr := hE.same0 hN
      have c0 : wr.cell? ⟨b, o + j * 3, none⟩ = some (.int .i64 d.script) := (hS.cell (a := ⟨b, _, none⟩) hb).trans (hcell j d hd 0 _ rfl)
      have c1 : wr.cell? ⟨b, o + j * 3 + 1, none⟩ = some (.string ⟨d.word.toArray⟩) := (hS.cell (a := ⟨b, _, none⟩) hb).trans (hcell j d hd 1 _ rfl)
      have c2 : wr.cell? ⟨b, o + j * 3 + 2, none⟩ = some (.int .i64 d.cost) := (hS.cell (a := ⟨b, _, none⟩) hb).trans (hcell j d hd 2 _ rfl)
      have hdg := hg d (List.mem_of_getElem? hd)
      have hdrop : l.drop j = d :: l.drop (j + 1) := by
        rw [List.drop_eq_getElem_cons hjl]
        rw [List.getElem?_eq_getElem hjl] at hd
        cases hd
        rfl
      have htake : l.take (j + 1) = l.take j ++ [d] := by rw [List.take_add_one, hd]; rfl
      have HA := Lib.hid hA
      have HD := Lib.hid hdrop
      have HK := Lib.hid htake
      have HC := Lib.hid hcell
      clear hA hdrop htake hcell hr
      have hT1 := hT.keep hS
      have hM2 : MapAt encKey (fun b : Bool => .bool b) ((wr.alloc (.cells #[.int .i64 d.script, .string ⟨d.word.toArray⟩, .int .i64 d.cost] 109)).alloc (.cells #[.int .i64 d.script, .string ⟨d.word.toArray⟩, .string ⟨#[]⟩] 142)) w.heap.size (seenMap ((l.take j).map Drop.key)) :=
        (((Ext.refl none' wr).alloc _).alloc _).map0 hM
      have hgood : ∀ e ∈ seenMap ((l.take j).map Drop.key), goodKey e.1 := by
        intro e he
        obtain ⟨k, hk, rfl⟩ := List.mem_map.1 he
        obtain ⟨x, hx, rfl⟩ := List.mem_map.1 hk
        exact (hg x (List.mem_of_mem_take hx)).key
      have hlk := hM2.lookup key_keys Tryz.underlying140 (zero_bool _) hgood hdg.key false
      rw [seen_get] at hlk
      simp only [encKey, encS, Drop.key, Bool.false_eq_true, if_false] at hlk
      have hk8 : d.key = ⟨d.script, d.word, []⟩ := rfl
      rw [← hk8] at hlk
      have hE2 := (((Ext.refl none' wr).alloc (.cells #[.int .i64 d.script, .string ⟨d.word.toArray⟩, .int .i64 d.cost] 109)).alloc (.cells #[.int .i64 d.script, .string ⟨d.word.toArray⟩, .string ⟨#[]⟩] 142))
      have happ : apart Drop.key (dropOk most) [] l = (!(((l.take j).map Drop.key).contains d.key) && dropOk most d && apart Drop.key (dropOk most) ((l.take j).map Drop.key ++ [d.key]) (l.drop (j + 1))) := by rw [HA.out, HD.out]; rfl
      cases hsb : ((l.take j).map Drop.key).contains d.key with
      | true =>
        rw [hsb] at hlk happ
        have hres : dropsOk l most = false := by rw [dropsOk, happ]; rfl
        have HR := Lib.hid hres
        clear hres happ hsb hM2
        go_wp2_with fail
        go_ret
        exact ⟨ret_bool HR.out.symm, hE.trans hE2⟩
      | false =>
        rw [hsb] at hlk happ
        cases hfb : folded d.script d.word most with
        | false =>
          have hres : dropsOk l most = false := by rw [dropsOk, happ, dropOk, hfb]; simp
          have HR := Lib.hid hres
          have HF := Lib.hid hfb
          clear hres happ hsb hM2 hfb
          go_wp2_with fail
          refine (folded_any N _ _ _ _ (by exact hdg.2) (Nat.le_trans (Nat.le_trans hN hE.size) hE2.size) (hT1.keep (hE2.same0 (Nat.le_trans hN hE.size)))).mono ?_
          rintro e w3 ⟨rfl, hE3⟩
          rw [show folded d.script (⟨d.word.toArray⟩ : ByteArray).data.toList most = false from HF.out]
          go_wp2_with fail
          go_ret
          exact ⟨ret_bool HR.out.symm, hE.trans (hE2.trans hE3)⟩
        | true =>
          cases hcb : isCost d.cost with
          | false =>
            have hres : dropsOk l most = false := by rw [dropsOk, happ, dropOk, hfb, hcb]; simp
            have HR := Lib.hid hres
            have HF := Lib.hid hfb
            have HC2 := Lib.hid hcb
            clear hres happ hsb hM2 hfb hcb
            have q : ∀ w3, Ext none' ((wr.alloc (.cells #[.int .i64 d.script, .string ⟨d.word.toArray⟩, .int .i64 d.cost] 109)).alloc (.cells #[.int .i64 d.script, .string ⟨d.word.toArray⟩, .string ⟨#[]⟩] 142)) w3 →
                w3.cell? ⟨wr.heap.size, 2, none⟩ = some (.int .i64 d.cost) ∧ w3.cell? ⟨wr.heap.size + 1, 0, none⟩ = some (.int .i64 d.script) ∧ w3.cell? ⟨wr.heap.size + 1, 1, none⟩ = some (.string ⟨d.word.toArray⟩) ∧ w3.cell? ⟨wr.heap.size + 1, 2, none⟩ = some (.string ⟨#[]⟩) := fun w3 h3 =>
              ⟨h3.cell0 (by go_simp) (by simp; omega), h3.cell0 (by go_simp) (by simp), h3.cell0 (by go_simp) (by simp), h3.cell0 (by go_simp) (by simp)⟩
            go_wp2_with fail
            refine (folded_any N _ _ _ _ (by exact hdg.2) (Nat.le_trans (Nat.le_trans hN hE.size) hE2.size) (hT1.keep (hE2.same0 (Nat.le_trans hN hE.size)))).mono ?_
            rintro e w3 ⟨rfl, hE3⟩
            rw [show folded d.script (⟨d.word.toArray⟩ : ByteArray).data.toList most = true from HF.out]
            obtain ⟨q0, q1, q2, q3⟩ := q w3 hE3
            go_wp2_with fail
            refine (isCost_any _ _).mono ?_
            rintro e w4 ⟨rfl, hw4⟩
            rw [hw4]
            rw [HC2.out]
            go_wp2_with fail
            go_ret
            exact ⟨ret_bool HR.out.symm, hE.trans (hE2.trans hE3)⟩
          | true =>
            have hA2 : apart Drop.key (dropOk most) [] l = apart Drop.key (dropOk most) ((l.take (j + 1)).map Drop.key) (l.drop (j + 1)) := by
              rw [happ, HK.out, List.map_append, dropOk, hfb, hcb]; simp
            have HA2 := Lib.hid hA2
            have HF := Lib.hid hfb
            have HC2 := Lib.hid hcb
            have HSB := Lib.hid hsb
            clear happ hsb hfb hcb hA2
            have q : ∀ w3, Ext none' ((wr.alloc (.cells #[.int .i64 d.script, .string ⟨d.word.toArray⟩, .int .i64 d.cost] 109)).alloc (.cells #[.int .i64 d.script, .string ⟨d.word.toArray⟩, .string ⟨#[]⟩] 142)) w3 →
                w3.cell? ⟨wr.heap.size, 2, none⟩ = some (.int .i64 d.cost) ∧ w3.cell? ⟨wr.heap.size + 1, 0, none⟩ = some (.int .i64 d.script) ∧ w3.cell? ⟨wr.heap.size + 1, 1, none⟩ = some (.string ⟨d.word.toArray⟩) ∧ w3.cell? ⟨wr.heap.size + 1, 2, none⟩ = some (.string ⟨#[]⟩) := fun w3 h3 =>
              ⟨h3.cell0 (by go_simp) (by simp; omega), h3.cell0 (by go_simp) (by simp), h3.cell0 (by go_simp) (by simp), h3.cell0 (by go_simp) (by simp)⟩
            go_wp2_with fail
            refine (folded_any N _ _ _ _ (by exact hdg.2) (Nat.le_trans (Nat.le_trans hN hE.size) hE2.size) (hT1.keep (hE2.same0 (Nat.le_trans hN hE.size)))).mono ?_
            rintro e w3 ⟨rfl, hE3⟩
            rw [show folded d.script (⟨d.word.toArray⟩ : ByteArray).data.toList most = true from HF.out]
            obtain ⟨q0, q1, q2, q3⟩ := q w3 hE3
            go_wp2_with fail
            refine (isCost_any _ _).mono ?_
            rintro e w4 ⟨rfl, hw4⟩
            rw [hw4]
            rw [HC2.out]
            have hM3 := hE3.map0 hM2
            have hup := hM3.update key_keys Tryz.underlying140 hgood hdg.key true
            have hM4 := hM3.put d.key true
            rw [seen_put _ _ HSB.out, ← show (l.take (j + 1)).map Drop.key = (l.take j).map Drop.key ++ [d.key] by rw [HK.out, List.map_append]; rfl] at hup hM4
            simp only [encKey, encS, hk8] at hup
            have hEp : Ext none' w (w3.putObj w.heap.size (mobj encKey (fun b : Bool => .bool b) (seenMap ((l.take (j + 1)).map Drop.key)))) := (hE.trans (hE2.trans hE3)).putObj _ _ (.inl (Nat.le_refl _))
            have hs3 := hE3.size
            simp only [World.size_alloc] at hs3
            clear hlk hM2 hM3 hM
            rw [List.map_take] at hup hM4 hEp
            go_wp2_with fail
            refine ⟨⟨j + 1, rfl, by omega, hEp, by simp; omega, by rw [List.map_take]; exact hM4, HA2.out⟩, ?_⟩
            simp only [intOf]
            omega
    · obtain rfl : j = l.length := by omega
      have hres : dropsOk l most = decide (l.length ≤ 40) := by rw [dropsOk, hA, List.drop_length]; simp [apart]
      have HR := Lib.hid hres
      clear hA hres hM hr
      go_wp2_with fail
      go_ret
      refine ⟨ret_bool ?_, hE⟩
      rw [HR.out, Bool.eq_iff_iff]
      simp
      omega
end Go.Proofs.Kb
