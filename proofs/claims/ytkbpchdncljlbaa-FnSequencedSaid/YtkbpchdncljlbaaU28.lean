/- Contracts of the reference's list without blanks at its end, of its symbol under a head, and of its rule for a configuration with several tapes.
Contract of the reference's rule for a configuration with several tapes of a valid machine. -/
import Derived.Test.YtkbpchdncljlbaaU25
import Derived.Test.YtkbpchdncljlbaaU15
import Derived.Test.YtkbpchdncljlbaaU24
import Derived.Test.YtkbpchdncljlbaaU23
import Derived.Test.YtkbpchdncljlbaaU09
import Derived.Test.YtkbpchdncljlbaaU07
import Derived.Test.YtkbpchdncljlbaaU06
section
set_option linter.unusedVariables false
set_option linter.unusedSimpArgs false
namespace Go.Proofs.Ytkbpchdncljlbaa
open Go Go.RowKit Go.Proofs
set_option maxHeartbeats 400000
theorem l02Trim_c (v : Value) (xs : List Int) (w : World) (h : Ints w v xs) (hn : xs.length ≤ 1048576) :
    Calls Try.prog 94 #[v] w fun e w' => (∃ A c, v = .slice A xs.length c ∧ e = .returned (.slice A (trimN xs xs.length) c)) ∧ w = w' := by
  have hI := h
  obtain ⟨A, c, rfl, h2, h2'⟩ := h.form
  go_enter Try.func94, Try.ntmps94
  go_wp2
  go_loopw [3] (fun i wr => ∃ n : Nat, n ≤ xs.length ∧ i = .int .i64 n ∧ wr = w ∧ Hid (trimN xs xs.length = trimN xs n)) (fun i _ => (intOf i).toNat)
  case atStart => exact ⟨_, Nat.le_refl _, rfl, rfl, rfl⟩
  case round =>
    obtain ⟨n, hn', rfl, rfl, HT⟩ := hrel
    by_cases h0 : n = 0
    · subst h0
      have HR : Hid (trimN xs xs.length = 0) := by unfold Hid; rw [HT.out]; rfl
      have i1 : (0 : Int) ≤ (c : Int) := by omega
      go_wp2_with fail
      go_ret
      exact ⟨⟨A, c, rfl, by rw [HR.out]; rfl⟩, by first | rfl | trivial⟩
    · obtain ⟨k, rfl⟩ : ∃ k, n = k + 1 := ⟨n - 1, by omega⟩
      obtain ⟨b, off, rfl, hc⟩ := h.at (k := k) (by omega)
      have c0 := hc k (by omega)
      have eg : xs.getD k 0 = xs[k] := by rw [List.getD_eq_getElem?_getD, List.getElem?_eq_getElem (by omega)]; rfl
      have HEG := Lib.hid eg
      have hk0 : (0 : Int) < (k : Int) + 1 := by omega
      have hk1 : (k : Int) + 1 - 1 = (k : Int) := by omega
      clear hc eg
      by_cases hz : xs[k] = 0
      · have HZ := Lib.hid hz
        rw [hz] at c0
        clear hz
        go_wp2
        go_roundw
        case rel => exact ⟨k, by omega, by go_num, by first | rfl | trivial, Lib.hid (by rw [HT.out]; show (if xs.getD k 0 = 0 then _ else _) = _; rw [if_pos (by rw [HEG.out, HZ.out])])⟩
        case measure => simp [intOf]
      · have HR : Hid (trimN xs xs.length = k + 1) := Lib.hid (by rw [HT.out]; show (if xs.getD k 0 = 0 then _ else _) = _; rw [if_neg (by rw [HEG.out]; exact hz)])
        have Z : (xs[k] == 0) = false := beq_eq_false_iff_ne.2 hz
        have i1 : (k : Int) + 1 ≤ (c : Int) := by omega
        have i2 : (0 : Int) ≤ (k : Int) + 1 := by omega
        generalize xs[k] = z at *
        go_wp2_with fail
        go_ret
        exact ⟨⟨_, c, rfl, by rw [HR.out]; rfl⟩, by first | rfl | trivial⟩
theorem l06Trim_c (v : Value) (xs : List Int) (w : World) (h : Ints w v xs) (hn : xs.length ≤ 1048576) :
    Calls Try.prog 76 #[v] w fun e w' => ∃ u, e = .returned u ∧ OwnInts w.heap.size w' u (trim xs) ∧ Ext w w' := by
  have LT := l02Trim_c v xs w h hn
  obtain ⟨A, c, rfl, _, _⟩ := id h.form
  go_enter Try.func76, Try.ntmps76
  go_wp2_with fail
  refine LT.mono ?_
  rintro e _ ⟨⟨A', c', e', rfl⟩, rfl⟩
  injection e' with e1 _ e3
  subst e1 e3
  have hl : (trim xs).length ≤ 1048576 := by have := trim_len xs; omega
  have ht : Ints w (.slice A (trimN xs xs.length) c) (trim xs) := h.take _ (trimN_le _ _)
  have LO := l00OwnA_c _ _ w ht hl
  generalize trimN xs xs.length = n at *
  clear LT
  go_wp2_with fail
  refine LO.mono ?_
  rintro e w2 ⟨u, rfl, ho, hx⟩
  obtain ⟨Au, cu, rfl, _, _⟩ := id ho.ints.form
  generalize (trim xs).length = m at *
  go_wp2_with fail
  go_ret
  exact ⟨_, rfl, ho, hx⟩
/-- A tape behind a pointer. -/
def TapP (w : World) (b o : Nat) (t : TapeD) : Prop := ∃ lv rv, w.cell? ⟨b, o, none⟩ = some lv ∧ w.cell? ⟨b, o + 1, none⟩ = some rv ∧ Ints w lv t.l ∧ Ints w rv t.r
theorem TapP.ext {w w' : World} {b o : Nat} {t : TapeD} (h : TapP w b o t) (he : Ext w w') : TapP w' b o t := by
  obtain ⟨lv, rv, a, c, d, e⟩ := h
  exact ⟨lv, rv, he.cell a, he.cell c, d.ext he, e.ext he⟩
theorem l06Head_c (b o : Nat) (t : TapeD) (w : World) (h : TapP w b o t) : Calls Try.prog 96 #[.pointer (some ⟨b, o, none⟩)] w fun e w' => e = .returned (.int .i64 (headT t)) ∧ w = w' := by
  obtain ⟨lv, rv, c0, c1, il, ir⟩ := h
  obtain ⟨A, c, rfl, _, _⟩ := ir.form
  by_cases h0 : t.r.length = 0
  · have HZ : Hid (headT t = 0) := by unfold Hid headT; rw [List.getD_eq_getElem?_getD, List.getElem?_eq_none (by omega)]; rfl
    have hb : ((t.r.length : Int) == 0) = true := by simp [h0]
    rw [HZ.out]
    go_enter Try.func96, Try.ntmps96
    go_wp2_with fail
    go_ret
    exact ⟨rfl, rfl⟩
  · have hp : 0 < t.r.length := by omega
    obtain ⟨b2, o2, rfl, hc⟩ := ir.at hp
    have x0 := hc 0 hp
    rw [Nat.add_zero] at x0
    have HZ : Hid (headT t = t.r[0]) := by unfold Hid headT; rw [List.getD_eq_getElem?_getD, List.getElem?_eq_getElem hp]; rfl
    have hb : ((t.r.length : Int) == 0) = false := by simp [h0]
    rw [HZ.out]
    generalize t.r[0] = z at *
    clear hc
    go_enter Try.func96, Try.ntmps96
    go_wp2_with fail
    go_ret
    exact ⟨rfl, rfl⟩
/-- A rule for a state and a list. -/
def isRul (q : Int) (xs : List Int) (r : MRuleD) : Prop := r.st = q ∧ r.rd = xs
set_option maxRecDepth 20000 in
set_option maxHeartbeats 1000000 in
theorem l06RuleOf_c (bm : Nat) (m : MultiD) (rv v : Value) (q : Int) (xs : List Int) (w : World) (hb : Blk w bm 29 #[.int .i64 m.tp, .int .i64 m.sy, .int .i64 m.st, rv]) (hr : MRules w rv m.rules) (hx : Ints w v xs) :
    Calls Try.prog 74 #[.pointer (some ⟨bm, 0, none⟩), .int .i64 q, v] w fun e w' => ∃ z : Int, e = .returned (.int .i64 z) ∧
      ((∃ k : Nat, k < m.rules.length ∧ z = (k : Int) ∧ isRul q xs (m.rules.getD k mr0)) ∨ (z = -1 ∧ ∀ j, j < m.rules.length → ¬ isRul q xs (m.rules.getD j mr0))) ∧ Ext w w' := by
  obtain ⟨A, c, rfl, hc1, hc2⟩ := hr.form
  have m3 := hb.cell 3
  simp only [List.getElem?_toArray, List.getElem?_cons_zero, List.getElem?_cons_succ] at m3
  obtain ⟨B, d, rfl, _, _⟩ := id hx.form
  go_enter Try.func74, Try.ntmps74
  go_wp2_with fail
  go_loopw [7] (fun i wr => ∃ k : Nat, k ≤ m.rules.length ∧ i = .int .i64 (k : Int) ∧ Ext w wr ∧ Hid (∀ j, j < k → ¬ isRul q xs (m.rules.getD j mr0))) (fun i _ => m.rules.length - (intOf i).toNat)
  case atStart => exact ⟨0, Nat.zero_le _, rfl, Ext.refl _, Lib.hid fun j hj => by omega⟩
  case round =>
    obtain ⟨k, hk, rfl, hxw, HNO⟩ := hrel
    have e3 := hxw.cell m3
    by_cases hlt : k < m.rules.length
    · obtain ⟨b, off, vr, vw, vm, rfl, c0, c1, c2, c3, c4, j1, j2, j3⟩ := (hr.ext hxw).at hlt
      have hgd : m.rules.getD k mr0 = m.rules[k] := by rw [List.getD_eq_getElem?_getD, List.getElem?_eq_getElem hlt]; rfl
      have HGD := Lib.hid hgd
      obtain ⟨r, hrk⟩ : ∃ r, m.rules[k] = r := ⟨_, rfl⟩
      rw [hrk] at c0 c4 j1 HGD
      obtain ⟨A1, k1, rfl, _, _⟩ := id j1.form
      have LS := l00Same_c wr (.slice A1 r.rd.length k1) (.slice B xs.length d) r.rd xs j1 (hx.ext hxw)
      have HNEXT : Hid (¬ isRul q xs r → ∀ j, j < k + 1 → ¬ isRul q xs (m.rules.getD j mr0)) := Lib.hid fun hn j hj => by
        by_cases e : j = k
        · subst e; rw [HGD.out]; exact hn
        · exact HNO.out j (by omega)
      have HFIND : Hid (isRul q xs r → isRul q xs (m.rules.getD k mr0)) := Lib.hid fun hh => by rw [HGD.out]; exact hh
      clear hgd hrk j1 j2 j3 c2 c3
      by_cases h1 : r.st = q
      · have hb1 : (r.st == q) = true := by simp [h1]
        by_cases h2 : r.rd = xs
        · have HF := Lib.hid (HFIND.out ⟨h1, h2⟩)
          rw [lEq_true h2] at LS
          clear h1 h2 HNEXT HFIND
          generalize r.rd.length = l1 at *
          go_wp2_with fail
          refine LS.mono ?_
          rintro e w2 ⟨rfl, hx2⟩
          have hX2 := hxw.trans hx2
          clear LS hx2
          go_wp2_with fail
          go_ret
          exact ⟨_, rfl, .inl ⟨k, hlt, rfl, HF.out⟩, hX2⟩
        · have HF := Lib.hid (HNEXT.out (fun hh => h2 hh.2))
          rw [lEq_false h2] at LS
          clear h1 h2 HNEXT HFIND
          generalize r.rd.length = l1 at *
          go_wp2_with fail
          refine LS.mono ?_
          rintro e w2 ⟨rfl, hx2⟩
          have hX2 := hxw.trans hx2
          clear LS hx2
          go_wp2_with fail
          go_roundw
          case rel => exact ⟨k + 1, by omega, by go_num, hX2, HF.out⟩
          case measure => simp [intOf]; omega
      · have hb1 : (r.st == q) = false := by simp [h1]
        have HF := Lib.hid (HNEXT.out (fun hh => h1 hh.1))
        clear h1 HNEXT HFIND LS
        go_wp2_with fail
        go_roundw
        case rel => exact ⟨k + 1, by omega, by go_num, hxw, HF.out⟩
        case measure => simp [intOf]; omega
    · obtain rfl : k = m.rules.length := by omega
      go_wp2_with fail
      go_ret
      exact ⟨_, rfl, .inr ⟨rfl, HNO.out⟩, hxw⟩
end Go.Proofs.Ytkbpchdncljlbaa
end
section
set_option linter.unusedVariables false
set_option linter.unusedSimpArgs false
namespace Go.Proofs.Ytkbpchdncljlbaa
open Go Go.RowKit Go.Proofs
set_option maxHeartbeats 400000
theorem getD_get {rs : List MRuleD} {i : Nat} (h : i < rs.length) : rs.getD i mr0 = rs[i] := by rw [List.getD_eq_getElem?_getD, List.getElem?_eq_getElem h]; rfl
theorem strict_all {m : MultiD} (hm : multiOk m = true) : ∀ j i, i < j → j < m.rules.length → cmpM (m.rules.getD i mr0) (m.rules.getD j mr0) < 0
  | 0, i, h, _ => by omega
  | j + 1, i, h, hj => by
    have hs := (multi_all hm).2.2.2.2 (j + 1) hj
    simp only [mstepOk, Bool.and_eq_true, Bool.or_eq_true, decide_eq_true_eq, Nat.add_sub_cancel] at hs
    have h1 : cmpM (m.rules.getD j mr0) (m.rules.getD (j + 1) mr0) < 0 := by
      rcases hs.2 with e | e
      · omega
      · exact e
    by_cases e : i = j
    · rw [e]; exact h1
    · have h2 := strict_all hm j i (by omega) (by omega)
      have sw := cmpM_swo (fun k => m.rules.getD k mr0)
      have := sw.trans i j (j + 1) (by simpa [ltOf] using h2) (by simpa [ltOf] using h1)
      simpa [ltOf] using this
theorem findM_some {rs : List MRuleD} {x : KeyM} : ∀ {n i : Nat}, findM rs x n = some i → i < n ∧ key3 (rs.getD i mr0).st (rs.getD i mr0).rd = x
  | 0, i, h => by simp [findM] at h
  | n + 1, i, h => by
    unfold findM at h
    split at h
    · rename_i e
      injection h with h
      subst h
      exact ⟨by omega, e⟩
    · have := findM_some h
      exact ⟨by omega, this.2⟩
theorem findM_none {rs : List MRuleD} {x : KeyM} : ∀ {n : Nat}, findM rs x n = none → ∀ i, i < n → key3 (rs.getD i mr0).st (rs.getD i mr0).rd ≠ x
  | 0, h, i, hi => by omega
  | n + 1, h, i, hi => by
    unfold findM at h
    split at h
    · cases h
    · rename_i e
      by_cases e2 : i = n
      · rw [e2]; exact e
      · exact findM_none h i (by omega)
theorem key3_inj {q p : Int} {xs ys : List Int} (hl : xs.length = ys.length) (h3 : xs.length ≤ 3) (h : key3 q xs = key3 p ys) : q = p ∧ xs = ys := by
  match xs, ys, hl, h3 with
  | [], [], _, _ => exact ⟨by simpa [key3] using h, rfl⟩
  | [a], [b], _, _ => simp [key3] at h; exact ⟨h.1, by rw [h.2]⟩
  | [a, a'], [b, b'], _, _ => simp [key3] at h; exact ⟨h.1, by rw [h.2.1, h.2.2]⟩
  | [a, a', a''], [b, b', b''], _, _ => simp [key3] at h; exact ⟨h.1, by rw [h.2.1, h.2.2.1, h.2.2.2]⟩
  | _ :: _ :: _ :: _ :: l, _, _, h3 => simp at h3
/-- The index of a rule that is found, or -1. -/
def ixOf : Option Nat → Int
  | some k => (k : Int)
  | none => -1
theorem look_ix {m : MultiD} {c : MConfD} {z : Int} (hm : multiOk m = true) (hn : (c.tapes.length : Int) = m.tp)
    (h : (∃ k : Nat, k < m.rules.length ∧ z = (k : Int) ∧ isRul c.q (c.tapes.map headT) (m.rules.getD k mr0)) ∨ (z = -1 ∧ ∀ j, j < m.rules.length → ¬ isRul c.q (c.tapes.map headT) (m.rules.getD j mr0))) : z = ixOf (lookM m.rules c) := by
  obtain ⟨⟨t1, t2⟩, _⟩ := multi_all hm
  have hrd : ∀ i, i < m.rules.length → (m.rules.getD i mr0).rd.length = (c.tapes.map headT).length ∧ (m.rules.getD i mr0).rd.length ≤ 3 := fun i hi => by
    have := (mrule_all (multi_rule hm hi)).2.2.1
    rw [getD_get hi, List.length_map]
    omega
  have hk : ∀ i, i < m.rules.length → key3 (m.rules.getD i mr0).st (m.rules.getD i mr0).rd = readM c → isRul c.q (c.tapes.map headT) (m.rules.getD i mr0) := fun i hi e => by
    obtain ⟨a, b⟩ := hrd i hi
    exact key3_inj a b e
  have hu : ∀ i j, i < j → j < m.rules.length → isRul c.q (c.tapes.map headT) (m.rules.getD i mr0) → ¬ isRul c.q (c.tapes.map headT) (m.rules.getD j mr0) := fun i j hij hj h1 h2 => by
    have := strict_all hm j i hij hj
    rw [cmpM, if_pos (h1.1.trans h2.1.symm), h1.2, h2.2, cmpL_self] at this
    omega
  cases hl : lookM m.rules c with
  | some i =>
    obtain ⟨hi, he⟩ := findM_some hl
    have hr := hk i hi he
    rcases h with ⟨k, hk1, rfl, hk2⟩ | ⟨_, hno⟩
    · rcases Nat.lt_trichotomy i k with e | e | e
      · exact absurd hk2 (hu i k e hk1 hr)
      · rw [e]; rfl
      · exact absurd hr (hu k i e hi hk2)
    · exact absurd hr (hno i hi)
  | none =>
    rcases h with ⟨k, hk1, rfl, hk2⟩ | ⟨rfl, _⟩
    · exact absurd (show key3 _ _ = readM c by rw [hk2.1, hk2.2, readM]) (findM_none hl k hk1)
    · rfl
theorem intInfoS : (Try.prog.info? 2).map (fun i => (i.zero, i.size, i.bytes)) = some (some (.int .i64 0), 1, 8) := by kernel_rfl
set_option maxRecDepth 20000 in
set_option maxHeartbeats 1000000 in
theorem l06Rule_c (bm bc : Nat) (m : MultiD) (c : MConfD) (rv tv : Value) (w : World) (hm : multiOk m = true) (hn : (c.tapes.length : Int) = m.tp) (hb : Blk w bm 29 #[.int .i64 m.tp, .int .i64 m.sy, .int .i64 m.st, rv]) (hr : MRules w rv m.rules)
    (q0 : w.cell? ⟨bc, 0, none⟩ = some (.int .i64 c.q)) (q1 : w.cell? ⟨bc, 1, none⟩ = some tv) (hT : Tapes w tv c.tapes) :
    Calls Try.prog 82 #[.pointer (some ⟨bm, 0, none⟩), .pointer (some ⟨bc, 0, none⟩)] w fun e w' => e = .returned (.int .i64 (ixOf (lookM m.rules c))) ∧ Ext w w' := by
  obtain ⟨i0, hi0, hz0, hz1, hz2⟩ := info_parts intInfoS
  obtain ⟨⟨t1, t2⟩, _⟩ := multi_all hm
  obtain ⟨A, ct, rfl, ht1, ht2⟩ := hT.form
  obtain ⟨W, hW⟩ : ∃ W, W = w.alloc (.cells #[] 2) := ⟨_, rfl⟩
  have hX : Ext w W := by rw [hW]; exact Ext.alloc _ _
  have st0 : OwnInts w.heap.size W (.slice (some ⟨w.heap.size, 0, none⟩) 0 0) ((c.tapes.take 0).map headT) :=
    ⟨by simp [ivs], .inr ⟨w.heap.size, 0, #[], rfl, Nat.le_refl _, by rw [hW]; exact heap_alloc_new w _, by simp, by unfold maxLen; omega, rfl, by simp [ivs]⟩⟩
  have HN : Hid ((c.tapes.length : Int) = m.tp) := hn
  have h3 : c.tapes.length ≤ 3 := by omega
  have HM := Lib.hid hm
  clear hn
  go_enter Try.func82, Try.ntmps82
  go_wp2_with fail
  try rw [← hW]
  clear hW
  go_loopw [5, 6] (fun u i wr => ∃ k : Nat, k ≤ c.tapes.length ∧ i = .int .i64 (k : Int) ∧ OwnInts w.heap.size wr u ((c.tapes.take k).map headT) ∧ Ext w wr) (fun _ i _ => c.tapes.length - (intOf i).toNat)
  case atStart => exact ⟨0, Nat.zero_le _, rfl, st0, hX⟩
  case round =>
    clear st0 hX
    obtain ⟨k, hk, rfl, st, hx⟩ := hrel
    have e1 := hx.cell q1
    have e0 := hx.cell q0
    obtain ⟨Au, cu, rfl, _, _⟩ := st.ints.form
    have hlk : ((c.tapes.take k).map headT).length = k := by simp; omega
    obtain ⟨hs, hhs⟩ : ∃ hs, (c.tapes.take k).map headT = hs := ⟨_, rfl⟩
    rw [hhs] at hlk st
    rw [hhs]
    by_cases hlt : k < c.tapes.length
    · obtain ⟨b, off, vl, vr, rfl, c0, c1, i1, i2⟩ := (hT.ext hx).at hlt
      have HSN : Hid ((c.tapes.take (k + 1)).map headT = hs ++ [headT c.tapes[k]]) := by
        unfold Hid
        rw [List.take_succ_eq_append_getElem hlt, List.map_append, hhs]
        rfl
      have LH := l06Head_c b (off + k * 2) c.tapes[k] wr ⟨_, _, c0, c1, i1, i2⟩
      obtain ⟨y, hy⟩ : ∃ y, headT c.tapes[k] = y := ⟨_, rfl⟩
      rw [hy] at HSN LH
      rw [hlk] at st
      have ho1 : wr.ownsRow w.heap.size 2 1 (.slice Au k cu) k (ivs hs) := by
        have := st
        unfold OwnInts at this
        rwa [hlk] at this
      have ho' := ho1.alloc (.cells #[.int .i64 y] 2)
      have hxa := hx.trans (Ext.alloc wr (.cells #[.int .i64 y] 2))
      have hsz := hx.size
      have HLK := Lib.hid hlk
      rw [hlk]
      clear c0 c1 i1 i2 hy st hhs hlk
      go_wp2_with fail
      refine LH.mono ?_
      rintro e _ ⟨rfl, rfl⟩
      clear LH
      go_wp2_with (at_builtin; refine wpList_append_own_at _ rfl _ _ 24 rfl w.heap.size 2 i0 (.int .i64 0) 1 8 Try.underlying24 hi0 hz0 hz1 hz2 rfl (by decide) _ _ _ rfl ho' ⟨wr.heap.size, 0, none⟩ 1 1 [.int .i64 y] rfl rfl (cell_one_new _ _ _) ?c2 ?c3 ?c4 ?c5 ?_)
      case c2 => intro u hu; simp at hu; subst hu; rfl
      case c3 => unfold maxLen; omega
      case c4 => omega
      case c5 => simp; omega
      intro v' w4 hown4 hg4 _ hloc
      obtain ⟨A', c', rfl, _, _, _⟩ := (ownsRow_row hown4).form
      have HS : Hid (OwnInts w.heap.size w4 (.slice A' (k + 1) c') ((c.tapes.take (k + 1)).map headT)) := by
        unfold Hid
        rw [HSN.out]
        unfold OwnInts
        have : (hs ++ [y]).length = k + 1 := by simp [HLK.out]
        rw [this]
        simpa [ivs_append, ivs] using hown4
      have HX := Lib.hid (hxa.grown hg4 (fun q hq => (ho1.lt q hq).1))
      clear ho' ho1 hown4 hg4 hxa hx
      go_wp2_with fail
      go_roundw
      case rel => exact ⟨k + 1, by omega, by go_num, HS.out, HX.out⟩
      case measure => simp [intOf]; omega
    · obtain rfl : k = c.tapes.length := by omega
      rw [List.take_length] at hhs
      have HHS := Lib.hid hhs
      have RO := l06RuleOf_c bm m rv (.slice Au hs.length cu) c.q hs wr (hb.ext hx) (hr.ext hx) st.ints
      clear st hhs hlk
      go_wp2_with fail
      refine RO.mono ?_
      rintro e w3 ⟨z, rfl, hz, hx3⟩
      have HZ : Hid (z = ixOf (lookM m.rules c)) := Lib.hid (look_ix HM.out HN.out (by rw [HHS.out]; exact hz))
      have HX := Lib.hid (hx.trans hx3)
      clear hz hx hx3 RO
      go_wp2_with fail
      go_ret
      exact ⟨by rw [← HZ.out]; rfl, HX.out⟩
end Go.Proofs.Ytkbpchdncljlbaa
end
