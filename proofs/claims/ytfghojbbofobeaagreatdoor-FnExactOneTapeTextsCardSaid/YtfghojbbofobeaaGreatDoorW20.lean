/- Contracts of the program's rules of two tapes, of the rules that copy, and of the copier.
Contracts of the reference's list without blanks at its end, of its symbol under a head, and of its rule for a configuration with several tapes.
Contract of the reference's rule for a configuration with several tapes of a valid machine. -/
import Derived.Test.YtfghojbbofobeaaGreatDoorW16
import Derived.Test.YtfghojbbofobeaaGreatDoorW19
import Derived.Test.YtfghojbbofobeaaGreatDoorW13
import Derived.Test.YtfghojbbofobeaaGreatDoorW15
import Derived.Test.YtfghojbbofobeaaGreatDoorW08
import Derived.Test.YtfghojbbofobeaaGreatDoorW07
import Derived.Test.YtfghojbbofobeaaGreatDoorW04
section
set_option linter.unusedVariables false
set_option linter.unusedSimpArgs false
namespace Go.Proofs.YtfghojbbofobeaaGreatDoor
open Go Go.RowKit Go.Proofs Go.Maps
set_option maxHeartbeats 400000
/-- The cells of rules, whose lists are a row's own. -/
def MCells (base : Nat) (w : World) (cl : List Value) (rs : List MRuleD) : Prop :=
  cl.length = rs.length * 5 ∧ ∀ i, (h : i < rs.length) → ∃ vr vw vm, cl[i * 5]? = some (.int .i64 rs[i].st) ∧ cl[i * 5 + 1]? = some vr ∧ cl[i * 5 + 2]? = some vw ∧ cl[i * 5 + 3]? = some vm ∧ cl[i * 5 + 4]? = some (.int .i64 rs[i].nx) ∧
    OwnInts base w vr rs[i].rd ∧ OwnInts base w vw rs[i].wr ∧ OwnInts base w vm rs[i].mv
def mcell (r : MRuleD) (vr vw vm : Value) : List Value := [.int .i64 r.st, vr, vw, vm, .int .i64 r.nx]
theorem MCells.nil (base : Nat) (w : World) : MCells base w [] [] := ⟨rfl, fun i h => by simp at h⟩
theorem MCells.one {base : Nat} {w : World} {r : MRuleD} {vr vw vm : Value} (h1 : OwnInts base w vr r.rd) (h2 : OwnInts base w vw r.wr) (h3 : OwnInts base w vm r.mv) : MCells base w (mcell r vr vw vm) [r] :=
  ⟨rfl, fun i h => by
    obtain rfl : i = 0 := by simp at h; omega
    exact ⟨vr, vw, vm, rfl, rfl, rfl, rfl, rfl, h1, h2, h3⟩⟩
theorem MCells.append {base : Nat} {w : World} {cl cl' : List Value} {rs rs' : List MRuleD} (h : MCells base w cl rs) (h' : MCells base w cl' rs') : MCells base w (cl ++ cl') (rs ++ rs') := by
  obtain ⟨a, b⟩ := h
  obtain ⟨a', b'⟩ := h'
  refine ⟨by simp [a, a']; omega, fun i hi => ?_⟩
  by_cases hlt : i < rs.length
  · obtain ⟨vr, vw, vm, c0, c1, c2, c3, c4, o⟩ := b i hlt
    refine ⟨vr, vw, vm, ?_, ?_, ?_, ?_, ?_, ?_⟩
    · rw [List.getElem?_append_left (by omega), c0, List.getElem_append_left hlt]
    · rw [List.getElem?_append_left (by omega), c1]
    · rw [List.getElem?_append_left (by omega), c2]
    · rw [List.getElem?_append_left (by omega), c3]
    · rw [List.getElem?_append_left (by omega), c4, List.getElem_append_left hlt]
    · rw [List.getElem_append_left hlt]; exact o
  · have hi' : i - rs.length < rs'.length := by simp at hi; omega
    obtain ⟨vr, vw, vm, c0, c1, c2, c3, c4, o⟩ := b' (i - rs.length) hi'
    have e : ∀ k, i * 5 + k - cl.length = (i - rs.length) * 5 + k := fun k => by omega
    have e0 : i * 5 - cl.length = (i - rs.length) * 5 := by omega
    refine ⟨vr, vw, vm, ?_, ?_, ?_, ?_, ?_, ?_⟩
    · rw [List.getElem?_append_right (by omega), e0, c0, List.getElem_append_right (by omega)]
    · rw [List.getElem?_append_right (by omega), e, c1]
    · rw [List.getElem?_append_right (by omega), e, c2]
    · rw [List.getElem?_append_right (by omega), e, c3]
    · rw [List.getElem?_append_right (by omega), e, c4, List.getElem_append_right (by omega)]
    · rw [List.getElem_append_right (by omega)]; exact o
theorem MCells.ext {base : Nat} {w w' : World} {cl : List Value} {rs : List MRuleD} (h : MCells base w cl rs) (he : Ext w w') : MCells base w' cl rs :=
  ⟨h.1, fun i hi => by
    obtain ⟨vr, vw, vm, c0, c1, c2, c3, c4, o1, o2, o3⟩ := h.2 i hi
    exact ⟨vr, vw, vm, c0, c1, c2, c3, c4, OwnInts.ext o1 he, OwnInts.ext o2 he, OwnInts.ext o3 he⟩⟩
theorem MCells.base {base base' : Nat} {w : World} {cl : List Value} {rs : List MRuleD} (h : MCells base w cl rs) (hb : base' ≤ base) : MCells base' w cl rs :=
  ⟨h.1, fun i hi => by
    obtain ⟨vr, vw, vm, c0, c1, c2, c3, c4, o1, o2, o3⟩ := h.2 i hi
    exact ⟨vr, vw, vm, c0, c1, c2, c3, c4, ownsRow_base o1 hb, ownsRow_base o2 hb, ownsRow_base o3 hb⟩⟩
/-- Behind a change of one block that holds no numbers. -/
theorem MCells.same {base : Nat} {w w' : World} {cl : List Value} {rs : List MRuleD} (h : MCells base w cl rs) (hs : ∀ g cs, Blk w g 2 cs → w'.heap[g]? = w.heap[g]?) : MCells base w' cl rs := by
  have hi : ∀ {u : Value} {zs : List Int}, OwnInts base w u zs → OwnInts base w' u zs := fun {u zs} o => own_same o (fun g hg => by
    rcases o.2 with ⟨rfl, _⟩ | ⟨g', cap, cur, rfl, _, hh, _⟩
    · simp [Value.ownBlock] at hg
    · simp [Value.ownBlock] at hg
      subst hg
      exact hs _ _ hh)
  refine ⟨h.1, fun i hi' => ?_⟩
  obtain ⟨vr, vw, vm, c0, c1, c2, c3, c4, o1, o2, o3⟩ := h.2 i hi'
  exact ⟨vr, vw, vm, c0, c1, c2, c3, c4, hi o1, hi o2, hi o3⟩
/-- Rules in a row of their own. -/
def OwnMR (base : Nat) (w : World) (v : Value) (rs : List MRuleD) : Prop := ∃ cl, w.ownsRow base 101 5 v rs.length cl ∧ MCells base w cl rs
theorem OwnMR.ext {base : Nat} {w w' : World} {v : Value} {rs : List MRuleD} (h : OwnMR base w v rs) (he : Ext w w') : OwnMR base w' v rs := by
  obtain ⟨cl, h1, h2⟩ := h
  exact ⟨cl, ownsRow_ext h1 he, h2.ext he⟩
theorem OwnMR.base {base base' : Nat} {w : World} {v : Value} {rs : List MRuleD} (h : OwnMR base w v rs) (hb : base' ≤ base) : OwnMR base' w v rs := by
  obtain ⟨cl, h1, h2⟩ := h
  exact ⟨cl, ownsRow_base h1 hb, h2.base hb⟩
theorem OwnMR.form {base : Nat} {w : World} {v : Value} {rs : List MRuleD} (h : OwnMR base w v rs) : ∃ A c, v = .slice A rs.length c ∧ rs.length ≤ c ∧ c ≤ 9223372036854775807 := by
  obtain ⟨cl, h1, h2⟩ := h
  obtain ⟨A, c, e, a, b, _⟩ := (ownsRow_row h1).form
  exact ⟨A, c, e, a, b⟩
theorem OwnMR.rules {base : Nat} {w : World} {v : Value} {rs : List MRuleD} (h : OwnMR base w v rs) : MRules w v rs := by
  obtain ⟨cl, h1, h2⟩ := h
  obtain ⟨A, c, rfl, a, b, hr⟩ := ownsRow_row h1
  refine ⟨A, c, rfl, a, b, fun hn => ?_⟩
  obtain ⟨g, off, rfl, hc⟩ := hr.2 hn
  refine ⟨g, off, rfl, fun i hi => ?_⟩
  obtain ⟨vr, vw, vm, c0, c1, c2, c3, c4, o1, o2, o3⟩ := h2.2 i hi
  have hl := h2.1
  exact ⟨vr, vw, vm, (hc _ (by omega)).trans c0, by rw [Nat.add_assoc]; exact (hc _ (by omega)).trans c1, by rw [Nat.add_assoc]; exact (hc _ (by omega)).trans c2, by rw [Nat.add_assoc]; exact (hc _ (by omega)).trans c3, by rw [Nat.add_assoc]; exact (hc _ (by omega)).trans c4, o1.ints, o2.ints, o3.ints⟩
theorem OwnMR.push {base : Nat} {w w' : World} {v v' : Value} {cl nl : List Value} {rs ns : List MRuleD} {n : Nat} (h1 : w.ownsRow base 101 5 v rs.length cl) (h2 : MCells base w cl rs) (h3 : MCells base w nl ns)
    (hn : n = rs.length + ns.length) (ho : w'.ownsRow base 101 5 v' n (cl ++ nl)) (hg : w.grownBy w' v.ownBlock) : OwnMR base w' v' (rs ++ ns) := by
  subst hn
  refine ⟨_, by simpa using ho, (h2.append h3).same fun g cs hb => hg.block g hb.lt (blk_ne_row hb h1 (by decide))⟩
theorem OwnMR.far {base : Nat} {w : World} {v : Value} {rs : List MRuleD} (h : OwnMR base w v rs) {g : Nat} {t : TypeId} {cs : Array Value} (hb : Blk w g t cs) (h1 : t ≠ 101) (h2 : t ≠ 2) (i : Nat) (u : Value) : OwnMR base (w.setCell ⟨g, i, none⟩ u) v rs := by
  obtain ⟨cl, ho, hc⟩ := h
  exact ⟨cl, own_kept ho (grownBy_setCell w ⟨g, i, none⟩ u) (blk_ne_row hb ho h1), hc.same fun q cs' hq => Below.heap_setCell w _ u q (by exact blk_ne hq hb (fun e => h2 e.symm))⟩
end Go.Proofs.YtfghojbbofobeaaGreatDoor
end
section
set_option linter.unusedVariables false
set_option linter.unusedSimpArgs false
namespace Go.Proofs.YtfghojbbofobeaaGreatDoor
open Go Go.RowKit Go.Proofs
set_option maxHeartbeats 400000
theorem l02Trim_c (v : Value) (xs : List Int) (w : World) (h : Ints w v xs) (hn : xs.length ≤ 1048576) :
    Calls Tryz.prog 120 #[v] w fun e w' => (∃ A c, v = .slice A xs.length c ∧ e = .returned (.slice A (trimN xs xs.length) c)) ∧ w = w' := by
  have hI := h
  obtain ⟨A, c, rfl, h2, h2'⟩ := h.form
  go_enter Tryz.func120, Tryz.ntmps120
  go_wp2
  go_loopw [3] (fun i wr => ∃ n : Nat, n ≤ xs.length ∧ i = .int .i64 n ∧ wr = w ∧ Hid (trimN xs xs.length = trimN xs n)) (fun i _ => (intOf i).toNat)
  case atStart => exact ⟨_, Nat.le_refl _, rfl, rfl, rfl⟩
  case round =>
    obtain ⟨n, hn', rfl, rfl, HT⟩ := hrel
    by_cases h0 : n = 0
    · subst h0
      have HR : Hid (trimN xs xs.length = 0) := by unfold Hid; rw [HT.out]; rfl
      have i1 : (0 : Int) ≤ (c : Int) := by omega
      go_wp2_with fail
      go_ret
      exact ⟨⟨A, c, rfl, by rw [HR.out]; rfl⟩, by first | rfl | trivial⟩
    · obtain ⟨k, rfl⟩ : ∃ k, n = k + 1 := ⟨n - 1, by omega⟩
      obtain ⟨b, off, rfl, hc⟩ := h.at (k := k) (by omega)
      have c0 := hc k (by omega)
      have eg : xs.getD k 0 = xs[k] := by rw [List.getD_eq_getElem?_getD, List.getElem?_eq_getElem (by omega)]; rfl
      have HEG := Lib.hid eg
      have hk0 : (0 : Int) < (k : Int) + 1 := by omega
      have hk1 : (k : Int) + 1 - 1 = (k : Int) := by omega
      clear hc eg
      by_cases hz : xs[k] = 0
      · have HZ := Lib.hid hz
        rw [hz] at c0
        clear hz
        go_wp2
        go_roundw
        case rel => exact ⟨k, by omega, by go_num, by first | rfl | trivial, Lib.hid (by rw [HT.out]; show (if xs.getD k 0 = 0 then _ else _) = _; rw [if_pos (by rw [HEG.out, HZ.out])])⟩
        case measure => simp [intOf]
      · have HR : Hid (trimN xs xs.length = k + 1) := Lib.hid (by rw [HT.out]; show (if xs.getD k 0 = 0 then _ else _) = _; rw [if_neg (by rw [HEG.out]; exact hz)])
        have Z : (xs[k] == 0) = false := beq_eq_false_iff_ne.2 hz
        have i1 : (k : Int) + 1 ≤ (c : Int) := by omega
        have i2 : (0 : Int) ≤ (k : Int) + 1 := by omega
        generalize xs[k] = z at *
        go_wp2_with fail
        go_ret
        exact ⟨⟨_, c, rfl, by rw [HR.out]; rfl⟩, by first | rfl | trivial⟩
theorem l06Trim_c (v : Value) (xs : List Int) (w : World) (h : Ints w v xs) (hn : xs.length ≤ 1048576) :
    Calls Tryz.prog 85 #[v] w fun e w' => ∃ u, e = .returned u ∧ OwnInts w.heap.size w' u (trim xs) ∧ Ext w w' := by
  have LT := l02Trim_c v xs w h hn
  obtain ⟨A, c, rfl, _, _⟩ := id h.form
  go_enter Tryz.func85, Tryz.ntmps85
  go_wp2_with fail
  refine LT.mono ?_
  rintro e _ ⟨⟨A', c', e', rfl⟩, rfl⟩
  injection e' with e1 _ e3
  subst e1 e3
  have hl : (trim xs).length ≤ 1048576 := by have := trim_len xs; omega
  have ht : Ints w (.slice A (trimN xs xs.length) c) (trim xs) := h.take _ (trimN_le _ _)
  have LO := l00OwnA_c _ _ w ht hl
  generalize trimN xs xs.length = n at *
  clear LT
  go_wp2_with fail
  refine LO.mono ?_
  rintro e w2 ⟨u, rfl, ho, hx⟩
  obtain ⟨Au, cu, rfl, _, _⟩ := id ho.ints.form
  generalize (trim xs).length = m at *
  go_wp2_with fail
  go_ret
  exact ⟨_, rfl, ho, hx⟩
/-- A tape behind a pointer. -/
def TapP (w : World) (b o : Nat) (t : TapeD) : Prop := ∃ lv rv, w.cell? ⟨b, o, none⟩ = some lv ∧ w.cell? ⟨b, o + 1, none⟩ = some rv ∧ Ints w lv t.l ∧ Ints w rv t.r
theorem TapP.ext {w w' : World} {b o : Nat} {t : TapeD} (h : TapP w b o t) (he : Ext w w') : TapP w' b o t := by
  obtain ⟨lv, rv, a, c, d, e⟩ := h
  exact ⟨lv, rv, he.cell a, he.cell c, d.ext he, e.ext he⟩
/-- A rule for a state and a list. -/
def isRul (q : Int) (xs : List Int) (r : MRuleD) : Prop := r.st = q ∧ r.rd = xs
set_option maxRecDepth 20000 in
set_option maxHeartbeats 1000000 in
theorem l06RuleOf_c (bm : Nat) (m : MultiD) (rv v : Value) (q : Int) (xs : List Int) (w : World) (hb : Blk w bm 33 #[.int .i64 m.tp, .int .i64 m.sy, .int .i64 m.st, rv]) (hr : MRules w rv m.rules) (hx : Ints w v xs) :
    Calls Tryz.prog 136 #[.pointer (some ⟨bm, 0, none⟩), .int .i64 q, v] w fun e w' => ∃ z : Int, e = .returned (.int .i64 z) ∧
      ((∃ k : Nat, k < m.rules.length ∧ z = (k : Int) ∧ isRul q xs (m.rules.getD k mr0)) ∨ (z = -1 ∧ ∀ j, j < m.rules.length → ¬ isRul q xs (m.rules.getD j mr0))) ∧ Ext w w' := by
  obtain ⟨A, c, rfl, hc1, hc2⟩ := hr.form
  have m3 := hb.cell 3
  simp only [List.getElem?_toArray, List.getElem?_cons_zero, List.getElem?_cons_succ] at m3
  obtain ⟨B, d, rfl, _, _⟩ := id hx.form
  go_enter Tryz.func136, Tryz.ntmps136
  go_wp2_with fail
  go_loopw [7] (fun i wr => ∃ k : Nat, k ≤ m.rules.length ∧ i = .int .i64 (k : Int) ∧ Ext w wr ∧ Hid (∀ j, j < k → ¬ isRul q xs (m.rules.getD j mr0))) (fun i _ => m.rules.length - (intOf i).toNat)
  case atStart => exact ⟨0, Nat.zero_le _, rfl, Ext.refl _, Lib.hid fun j hj => by omega⟩
  case round =>
    obtain ⟨k, hk, rfl, hxw, HNO⟩ := hrel
    have e3 := hxw.cell m3
    by_cases hlt : k < m.rules.length
    · obtain ⟨b, off, vr, vw, vm, rfl, c0, c1, c2, c3, c4, j1, j2, j3⟩ := (hr.ext hxw).at hlt
      have hgd : m.rules.getD k mr0 = m.rules[k] := by rw [List.getD_eq_getElem?_getD, List.getElem?_eq_getElem hlt]; rfl
      have HGD := Lib.hid hgd
      obtain ⟨r, hrk⟩ : ∃ r, m.rules[k] = r := ⟨_, rfl⟩
      rw [hrk] at c0 c4 j1 HGD
      obtain ⟨A1, k1, rfl, _, _⟩ := id j1.form
      have LS := l00Same_c wr (.slice A1 r.rd.length k1) (.slice B xs.length d) r.rd xs j1 (hx.ext hxw)
      have HNEXT : Hid (¬ isRul q xs r → ∀ j, j < k + 1 → ¬ isRul q xs (m.rules.getD j mr0)) := Lib.hid fun hn j hj => by
        by_cases e : j = k
        · subst e; rw [HGD.out]; exact hn
        · exact HNO.out j (by omega)
      have HFIND : Hid (isRul q xs r → isRul q xs (m.rules.getD k mr0)) := Lib.hid fun hh => by rw [HGD.out]; exact hh
      clear hgd hrk j1 j2 j3 c2 c3
      by_cases h1 : r.st = q
      · have hb1 : (r.st == q) = true := by simp [h1]
        by_cases h2 : r.rd = xs
        · have HF := Lib.hid (HFIND.out ⟨h1, h2⟩)
          rw [lEq_true h2] at LS
          clear h1 h2 HNEXT HFIND
          generalize r.rd.length = l1 at *
          go_wp2_with fail
          refine LS.mono ?_
          rintro e w2 ⟨rfl, hx2⟩
          have hX2 := hxw.trans hx2
          clear LS hx2
          go_wp2_with fail
          go_ret
          exact ⟨_, rfl, .inl ⟨k, hlt, rfl, HF.out⟩, hX2⟩
        · have HF := Lib.hid (HNEXT.out (fun hh => h2 hh.2))
          rw [lEq_false h2] at LS
          clear h1 h2 HNEXT HFIND
          generalize r.rd.length = l1 at *
          go_wp2_with fail
          refine LS.mono ?_
          rintro e w2 ⟨rfl, hx2⟩
          have hX2 := hxw.trans hx2
          clear LS hx2
          go_wp2_with fail
          go_roundw
          case rel => exact ⟨k + 1, by omega, by go_num, hX2, HF.out⟩
          case measure => simp [intOf]; omega
      · have hb1 : (r.st == q) = false := by simp [h1]
        have HF := Lib.hid (HNEXT.out (fun hh => h1 hh.1))
        clear h1 HNEXT HFIND LS
        go_wp2_with fail
        go_roundw
        case rel => exact ⟨k + 1, by omega, by go_num, hxw, HF.out⟩
        case measure => simp [intOf]; omega
    · obtain rfl : k = m.rules.length := by omega
      go_wp2_with fail
      go_ret
      exact ⟨_, rfl, .inr ⟨rfl, HNO.out⟩, hxw⟩
end Go.Proofs.YtfghojbbofobeaaGreatDoor
end
section
set_option linter.unusedVariables false
set_option linter.unusedSimpArgs false
namespace Go.Proofs.YtfghojbbofobeaaGreatDoor
open Go Go.RowKit Go.Proofs
set_option maxHeartbeats 400000
theorem getD_get {rs : List MRuleD} {i : Nat} (h : i < rs.length) : rs.getD i mr0 = rs[i] := by rw [List.getD_eq_getElem?_getD, List.getElem?_eq_getElem h]; rfl
theorem strict_all {m : MultiD} (hm : multiOk m = true) : ∀ j i, i < j → j < m.rules.length → cmpM (m.rules.getD i mr0) (m.rules.getD j mr0) < 0
  | 0, i, h, _ => by omega
  | j + 1, i, h, hj => by
    have hs := (multi_all hm).2.2.2.2 (j + 1) hj
    simp only [mstepOk, Bool.and_eq_true, Bool.or_eq_true, decide_eq_true_eq, Nat.add_sub_cancel] at hs
    have h1 : cmpM (m.rules.getD j mr0) (m.rules.getD (j + 1) mr0) < 0 := by
      rcases hs.2 with e | e
      · omega
      · exact e
    by_cases e : i = j
    · rw [e]; exact h1
    · have h2 := strict_all hm j i (by omega) (by omega)
      have sw := cmpM_swo (fun k => m.rules.getD k mr0)
      have := sw.trans i j (j + 1) (by simpa [ltOf] using h2) (by simpa [ltOf] using h1)
      simpa [ltOf] using this
theorem findM_some {rs : List MRuleD} {x : KeyM} : ∀ {n i : Nat}, findM rs x n = some i → i < n ∧ key3 (rs.getD i mr0).st (rs.getD i mr0).rd = x
  | 0, i, h => by simp [findM] at h
  | n + 1, i, h => by
    unfold findM at h
    split at h
    · rename_i e
      injection h with h
      subst h
      exact ⟨by omega, e⟩
    · have := findM_some h
      exact ⟨by omega, this.2⟩
theorem findM_none {rs : List MRuleD} {x : KeyM} : ∀ {n : Nat}, findM rs x n = none → ∀ i, i < n → key3 (rs.getD i mr0).st (rs.getD i mr0).rd ≠ x
  | 0, h, i, hi => by omega
  | n + 1, h, i, hi => by
    unfold findM at h
    split at h
    · cases h
    · rename_i e
      by_cases e2 : i = n
      · rw [e2]; exact e
      · exact findM_none h i (by omega)
theorem key3_inj {q p : Int} {xs ys : List Int} (hl : xs.length = ys.length) (h3 : xs.length ≤ 3) (h : key3 q xs = key3 p ys) : q = p ∧ xs = ys := by
  match xs, ys, hl, h3 with
  | [], [], _, _ => exact ⟨by simpa [key3] using h, rfl⟩
  | [a], [b], _, _ => simp [key3] at h; exact ⟨h.1, by rw [h.2]⟩
  | [a, a'], [b, b'], _, _ => simp [key3] at h; exact ⟨h.1, by rw [h.2.1, h.2.2]⟩
  | [a, a', a''], [b, b', b''], _, _ => simp [key3] at h; exact ⟨h.1, by rw [h.2.1, h.2.2.1, h.2.2.2]⟩
  | _ :: _ :: _ :: _ :: l, _, _, h3 => simp at h3
/-- The index of a rule that is found, or -1. -/
def ixOf : Option Nat → Int
  | some k => (k : Int)
  | none => -1
theorem look_ix {m : MultiD} {c : MConfD} {z : Int} (hm : multiOk m = true) (hn : (c.tapes.length : Int) = m.tp)
    (h : (∃ k : Nat, k < m.rules.length ∧ z = (k : Int) ∧ isRul c.q (c.tapes.map headT) (m.rules.getD k mr0)) ∨ (z = -1 ∧ ∀ j, j < m.rules.length → ¬ isRul c.q (c.tapes.map headT) (m.rules.getD j mr0))) : z = ixOf (lookM m.rules c) := by
  obtain ⟨⟨t1, t2⟩, _⟩ := multi_all hm
  have hrd : ∀ i, i < m.rules.length → (m.rules.getD i mr0).rd.length = (c.tapes.map headT).length ∧ (m.rules.getD i mr0).rd.length ≤ 3 := fun i hi => by
    have := (mrule_all (multi_rule hm hi)).2.2.1
    rw [getD_get hi, List.length_map]
    omega
  have hk : ∀ i, i < m.rules.length → key3 (m.rules.getD i mr0).st (m.rules.getD i mr0).rd = readM c → isRul c.q (c.tapes.map headT) (m.rules.getD i mr0) := fun i hi e => by
    obtain ⟨a, b⟩ := hrd i hi
    exact key3_inj a b e
  have hu : ∀ i j, i < j → j < m.rules.length → isRul c.q (c.tapes.map headT) (m.rules.getD i mr0) → ¬ isRul c.q (c.tapes.map headT) (m.rules.getD j mr0) := fun i j hij hj h1 h2 => by
    have := strict_all hm j i hij hj
    rw [cmpM, if_pos (h1.1.trans h2.1.symm), h1.2, h2.2, cmpL_self] at this
    omega
  cases hl : lookM m.rules c with
  | some i =>
    obtain ⟨hi, he⟩ := findM_some hl
    have hr := hk i hi he
    rcases h with ⟨k, hk1, rfl, hk2⟩ | ⟨_, hno⟩
    · rcases Nat.lt_trichotomy i k with e | e | e
      · exact absurd hk2 (hu i k e hk1 hr)
      · rw [e]; rfl
      · exact absurd hr (hu k i e hi hk2)
    · exact absurd hr (hno i hi)
  | none =>
    rcases h with ⟨k, hk1, rfl, hk2⟩ | ⟨rfl, _⟩
    · exact absurd (show key3 _ _ = readM c by rw [hk2.1, hk2.2, readM]) (findM_none hl k hk1)
    · rfl
end Go.Proofs.YtfghojbbofobeaaGreatDoor
end
