/- Contract of the reference's rule for a configuration with several tapes of a valid machine.
Plain words: rules that do not read the same; the machine of two others in sequence makes the steps of the first one, one more, and those of the second one. No program runs here.
Contracts of the reference's rules of two tapes, of its copier and its machine of palindromes; inserting keeps rules in order. -/
import Derived.Test.YtkbpchdncljlbaaGreatDoorV38
import Derived.Test.YtkbpchdncljlbaaGreatDoorV37
import Derived.Test.YtkbpchdncljlbaaGreatDoorV06
section
set_option linter.unusedVariables false
set_option linter.unusedSimpArgs false
namespace Go.Proofs.YtkbpchdncljlbaaGreatDoor
open Go Go.RowKit Go.Proofs
set_option maxHeartbeats 400000
theorem getD_get {rs : List MRuleD} {i : Nat} (h : i < rs.length) : rs.getD i mr0 = rs[i] := by rw [List.getD_eq_getElem?_getD, List.getElem?_eq_getElem h]; rfl
theorem strict_all {m : MultiD} (hm : multiOk m = true) : ∀ j i, i < j → j < m.rules.length → cmpM (m.rules.getD i mr0) (m.rules.getD j mr0) < 0
  | 0, i, h, _ => by omega
  | j + 1, i, h, hj => by
    have hs := (multi_all hm).2.2.2.2 (j + 1) hj
    simp only [mstepOk, Bool.and_eq_true, Bool.or_eq_true, decide_eq_true_eq, Nat.add_sub_cancel] at hs
    have h1 : cmpM (m.rules.getD j mr0) (m.rules.getD (j + 1) mr0) < 0 := by
      rcases hs.2 with e | e
      · omega
      · exact e
    by_cases e : i = j
    · rw [e]; exact h1
    · have h2 := strict_all hm j i (by omega) (by omega)
      have sw := cmpM_swo (fun k => m.rules.getD k mr0)
      have := sw.trans i j (j + 1) (by simpa [ltOf] using h2) (by simpa [ltOf] using h1)
      simpa [ltOf] using this
theorem findM_some {rs : List MRuleD} {x : KeyM} : ∀ {n i : Nat}, findM rs x n = some i → i < n ∧ key3 (rs.getD i mr0).st (rs.getD i mr0).rd = x
  | 0, i, h => by simp [findM] at h
  | n + 1, i, h => by
    unfold findM at h
    split at h
    · rename_i e
      injection h with h
      subst h
      exact ⟨by omega, e⟩
    · have := findM_some h
      exact ⟨by omega, this.2⟩
theorem findM_none {rs : List MRuleD} {x : KeyM} : ∀ {n : Nat}, findM rs x n = none → ∀ i, i < n → key3 (rs.getD i mr0).st (rs.getD i mr0).rd ≠ x
  | 0, h, i, hi => by omega
  | n + 1, h, i, hi => by
    unfold findM at h
    split at h
    · cases h
    · rename_i e
      by_cases e2 : i = n
      · rw [e2]; exact e
      · exact findM_none h i (by omega)
theorem key3_inj {q p : Int} {xs ys : List Int} (hl : xs.length = ys.length) (h3 : xs.length ≤ 3) (h : key3 q xs = key3 p ys) : q = p ∧ xs = ys := by
  match xs, ys, hl, h3 with
  | [], [], _, _ => exact ⟨by simpa [key3] using h, rfl⟩
  | [a], [b], _, _ => simp [key3] at h; exact ⟨h.1, by rw [h.2]⟩
  | [a, a'], [b, b'], _, _ => simp [key3] at h; exact ⟨h.1, by rw [h.2.1, h.2.2]⟩
  | [a, a', a''], [b, b', b''], _, _ => simp [key3] at h; exact ⟨h.1, by rw [h.2.1, h.2.2.1, h.2.2.2]⟩
  | _ :: _ :: _ :: _ :: l, _, _, h3 => simp at h3
/-- The index of a rule that is found, or -1. -/
def ixOf : Option Nat → Int
  | some k => (k : Int)
  | none => -1
theorem look_ix {m : MultiD} {c : MConfD} {z : Int} (hm : multiOk m = true) (hn : (c.tapes.length : Int) = m.tp)
    (h : (∃ k : Nat, k < m.rules.length ∧ z = (k : Int) ∧ isRul c.q (c.tapes.map headT) (m.rules.getD k mr0)) ∨ (z = -1 ∧ ∀ j, j < m.rules.length → ¬ isRul c.q (c.tapes.map headT) (m.rules.getD j mr0))) : z = ixOf (lookM m.rules c) := by
  obtain ⟨⟨t1, t2⟩, _⟩ := multi_all hm
  have hrd : ∀ i, i < m.rules.length → (m.rules.getD i mr0).rd.length = (c.tapes.map headT).length ∧ (m.rules.getD i mr0).rd.length ≤ 3 := fun i hi => by
    have := (mrule_all (multi_rule hm hi)).2.2.1
    rw [getD_get hi, List.length_map]
    omega
  have hk : ∀ i, i < m.rules.length → key3 (m.rules.getD i mr0).st (m.rules.getD i mr0).rd = readM c → isRul c.q (c.tapes.map headT) (m.rules.getD i mr0) := fun i hi e => by
    obtain ⟨a, b⟩ := hrd i hi
    exact key3_inj a b e
  have hu : ∀ i j, i < j → j < m.rules.length → isRul c.q (c.tapes.map headT) (m.rules.getD i mr0) → ¬ isRul c.q (c.tapes.map headT) (m.rules.getD j mr0) := fun i j hij hj h1 h2 => by
    have := strict_all hm j i hij hj
    rw [cmpM, if_pos (h1.1.trans h2.1.symm), h1.2, h2.2, cmpL_self] at this
    omega
  cases hl : lookM m.rules c with
  | some i =>
    obtain ⟨hi, he⟩ := findM_some hl
    have hr := hk i hi he
    rcases h with ⟨k, hk1, rfl, hk2⟩ | ⟨_, hno⟩
    · rcases Nat.lt_trichotomy i k with e | e | e
      · exact absurd hk2 (hu i k e hk1 hr)
      · rw [e]; rfl
      · exact absurd hr (hu k i e hi hk2)
    · exact absurd hr (hno i hi)
  | none =>
    rcases h with ⟨k, hk1, rfl, hk2⟩ | ⟨rfl, _⟩
    · exact absurd (show key3 _ _ = readM c by rw [hk2.1, hk2.2, readM]) (findM_none hl k hk1)
    · rfl
theorem intInfoS : (Tryz.prog.info? 2).map (fun i => (i.zero, i.size, i.bytes)) = some (some (.int .i64 0), 1, 8) := by kernel_rfl
set_option maxRecDepth 20000 in
set_option maxHeartbeats 1000000 in
theorem l06Rule_c (bm bc : Nat) (m : MultiD) (c : MConfD) (rv tv : Value) (w : World) (hm : multiOk m = true) (hn : (c.tapes.length : Int) = m.tp) (hb : Blk w bm 26 #[.int .i64 m.tp, .int .i64 m.sy, .int .i64 m.st, rv]) (hr : MRules w rv m.rules)
    (q0 : w.cell? ⟨bc, 0, none⟩ = some (.int .i64 c.q)) (q1 : w.cell? ⟨bc, 1, none⟩ = some tv) (hT : Tapes w tv c.tapes) :
    Calls Tryz.prog 76 #[.pointer (some ⟨bm, 0, none⟩), .pointer (some ⟨bc, 0, none⟩)] w fun e w' => e = .returned (.int .i64 (ixOf (lookM m.rules c))) ∧ Ext w w' := by
  obtain ⟨i0, hi0, hz0, hz1, hz2⟩ := info_parts intInfoS
  obtain ⟨⟨t1, t2⟩, _⟩ := multi_all hm
  obtain ⟨A, ct, rfl, ht1, ht2⟩ := hT.form
  obtain ⟨W, hW⟩ : ∃ W, W = w.alloc (.cells #[] 2) := ⟨_, rfl⟩
  have hX : Ext w W := by rw [hW]; exact Ext.alloc _ _
  have st0 : OwnInts w.heap.size W (.slice (some ⟨w.heap.size, 0, none⟩) 0 0) ((c.tapes.take 0).map headT) :=
    ⟨by simp [ivs], .inr ⟨w.heap.size, 0, #[], rfl, Nat.le_refl _, by rw [hW]; exact heap_alloc_new w _, by simp, by unfold maxLen; omega, rfl, by simp [ivs]⟩⟩
  have HN : Hid ((c.tapes.length : Int) = m.tp) := hn
  have h3 : c.tapes.length ≤ 3 := by omega
  have HM := Lib.hid hm
  clear hn
  go_enter Tryz.func76, Tryz.ntmps76
  go_wp2_with fail
  try rw [← hW]
  clear hW
  go_loopw [5, 6] (fun u i wr => ∃ k : Nat, k ≤ c.tapes.length ∧ i = .int .i64 (k : Int) ∧ OwnInts w.heap.size wr u ((c.tapes.take k).map headT) ∧ Ext w wr) (fun _ i _ => c.tapes.length - (intOf i).toNat)
  case atStart => exact ⟨0, Nat.zero_le _, rfl, st0, hX⟩
  case round =>
    clear st0 hX
    obtain ⟨k, hk, rfl, st, hx⟩ := hrel
    have e1 := hx.cell q1
    have e0 := hx.cell q0
    obtain ⟨Au, cu, rfl, _, _⟩ := st.ints.form
    have hlk : ((c.tapes.take k).map headT).length = k := by simp; omega
    obtain ⟨hs, hhs⟩ : ∃ hs, (c.tapes.take k).map headT = hs := ⟨_, rfl⟩
    rw [hhs] at hlk st
    rw [hhs]
    by_cases hlt : k < c.tapes.length
    · obtain ⟨b, off, vl, vr, rfl, c0, c1, i1, i2⟩ := (hT.ext hx).at hlt
      have HSN : Hid ((c.tapes.take (k + 1)).map headT = hs ++ [headT c.tapes[k]]) := by
        unfold Hid
        rw [List.take_succ_eq_append_getElem hlt, List.map_append, hhs]
        rfl
      have LH := l06Head_c b (off + k * 2) c.tapes[k] wr ⟨_, _, c0, c1, i1, i2⟩
      obtain ⟨y, hy⟩ : ∃ y, headT c.tapes[k] = y := ⟨_, rfl⟩
      rw [hy] at HSN LH
      rw [hlk] at st
      have ho1 : wr.ownsRow w.heap.size 2 1 (.slice Au k cu) k (ivs hs) := by
        have := st
        unfold OwnInts at this
        rwa [hlk] at this
      have ho' := ho1.alloc (.cells #[.int .i64 y] 2)
      have hxa := hx.trans (Ext.alloc wr (.cells #[.int .i64 y] 2))
      have hsz := hx.size
      have HLK := Lib.hid hlk
      rw [hlk]
      clear c0 c1 i1 i2 hy st hhs hlk
      go_wp2_with fail
      refine LH.mono ?_
      rintro e _ ⟨rfl, rfl⟩
      clear LH
      go_wp2_with (at_builtin; refine wpList_append_own_at _ rfl _ _ 48 rfl w.heap.size 2 i0 (.int .i64 0) 1 8 Tryz.underlying48 hi0 hz0 hz1 hz2 rfl (by decide) _ _ _ rfl ho' ⟨wr.heap.size, 0, none⟩ 1 1 [.int .i64 y] rfl rfl (cell_one_new _ _ _) ?c2 ?c3 ?c4 ?c5 ?_)
      case c2 => intro u hu; simp at hu; subst hu; rfl
      case c3 => unfold maxLen; omega
      case c4 => omega
      case c5 => simp; omega
      intro v' w4 hown4 hg4 _ hloc
      obtain ⟨A', c', rfl, _, _, _⟩ := (ownsRow_row hown4).form
      have HS : Hid (OwnInts w.heap.size w4 (.slice A' (k + 1) c') ((c.tapes.take (k + 1)).map headT)) := by
        unfold Hid
        rw [HSN.out]
        unfold OwnInts
        have : (hs ++ [y]).length = k + 1 := by simp [HLK.out]
        rw [this]
        simpa [ivs_append, ivs] using hown4
      have HX := Lib.hid (hxa.grown hg4 (fun q hq => (ho1.lt q hq).1))
      clear ho' ho1 hown4 hg4 hxa hx
      go_wp2_with fail
      go_roundw
      case rel => exact ⟨k + 1, by omega, by go_num, HS.out, HX.out⟩
      case measure => simp [intOf]; omega
    · obtain rfl : k = c.tapes.length := by omega
      rw [List.take_length] at hhs
      have HHS := Lib.hid hhs
      have RO := l06RuleOf_c bm m rv (.slice Au hs.length cu) c.q hs wr (hb.ext hx) (hr.ext hx) st.ints
      clear st hhs hlk
      go_wp2_with fail
      refine RO.mono ?_
      rintro e w3 ⟨z, rfl, hz, hx3⟩
      have HZ : Hid (z = ixOf (lookM m.rules c)) := Lib.hid (look_ix HM.out HN.out (by rw [HHS.out]; exact hz))
      have HX := Lib.hid (hx.trans hx3)
      clear hz hx hx3 RO
      go_wp2_with fail
      go_ret
      exact ⟨by rw [← HZ.out]; rfl, HX.out⟩
end Go.Proofs.YtkbpchdncljlbaaGreatDoor
end
section
set_option linter.unusedVariables false
set_option linter.unusedSimpArgs false
namespace Go.Proofs.YtkbpchdncljlbaaGreatDoor
open Go Go.RowKit Go.Proofs
theorem cmpL_anti : ∀ xs ys : List Int, cmpL xs ys < 0 ∨ xs = ys ∨ cmpL ys xs < 0
  | [], [] => .inr (.inl rfl)
  | [], _ :: _ => .inl (by simp [cmpL])
  | _ :: _, [] => .inr (.inr (by simp [cmpL]))
  | a :: s, b :: t => by
    by_cases h1 : a < b
    · left; simp [cmpL, h1]
    · by_cases h2 : b < a
      · right; right; simp [cmpL, h2]
      · obtain rfl : a = b := by omega
        rcases cmpL_anti s t with h | h | h
        · left; simpa [cmpL] using h
        · right; left; rw [h]
        · right; right; simpa [cmpL] using h
/-- Two rules do not read the same. -/
def Apart (a b : MRuleD) : Prop := a.st ≠ b.st ∨ a.rd ≠ b.rd
theorem Apart.symm {a b : MRuleD} (h : Apart a b) : Apart b a := by
  rcases h with h | h
  · exact .inl fun e => h e.symm
  · exact .inr fun e => h e.symm
theorem Apart.of_lt {a b : MRuleD} (h : cmpM a b < 0) : Apart a b := by
  by_cases e : a.st = b.st
  · right
    intro e2
    unfold cmpM at h
    rw [if_pos e, e2, cmpL_self] at h
    omega
  · exact .inl e
theorem Apart.lt {a b : MRuleD} (h : Apart a b) (hn : ¬ cmpM b a < 0) : cmpM a b < 0 := by
  unfold cmpM at *
  by_cases e : a.st = b.st
  · rw [if_pos e]
    rw [if_pos e.symm] at hn
    rcases cmpL_anti a.rd b.rd with h1 | h1 | h1
    · exact h1
    · rcases h with h | h
      · exact absurd e h
      · exact absurd h1 h
    · exact absurd h1 hn
  · rw [if_neg e]
    rw [if_neg (fun h => e h.symm)] at hn
    split
    · decide
    · exact absurd (by rw [if_pos (by omega)]; decide) hn
theorem getD_mr {rs : List MRuleD} {i : Nat} (h : i < rs.length) : rs.getD i mr0 = rs[i] := by rw [List.getD_eq_getElem?_getD, List.getElem?_eq_getElem h]; rfl
theorem multi_lt {m : MultiD} (hm : multiOk m = true) : ∀ j, j < m.rules.length → ∀ i, i < j → cmpM (m.rules.getD i mr0) (m.rules.getD j mr0) < 0
  | 0, _, i, h => absurd h (Nat.not_lt_zero _)
  | j + 1, hj, i, hi => by
    have h1 := (multi_all hm).2.2.2.2 (j + 1) hj
    simp only [mstepOk, Bool.and_eq_true, Bool.or_eq_true, decide_eq_true_eq, Nat.add_sub_cancel] at h1
    have h2 : cmpM (m.rules.getD j mr0) (m.rules.getD (j + 1) mr0) < 0 := by
      rcases h1.2 with h | h
      · omega
      · exact h
    by_cases e : i = j
    · rw [e]; exact h2
    · have ih := multi_lt hm j (by omega) i (by omega)
      have t := (cmpM_swo fun k => m.rules.getD k mr0).trans i j (j + 1) (by simpa [ltOf] using ih) (by simpa [ltOf] using h2)
      simpa [ltOf] using t
theorem multi_apart {m : MultiD} (hm : multiOk m = true) : m.rules.Pairwise Apart := List.pairwise_iff_getElem.2 fun i j hi hj hij => by
  have := multi_lt hm j hj i hij
  rw [getD_mr hi, getD_mr hj] at this
  exact Apart.of_lt this
theorem multi_of {m : MultiD} (h1 : inB m.tp 2 3 = true) (h2 : inB m.sy 2 3 = true) (h3 : inB m.st 1 16 = true) (h4 : m.rules.length ≤ 60) (h5 : ∀ r ∈ m.rules, mruleOk m r = true)
    (h6 : ∀ k, 0 < k → k < m.rules.length → cmpM (m.rules.getD (k - 1) mr0) (m.rules.getD k mr0) < 0) : multiOk m = true := by
  simp only [multiOk, Bool.and_eq_true, decide_eq_true_eq, List.all_eq_true, List.mem_range]
  refine ⟨⟨⟨⟨h1, h2⟩, h3⟩, h4⟩, fun k hk => ?_⟩
  simp only [mstepOk, Bool.and_eq_true, Bool.or_eq_true, decide_eq_true_eq]
  refine ⟨by rw [getD_mr hk]; exact h5 _ (List.getElem_mem hk), ?_⟩
  by_cases e : k = 0
  · exact .inl e
  · exact .inr (h6 k (by omega) hk)
/-- All lists of so many symbols, in order. -/
def allS (sy : Nat) : Nat → List (List Int)
  | 0 => [[]]
  | n + 1 => (List.range sy).flatMap fun (a : Nat) => (allS sy n).map fun xs => (a : Int) :: xs
theorem mem_allS {sy : Nat} : ∀ {n : Nat} {xs : List Int}, xs ∈ allS sy n ↔ xs.length = n ∧ ∀ z ∈ xs, 0 ≤ z ∧ z < sy
  | 0, xs => by
    simp only [allS, List.mem_singleton]
    constructor
    · rintro rfl; simp
    · rintro ⟨h, _⟩; exact List.length_eq_zero_iff.1 h
  | n + 1, xs => by
    simp only [allS, List.mem_flatMap, List.mem_range, List.mem_map]
    constructor
    · rintro ⟨a, ha, ys, hy, rfl⟩
      obtain ⟨h1, h2⟩ := mem_allS.1 hy
      refine ⟨by simp [h1], fun z hz => ?_⟩
      rcases List.mem_cons.1 hz with rfl | h
      · omega
      · exact h2 z h
    · rintro ⟨h1, h2⟩
      match xs, h1 with
      | x :: ys, h1 =>
        have hx := h2 x (List.mem_cons_self ..)
        refine ⟨x.toNat, by omega, ys, mem_allS.2 ⟨by simpa using h1, fun z hz => h2 z (List.mem_cons_of_mem _ hz)⟩, ?_⟩
        rw [Int.toNat_of_nonneg hx.1]
theorem allS_nodup (sy : Nat) : ∀ n, (allS sy n).Pairwise (· ≠ ·)
  | 0 => by simp [allS]
  | n + 1 => by
    have ih := allS_nodup sy n
    unfold allS
    rw [List.pairwise_flatMap]
    refine ⟨fun a _ => ?_, ?_⟩
    · rw [List.pairwise_map]
      exact ih.imp fun h e => h (by injection e)
    · refine List.pairwise_lt_range.imp fun {a b} hab x hx y hy e => ?_
      obtain ⟨xs, _, rfl⟩ := List.mem_map.1 hx
      obtain ⟨ys, _, rfl⟩ := List.mem_map.1 hy
      injection e with e _
      omega
/-- The lists of symbols for which a state has no rule. -/
def noRuleB (rs : List MRuleD) (q : Int) (xs : List Int) : Bool := (findM rs (key3 q xs) rs.length).isNone
def haltReads (m : MultiD) (q : Int) : List (List Int) := (allS m.sy.toNat m.tp.toNat).filter (noRuleB m.rules q)
def hltR (m : MultiD) (q : Int) (xs : List Int) : MRuleD := ⟨q, xs, xs, List.replicate m.tp.toNat 0, m.st⟩
def haltRs (m : MultiD) : List MRuleD := (List.range m.st.toNat).flatMap fun (q : Nat) => (haltReads m q).map (hltR m q)
/-- A rule with its states moved. -/
def mvR (k : Int) (r : MRuleD) : MRuleD := ⟨r.st + k, r.rd, r.wr, r.mv, r.nx + k⟩
/-- The rules of two machines in sequence, before they are sorted. -/
def preL (a b : MultiD) : List MRuleD := a.rules ++ haltRs a ++ b.rules.map (mvR a.st)
theorem noRule_iff {rs : List MRuleD} {q : Int} {xs : List Int} : noRuleB rs q xs = true ↔ ∀ r ∈ rs, key3 r.st r.rd ≠ key3 q xs := by
  unfold noRuleB
  constructor
  · intro h r hr
    obtain ⟨i, hi, rfl⟩ := List.getElem_of_mem hr
    have := findM_none (Option.isNone_iff_eq_none.1 h) i hi
    rwa [getD_mr hi] at this
  · intro h
    cases hf : findM rs (key3 q xs) rs.length with
    | none => rfl
    | some i =>
      obtain ⟨h1, h2⟩ := findM_some hf
      rw [getD_mr h1] at h2
      exact absurd h2 (h _ (List.getElem_mem h1))
theorem mem_haltRs {m : MultiD} {r : MRuleD} : r ∈ haltRs m ↔ ∃ (q : Nat) (xs : List Int), q < m.st.toNat ∧ xs.length = m.tp.toNat ∧ (∀ z ∈ xs, 0 ≤ z ∧ z < m.sy.toNat) ∧ (∀ r' ∈ m.rules, key3 r'.st r'.rd ≠ key3 q xs) ∧ r = hltR m q xs := by
  unfold haltRs
  simp only [List.mem_flatMap, List.mem_range, List.mem_map, haltReads, List.mem_filter, mem_allS, noRule_iff]
  constructor
  · rintro ⟨q, hq, xs, ⟨⟨h1, h2⟩, h3⟩, rfl⟩
    exact ⟨q, xs, hq, h1, h2, h3, rfl⟩
  · rintro ⟨q, xs, hq, h1, h2, h3, rfl⟩
    exact ⟨q, hq, xs, ⟨⟨h1, h2⟩, h3⟩, rfl⟩
theorem preL_apart {a b : MultiD} (ha : multiOk a = true) (hb : multiOk b = true) : (preL a b).Pairwise Apart := by
  obtain ⟨⟨t1, t2⟩, _, ⟨s1, s2⟩, _, _⟩ := multi_all ha
  unfold preL
  rw [List.pairwise_append, List.pairwise_append]
  refine ⟨⟨multi_apart ha, ?_, ?_⟩, ?_, ?_⟩
  · unfold haltRs
    rw [List.pairwise_flatMap]
    refine ⟨fun q _ => ?_, ?_⟩
    · rw [List.pairwise_map]
      exact ((allS_nodup _ _).filter _).imp fun h => .inr h
    · refine List.pairwise_lt_range.imp fun {q q'} hab x hx y hy => ?_
      obtain ⟨xs, _, rfl⟩ := List.mem_map.1 hx
      obtain ⟨ys, _, rfl⟩ := List.mem_map.1 hy
      left
      show (q : Int) ≠ (q' : Int)
      omega
  · intro r hr x hx
    obtain ⟨q, xs, hq, _, _, h3, rfl⟩ := mem_haltRs.1 hx
    by_cases e : r.st = q
    · right
      intro e2
      exact h3 r hr (by show key3 r.st r.rd = key3 q xs; rw [e, show r.rd = xs from e2])
    · exact .inl e
  · rw [List.pairwise_map]
    exact (multi_apart hb).imp fun h => by
      rcases h with h | h
      · left; show _ + _ ≠ _ + _; omega
      · exact .inr h
  · intro x hx y hy
    obtain ⟨r, hr, rfl⟩ := List.mem_map.1 hy
    left
    show x.st ≠ r.st + a.st
    obtain ⟨i, hi, rfl⟩ := List.getElem_of_mem hr
    have := (mrule_all (multi_rule hb hi)).1
    rcases List.mem_append.1 hx with hx | hx
    · obtain ⟨j, hj, rfl⟩ := List.getElem_of_mem hx
      have := (mrule_all (multi_rule ha hj)).1
      omega
    · obtain ⟨q, xs, hq, _, _, _, rfl⟩ := mem_haltRs.1 hx
      show (q : Int) ≠ _
      omega
theorem multi_memOk {m : MultiD} (hm : multiOk m = true) {r : MRuleD} (hr : r ∈ m.rules) : mruleOk m r = true := by
  obtain ⟨i, hi, rfl⟩ := List.getElem_of_mem hr
  exact multi_rule hm hi
theorem mruleOk_of {m : MultiD} {r : MRuleD} (h1 : 0 ≤ r.st ∧ r.st ≤ m.st - 1) (h2 : 0 ≤ r.nx ∧ r.nx ≤ m.st - 1) (h3 : (r.rd.length : Int) = m.tp) (h4 : (r.wr.length : Int) = m.tp) (h5 : (r.mv.length : Int) = m.tp)
    (h6 : ∀ z ∈ r.rd, 0 ≤ z ∧ z ≤ m.sy - 1) (h7 : ∀ z ∈ r.wr, 0 ≤ z ∧ z ≤ m.sy - 1) (h8 : ∀ z ∈ r.mv, -1 ≤ z ∧ z ≤ 1) : mruleOk m r = true := by
  simp only [mruleOk, allIn, Bool.and_eq_true, decide_eq_true_eq, List.all_eq_true]
  exact ⟨⟨⟨⟨⟨⟨⟨inB_iff.2 h1, inB_iff.2 h2⟩, h3⟩, h4⟩, h5⟩, fun z hz => inB_iff.2 (h6 z hz)⟩, fun z hz => inB_iff.2 (h7 z hz)⟩, fun z hz => inB_iff.2 (h8 z hz)⟩
theorem preL_ok {a b s : MultiD} (ha : multiOk a = true) (hb : multiOk b = true) (htp : a.tp = b.tp) (hsy : a.sy = b.sy) (e1 : s.tp = a.tp) (e2 : s.sy = a.sy) (e3 : s.st = a.st + b.st) : ∀ r ∈ preL a b, mruleOk s r = true := by
  obtain ⟨⟨t1, t2⟩, ⟨y1, y2⟩, ⟨s1, s2⟩, _, _⟩ := multi_all ha
  obtain ⟨_, _, ⟨s3, s4⟩, _, _⟩ := multi_all hb
  intro r hr
  unfold preL at hr
  rcases List.mem_append.1 hr with hr | hr
  · rcases List.mem_append.1 hr with hr | hr
    · obtain ⟨h1, h2, h3, h4, h5, h6, h7, h8⟩ := mrule_all (multi_memOk ha hr)
      rw [← e1] at h3 h4 h5
      rw [← e2] at h6 h7
      exact mruleOk_of (by omega) (by omega) h3 h4 h5 h6 h7 h8
    · obtain ⟨q, xs, hq, h1, h2, _, rfl⟩ := mem_haltRs.1 hr
      have h6 : ∀ z ∈ xs, 0 ≤ z ∧ z ≤ s.sy - 1 := fun z hz => by have := h2 z hz; omega
      refine mruleOk_of (r := hltR a q xs) ⟨by show (0 : Int) ≤ q; omega, by show (q : Int) ≤ _; omega⟩ ⟨by show 0 ≤ a.st; omega, by show a.st ≤ _; omega⟩ (by show (xs.length : Int) = _; omega) (by show (xs.length : Int) = _; omega) (by show ((List.replicate a.tp.toNat (0 : Int)).length : Int) = _; simp; omega) h6 h6 (fun z hz => ?_)
      have : z = 0 := (List.mem_replicate.1 hz).2
      omega
  · obtain ⟨x, hx, rfl⟩ := List.mem_map.1 hr
    obtain ⟨h1, h2, h3, h4, h5, h6, h7, h8⟩ := mrule_all (multi_memOk hb hx)
    rw [← htp, ← e1] at h3 h4 h5
    rw [← hsy, ← e2] at h6 h7
    exact mruleOk_of ⟨by show 0 ≤ x.st + a.st; omega, by show x.st + a.st ≤ _; omega⟩ ⟨by show 0 ≤ x.nx + a.st; omega, by show x.nx + a.st ≤ _; omega⟩ h3 h4 h5 h6 h7 h8
/-- Where the machine in sequence is not valid, it has too many states or rules. -/
theorem seq_bad {a b s : MultiD} (ha : multiOk a = true) (hb : multiOk b = true) (htp : a.tp = b.tp) (hsy : a.sy = b.sy) (e1 : s.tp = a.tp) (e2 : s.sy = a.sy) (e3 : s.st = a.st + b.st) (hp : s.rules.Perm (preL a b))
    (hs : ∀ i j, i < j → j < s.rules.length → ¬ cmpM (s.rules.getD j mr0) (s.rules.getD i mr0) < 0) (hn : multiOk s = false) : 16 < a.st + b.st ∨ 60 < (preL a b).length := by
  obtain ⟨⟨t1, t2⟩, ⟨y1, y2⟩, ⟨s1, s2⟩, _, _⟩ := multi_all ha
  obtain ⟨_, _, ⟨s3, s4⟩, _, _⟩ := multi_all hb
  by_cases h1 : 16 < a.st + b.st
  · exact .inl h1
  · by_cases h2 : 60 < (preL a b).length
    · exact .inr h2
    · have hap : s.rules.Pairwise Apart := (preL_apart ha hb).perm hp.symm fun h => h.symm
      have := multi_of (m := s) (inB_iff.2 (by omega)) (inB_iff.2 (by omega)) (inB_iff.2 (by omega)) (by rw [hp.length_eq]; omega) (fun r hr => preL_ok ha hb htp hsy e1 e2 e3 r (hp.mem_iff.1 hr)) (fun k h0 hk => by
        have h := List.pairwise_iff_getElem.1 hap (k - 1) k (by omega) hk (by omega)
        rw [← getD_mr hk, ← getD_mr (show k - 1 < s.rules.length by omega)] at h
        exact h.lt (hs (k - 1) k (by omega) hk))
      rw [this] at hn
      cases hn
theorem look_mem {m : MultiD} (hm : multiOk m = true) {c : MConfD} {r : MRuleD} (hr : r ∈ m.rules) (hk : key3 r.st r.rd = readM c) : ∃ j, lookM m.rules c = some j ∧ m.rules.getD j mr0 = r := by
  obtain ⟨⟨t1, t2⟩, _⟩ := multi_all hm
  obtain ⟨i, hi, rfl⟩ := List.getElem_of_mem hr
  cases hl : lookM m.rules c with
  | none =>
    have := findM_none hl i hi
    rw [getD_mr hi] at this
    exact absurd hk this
  | some j =>
    obtain ⟨h1, h2⟩ := findM_some hl
    refine ⟨j, rfl, ?_⟩
    rw [getD_mr h1] at h2 ⊢
    have o1 := mrule_all (multi_rule hm hi)
    have o2 := mrule_all (multi_rule hm h1)
    obtain ⟨a, b⟩ := key3_inj (by have := o1.2.2.1; have := o2.2.2.1; omega) (by have := o2.2.2.1; omega) (h2.trans hk.symm)
    have hap := List.pairwise_iff_getElem.1 (multi_apart hm)
    rcases Nat.lt_trichotomy i j with e | e | e
    · rcases hap i j hi h1 e with h | h
      · exact absurd a.symm h
      · exact absurd b.symm h
    · subst e; rfl
    · rcases hap j i h1 hi e with h | h
      · exact absurd a h
      · exact absurd b h
theorem look_no {m : MultiD} {c : MConfD} (h : ∀ r ∈ m.rules, key3 r.st r.rd ≠ readM c) : lookM m.rules c = none := by
  cases hl : lookM m.rules c with
  | none => rfl
  | some j =>
    obtain ⟨h1, h2⟩ := findM_some hl
    rw [getD_mr h1] at h2
    exact absurd h2 (h _ (List.getElem_mem h1))
theorem trim_side_eq {xs : List Int} {sy : Int} (h : sideOk xs sy 200 = true) : trim xs = xs := by
  simp only [sideOk, Bool.and_eq_true, Bool.or_eq_true, beq_iff_eq, bne_iff_ne] at h
  rcases h.2 with h | h
  · have : xs = [] := List.length_eq_zero_iff.1 (by omega)
    subst this; rfl
  · by_cases h0 : 0 < xs.length
    · rw [lastD_get h0] at h
      unfold trim
      have : trimN xs xs.length = xs.length := by
        obtain ⟨n, hn⟩ : ∃ n, xs.length = n + 1 := ⟨xs.length - 1, by omega⟩
        have e : xs.getD n 0 ≠ 0 := by
          rw [List.getD_eq_getElem?_getD, List.getElem?_eq_getElem (by omega)]
          have e2 : xs[xs.length - 1] = xs[n]'(by omega) := by congr 1; omega
          rw [← e2]
          exact h
        rw [hn]
        unfold trimN
        rw [if_neg (by simpa using e)]
      rw [this, List.take_length]
    · have : xs = [] := List.length_eq_zero_iff.1 (by omega)
      subst this; rfl
/-- What is read, written without a move, changes nothing. -/
theorem write_same {m : MultiD} {t : TapeD} (h : tapeOk m t = true) : writeT t (headT t) 0 = t := by
  simp only [tapeOk, Bool.and_eq_true] at h
  have e : trim (writeR t (headT t)) = t.r := by
    unfold writeR headT
    match hr : t.r with
    | [] => rfl
    | x :: xs =>
      have := trim_side_eq h.2
      rw [hr] at this
      exact this
  unfold writeT
  rw [if_neg (by decide), if_neg (by decide), e, trim_side_eq h.1]
/-- A machine that is two others in sequence. -/
structure SeqOf (a b s : MultiD) : Prop where
  oa : multiOk a = true
  ob : multiOk b = true
  os : multiOk s = true
  tp : a.tp = b.tp
  sy : a.sy = b.sy
  st : s.st = a.st + b.st
  perm : s.rules.Perm (preL a b)
theorem SeqOf.look_a {a b s : MultiD} (h : SeqOf a b s) {c : MConfD} {i : Nat} (hl : lookM a.rules c = some i) : ∃ j, lookM s.rules c = some j ∧ s.rules.getD j mr0 = a.rules.getD i mr0 := by
  obtain ⟨h1, h2⟩ := findM_some hl
  refine look_mem h.os (h.perm.mem_iff.2 ?_) h2
  rw [getD_mr h1]
  exact List.mem_append_left _ (List.mem_append_left _ (List.getElem_mem h1))
theorem SeqOf.step_a {a b s : MultiD} (h : SeqOf a b s) {c : MConfD} (hl : lookM a.rules c ≠ none) : lookM s.rules c ≠ none ∧ stepM s.rules c = stepM a.rules c := by
  cases hi : lookM a.rules c with
  | none => exact absurd hi hl
  | some i =>
    obtain ⟨j, hj, e⟩ := h.look_a hi
    refine ⟨by rw [hj]; exact Option.some_ne_none _, ?_⟩
    rw [step_some hi, step_some hj, e]
theorem SeqOf.step_halt {a b s : MultiD} (h : SeqOf a b s) {c : MConfD} (hq : 0 ≤ c.q ∧ c.q ≤ a.st - 1) (hn : (c.tapes.length : Int) = a.tp) (hts : c.tapes.all (tapeOk a) = true) (hl : lookM a.rules c = none) : lookM s.rules c ≠ none ∧ stepM s.rules c = ⟨a.st, c.tapes⟩ := by
  obtain ⟨⟨t1, t2⟩, ⟨y1, y2⟩, _⟩ := multi_all h.oa
  have hmem : hltR a (c.q.toNat : Int) (c.tapes.map headT) ∈ preL a b := by
    refine List.mem_append_left _ (List.mem_append_right _ (mem_haltRs.2 ⟨c.q.toNat, c.tapes.map headT, by omega, by simp; omega, fun z hz => ?_, fun r hr => ?_, rfl⟩))
    · obtain ⟨t, ht, rfl⟩ := List.mem_map.1 hz
      obtain ⟨_, _, b2⟩ := tape_len (List.all_eq_true.1 hts t ht)
      have := getD_in b2 (by omega) 0
      show 0 ≤ t.r.getD 0 0 ∧ t.r.getD 0 0 < _
      omega
    · obtain ⟨i, hi, rfl⟩ := List.getElem_of_mem hr
      have := findM_none hl i hi
      rw [getD_mr hi] at this
      intro e
      refine this (e.trans ?_)
      unfold readM
      rw [Int.toNat_of_nonneg hq.1]
  obtain ⟨j, hj, e⟩ := look_mem h.os (c := c) (h.perm.mem_iff.2 hmem) (by show key3 (c.q.toNat : Int) (c.tapes.map headT) = key3 c.q _; rw [Int.toNat_of_nonneg hq.1])
  refine ⟨by rw [hj]; exact Option.some_ne_none _, ?_⟩
  rw [step_some hj, e]
  show MConfD.mk a.st (writeAll c.tapes (c.tapes.map headT) (List.replicate a.tp.toNat 0)) = _
  congr 1
  refine List.ext_getElem (writeAll_length ..) fun k h1 h2 => ?_
  rw [writeAll_get _ _ _ k h2]
  have e1 : (c.tapes.map headT).getD k 0 = headT c.tapes[k] := by rw [List.getD_eq_getElem?_getD, List.getElem?_eq_getElem (by simpa using h2)]; simp
  have e2 : (List.replicate a.tp.toNat (0 : Int)).getD k 0 = 0 := by
    rw [List.getD_eq_getElem?_getD]
    by_cases hk : k < a.tp.toNat
    · rw [List.getElem?_eq_getElem (by simpa using hk)]; simp
    · rw [List.getElem?_eq_none (by simpa using hk)]; rfl
  rw [e1, e2]
  exact write_same (List.all_eq_true.1 hts _ (List.getElem_mem h2))
/-- A configuration of the second machine as one of the machine in sequence. -/
def upC (k : Int) (c : MConfD) : MConfD := ⟨c.q + k, c.tapes⟩
theorem SeqOf.step_b {a b s : MultiD} (h : SeqOf a b s) {c : MConfD} (hl : lookM b.rules c ≠ none) : lookM s.rules (upC a.st c) ≠ none ∧ stepM s.rules (upC a.st c) = upC a.st (stepM b.rules c) := by
  cases hi : lookM b.rules c with
  | none => exact absurd hi hl
  | some i =>
    obtain ⟨h1, h2⟩ := findM_some hi
    rw [getD_mr h1] at h2
    unfold key3 readM key3 at h2
    simp only [Prod.mk.injEq] at h2
    have hm : mvR a.st b.rules[i] ∈ preL a b := List.mem_append_right _ (List.mem_map.2 ⟨_, List.getElem_mem h1, rfl⟩)
    obtain ⟨j, hj, e⟩ := look_mem h.os (c := upC a.st c) (h.perm.mem_iff.2 hm) (by
      unfold key3 readM key3 mvR upC
      simp only [Prod.mk.injEq]
      exact ⟨by rw [h2.1], h2.2⟩)
    refine ⟨by rw [hj]; exact Option.some_ne_none _, ?_⟩
    rw [step_some hi, step_some hj, e, getD_mr h1]
    rfl
theorem SeqOf.none_b {a b s : MultiD} (h : SeqOf a b s) {c : MConfD} (hq : 0 ≤ c.q) (hn : (c.tapes.length : Int) = b.tp) (hl : lookM b.rules c = none) : lookM s.rules (upC a.st c) = none := by
  obtain ⟨⟨t1, t2⟩, ⟨y1, y2⟩, _⟩ := multi_all h.oa
  refine look_no fun r hr => ?_
  have hr := h.perm.mem_iff.1 hr
  intro e
  have e0 : r.st = c.q + a.st := by
    unfold key3 readM key3 upC at e
    simp only [Prod.mk.injEq] at e
    exact e.1
  rcases List.mem_append.1 hr with hr | hr
  · rcases List.mem_append.1 hr with hr | hr
    · have := (mrule_all (multi_memOk h.oa hr)).1
      omega
    · obtain ⟨q, xs, hq2, _, _, _, rfl⟩ := mem_haltRs.1 hr
      have : (q : Int) = c.q + a.st := e0
      have := (multi_all h.oa).2.2.1
      omega
  · obtain ⟨x, hx, rfl⟩ := List.mem_map.1 hr
    obtain ⟨i, hi, rfl⟩ := List.getElem_of_mem hx
    have := findM_none hl i hi
    rw [getD_mr hi] at this
    refine this ?_
    unfold key3 readM key3 mvR upC at *
    simp only [Prod.mk.injEq] at e ⊢
    exact ⟨by have := e.1; omega, e.2⟩
/-- The run of the machine in sequence. -/
theorem SeqOf.law {a b s : MultiD} (h : SeqOf a b s) {c : MConfD} {n k : Nat} (hq : inB c.q 0 (a.st - 1) = true) (hn : (c.tapes.length : Int) = a.tp) (hts : c.tapes.all (tapeOk a) = true)
    (h1 : MEnd a.rules c 60 n) (l1 : lookM a.rules (cfgM a.rules c n) = none) (h2 : MEnd b.rules ⟨0, (cfgM a.rules c n).tapes⟩ 60 k) (l2 : lookM b.rules (cfgM b.rules ⟨0, (cfgM a.rules c n).tapes⟩ k) = none) :
    MEnd s.rules c 200 (n + 1 + k) ∧ lookM s.rules (cfgM s.rules c (n + 1 + k)) = none ∧ cfgM s.rules c (n + 1 + k) = upC a.st (cfgM b.rules ⟨0, (cfgM a.rules c n).tapes⟩ k) := by
  obtain ⟨c1, hc1⟩ : ∃ c1, cfgM a.rules c n = c1 := ⟨_, rfl⟩
  have ea : ∀ i, i ≤ n → cfgM s.rules c i = cfgM a.rules c i := fun i => by
    induction i with
    | zero => intro _; rfl
    | succ i ih =>
      intro hi
      show stepM s.rules (cfgM s.rules c i) = stepM a.rules (cfgM a.rules c i)
      rw [ih (by omega)]
      exact (h.step_a (h1.runs.no i (by omega))).2
  obtain ⟨k1, k2⟩ := cfg_ok h.oa hq hn hts n h1.runs
  have kl : ((cfgM a.rules c n).tapes.length : Int) = a.tp := by rw [cfgM_tapes]; exact hn
  obtain ⟨m1, m2⟩ := h.step_halt (inB_iff.1 k1) kl k2 l1
  have e1 : cfgM s.rules c (n + 1) = upC a.st ⟨0, c1.tapes⟩ := by
    show stepM s.rules (cfgM s.rules c n) = _
    rw [ea n (Nat.le_refl _), m2, hc1]
    simp [upC]
  have eb : ∀ j, j ≤ k → cfgM s.rules c (n + 1 + j) = upC a.st (cfgM b.rules ⟨0, c1.tapes⟩ j) := fun j => by
    induction j with
    | zero => intro _; exact e1
    | succ j ih =>
      intro hj
      show stepM s.rules (cfgM s.rules c (n + 1 + j)) = upC a.st (stepM b.rules (cfgM b.rules _ j))
      rw [ih (by omega)]
      rw [hc1] at h2
      exact (h.step_b (h2.runs.no j (by omega))).2
  rw [hc1] at h2 l2 kl k2 ⊢
  have hst : 1 ≤ b.st := (multi_all h.ob).2.2.1.1
  have kb := cfg_ok h.ob (c := ⟨0, c1.tapes⟩) (inB_iff.2 ⟨Int.le_refl _, by show (0 : Int) ≤ b.st - 1; omega⟩) (by rw [← h.tp]; exact kl) (by
    refine List.all_eq_true.2 fun t ht => ?_
    have := List.all_eq_true.1 k2 t ht
    unfold tapeOk at this ⊢
    rwa [← h.sy]) k h2.runs
  have hz : lookM s.rules (upC a.st (cfgM b.rules ⟨0, c1.tapes⟩ k)) = none := h.none_b (inB_iff.1 kb.1).1 (by rw [cfgM_tapes, ← h.tp]; exact kl) l2
  refine ⟨⟨⟨fun j hj => ?_, fun j hj => ?_⟩, by have := h1.le; have := h2.le; omega, .inr (by rw [eb k (Nat.le_refl _)]; exact hz)⟩, by rw [eb k (Nat.le_refl _)]; exact hz, eb k (Nat.le_refl _)⟩
  · rcases Nat.lt_trichotomy j n with e | e | e
    · rw [ea j (by omega)]
      exact (h.step_a (h1.runs.no j e)).1
    · subst e
      rw [ea j (Nat.le_refl _)]
      exact m1
    · obtain ⟨i, rfl⟩ : ∃ i, j = n + 1 + i := ⟨j - n - 1, by omega⟩
      rw [eb i (by omega)]
      exact (h.step_b (h2.runs.no i (by omega))).1
  · by_cases e : j ≤ n
    · rw [ea j e]
      exact h1.runs.room j e
    · obtain ⟨i, rfl⟩ : ∃ i, j = n + 1 + i := ⟨j - n - 1, by omega⟩
      rw [eb i (by omega)]
      exact h2.runs.room i (by omega)
end Go.Proofs.YtkbpchdncljlbaaGreatDoor
end
section
set_option linter.unusedVariables false
set_option linter.unusedSimpArgs false
namespace Go.Proofs.YtkbpchdncljlbaaGreatDoor
open Go Go.RowKit Go.Proofs Go.Maps
set_option maxHeartbeats 400000
theorem cmpM_trans (a b c : MRuleD) (h1 : cmpM a b < 0) (h2 : cmpM b c < 0) : cmpM a c < 0 := by
  have t := (cmpM_swo fun k => [a, b, c].getD k mr0).trans 0 1 2 (by simpa [ltOf] using h1) (by simpa [ltOf] using h2)
  simpa [ltOf] using t
theorem insM_perm (rs : List MRuleD) (r : MRuleD) : (insM rs r).Perm (r :: rs) := by
  unfold insM
  have h := List.take_append_drop (posM r rs rs.length) rs
  have h2 : (rs.take (posM r rs rs.length) ++ ([r] ++ rs.drop (posM r rs rs.length))).Perm (r :: (rs.take (posM r rs rs.length) ++ rs.drop (posM r rs rs.length))) := List.perm_middle
  rwa [h] at h2
theorem posM_hi (r : MRuleD) (rs : List MRuleD) : ∀ k i, posM r rs k ≤ i → i < k → cmpM r (rs.getD i mr0) < 0
  | 0, i, _, h => absurd h (Nat.not_lt_zero _)
  | k + 1, i, h1, h2 => by
    unfold posM at h1
    split at h1
    · rename_i hc
      by_cases e : i = k
      · rw [e]; exact hc
      · exact posM_hi r rs k i h1 (by omega)
    · omega
theorem posM_lo (r : MRuleD) (rs : List MRuleD) : ∀ k, 0 < posM r rs k → ¬ cmpM r (rs.getD (posM r rs k - 1) mr0) < 0
  | 0, h => by simp [posM] at h
  | k + 1, h => by
    unfold posM at h ⊢
    split
    · rename_i hc
      rw [if_pos hc] at h
      exact posM_lo r rs k h
    · rename_i hc
      exact hc
/-- Rules in strict order. -/
def StrictM (rs : List MRuleD) : Prop := rs.Pairwise fun a b => cmpM a b < 0
theorem StrictM.of_ok {m : MultiD} (hm : multiOk m = true) : StrictM m.rules := List.pairwise_iff_getElem.2 fun i j hi hj hij => by
  have := multi_lt hm j hj i hij
  rwa [getD_mr hi, getD_mr hj] at this
theorem StrictM.ins {rs : List MRuleD} {r : MRuleD} (h : StrictM rs) (ha : ∀ x ∈ rs, Apart r x) : StrictM (insM rs r) := by
  have hp := posM_le r rs rs.length
  have hhi : ∀ x ∈ rs.drop (posM r rs rs.length), cmpM r x < 0 := fun x hx => by
    obtain ⟨i, hi, rfl⟩ := List.getElem_of_mem hx
    rw [List.getElem_drop]
    simp at hi
    have := posM_hi r rs rs.length (posM r rs rs.length + i) (by omega) (by omega)
    rwa [getD_mr (show posM r rs rs.length + i < rs.length by omega)] at this
  have hlo : ∀ x ∈ rs.take (posM r rs rs.length), cmpM x r < 0 := fun x hx => by
    obtain ⟨i, hi, rfl⟩ := List.getElem_of_mem hx
    rw [List.getElem_take]
    simp at hi
    have hpos : 0 < posM r rs rs.length := by omega
    have hl := posM_lo r rs rs.length hpos
    have hq : posM r rs rs.length - 1 < rs.length := by omega
    rw [getD_mr hq] at hl
    have h1 := (ha _ (List.getElem_mem hq)).symm.lt hl
    by_cases e : i = posM r rs rs.length - 1
    · subst e; exact h1
    · exact cmpM_trans _ _ _ (List.pairwise_iff_getElem.1 h i _ (by omega) hq (by omega)) h1
  unfold StrictM insM
  rw [List.pairwise_append, List.pairwise_append]
  refine ⟨h.take, ⟨List.pairwise_singleton .., h.drop, fun a ha' b hb => ?_⟩, fun a ha' b hb => ?_⟩
  · rw [List.mem_singleton.1 ha']; exact hhi b hb
  · rcases List.mem_append.1 hb with hb | hb
    · rw [List.mem_singleton.1 hb]; exact hlo a ha'
    · exact cmpM_trans _ _ _ (hlo a ha') (hhi b hb)
theorem multi_strict {m : MultiD} (h1 : inB m.tp 2 3 = true) (h2 : inB m.sy 2 3 = true) (h3 : inB m.st 1 16 = true) (h4 : m.rules.length ≤ 60) (h5 : ∀ r ∈ m.rules, mruleOk m r = true) (h6 : StrictM m.rules) : multiOk m = true :=
  multi_of h1 h2 h3 h4 h5 fun k h0 hk => by
    have := List.pairwise_iff_getElem.1 h6 (k - 1) k (by omega) hk (by omega)
    rwa [getD_mr hk, getD_mr (show k - 1 < m.rules.length by omega)]
/-- A valid machine stays valid where a rule that it lacks is put in. -/
theorem multi_ins {tp sy st : Int} {rs : List MRuleD} {r : MRuleD} (hm : multiOk ⟨tp, sy, st, rs⟩ = true) (hr : mruleOk ⟨tp, sy, st, rs⟩ r = true) (ha : ∀ x ∈ rs, Apart r x) (hl : rs.length < 60) : multiOk ⟨tp, sy, st, insM rs r⟩ = true := by
  simp only [multiOk, Bool.and_eq_true] at hm
  refine multi_strict hm.1.1.1.1 hm.1.1.1.2 hm.1.1.2 (by show (insM rs r).length ≤ 60; rw [insM_len]; omega) (fun x hx => ?_) ?_
  · rcases List.mem_cons.1 ((insM_perm rs r).mem_iff.1 hx) with rfl | h
    · exact hr
    · have : multiOk ⟨tp, sy, st, rs⟩ = true := by simp only [multiOk, Bool.and_eq_true]; exact hm
      exact multi_memOk this h
  · exact StrictM.ins (StrictM.of_ok (m := ⟨tp, sy, st, rs⟩) (by simp only [multiOk, Bool.and_eq_true]; exact hm)) ha
def mkM (q a b wr x y n : Int) : MRuleD := ⟨q, [a, b], [a, wr], [x, y], n⟩
theorem OwnRul.low {base base' : Nat} {w : World} {v : Value} {r : MRuleD} (h : OwnRul base w v r) (hb : base' ≤ base) : OwnRul base' w v r := by
  obtain ⟨vr, vw, vm, e, o1, o2, o3⟩ := h
  exact ⟨vr, vw, vm, e, ownsRow_base o1 hb, ownsRow_base o2 hb, ownsRow_base o3 hb⟩
set_option maxRecDepth 20000 in
theorem l06Make_c (q a b s x y n : Int) (w : World) : Calls Tryz.prog 80 #[.int .i64 q, .int .i64 a, .int .i64 b, .int .i64 s, .int .i64 x, .int .i64 y, .int .i64 n] w fun e w' =>
    ∃ A1 c1 A2 c2 A3 c3, e = .returned (.agg #[.int .i64 q, .slice A1 2 c1, .slice A2 2 c2, .slice A3 2 c3, .int .i64 n]) ∧ OwnRul w.heap.size w' (.agg #[.int .i64 q, .slice A1 2 c1, .slice A2 2 c2, .slice A3 2 c3, .int .i64 n]) (mkM q a b s x y n) ∧ Ext w w' := by
  obtain ⟨V, hV⟩ : ∃ V, V = (((w.alloc (.cells #[.int .i64 q, .slice (some ⟨w.heap.size + 1, 0, none⟩) 2 2, .slice (some ⟨w.heap.size + 1 + 1, 0, none⟩) 2 2, .slice (some ⟨w.heap.size + 1 + 1 + 1, 0, none⟩) 2 2, .int .i64 n] 64)).alloc
    (.cells #[.int .i64 a, .int .i64 b] 2)).alloc (.cells #[.int .i64 a, .int .i64 s] 2)).alloc (.cells #[.int .i64 x, .int .i64 y] 2) := ⟨_, rfl⟩
  have hX : Ext w V := by rw [hV]; exact (((Ext.alloc _ _).trans (Ext.alloc _ _)).trans (Ext.alloc _ _)).trans (Ext.alloc _ _)
  have bR : Blk V w.heap.size 64 #[.int .i64 q, .slice (some ⟨w.heap.size + 1, 0, none⟩) 2 2, .slice (some ⟨w.heap.size + 1 + 1, 0, none⟩) 2 2, .slice (some ⟨w.heap.size + 1 + 1 + 1, 0, none⟩) 2 2, .int .i64 n] := by rw [hV]; exact (((Blk.new _ _ _ _ rfl).alloc _).alloc _).alloc _
  have b1 : Blk V (w.heap.size + 1) 2 #[.int .i64 a, .int .i64 b] := by rw [hV]; exact ((Blk.new _ _ _ _ (by simp)).alloc _).alloc _
  have b2 : Blk V (w.heap.size + 1 + 1) 2 #[.int .i64 a, .int .i64 s] := by rw [hV]; exact (Blk.new _ _ _ _ (by simp)).alloc _
  have b3 : Blk V (w.heap.size + 1 + 1 + 1) 2 #[.int .i64 x, .int .i64 y] := by rw [hV]; exact Blk.new _ _ _ _ (by simp)
  have ob := bR.cell
  have H := Lib.hid (⟨own2 b1 (by omega), own2 b2 (by omega), own2 b3 (by omega), hX⟩ : OwnInts w.heap.size V (.slice (some ⟨w.heap.size + 1, 0, none⟩) 2 2) [a, b] ∧ OwnInts w.heap.size V (.slice (some ⟨w.heap.size + 1 + 1, 0, none⟩) 2 2) [a, s] ∧ OwnInts w.heap.size V (.slice (some ⟨w.heap.size + 1 + 1 + 1, 0, none⟩) 2 2) [x, y] ∧ Ext w V)
  clear b1 b2 b3 hX bR
  go_enter Tryz.func80, Tryz.ntmps80
  go_wp2_with fail
  rw [← hV]
  exact bodyPost_ret (v := .agg #[.int .i64 q, .slice (some ⟨w.heap.size + 1, 0, none⟩) 2 2, .slice (some ⟨w.heap.size + 1 + 1, 0, none⟩) 2 2, .slice (some ⟨w.heap.size + 1 + 1 + 1, 0, none⟩) 2 2, .int .i64 n]) (by simp [results, Tryz.results80, go_sem, ob]) rfl
    ⟨_, _, _, _, _, _, rfl, ⟨_, _, _, rfl, H.out.1, H.out.2.1, H.out.2.2.1⟩, H.out.2.2.2⟩
end Go.Proofs.YtkbpchdncljlbaaGreatDoor
end
