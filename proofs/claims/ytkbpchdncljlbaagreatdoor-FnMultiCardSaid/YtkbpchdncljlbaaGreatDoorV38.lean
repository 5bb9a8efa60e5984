/- Contract of the program's beginning of a machine with several tapes on words.
Plain words: a run of a machine with several tapes stays among valid configurations; the texts of a run. No program runs here.
Contracts of the reference's list without blanks at its end, of its symbol under a head, and of its rule for a configuration with several tapes. -/
import Derived.Test.YtkbpchdncljlbaaGreatDoorV36
import Derived.Test.YtkbpchdncljlbaaGreatDoorV32
import Derived.Test.YtkbpchdncljlbaaGreatDoorV12
import Derived.Test.YtkbpchdncljlbaaGreatDoorV37
import Derived.Test.YtkbpchdncljlbaaGreatDoorV34
import Derived.Test.YtkbpchdncljlbaaGreatDoorV29
import Derived.Test.YtkbpchdncljlbaaGreatDoorV11
import Derived.Test.YtkbpchdncljlbaaGreatDoorV04
section
set_option linter.unusedVariables false
set_option linter.unusedSimpArgs false
namespace Go.Proofs.YtkbpchdncljlbaaGreatDoor
open Go Go.RowKit Go.Proofs Go.Maps
set_option maxHeartbeats 400000
theorem CpM.tapF {w w1 : World} {ts : List TapeD} {v : Value} {cl : List Value} (h : CpM w ts ts.length v cl w1) (h0 : 0 < ts.length) (hl : ∀ t ∈ ts, t.l.length ≤ 1000 ∧ t.r.length ≤ 1000) :
    ∃ g cap, v = .slice (some ⟨g, 0, none⟩) ts.length cap ∧ ts.length ≤ cap ∧ cap ≤ 9223372036854775807 ∧ TapF w1 g 0 ts := by
  have hlen := h.len
  rcases h.own.2 with ⟨_, e⟩ | ⟨g, cap, cur, e, hb, hh, hnc, hcm, hcs, htk⟩
  · omega
  · subst e
    have hget : ∀ j, j < ts.length * 2 → cur[j]? = cl[j]? := fun j hj => by
      rw [← htk, List.getElem?_take, if_pos (by omega)]
      simp
    have hB : Blk w1 g 50 cur := hh
    refine ⟨g, cap, rfl, hnc, by unfold maxLen at hcm; omega, fun i hi => ?_⟩
    obtain ⟨lv, rv, e1, e2, o1, o2⟩ := h.side i hi hi
    have := hl _ (List.getElem_mem hi)
    exact ⟨lv, rv, by rw [Nat.zero_add, hB.cell, hget _ (by omega)]; exact e1, by rw [Nat.zero_add, hB.cell, hget _ (by omega)]; exact e2, o1.ints, o2.ints, o1.flat, o2.flat, this.1, this.2⟩
/-- A word that may stand on a tape. -/
def wordOk (m : MultiD) (x : List Int) : Bool := decide (x.length ≤ 200) && x.all fun z => inB z 0 (m.sy - 1)
/-- What the beginning on words gives. -/
def StartR (m : MultiD) (ws : List (List Int)) (e : Ending) (w' : World) : Prop :=
  (multiOk m = false ∧ e = .returned (.tuple #[.agg #[.int .i64 0, .slice none 0 0], .int .i64 1])) ∨
  (multiOk m = true ∧ ¬ ((ws.length : Int) = m.tp ∧ ws.all (wordOk m) = true) ∧ e = .returned (.tuple #[.agg #[.int .i64 0, .slice none 0 0], .int .i64 2])) ∨
  (multiOk m = true ∧ (ws.length : Int) = m.tp ∧ ws.all (wordOk m) = true ∧ ∃ g cap, e = .returned (.tuple #[.agg #[.int .i64 0, .slice (some ⟨g, 0, none⟩) ws.length cap], .int .i64 0]) ∧ ws.length ≤ cap ∧ cap ≤ 9223372036854775807 ∧ TapF w' g 0 (ws.map startT))
/-- As StartR, with the tapes in rows of their own, made since w0. -/
def StartC (w0 : World) (m : MultiD) (ws : List (List Int)) (e : Ending) (w' : World) : Prop :=
  (multiOk m = false ∧ e = .returned (.tuple #[.agg #[.int .i64 0, .slice none 0 0], .int .i64 1])) ∨
  (multiOk m = true ∧ ¬ ((ws.length : Int) = m.tp ∧ ws.all (wordOk m) = true) ∧ e = .returned (.tuple #[.agg #[.int .i64 0, .slice none 0 0], .int .i64 2])) ∨
  (multiOk m = true ∧ (ws.length : Int) = m.tp ∧ ws.all (wordOk m) = true ∧ ∃ v cl, e = .returned (.tuple #[.agg #[.int .i64 0, v], .int .i64 0]) ∧ CpM w0 (ws.map startT) (ws.map startT).length v cl w')
end Go.Proofs.YtkbpchdncljlbaaGreatDoor
end
section
set_option linter.unusedVariables false
set_option linter.unusedSimpArgs false
namespace Go.Proofs.YtkbpchdncljlbaaGreatDoor
open Go Go.RowKit Go.Proofs
theorem trimN_end (xs : List Int) : ∀ n, trimN xs n = 0 ∨ xs.getD (trimN xs n - 1) 0 ≠ 0 := by
  intro n
  induction n with
  | zero => exact .inl rfl
  | succ n ih =>
    unfold trimN
    split
    · exact ih
    · rename_i h
      right
      simpa using h
theorem trim_side2 {xs : List Int} {sy : Int} (hl : (trim xs).length ≤ 200) (h : ∀ z ∈ xs, 0 ≤ z ∧ z ≤ sy - 1) : sideOk (trim xs) sy 200 = true := by
  have hle := trim_len xs
  simp only [sideOk, inB, Bool.and_eq_true, Bool.or_eq_true, decide_eq_true_eq, List.all_eq_true, beq_iff_eq, bne_iff_ne, ne_eq]
  refine ⟨⟨by omega, fun z hz => by have := h z (trim_mem hz); omega⟩, ?_⟩
  by_cases h0 : 0 < (trim xs).length
  · right
    rw [lastD_get h0]
    have hn : (trim xs).length = trimN xs xs.length := by
      have := trimN_le xs xs.length
      simp [trim]; omega
    rcases trimN_end xs xs.length with e | e
    · omega
    · rw [← hn, List.getD_eq_getElem?_getD] at e
      have hk : (trim xs).length - 1 < (trim xs).length := by omega
      have hk' : (trim xs).length - 1 < xs.length := by omega
      rw [List.getElem?_eq_getElem hk', Option.getD_some] at e
      have : (trim xs)[(trim xs).length - 1] = xs[(trim xs).length - 1] := by simp [trim]
      rw [this]
      exact e
  · left
    omega
theorem getD_in {xs : List Int} {hi : Int} (h : ∀ z ∈ xs, 0 ≤ z ∧ z ≤ hi) (h0 : 0 ≤ hi) (k : Nat) : 0 ≤ xs.getD k 0 ∧ xs.getD k 0 ≤ hi := by
  by_cases hk : k < xs.length
  · rw [List.getD_eq_getElem?_getD, List.getElem?_eq_getElem hk]
    exact h _ (List.getElem_mem hk)
  · rw [List.getD_eq_getElem?_getD, List.getElem?_eq_none (by omega)]
    exact ⟨Int.le_refl _, h0⟩
theorem writeT_ok {m : MultiD} {t : TapeD} {s mv : Int} (hl : ∀ z ∈ t.l, 0 ≤ z ∧ z ≤ m.sy - 1) (hr : ∀ z ∈ t.r, 0 ≤ z ∧ z ≤ m.sy - 1) (hs : 0 ≤ s ∧ s ≤ m.sy - 1) (h2 : 2 ≤ m.sy) (hroom : roomT (writeT t s mv) = true) : tapeOk m (writeT t s mv) = true := by
  simp only [roomT, Bool.and_eq_true, decide_eq_true_eq] at hroom
  obtain ⟨r1, r2⟩ := hroom
  have hd : ∀ {xs : List Int} (k : Nat), (∀ z ∈ xs, 0 ≤ z ∧ z ≤ m.sy - 1) → ∀ z ∈ xs.drop k, 0 ≤ z ∧ z ≤ m.sy - 1 := fun k h z hz => h z (List.mem_of_mem_drop hz)
  have hc : ∀ {x : Int} {xs : List Int}, (0 ≤ x ∧ x ≤ m.sy - 1) → (∀ z ∈ xs, 0 ≤ z ∧ z ≤ m.sy - 1) → ∀ z ∈ x :: xs, 0 ≤ z ∧ z ≤ m.sy - 1 := fun hx h z hz => by
    rcases List.mem_cons.1 hz with e | e
    · rw [e]; exact hx
    · exact h z e
  have hw : ∀ z ∈ writeR t s, 0 ≤ z ∧ z ≤ m.sy - 1 := hc hs (hd 1 hr)
  unfold writeT at r1 r2 ⊢
  simp only [tapeOk, Bool.and_eq_true]
  split at r1
  · rename_i e
    rw [if_pos e] at r2 ⊢
    exact ⟨trim_side2 r1 (hc hs hl), trim_side2 r2 (hd 1 hr)⟩
  · rename_i e
    rw [if_neg e] at r2 ⊢
    split at r1
    · rename_i e2
      rw [if_pos e2] at r2 ⊢
      exact ⟨trim_side2 r1 (hd 1 hl), trim_side2 r2 (hc (getD_in hl (by omega) 0) hw)⟩
    · rename_i e2
      rw [if_neg e2] at r2 ⊢
      exact ⟨trim_side2 r1 hl, trim_side2 r2 hw⟩
/-- A run stays among valid configurations. -/
theorem cfg_ok {m : MultiD} {c : MConfD} (hm : multiOk m = true) (hq : inB c.q 0 (m.st - 1) = true) (hn : (c.tapes.length : Int) = m.tp) (hts : c.tapes.all (tapeOk m) = true) : ∀ i, MRuns m.rules c i →
    inB (cfgM m.rules c i).q 0 (m.st - 1) = true ∧ (cfgM m.rules c i).tapes.all (tapeOk m) = true
  | 0, _ => ⟨hq, hts⟩
  | i + 1, h => by
    obtain ⟨iq, it⟩ := cfg_ok hm hq hn hts i ⟨fun j hj => h.no j (by omega), fun j hj => h.room j (by omega)⟩
    have h0 := h.no i (by omega)
    have hr := h.room (i + 1) (Nat.le_refl _)
    have hlen := cfgM_tapes m.rules c i
    cases hl : lookM m.rules (cfgM m.rules c i) with
    | none => exact absurd hl h0
    | some j =>
      have hjl : j < m.rules.length := findM_lt hl
      have e : m.rules.getD j mr0 = m.rules[j] := by rw [List.getD_eq_getElem?_getD, List.getElem?_eq_getElem hjl]; rfl
      have hs : cfgM m.rules c (i + 1) = applyM (cfgM m.rules c i) m.rules[j] := by
        show stepM m.rules (cfgM m.rules c i) = _
        rw [step_some hl, e]
      have hro := mrule_all (multi_rule hm hjl)
      obtain ⟨_, ⟨n1, n2⟩, l1, l2, l3, _, w2, _⟩ := hro
      obtain ⟨_, ⟨sy1, sy2⟩, _⟩ := multi_all hm
      rw [hs] at hr ⊢
      refine ⟨inB_iff.2 ⟨n1, n2⟩, List.all_eq_true.2 fun t ht => ?_⟩
      have hrt := List.all_eq_true.1 hr t ht
      obtain ⟨k, hk, rfl⟩ := List.getElem_of_mem ht
      have hk' : k < (cfgM m.rules c i).tapes.length := by rw [← writeAll_length (cfgM m.rules c i).tapes m.rules[j].wr m.rules[j].mv]; exact hk
      have e2 : (applyM (cfgM m.rules c i) m.rules[j]).tapes[k] = writeT (cfgM m.rules c i).tapes[k] (m.rules[j].wr.getD k 0) (m.rules[j].mv.getD k 0) := writeAll_get _ _ _ k hk'
      rw [e2] at hrt ⊢
      obtain ⟨_, a, b⟩ := tape_len (List.all_eq_true.1 it _ (List.getElem_mem hk'))
      exact writeT_ok a b (getD_in w2 (by omega) k) (by omega) hrt
theorem start_ok {m : MultiD} {ws : List (List Int)} (h2 : 2 ≤ m.sy) (h : ws.all (wordOk m) = true) : (startM ws).tapes.all (tapeOk m) = true := by
  rw [List.all_eq_true]
  intro t ht
  obtain ⟨x, hx, rfl⟩ := List.mem_map.1 ht
  have := List.all_eq_true.1 h x hx
  simp only [wordOk, Bool.and_eq_true, decide_eq_true_eq, List.all_eq_true] at this
  have hl := trim_len x
  simp only [tapeOk, startT, Bool.and_eq_true]
  exact ⟨by simp [sideOk], trim_side2 (by omega) (fun z hz => inB_iff.1 (this.2 z hz))⟩
/-- What the texts of a run are: those of all its configurations and the code 0, or none and the code 5 where the tapes are full. -/
def MTx (rs : List MRuleD) (c : MConfD) (N : Nat) (f : MConfD → List UInt8) (L : List (List UInt8)) (k : Int) : Prop :=
  (∃ i, MEnd rs c N i ∧ L = (List.range (i + 1)).map (fun j => f (cfgM rs c j)) ∧ k = 0) ∨ (∃ i, MFull rs c N i ∧ L = [] ∧ k = 5)
theorem MEnd.one {rs : List MRuleD} {c : MConfD} {N i j : Nat} (h : MEnd rs c N i) (h' : MEnd rs c N j) : i = j := by
  rcases Nat.lt_trichotomy i j with e | e | e
  · rcases h.stop with s | s
    · have := h'.le; omega
    · exact absurd s (h'.runs.no i e)
  · exact e
  · rcases h'.stop with s | s
    · have := h.le; omega
    · exact absurd s (h.runs.no j e)
theorem MEnd.notFull {rs : List MRuleD} {c : MConfD} {N i j : Nat} (h : MEnd rs c N i) (h' : MFull rs c N j) : False := by
  have hp := h'.pos
  by_cases e : j ≤ i
  · have := h.runs.room j e
    rw [h'.full] at this
    cases this
  · rcases h.stop with s | s
    · have := h'.le; omega
    · by_cases e2 : i = j - 1
      · rw [e2] at s
        exact h'.no s
      · exact absurd s (h'.runs.no i (by omega))
theorem MTx.unique {rs : List MRuleD} {c : MConfD} {N : Nat} {f : MConfD → List UInt8} {L L' : List (List UInt8)} {k k' : Int} (h : MTx rs c N f L k) (h' : MTx rs c N f L' k') : L = L' ∧ k = k' := by
  rcases h with ⟨i, h, rfl, rfl⟩ | ⟨i, h, rfl, rfl⟩ <;> rcases h' with ⟨j, h', rfl, rfl⟩ | ⟨j, h', rfl, rfl⟩
  · rw [h.one h']; exact ⟨rfl, rfl⟩
  · exact absurd h' (fun h' => h.notFull h')
  · exact absurd h (fun h => h'.notFull h)
  · exact ⟨rfl, rfl⟩
end Go.Proofs.YtkbpchdncljlbaaGreatDoor
end
section
set_option linter.unusedVariables false
set_option linter.unusedSimpArgs false
namespace Go.Proofs.YtkbpchdncljlbaaGreatDoor
open Go Go.RowKit Go.Proofs
set_option maxHeartbeats 400000
theorem l02Trim_c (v : Value) (xs : List Int) (w : World) (h : Ints w v xs) (hn : xs.length ≤ 1048576) :
    Calls Tryz.prog 82 #[v] w fun e w' => (∃ A c, v = .slice A xs.length c ∧ e = .returned (.slice A (trimN xs xs.length) c)) ∧ w = w' := by
  have hI := h
  obtain ⟨A, c, rfl, h2, h2'⟩ := h.form
  go_enter Tryz.func82, Tryz.ntmps82
  go_wp2
  go_loopw [3] (fun i wr => ∃ n : Nat, n ≤ xs.length ∧ i = .int .i64 n ∧ wr = w ∧ Hid (trimN xs xs.length = trimN xs n)) (fun i _ => (intOf i).toNat)
  case atStart => exact ⟨_, Nat.le_refl _, rfl, rfl, rfl⟩
  case round =>
    obtain ⟨n, hn', rfl, rfl, HT⟩ := hrel
    by_cases h0 : n = 0
    · subst h0
      have HR : Hid (trimN xs xs.length = 0) := by unfold Hid; rw [HT.out]; rfl
      have i1 : (0 : Int) ≤ (c : Int) := by omega
      go_wp2_with fail
      go_ret
      exact ⟨⟨A, c, rfl, by rw [HR.out]; rfl⟩, by first | rfl | trivial⟩
    · obtain ⟨k, rfl⟩ : ∃ k, n = k + 1 := ⟨n - 1, by omega⟩
      obtain ⟨b, off, rfl, hc⟩ := h.at (k := k) (by omega)
      have c0 := hc k (by omega)
      have eg : xs.getD k 0 = xs[k] := by rw [List.getD_eq_getElem?_getD, List.getElem?_eq_getElem (by omega)]; rfl
      have HEG := Lib.hid eg
      have hk0 : (0 : Int) < (k : Int) + 1 := by omega
      have hk1 : (k : Int) + 1 - 1 = (k : Int) := by omega
      clear hc eg
      by_cases hz : xs[k] = 0
      · have HZ := Lib.hid hz
        rw [hz] at c0
        clear hz
        go_wp2
        go_roundw
        case rel => exact ⟨k, by omega, by go_num, by first | rfl | trivial, Lib.hid (by rw [HT.out]; show (if xs.getD k 0 = 0 then _ else _) = _; rw [if_pos (by rw [HEG.out, HZ.out])])⟩
        case measure => simp [intOf]
      · have HR : Hid (trimN xs xs.length = k + 1) := Lib.hid (by rw [HT.out]; show (if xs.getD k 0 = 0 then _ else _) = _; rw [if_neg (by rw [HEG.out]; exact hz)])
        have Z : (xs[k] == 0) = false := beq_eq_false_iff_ne.2 hz
        have i1 : (k : Int) + 1 ≤ (c : Int) := by omega
        have i2 : (0 : Int) ≤ (k : Int) + 1 := by omega
        generalize xs[k] = z at *
        go_wp2_with fail
        go_ret
        exact ⟨⟨_, c, rfl, by rw [HR.out]; rfl⟩, by first | rfl | trivial⟩
theorem l06Trim_c (v : Value) (xs : List Int) (w : World) (h : Ints w v xs) (hn : xs.length ≤ 1048576) :
    Calls Tryz.prog 49 #[v] w fun e w' => ∃ u, e = .returned u ∧ OwnInts w.heap.size w' u (trim xs) ∧ Ext w w' := by
  have LT := l02Trim_c v xs w h hn
  obtain ⟨A, c, rfl, _, _⟩ := id h.form
  go_enter Tryz.func49, Tryz.ntmps49
  go_wp2_with fail
  refine LT.mono ?_
  rintro e _ ⟨⟨A', c', e', rfl⟩, rfl⟩
  injection e' with e1 _ e3
  subst e1 e3
  have hl : (trim xs).length ≤ 1048576 := by have := trim_len xs; omega
  have ht : Ints w (.slice A (trimN xs xs.length) c) (trim xs) := h.take _ (trimN_le _ _)
  have LO := l00OwnA_c _ _ w ht hl
  generalize trimN xs xs.length = n at *
  clear LT
  go_wp2_with fail
  refine LO.mono ?_
  rintro e w2 ⟨u, rfl, ho, hx⟩
  obtain ⟨Au, cu, rfl, _, _⟩ := id ho.ints.form
  generalize (trim xs).length = m at *
  go_wp2_with fail
  go_ret
  exact ⟨_, rfl, ho, hx⟩
/-- A tape behind a pointer. -/
def TapP (w : World) (b o : Nat) (t : TapeD) : Prop := ∃ lv rv, w.cell? ⟨b, o, none⟩ = some lv ∧ w.cell? ⟨b, o + 1, none⟩ = some rv ∧ Ints w lv t.l ∧ Ints w rv t.r
theorem TapP.ext {w w' : World} {b o : Nat} {t : TapeD} (h : TapP w b o t) (he : Ext w w') : TapP w' b o t := by
  obtain ⟨lv, rv, a, c, d, e⟩ := h
  exact ⟨lv, rv, he.cell a, he.cell c, d.ext he, e.ext he⟩
theorem l06Head_c (b o : Nat) (t : TapeD) (w : World) (h : TapP w b o t) : Calls Tryz.prog 104 #[.pointer (some ⟨b, o, none⟩)] w fun e w' => e = .returned (.int .i64 (headT t)) ∧ w = w' := by
  obtain ⟨lv, rv, c0, c1, il, ir⟩ := h
  obtain ⟨A, c, rfl, _, _⟩ := ir.form
  by_cases h0 : t.r.length = 0
  · have HZ : Hid (headT t = 0) := by unfold Hid headT; rw [List.getD_eq_getElem?_getD, List.getElem?_eq_none (by omega)]; rfl
    have hb : ((t.r.length : Int) == 0) = true := by simp [h0]
    rw [HZ.out]
    go_enter Tryz.func104, Tryz.ntmps104
    go_wp2_with fail
    go_ret
    exact ⟨rfl, rfl⟩
  · have hp : 0 < t.r.length := by omega
    obtain ⟨b2, o2, rfl, hc⟩ := ir.at hp
    have x0 := hc 0 hp
    rw [Nat.add_zero] at x0
    have HZ : Hid (headT t = t.r[0]) := by unfold Hid headT; rw [List.getD_eq_getElem?_getD, List.getElem?_eq_getElem hp]; rfl
    have hb : ((t.r.length : Int) == 0) = false := by simp [h0]
    rw [HZ.out]
    generalize t.r[0] = z at *
    clear hc
    go_enter Tryz.func104, Tryz.ntmps104
    go_wp2_with fail
    go_ret
    exact ⟨rfl, rfl⟩
/-- A rule for a state and a list. -/
def isRul (q : Int) (xs : List Int) (r : MRuleD) : Prop := r.st = q ∧ r.rd = xs
set_option maxRecDepth 20000 in
set_option maxHeartbeats 1000000 in
theorem l06RuleOf_c (bm : Nat) (m : MultiD) (rv v : Value) (q : Int) (xs : List Int) (w : World) (hb : Blk w bm 26 #[.int .i64 m.tp, .int .i64 m.sy, .int .i64 m.st, rv]) (hr : MRules w rv m.rules) (hx : Ints w v xs) :
    Calls Tryz.prog 45 #[.pointer (some ⟨bm, 0, none⟩), .int .i64 q, v] w fun e w' => ∃ z : Int, e = .returned (.int .i64 z) ∧
      ((∃ k : Nat, k < m.rules.length ∧ z = (k : Int) ∧ isRul q xs (m.rules.getD k mr0)) ∨ (z = -1 ∧ ∀ j, j < m.rules.length → ¬ isRul q xs (m.rules.getD j mr0))) ∧ Ext w w' := by
  obtain ⟨A, c, rfl, hc1, hc2⟩ := hr.form
  have m3 := hb.cell 3
  simp only [List.getElem?_toArray, List.getElem?_cons_zero, List.getElem?_cons_succ] at m3
  obtain ⟨B, d, rfl, _, _⟩ := id hx.form
  go_enter Tryz.func45, Tryz.ntmps45
  go_wp2_with fail
  go_loopw [7] (fun i wr => ∃ k : Nat, k ≤ m.rules.length ∧ i = .int .i64 (k : Int) ∧ Ext w wr ∧ Hid (∀ j, j < k → ¬ isRul q xs (m.rules.getD j mr0))) (fun i _ => m.rules.length - (intOf i).toNat)
  case atStart => exact ⟨0, Nat.zero_le _, rfl, Ext.refl _, Lib.hid fun j hj => by omega⟩
  case round =>
    obtain ⟨k, hk, rfl, hxw, HNO⟩ := hrel
    have e3 := hxw.cell m3
    by_cases hlt : k < m.rules.length
    · obtain ⟨b, off, vr, vw, vm, rfl, c0, c1, c2, c3, c4, j1, j2, j3⟩ := (hr.ext hxw).at hlt
      have hgd : m.rules.getD k mr0 = m.rules[k] := by rw [List.getD_eq_getElem?_getD, List.getElem?_eq_getElem hlt]; rfl
      have HGD := Lib.hid hgd
      obtain ⟨r, hrk⟩ : ∃ r, m.rules[k] = r := ⟨_, rfl⟩
      rw [hrk] at c0 c4 j1 HGD
      obtain ⟨A1, k1, rfl, _, _⟩ := id j1.form
      have LS := l00Same_c wr (.slice A1 r.rd.length k1) (.slice B xs.length d) r.rd xs j1 (hx.ext hxw)
      have HNEXT : Hid (¬ isRul q xs r → ∀ j, j < k + 1 → ¬ isRul q xs (m.rules.getD j mr0)) := Lib.hid fun hn j hj => by
        by_cases e : j = k
        · subst e; rw [HGD.out]; exact hn
        · exact HNO.out j (by omega)
      have HFIND : Hid (isRul q xs r → isRul q xs (m.rules.getD k mr0)) := Lib.hid fun hh => by rw [HGD.out]; exact hh
      clear hgd hrk j1 j2 j3 c2 c3
      by_cases h1 : r.st = q
      · have hb1 : (r.st == q) = true := by simp [h1]
        by_cases h2 : r.rd = xs
        · have HF := Lib.hid (HFIND.out ⟨h1, h2⟩)
          rw [lEq_true h2] at LS
          clear h1 h2 HNEXT HFIND
          generalize r.rd.length = l1 at *
          go_wp2_with fail
          refine LS.mono ?_
          rintro e w2 ⟨rfl, hx2⟩
          have hX2 := hxw.trans hx2
          clear LS hx2
          go_wp2_with fail
          go_ret
          exact ⟨_, rfl, .inl ⟨k, hlt, rfl, HF.out⟩, hX2⟩
        · have HF := Lib.hid (HNEXT.out (fun hh => h2 hh.2))
          rw [lEq_false h2] at LS
          clear h1 h2 HNEXT HFIND
          generalize r.rd.length = l1 at *
          go_wp2_with fail
          refine LS.mono ?_
          rintro e w2 ⟨rfl, hx2⟩
          have hX2 := hxw.trans hx2
          clear LS hx2
          go_wp2_with fail
          go_roundw
          case rel => exact ⟨k + 1, by omega, by go_num, hX2, HF.out⟩
          case measure => simp [intOf]; omega
      · have hb1 : (r.st == q) = false := by simp [h1]
        have HF := Lib.hid (HNEXT.out (fun hh => h1 hh.1))
        clear h1 HNEXT HFIND LS
        go_wp2_with fail
        go_roundw
        case rel => exact ⟨k + 1, by omega, by go_num, hxw, HF.out⟩
        case measure => simp [intOf]; omega
    · obtain rfl : k = m.rules.length := by omega
      go_wp2_with fail
      go_ret
      exact ⟨_, rfl, .inr ⟨rfl, HNO.out⟩, hxw⟩
end Go.Proofs.YtkbpchdncljlbaaGreatDoor
end
