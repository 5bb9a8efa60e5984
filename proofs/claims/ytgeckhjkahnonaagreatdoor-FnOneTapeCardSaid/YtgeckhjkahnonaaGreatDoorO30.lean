/- Plain words: a run of a machine with several tapes stays among valid configurations; the texts of a run. No program runs here.
Plain words: the machine with one tape for several is a valid one; the beginning of its run; what its run comes to.
Plain words: the machine with one tape makes the steps that its places say. -/
import Derived.Test.YtgeckhjkahnonaaGreatDoorO29
import Derived.Test.YtgeckhjkahnonaaGreatDoorO24
import Derived.Test.YtgeckhjkahnonaaGreatDoorO25
import Derived.Test.YtgeckhjkahnonaaGreatDoorO27
import Derived.Test.YtgeckhjkahnonaaGreatDoorO09
import Derived.Test.YtgeckhjkahnonaaGreatDoorO11
section
set_option linter.unusedVariables false
set_option linter.unusedSimpArgs false
namespace Go.Proofs.YtgeckhjkahnonaaGreatDoor
open Go Go.RowKit Go.Proofs
theorem trimN_end (xs : List Int) : ∀ n, trimN xs n = 0 ∨ xs.getD (trimN xs n - 1) 0 ≠ 0 := by
  intro n
  induction n with
  | zero => exact .inl rfl
  | succ n ih =>
    unfold trimN
    split
    · exact ih
    · rename_i h
      right
      simpa using h
theorem trim_side2 {xs : List Int} {sy : Int} (hl : (trim xs).length ≤ 200) (h : ∀ z ∈ xs, 0 ≤ z ∧ z ≤ sy - 1) : sideOk (trim xs) sy 200 = true := by
  have hle := trim_len xs
  simp only [sideOk, inB, Bool.and_eq_true, Bool.or_eq_true, decide_eq_true_eq, List.all_eq_true, beq_iff_eq, bne_iff_ne, ne_eq]
  refine ⟨⟨by omega, fun z hz => by have := h z (trim_mem hz); omega⟩, ?_⟩
  by_cases h0 : 0 < (trim xs).length
  · right
    rw [lastD_get h0]
    have hn : (trim xs).length = trimN xs xs.length := by
      have := trimN_le xs xs.length
      simp [trim]; omega
    rcases trimN_end xs xs.length with e | e
    · omega
    · rw [← hn, List.getD_eq_getElem?_getD] at e
      have hk : (trim xs).length - 1 < (trim xs).length := by omega
      have hk' : (trim xs).length - 1 < xs.length := by omega
      rw [List.getElem?_eq_getElem hk', Option.getD_some] at e
      have : (trim xs)[(trim xs).length - 1] = xs[(trim xs).length - 1] := by simp [trim]
      rw [this]
      exact e
  · left
    omega
theorem getD_in {xs : List Int} {hi : Int} (h : ∀ z ∈ xs, 0 ≤ z ∧ z ≤ hi) (h0 : 0 ≤ hi) (k : Nat) : 0 ≤ xs.getD k 0 ∧ xs.getD k 0 ≤ hi := by
  by_cases hk : k < xs.length
  · rw [List.getD_eq_getElem?_getD, List.getElem?_eq_getElem hk]
    exact h _ (List.getElem_mem hk)
  · rw [List.getD_eq_getElem?_getD, List.getElem?_eq_none (by omega)]
    exact ⟨Int.le_refl _, h0⟩
theorem writeT_ok {m : MultiD} {t : TapeD} {s mv : Int} (hl : ∀ z ∈ t.l, 0 ≤ z ∧ z ≤ m.sy - 1) (hr : ∀ z ∈ t.r, 0 ≤ z ∧ z ≤ m.sy - 1) (hs : 0 ≤ s ∧ s ≤ m.sy - 1) (h2 : 2 ≤ m.sy) (hroom : roomT (writeT t s mv) = true) : tapeOk m (writeT t s mv) = true := by
  simp only [roomT, Bool.and_eq_true, decide_eq_true_eq] at hroom
  obtain ⟨r1, r2⟩ := hroom
  have hd : ∀ {xs : List Int} (k : Nat), (∀ z ∈ xs, 0 ≤ z ∧ z ≤ m.sy - 1) → ∀ z ∈ xs.drop k, 0 ≤ z ∧ z ≤ m.sy - 1 := fun k h z hz => h z (List.mem_of_mem_drop hz)
  have hc : ∀ {x : Int} {xs : List Int}, (0 ≤ x ∧ x ≤ m.sy - 1) → (∀ z ∈ xs, 0 ≤ z ∧ z ≤ m.sy - 1) → ∀ z ∈ x :: xs, 0 ≤ z ∧ z ≤ m.sy - 1 := fun hx h z hz => by
    rcases List.mem_cons.1 hz with e | e
    · rw [e]; exact hx
    · exact h z e
  have hw : ∀ z ∈ writeR t s, 0 ≤ z ∧ z ≤ m.sy - 1 := hc hs (hd 1 hr)
  unfold writeT at r1 r2 ⊢
  simp only [tapeOk, Bool.and_eq_true]
  split at r1
  · rename_i e
    rw [if_pos e] at r2 ⊢
    exact ⟨trim_side2 r1 (hc hs hl), trim_side2 r2 (hd 1 hr)⟩
  · rename_i e
    rw [if_neg e] at r2 ⊢
    split at r1
    · rename_i e2
      rw [if_pos e2] at r2 ⊢
      exact ⟨trim_side2 r1 (hd 1 hl), trim_side2 r2 (hc (getD_in hl (by omega) 0) hw)⟩
    · rename_i e2
      rw [if_neg e2] at r2 ⊢
      exact ⟨trim_side2 r1 hl, trim_side2 r2 hw⟩
/-- A run stays among valid configurations. -/
theorem cfg_ok {m : MultiD} {c : MConfD} (hm : multiOk m = true) (hq : inB c.q 0 (m.st - 1) = true) (hn : (c.tapes.length : Int) = m.tp) (hts : c.tapes.all (tapeOk m) = true) : ∀ i, MRuns m.rules c i →
    inB (cfgM m.rules c i).q 0 (m.st - 1) = true ∧ (cfgM m.rules c i).tapes.all (tapeOk m) = true
  | 0, _ => ⟨hq, hts⟩
  | i + 1, h => by
    obtain ⟨iq, it⟩ := cfg_ok hm hq hn hts i ⟨fun j hj => h.no j (by omega), fun j hj => h.room j (by omega)⟩
    have h0 := h.no i (by omega)
    have hr := h.room (i + 1) (Nat.le_refl _)
    have hlen := cfgM_tapes m.rules c i
    cases hl : lookM m.rules (cfgM m.rules c i) with
    | none => exact absurd hl h0
    | some j =>
      have hjl : j < m.rules.length := findM_lt hl
      have e : m.rules.getD j mr0 = m.rules[j] := by rw [List.getD_eq_getElem?_getD, List.getElem?_eq_getElem hjl]; rfl
      have hs : cfgM m.rules c (i + 1) = applyM (cfgM m.rules c i) m.rules[j] := by
        show stepM m.rules (cfgM m.rules c i) = _
        rw [step_some hl, e]
      have hro := mrule_all (multi_rule hm hjl)
      obtain ⟨_, ⟨n1, n2⟩, l1, l2, l3, _, w2, _⟩ := hro
      obtain ⟨_, ⟨sy1, sy2⟩, _⟩ := multi_all hm
      rw [hs] at hr ⊢
      refine ⟨inB_iff.2 ⟨n1, n2⟩, List.all_eq_true.2 fun t ht => ?_⟩
      have hrt := List.all_eq_true.1 hr t ht
      obtain ⟨k, hk, rfl⟩ := List.getElem_of_mem ht
      have hk' : k < (cfgM m.rules c i).tapes.length := by rw [← writeAll_length (cfgM m.rules c i).tapes m.rules[j].wr m.rules[j].mv]; exact hk
      have e2 : (applyM (cfgM m.rules c i) m.rules[j]).tapes[k] = writeT (cfgM m.rules c i).tapes[k] (m.rules[j].wr.getD k 0) (m.rules[j].mv.getD k 0) := writeAll_get _ _ _ k hk'
      rw [e2] at hrt ⊢
      obtain ⟨_, a, b⟩ := tape_len (List.all_eq_true.1 it _ (List.getElem_mem hk'))
      exact writeT_ok a b (getD_in w2 (by omega) k) (by omega) hrt
theorem start_ok {m : MultiD} {ws : List (List Int)} (h2 : 2 ≤ m.sy) (h : ws.all (wordOk m) = true) : (startM ws).tapes.all (tapeOk m) = true := by
  rw [List.all_eq_true]
  intro t ht
  obtain ⟨x, hx, rfl⟩ := List.mem_map.1 ht
  have := List.all_eq_true.1 h x hx
  simp only [wordOk, Bool.and_eq_true, decide_eq_true_eq, List.all_eq_true] at this
  have hl := trim_len x
  simp only [tapeOk, startT, Bool.and_eq_true]
  exact ⟨by simp [sideOk], trim_side2 (by omega) (fun z hz => inB_iff.1 (this.2 z hz))⟩
/-- What the texts of a run are: those of all its configurations and the code 0, or none and the code 5 where the tapes are full. -/
def MTx (rs : List MRuleD) (c : MConfD) (N : Nat) (f : MConfD → List UInt8) (L : List (List UInt8)) (k : Int) : Prop :=
  (∃ i, MEnd rs c N i ∧ L = (List.range (i + 1)).map (fun j => f (cfgM rs c j)) ∧ k = 0) ∨ (∃ i, MFull rs c N i ∧ L = [] ∧ k = 5)
theorem MEnd.one {rs : List MRuleD} {c : MConfD} {N i j : Nat} (h : MEnd rs c N i) (h' : MEnd rs c N j) : i = j := by
  rcases Nat.lt_trichotomy i j with e | e | e
  · rcases h.stop with s | s
    · have := h'.le; omega
    · exact absurd s (h'.runs.no i e)
  · exact e
  · rcases h'.stop with s | s
    · have := h.le; omega
    · exact absurd s (h.runs.no j e)
theorem MEnd.notFull {rs : List MRuleD} {c : MConfD} {N i j : Nat} (h : MEnd rs c N i) (h' : MFull rs c N j) : False := by
  have hp := h'.pos
  by_cases e : j ≤ i
  · have := h.runs.room j e
    rw [h'.full] at this
    cases this
  · rcases h.stop with s | s
    · have := h'.le; omega
    · by_cases e2 : i = j - 1
      · rw [e2] at s
        exact h'.no s
      · exact absurd s (h'.runs.no i (by omega))
theorem MTx.unique {rs : List MRuleD} {c : MConfD} {N : Nat} {f : MConfD → List UInt8} {L L' : List (List UInt8)} {k k' : Int} (h : MTx rs c N f L k) (h' : MTx rs c N f L' k') : L = L' ∧ k = k' := by
  rcases h with ⟨i, h, rfl, rfl⟩ | ⟨i, h, rfl, rfl⟩ <;> rcases h' with ⟨j, h', rfl, rfl⟩ | ⟨j, h', rfl, rfl⟩
  · rw [h.one h']; exact ⟨rfl, rfl⟩
  · exact absurd h' (fun h' => h.notFull h')
  · exact absurd h (fun h => h'.notFull h)
  · exact ⟨rfl, rfl⟩
end Go.Proofs.YtgeckhjkahnonaaGreatDoor
end
section
set_option linter.unusedSimpArgs false
set_option linter.unusedVariables false
namespace Go.Proofs.YtgeckhjkahnonaaGreatDoor
open Go Go.RowKit Go.Proofs
theorem getD_all {xs : List Int} {P : Int → Prop} (h : ∀ z ∈ xs, P z) (h0 : P 0) (i : Nat) : P (xs.getD i 0) := by
  rw [List.getD_eq_getElem?_getD]
  cases hi : xs[i]? with
  | none => exact h0
  | some z => exact h z (List.mem_of_getElem? hi)
theorem rule_wm {m : MultiD} (hm : multiOk m = true) {i : Int} (i0 : 0 ≤ i) (i1 : i < m.rules.length) (t : Nat) :
    (0 ≤ (mrAt m i).wr.getD t 0 ∧ (mrAt m i).wr.getD t 0 ≤ m.sy - 1) ∧ (-1 ≤ (mrAt m i).mv.getD t 0 ∧ (mrAt m i).mv.getD t 0 ≤ 1) := by
  obtain ⟨_, ⟨y1, y2⟩, _⟩ := multi_all hm
  obtain ⟨j, rfl, hj, e, hr⟩ := mrAt_ok hm i0 i1
  obtain ⟨_, _, _, _, _, _, hw, hv⟩ := mrule_all hr
  rw [e]
  exact ⟨getD_all (P := fun z => 0 ≤ z ∧ z ≤ m.sy - 1) hw ⟨Int.le_refl _, by omega⟩ t, getD_all (P := fun z => -1 ≤ z ∧ z ≤ 1) hv (by omega) t⟩
/-- A place that the machine may come to; the head of a tape that is carried moves. -/
def QW (m : MultiD) (p : MP) : Prop := WOk m p ∧ ((p.k = 1 ∨ p.k = 2) → mvP m p ≠ 0)
theorem aftP_k (m : MultiD) (i t d : Int) : (aftP m i t d).k ≠ 1 ∧ (aftP m i t d).k ≠ 2 := by
  unfold aftP leaveP lookP
  repeat' split
  all_goals simp
theorem putP_fine {m : MultiD} (hm : multiOk m = true) {i t d : Int} (i0 : 0 ≤ i) (i1 : i < m.rules.length) :
    ((0 ≤ (putP m i t d).w ∧ (putP m i t d).w < 2 * m.sy) ∧ ((putP m i t d).m = 1 ∨ (putP m i t d).m = -1)) ∧ (((putP m i t d).p.k = 1 ∨ (putP m i t d).p.k = 2) → mvP m (putP m i t d).p ≠ 0) := by
  obtain ⟨_, ⟨y1, y2⟩, _⟩ := multi_all hm
  obtain ⟨a, b⟩ := rule_wm hm i0 i1 t.toNat
  unfold putP
  split
  · have := aftP_k m i t (orB d t)
    exact ⟨⟨⟨by show 0 ≤ _ + _; omega, by show _ + _ < _; omega⟩, .inr rfl⟩, fun h => h.elim (fun h => absurd h this.1) (fun h => absurd h this.2)⟩
  · rename_i hne
    exact ⟨⟨⟨a.1, by show (mrAt m i).wr.getD t.toNat 0 < _; omega⟩, by show (mrAt m i).mv.getD t.toNat 0 = 1 ∨ (mrAt m i).mv.getD t.toNat 0 = -1; omega⟩, fun _ => hne⟩
theorem actW_fine {m : MultiD} (hm : multiOk m = true) {p : MP} {v : Int} (hq : QW m p) (v0 : 0 ≤ v) (v1 : v < 2 * m.sy) (hn : (actW m p v).no = false) :
    ((0 ≤ (actW m p v).w ∧ (actW m p v).w < 2 * m.sy) ∧ ((actW m p v).m = 1 ∨ (actW m p v).m = -1)) ∧ (((actW m p v).p.k = 1 ∨ (actW m p v).p.k = 2) → mvP m (actW m p v).p ≠ 0) := by
  obtain ⟨⟨tp1, tp2⟩, ⟨y1, y2⟩, ⟨s1, s2⟩, _, _⟩ := multi_all hm
  obtain ⟨hp, hmv⟩ := hq
  obtain ⟨t0, t1, c0, c1, d0, d7, f0, f1, f2, kd⟩ := hp
  rcases kd with ⟨k, a0, a1, c, d, hl, hf⟩ | ⟨k, a0, a1, g0, g1, g2⟩ | ⟨k, a0, a1, c, g0, g1, g2⟩ | ⟨k, a0, a1, c, t, d, g0, g1, g2⟩
  · have e : actW m p v = lkP m p v := by unfold actW; rw [if_pos k]
    rw [e] at hn ⊢
    unfold lkP at hn ⊢
    by_cases hc : m.sy ≤ v ∧ fnd p p.t = 0
    · rw [if_pos hc] at hn ⊢
      by_cases hk : lacksB m (seenP m p v) = true
      · rw [if_pos hk]
        exact ⟨⟨⟨v0, v1⟩, .inl rfl⟩, fun h => by
          have hk0 : (seenP m p v).k = p.k := rfl
          have h : (seenP m p v).k = 1 ∨ (seenP m p v).k = 2 := h
          omega⟩
      · rw [if_neg hk] at hn ⊢
        cases hr : findM m.rules (symsP m (seenP m p v)) m.rules.length with
        | none => rw [hr] at hn; simp [ruleP, noW] at hn
        | some i =>
          have hi := findM_lt hr
          exact putP_fine hm (i := (i : Int)) (by omega) (by omega)
    · rw [if_neg hc]
      exact ⟨⟨⟨v0, v1⟩, .inl rfl⟩, fun h => by
          have hk0 : (nxtT m p).k = p.k := rfl
          have h : (nxtT m p).k = 1 ∨ (nxtT m p).k = 2 := h
          omega⟩
  · have hne := hmv k
    have hb := (rule_wm hm a0 a1 p.t.toNat).2
    have hmq : mvP m p = 1 ∨ mvP m p = -1 := by
      have e : mvP m p = (mrAt m p.a).mv.getD p.t.toNat 0 := rfl
      omega
    have hvm : 0 ≤ v % m.sy ∧ v % m.sy < m.sy := ⟨Int.emod_nonneg _ (by omega), Int.emod_lt_of_pos _ (by omega)⟩
    rcases k with k | k
    · have e : actW m p v = if 0 < p.c then ⟨v, mvP m p, ⟨1, p.a, p.t, p.c - 1, 0, 0, 0, p.d⟩, false⟩ else ⟨v % m.sy + m.sy, -(mvP m p), ⟨2, p.a, p.t, m.tp - 1, 0, 0, 0, p.d⟩, false⟩ := by
        unfold actW; rw [if_neg (by omega), if_neg (by omega), if_neg (by omega), if_pos k]
      rw [e]
      split
      · exact ⟨⟨⟨v0, v1⟩, hmq⟩, fun _ => hne⟩
      · exact ⟨⟨⟨by show 0 ≤ v % m.sy + m.sy; omega, by show v % m.sy + m.sy < _; omega⟩, by show -(mvP m p) = 1 ∨ -(mvP m p) = -1; omega⟩, fun _ => hne⟩
    · have e : actW m p v = if 0 < p.c then ⟨v, -(mvP m p), ⟨2, p.a, p.t, p.c - 1, 0, 0, 0, p.d⟩, false⟩ else ⟨v, -1, aftP m p.a p.t p.d, false⟩ := by
        unfold actW; rw [if_neg (by omega), if_neg (by omega), if_neg (by omega), if_neg (by omega)]
      rw [e]
      split
      · exact ⟨⟨⟨v0, v1⟩, by show -(mvP m p) = 1 ∨ -(mvP m p) = -1; omega⟩, fun _ => hne⟩
      · have hak := aftP_k m p.a p.t p.d
        exact ⟨⟨⟨v0, v1⟩, .inr rfl⟩, fun h => h.elim (fun h => absurd h hak.1) (fun h => absurd h hak.2)⟩
  · have e : actW m p v = if m.sy ≤ v ∧ hasB p.d p.t = false then putP m p.a p.t p.d else ⟨v, -1, ⟨3, p.a, befT m.tp p.t, 0, 0, 0, 0, p.d⟩, false⟩ := by
      unfold actW; rw [if_neg (by omega), if_neg (by omega), if_pos k]
    rw [e]
    split
    · exact putP_fine hm a0 a1
    · exact ⟨⟨⟨v0, v1⟩, .inr rfl⟩, fun h => by
        have h : (3 : Int) = 1 ∨ (3 : Int) = 2 := h
        omega⟩
  · have e : actW m p v = ⟨v, -1, leaveP p.a (p.c - 1), false⟩ := by
      unfold actW; rw [if_neg (by omega), if_pos k]
    rw [e]
    refine ⟨⟨⟨v0, v1⟩, .inr rfl⟩, fun h => ?_⟩
    have h : (leaveP p.a (p.c - 1)).k = 1 ∨ (leaveP p.a (p.c - 1)).k = 2 := h
    unfold leaveP lookP at h
    split at h <;> simp at h
/-- The machine with one tape for several. -/
def oneM (m : MultiD) (s : List MP × List RuleD) : MachD := ⟨2 * m.sy, s.1.length, s.2⟩
theorem one_ok {m : MultiD} (hm : multiOk m = true) {s : List MP × List RuleD} (h : weaveB m = some s) : machOk (oneM m s) = true ∧ (∀ p ∈ s.1, WOk m p) := by
  obtain ⟨⟨tp1, tp2⟩, ⟨y1, y2⟩, ⟨s1, s2⟩, _, _⟩ := multi_all hm
  have hsy : ((2 * m.sy).toNat : Int) = 2 * m.sy := by omega
  have hd : QW m mp0 := ⟨lookP_ok hm (Int.le_refl 0) (by omega), fun h => by
    have h : (0 : Int) = 1 ∨ (0 : Int) = 2 := h
    omega⟩
  obtain ⟨hb, h1, h2, h3⟩ := bldF_ok (Q := QW m) (act := actW m) (d := mp0) (sy := (2 * m.sy).toNat) (fun p hp v hv hno => by
    have hf := actW_fine hm hp (v := (v : Int)) (by omega) (by omega) hno
    exact ⟨⟨actW_ok hm hp.1 (by omega) (by omega) hno, hf.2⟩, ⟨hf.1.1.1, by have := hf.1.1.2; omega⟩, hf.1.2⟩) 1002 0 ([mp0], []) s h ⟨fun p hp => by simp only [List.mem_singleton] at hp; subst hp; exact hd, fun r hr => by cases hr⟩ (by simp) (by simp) (by simp) (by simp)
  refine ⟨?_, fun p hp => (hb.all p hp).1⟩
  have hmul : (s.2.length : Int) = (2 * m.sy) * (s.1.length : Int) := by
    rw [h1, Int.natCast_mul, hsy, Int.mul_comm]
  have a1 : inB (2 * m.sy) 2 6 = true := inB_iff.2 (by omega)
  have a2 : inB (s.1.length : Int) 1 1000 = true := inB_iff.2 (by omega)
  have a3 : decide ((s.2.length : Int) = (2 * m.sy) * (s.1.length : Int)) = true := decide_eq_true hmul
  have a4 : s.2.all (ruleOk (2 * m.sy) (s.1.length : Int)) = true := List.all_eq_true.2 (fun r hr => by
    rcases hb.rules r hr with e | ⟨a, b, c, d⟩
    · simp [ruleOk, e]
    · have b1 : inB r.w 0 (2 * m.sy - 1) = true := inB_iff.2 (by omega)
      have b2 : inB r.n 0 ((s.1.length : Int) - 1) = true := inB_iff.2 (by omega)
      have b3 : (r.m == 1 || r.m == -1) = true := by rcases b with e | e <;> rw [e] <;> rfl
      simp only [ruleOk, b1, b2, b3, Bool.and_true, Bool.or_true, Bool.and_self])
  show (inB (2 * m.sy) 2 6 && inB (s.1.length : Int) 1 1000 && decide ((s.2.length : Int) = (2 * m.sy) * (s.1.length : Int)) && s.2.all (ruleOk (2 * m.sy) (s.1.length : Int))) = true
  rw [a1, a2, a3, a4]
  rfl
/-- The beginning: the cells of all tapes in turn, those under the heads marked. -/
def longL (ts : List (List Int)) : Nat := ts.foldl (fun a t => max a t.length) 1
def cellW (sy : Int) (k : Nat) (t : List Int) : Int := if k = 0 then t.getD k 0 + sy else t.getD k 0
def rowW (sy : Int) (ts : List (List Int)) (k : Nat) : List Int := ts.map (cellW sy k)
def flatW (sy : Int) (ts : List (List Int)) (n : Nat) : List Int := (List.range n).flatMap (rowW sy ts)
def rightO (m : MultiD) (ws : List (List Int)) : List Int := trim (flatW m.sy ws (longL ws))
def startO (m : MultiD) (ws : List (List Int)) : ConfD := ⟨0, [], rightO m ws⟩
def wordsOk (m : MultiD) (ws : List (List Int)) : Prop := (ws.length : Int) = m.tp ∧ ws.all (wordOk m) = true
instance (m : MultiD) (ws : List (List Int)) : Decidable (wordsOk m ws) := by unfold wordsOk; infer_instance
def startOC (m : MultiD) (ws : List (List Int)) : ConfD × Int :=
  if multiOk m then if wordsOk m ws then if (rightO m ws).length ≤ 200 then (startO m ws, 0) else (blankC, 5) else (blankC, 2) else (blankC, 1)
theorem flatW_succ (sy : Int) (ts : List (List Int)) (n : Nat) : flatW sy ts (n + 1) = flatW sy ts n ++ rowW sy ts n := by simp [flatW, List.range_succ]
theorem flatW_length (sy : Int) (ts : List (List Int)) : ∀ n, (flatW sy ts n).length = n * ts.length
  | 0 => by simp [flatW]
  | n + 1 => by rw [flatW_succ, List.length_append, flatW_length sy ts n, Nat.succ_mul]; simp [rowW]
theorem longF_ge : ∀ (ts : List (List Int)) (a : Nat), a ≤ ts.foldl (fun a t => max a t.length) a
  | [], a => Nat.le_refl _
  | t :: ts, a => Nat.le_trans (Nat.le_max_left a t.length) (longF_ge ts _)
theorem longF_mem : ∀ (ts : List (List Int)) (a : Nat) (t : List Int), t ∈ ts → t.length ≤ ts.foldl (fun a t => max a t.length) a
  | t :: ts, a, x, h => by
    rcases List.mem_cons.1 h with rfl | h
    · exact Nat.le_trans (Nat.le_max_right a _) (longF_ge ts _)
    · exact longF_mem ts _ x h
theorem longF_le : ∀ (ts : List (List Int)) (a b : Nat), a ≤ b → (∀ t ∈ ts, t.length ≤ b) → ts.foldl (fun a t => max a t.length) a ≤ b
  | [], a, b, h, _ => h
  | t :: ts, a, b, h, h2 => longF_le ts _ b (Nat.max_le.2 ⟨h, h2 t List.mem_cons_self⟩) (fun x hx => h2 x (List.mem_cons_of_mem _ hx))
theorem longL_one (ts : List (List Int)) : 1 ≤ longL ts := longF_ge ts 1
theorem longL_mem {ts : List (List Int)} {t : List Int} (h : t ∈ ts) : t.length ≤ longL ts := longF_mem ts 1 t h
theorem longL_le {ts : List (List Int)} {b : Nat} (h1 : 1 ≤ b) (h : ∀ t ∈ ts, t.length ≤ b) : longL ts ≤ b := longF_le ts 1 b h1 h
theorem longL_snoc (ts : List (List Int)) (t : List Int) : longL (ts ++ [t]) = max (longL ts) t.length := by simp [longL, List.foldl_append]
theorem trim_snoc (xs : List Int) : trim (xs ++ [0]) = trim xs := by
  have hs : ∀ n, n ≤ xs.length → trimN (xs ++ [0]) n = trimN xs n := by
    intro n
    induction n with
    | zero => intro _; rfl
    | succ n ih =>
      intro hn
      have hg : (xs ++ [0]).getD n 0 = xs.getD n 0 := by
        rw [List.getD_eq_getElem?_getD, List.getD_eq_getElem?_getD, List.getElem?_append_left (by omega)]
      unfold trimN
      rw [hg, ih (by omega)]
  unfold trim
  have h1 : trimN (xs ++ [0]) (xs ++ [0]).length = trimN xs xs.length := by
    rw [List.length_append]
    show trimN (xs ++ [0]) (xs.length + 1) = _
    have hg : (xs ++ [(0 : Int)]).getD xs.length 0 = 0 := by simp
    conv => lhs; unfold trimN
    rw [hg]
    simp only [beq_self_eq_true, if_true]
    exact hs _ (Nat.le_refl _)
  rw [h1, List.take_append_of_le_length (trimN_le _ _)]
theorem trim_zeros (xs : List Int) : ∀ zs : List Int, (∀ z ∈ zs, z = 0) → trim (xs ++ zs) = trim xs := by
  intro zs
  induction zs generalizing xs with
  | nil => intro _; simp
  | cons z zs ih =>
    intro h
    have e : xs ++ z :: zs = (xs ++ [z]) ++ zs := by simp
    rw [e, ih _ (fun y hy => h y (List.mem_cons_of_mem _ hy)), h z List.mem_cons_self, trim_snoc]
theorem rowW_trim (sy : Int) (ts : List (List Int)) (k : Nat) : rowW sy (ts.map trim) k = rowW sy ts k := by
  unfold rowW
  rw [List.map_map]
  refine List.map_congr_left fun t _ => ?_
  simp only [Function.comp, cellW, trim_get]
theorem flatW_trim (sy : Int) (ts : List (List Int)) : ∀ n, flatW sy (ts.map trim) n = flatW sy ts n
  | 0 => rfl
  | n + 1 => by rw [flatW_succ, flatW_succ, flatW_trim sy ts n, rowW_trim]
theorem right_more (sy : Int) (ts : List (List Int)) (n : Nat) (h1 : 1 ≤ n) (h : ∀ t ∈ ts, ∀ k, n ≤ k → t.getD k 0 = 0) : ∀ j, trim (flatW sy ts (n + j)) = trim (flatW sy ts n)
  | 0 => rfl
  | j + 1 => by
    rw [← Nat.add_assoc, flatW_succ, trim_zeros _ _ (fun z hz => ?_), right_more sy ts n h1 h j]
    unfold rowW at hz
    obtain ⟨t, ht, rfl⟩ := List.mem_map.1 hz
    unfold cellW
    rw [if_neg (by omega)]
    exact h t ht _ (by omega)
/-- Blanks at the ends of the words change nothing. -/
theorem right_trim (sy : Int) (ws : List (List Int)) : trim (flatW sy (ws.map trim) (longL (ws.map trim))) = trim (flatW sy ws (longL ws)) := by
  rw [flatW_trim]
  have hle : longL (ws.map trim) ≤ longL ws := longL_le (longL_one _) (fun t ht => by
    obtain ⟨x, hx, rfl⟩ := List.mem_map.1 ht
    exact Nat.le_trans (trim_len x) (longL_mem hx))
  have := right_more sy ws (longL (ws.map trim)) (longL_one _) (fun t ht k hk => by
    rw [← trim_get, List.getD_eq_getElem?_getD, List.getElem?_eq_none]
    · rfl
    · exact Nat.le_trans (longL_mem (List.mem_map_of_mem ht)) hk) (longL ws - longL (ws.map trim))
  rw [show longL (ws.map trim) + (longL ws - longL (ws.map trim)) = longL ws by omega] at this
  exact this.symm
theorem flatW_in {sy : Int} (hs : 1 ≤ sy) {ts : List (List Int)} (h : ∀ t ∈ ts, ∀ z ∈ t, 0 ≤ z ∧ z ≤ sy - 1) : ∀ n, ∀ z ∈ flatW sy ts n, 0 ≤ z ∧ z ≤ 2 * sy - 1
  | 0, z, hz => by simp [flatW] at hz
  | n + 1, z, hz => by
    rw [flatW_succ] at hz
    rcases List.mem_append.1 hz with hz | hz
    · exact flatW_in hs h n z hz
    · unfold rowW at hz
      obtain ⟨t, ht, rfl⟩ := List.mem_map.1 hz
      have hg := getD_all (P := fun z => 0 ≤ z ∧ z ≤ sy - 1) (h t ht) ⟨Int.le_refl _, by omega⟩ n
      unfold cellW
      split <;> omega
theorem wordOk_all {m : MultiD} {x : List Int} (h : wordOk m x = true) : x.length ≤ 200 ∧ ∀ z ∈ x, 0 ≤ z ∧ z ≤ m.sy - 1 := by
  simp only [wordOk, Bool.and_eq_true, decide_eq_true_eq, List.all_eq_true] at h
  exact ⟨h.1, fun z hz => inB_iff.1 (h.2 z hz)⟩
theorem startO_conf {m : MultiD} (hm : multiOk m = true) {s : List MP × List RuleD} (hs : weaveB m = some s) {ws : List (List Int)} (hw : wordsOk m ws) (hl : (rightO m ws).length ≤ 200) : confB (oneM m s) (startO m ws) = true := by
  obtain ⟨_, ⟨y1, y2⟩, _⟩ := multi_all hm
  obtain ⟨⟨_, _, t1, _⟩, _⟩ := machOk_five (one_ok hm hs).1
  have hr : sideOk (rightO m ws) (2 * m.sy) 200 = true := trim_side2 hl (flatW_in (by omega) (fun t ht => (wordOk_all (List.all_eq_true.1 hw.2 t ht)).2) _)
  have hl0 : sideOk [] (2 * m.sy) 200 = true := by simp [sideOk]
  have hq : inB 0 0 ((s.1.length : Int) - 1) = true := inB_iff.2 ⟨Int.le_refl _, by have : (1 : Int) ≤ (s.1.length : Int) := t1; omega⟩
  show (inB 0 0 ((s.1.length : Int) - 1) && sideOk [] (2 * m.sy) 200 && sideOk (rightO m ws) (2 * m.sy) 200) = true
  rw [hq, hl0, hr]
  rfl
theorem startOC_ok {m : MultiD} {ws : List (List Int)} (hm : multiOk m = true) (h : (startOC m ws).2 = 0) : wordsOk m ws ∧ (rightO m ws).length ≤ 200 ∧ startOC m ws = (startO m ws, 0) := by
  unfold startOC at h ⊢
  rw [if_pos hm] at h ⊢
  by_cases hw : wordsOk m ws
  · rw [if_pos hw] at h ⊢
    by_cases hl : (rightO m ws).length ≤ 200
    · rw [if_pos hl]
      exact ⟨hw, hl, rfl⟩
    · rw [if_neg hl] at h
      simp at h
  · rw [if_neg hw] at h
    simp at h
/-- What a run comes to: the configuration, the steps, whether it halts, a code. -/
structure ROut where
  c : MConfD
  n : Int
  h : Bool
  k : Int
def rNo (k : Int) : ROut := ⟨⟨0, []⟩, 0, false, k⟩
def endRO (m : MultiD) (s : List MP × List RuleD) (x : ConfD) (T : Nat) : ROut :=
  if (decOne m (s.1.getD (cfgI (oneM m s) x T).q.toNat mp0) (cfgI (oneM m s) x T)).2 = 0 then ⟨(decOne m (s.1.getD (cfgI (oneM m s) x T).q.toNat mp0) (cfgI (oneM m s) x T)).1, T, decide (lookI (oneM m s) (cfgI (oneM m s) x T) = noR), 0⟩
  else rNo (decOne m (s.1.getD (cfgI (oneM m s) x T).q.toNat mp0) (cfgI (oneM m s) x T)).2
def RunOT (m : MultiD) (ws : List (List Int)) (b : Int) (R : ROut) : Prop :=
  if multiOk m then
    if inB b 1 20000 then
      match weaveB m with
      | none => R = rNo 5
      | some s =>
        if (startOC m ws).2 = 0 then (∃ T, EndAt (oneM m s) (startO m ws) b.toNat T ∧ R = endRO m s (startO m ws) T) ∨ ((∃ T, FullAt (oneM m s) (startO m ws) b.toNat T) ∧ R = rNo 5)
        else R = rNo (startOC m ws).2
    else R = rNo 2
  else R = rNo 1
theorem RunOT.bad {m : MultiD} {ws : List (List Int)} {b : Int} (h : multiOk m = false) : RunOT m ws b (rNo 1) := by
  unfold RunOT
  rw [h]
  rfl
theorem RunOT.big {m : MultiD} {ws : List (List Int)} {b : Int} (h : multiOk m = true) (hb : inB b 1 20000 = true) (hs : weaveB m = none) : RunOT m ws b (rNo 5) := by
  unfold RunOT
  rw [if_pos h, if_pos hb, hs]
theorem RunOT.start {m : MultiD} {ws : List (List Int)} {b : Int} {s : List MP × List RuleD} (h : multiOk m = true) (hb : inB b 1 20000 = true) (hs : weaveB m = some s) (hk : (startOC m ws).2 ≠ 0) : RunOT m ws b (rNo (startOC m ws).2) := by
  unfold RunOT
  rw [if_pos h, if_pos hb, hs]
  show (if (startOC m ws).2 = 0 then _ else _)
  rw [if_neg hk]
theorem RunOT.full {m : MultiD} {ws : List (List Int)} {N T : Nat} {s : List MP × List RuleD} (h : multiOk m = true) (hb : inB (N : Int) 1 20000 = true) (hs : weaveB m = some s) (hk : (startOC m ws).2 = 0) (hT : FullAt (oneM m s) (startO m ws) N T) : RunOT m ws (N : Int) (rNo 5) := by
  unfold RunOT
  rw [if_pos h, if_pos hb, hs]
  show (if (startOC m ws).2 = 0 then _ else _)
  rw [if_pos hk]
  exact .inr ⟨⟨T, hT⟩, rfl⟩
theorem RunOT.ends {m : MultiD} {ws : List (List Int)} {N T : Nat} {s : List MP × List RuleD} (h : multiOk m = true) (hb : inB (N : Int) 1 20000 = true) (hs : weaveB m = some s) (hk : (startOC m ws).2 = 0) (hT : EndAt (oneM m s) (startO m ws) N T) : RunOT m ws (N : Int) (endRO m s (startO m ws) T) := by
  unfold RunOT
  rw [if_pos h, if_pos hb, hs]
  show (if (startOC m ws).2 = 0 then _ else _)
  rw [if_pos hk]
  exact .inl ⟨T, hT, rfl⟩
theorem RunOT.unique {m : MultiD} {ws : List (List Int)} {b : Int} {R R' : ROut} (h : RunOT m ws b R) (h' : RunOT m ws b R') : R = R' := by
  unfold RunOT at h h'
  split at h
  · rename_i h0
    rw [if_pos h0] at h'
    split at h
    · rename_i h1
      rw [if_pos h1] at h'
      cases hw : weaveB m with
      | none =>
        rw [hw] at h h'
        exact h.trans h'.symm
      | some s =>
        rw [hw] at h h'
        simp only at h h'
        split at h
        · rename_i h2
          rw [if_pos h2] at h'
          rcases h with ⟨T, e, rfl⟩ | ⟨⟨T, e⟩, rfl⟩ <;> rcases h' with ⟨T', e', rfl⟩ | ⟨⟨T', e'⟩, rfl⟩
          · rw [e.unique e']
          · exact (e.not_full e').elim
          · exact (e'.not_full e).elim
          · rfl
        · rename_i h2
          rw [if_neg h2] at h'
          exact h.trans h'.symm
    · rename_i h1
      rw [if_neg h1] at h'
      exact h.trans h'.symm
  · rename_i h0
    rw [if_neg h0] at h'
    exact h.trans h'.symm
end Go.Proofs.YtgeckhjkahnonaaGreatDoor
end
section
set_option linter.unusedSimpArgs false
set_option linter.unusedVariables false
namespace Go.Proofs.YtgeckhjkahnonaaGreatDoor
open Go Go.RowKit Go.Proofs
/-- A configuration of the machine with one tape: its place, its cells on a line and its head. -/
structure AtW (m : MultiD) (s : List MP × List RuleD) (x : ConfD) (p : MP) (f : Int → Int) (pos : Int) : Prop where
  q : x.q = (s.1.idxOf p : Nat)
  mem : p ∈ s.1
  ln : Ln x f pos
theorem AtW.look {m : MultiD} (hm : multiOk m = true) {s : List MP × List RuleD} (hs : weaveB m = some s) {x : ConfD} {p : MP} {f : Int → Int} {pos : Int} (h : AtW m s x p f pos) (v0 : 0 ≤ f pos) (v1 : f pos < 2 * m.sy) :
    lookI (oneM m s) x = ruleOf (actW m) s.1 p (f pos) ∧ ((actW m p (f pos)).no = false → (actW m p (f pos)).p ∈ s.1) := by
  obtain ⟨_, ⟨y1, y2⟩, _, _⟩ := multi_all hm
  have hr := bld_rules hs
  have hk := List.idxOf_lt_length_iff.2 h.mem
  have hg : s.1[s.1.idxOf p] = p := List.getElem_idxOf hk
  obtain ⟨v, hv⟩ : ∃ v : Nat, f pos = v := ⟨(f pos).toNat, by omega⟩
  have hvs : v < (2 * m.sy).toNat := by omega
  have hlt : s.1.idxOf p * (2 * m.sy).toNat + v < s.1.length * (2 * m.sy).toNat := by
    have : (s.1.idxOf p + 1) * (2 * m.sy).toNat ≤ s.1.length * (2 * m.sy).toNat := Nat.mul_le_mul_right _ hk
    rw [Nat.add_mul] at this
    omega
  have h1 := hr.rules _ hk v hvs hlt
  have h2 := hr.closed _ hk v hvs hlt
  rw [hg] at h1 h2
  refine ⟨?_, fun hn => ?_⟩
  · unfold lookI
    rw [h.ln.head, h.q, hv]
    have e : (((s.1.idxOf p : Nat) : Int) * (oneM m s).sy + (v : Int)).toNat = s.1.idxOf p * (2 * m.sy).toNat + v := by
      show (((s.1.idxOf p : Nat) : Int) * (2 * m.sy) + (v : Int)).toNat = _
      have : (((s.1.idxOf p * (2 * m.sy).toNat + v : Nat)) : Int) = ((s.1.idxOf p : Nat) : Int) * (2 * m.sy) + (v : Int) := by
        push_cast
        rw [Int.toNat_of_nonneg (by omega)]
      rw [← this, Int.toNat_natCast]
    rw [e, List.getD_eq_getElem?_getD]
    show ((s.2[_]?).getD noR) = _
    rw [h1]
    rfl
  · rw [hv] at hn ⊢
    exact h2 hn
theorem AtW.step {m : MultiD} (hm : multiOk m = true) {s : List MP × List RuleD} (hs : weaveB m = some s) {x : ConfD} {p : MP} {f : Int → Int} {pos w mv : Int} {p' : MP} (h : AtW m s x p f pos) (v0 : 0 ≤ f pos) (v1 : f pos < 2 * m.sy)
    (ha : actW m p (f pos) = ⟨w, mv, p', false⟩) (hmv : mv = 1 ∨ mv = -1) :
    ¬ lookI (oneM m s) x = noR ∧ AtW m s (stepI (lookI (oneM m s) x) x) p' (updF f pos w) (pos + mv) := by
  obtain ⟨h1, h2⟩ := h.look hm hs v0 v1
  rw [ha] at h2
  have e : ruleOf (actW m) s.1 p (f pos) = ⟨w, mv, (s.1.idxOf p' : Nat)⟩ := by unfold ruleOf; rw [ha]; rfl
  rw [h1, e]
  refine ⟨fun hh => ?_, ?_⟩
  · injection hh with _ hh _
    omega
  · rcases hmv with rfl | rfl
    · exact ⟨by unfold stepI; rw [if_pos (by show (0 : Int) < 1; decide)], h2 rfl, h.ln.right⟩
    · exact ⟨by unfold stepI; rw [if_neg (by show ¬ (0 : Int) < -1; decide)], h2 rfl, h.ln.left⟩
end Go.Proofs.YtgeckhjkahnonaaGreatDoor
end
