/- Plain words: a run of a machine with several tapes stays among valid configurations; the texts of a run. No program runs here.
Plain words: the machine with one tape for several is a valid one; the beginning of its run; what its run comes to.
Contract: the program's beginning of the run of the machine with one tape for several. -/
import Derived.Test.YtfghojbbofobeaaGreatQ31
import Derived.Test.YtfghojbbofobeaaGreatQ25
import Derived.Test.YtfghojbbofobeaaGreatQ26
import Derived.Test.YtfghojbbofobeaaGreatQ29
import Derived.Test.YtfghojbbofobeaaGreatQ06
import Derived.Maps.AppendAt
import Derived.Deep.CutBlock
section
set_option linter.unusedVariables false
set_option linter.unusedSimpArgs false
namespace Go.Proofs.YtfghojbbofobeaaGreat
open Go Go.RowKit Go.Proofs
theorem trimN_end (xs : List Int) : ∀ n, trimN xs n = 0 ∨ xs.getD (trimN xs n - 1) 0 ≠ 0 := by
  intro n
  induction n with
  | zero => exact .inl rfl
  | succ n ih =>
    unfold trimN
    split
    · exact ih
    · rename_i h
      right
      simpa using h
theorem trim_side2 {xs : List Int} {sy : Int} (hl : (trim xs).length ≤ 200) (h : ∀ z ∈ xs, 0 ≤ z ∧ z ≤ sy - 1) : sideOk (trim xs) sy 200 = true := by
  have hle := trim_len xs
  simp only [sideOk, inB, Bool.and_eq_true, Bool.or_eq_true, decide_eq_true_eq, List.all_eq_true, beq_iff_eq, bne_iff_ne, ne_eq]
  refine ⟨⟨by omega, fun z hz => by have := h z (trim_mem hz); omega⟩, ?_⟩
  by_cases h0 : 0 < (trim xs).length
  · right
    rw [lastD_get h0]
    have hn : (trim xs).length = trimN xs xs.length := by
      have := trimN_le xs xs.length
      simp [trim]; omega
    rcases trimN_end xs xs.length with e | e
    · omega
    · rw [← hn, List.getD_eq_getElem?_getD] at e
      have hk : (trim xs).length - 1 < (trim xs).length := by omega
      have hk' : (trim xs).length - 1 < xs.length := by omega
      rw [List.getElem?_eq_getElem hk', Option.getD_some] at e
      have : (trim xs)[(trim xs).length - 1] = xs[(trim xs).length - 1] := by simp [trim]
      rw [this]
      exact e
  · left
    omega
theorem getD_in {xs : List Int} {hi : Int} (h : ∀ z ∈ xs, 0 ≤ z ∧ z ≤ hi) (h0 : 0 ≤ hi) (k : Nat) : 0 ≤ xs.getD k 0 ∧ xs.getD k 0 ≤ hi := by
  by_cases hk : k < xs.length
  · rw [List.getD_eq_getElem?_getD, List.getElem?_eq_getElem hk]
    exact h _ (List.getElem_mem hk)
  · rw [List.getD_eq_getElem?_getD, List.getElem?_eq_none (by omega)]
    exact ⟨Int.le_refl _, h0⟩
theorem writeT_ok {m : MultiD} {t : TapeD} {s mv : Int} (hl : ∀ z ∈ t.l, 0 ≤ z ∧ z ≤ m.sy - 1) (hr : ∀ z ∈ t.r, 0 ≤ z ∧ z ≤ m.sy - 1) (hs : 0 ≤ s ∧ s ≤ m.sy - 1) (h2 : 2 ≤ m.sy) (hroom : roomT (writeT t s mv) = true) : tapeOk m (writeT t s mv) = true := by
  simp only [roomT, Bool.and_eq_true, decide_eq_true_eq] at hroom
  obtain ⟨r1, r2⟩ := hroom
  have hd : ∀ {xs : List Int} (k : Nat), (∀ z ∈ xs, 0 ≤ z ∧ z ≤ m.sy - 1) → ∀ z ∈ xs.drop k, 0 ≤ z ∧ z ≤ m.sy - 1 := fun k h z hz => h z (List.mem_of_mem_drop hz)
  have hc : ∀ {x : Int} {xs : List Int}, (0 ≤ x ∧ x ≤ m.sy - 1) → (∀ z ∈ xs, 0 ≤ z ∧ z ≤ m.sy - 1) → ∀ z ∈ x :: xs, 0 ≤ z ∧ z ≤ m.sy - 1 := fun hx h z hz => by
    rcases List.mem_cons.1 hz with e | e
    · rw [e]; exact hx
    · exact h z e
  have hw : ∀ z ∈ writeR t s, 0 ≤ z ∧ z ≤ m.sy - 1 := hc hs (hd 1 hr)
  unfold writeT at r1 r2 ⊢
  simp only [tapeOk, Bool.and_eq_true]
  split at r1
  · rename_i e
    rw [if_pos e] at r2 ⊢
    exact ⟨trim_side2 r1 (hc hs hl), trim_side2 r2 (hd 1 hr)⟩
  · rename_i e
    rw [if_neg e] at r2 ⊢
    split at r1
    · rename_i e2
      rw [if_pos e2] at r2 ⊢
      exact ⟨trim_side2 r1 (hd 1 hl), trim_side2 r2 (hc (getD_in hl (by omega) 0) hw)⟩
    · rename_i e2
      rw [if_neg e2] at r2 ⊢
      exact ⟨trim_side2 r1 hl, trim_side2 r2 hw⟩
/-- A run stays among valid configurations. -/
theorem cfg_ok {m : MultiD} {c : MConfD} (hm : multiOk m = true) (hq : inB c.q 0 (m.st - 1) = true) (hn : (c.tapes.length : Int) = m.tp) (hts : c.tapes.all (tapeOk m) = true) : ∀ i, MRuns m.rules c i →
    inB (cfgM m.rules c i).q 0 (m.st - 1) = true ∧ (cfgM m.rules c i).tapes.all (tapeOk m) = true
  | 0, _ => ⟨hq, hts⟩
  | i + 1, h => by
    obtain ⟨iq, it⟩ := cfg_ok hm hq hn hts i ⟨fun j hj => h.no j (by omega), fun j hj => h.room j (by omega)⟩
    have h0 := h.no i (by omega)
    have hr := h.room (i + 1) (Nat.le_refl _)
    have hlen := cfgM_tapes m.rules c i
    cases hl : lookM m.rules (cfgM m.rules c i) with
    | none => exact absurd hl h0
    | some j =>
      have hjl : j < m.rules.length := findM_lt hl
      have e : m.rules.getD j mr0 = m.rules[j] := by rw [List.getD_eq_getElem?_getD, List.getElem?_eq_getElem hjl]; rfl
      have hs : cfgM m.rules c (i + 1) = applyM (cfgM m.rules c i) m.rules[j] := by
        show stepM m.rules (cfgM m.rules c i) = _
        rw [step_some hl, e]
      have hro := mrule_all (multi_rule hm hjl)
      obtain ⟨_, ⟨n1, n2⟩, l1, l2, l3, _, w2, _⟩ := hro
      obtain ⟨_, ⟨sy1, sy2⟩, _⟩ := multi_all hm
      rw [hs] at hr ⊢
      refine ⟨inB_iff.2 ⟨n1, n2⟩, List.all_eq_true.2 fun t ht => ?_⟩
      have hrt := List.all_eq_true.1 hr t ht
      obtain ⟨k, hk, rfl⟩ := List.getElem_of_mem ht
      have hk' : k < (cfgM m.rules c i).tapes.length := by rw [← writeAll_length (cfgM m.rules c i).tapes m.rules[j].wr m.rules[j].mv]; exact hk
      have e2 : (applyM (cfgM m.rules c i) m.rules[j]).tapes[k] = writeT (cfgM m.rules c i).tapes[k] (m.rules[j].wr.getD k 0) (m.rules[j].mv.getD k 0) := writeAll_get _ _ _ k hk'
      rw [e2] at hrt ⊢
      obtain ⟨_, a, b⟩ := tape_len (List.all_eq_true.1 it _ (List.getElem_mem hk'))
      exact writeT_ok a b (getD_in w2 (by omega) k) (by omega) hrt
theorem start_ok {m : MultiD} {ws : List (List Int)} (h2 : 2 ≤ m.sy) (h : ws.all (wordOk m) = true) : (startM ws).tapes.all (tapeOk m) = true := by
  rw [List.all_eq_true]
  intro t ht
  obtain ⟨x, hx, rfl⟩ := List.mem_map.1 ht
  have := List.all_eq_true.1 h x hx
  simp only [wordOk, Bool.and_eq_true, decide_eq_true_eq, List.all_eq_true] at this
  have hl := trim_len x
  simp only [tapeOk, startT, Bool.and_eq_true]
  exact ⟨by simp [sideOk], trim_side2 (by omega) (fun z hz => inB_iff.1 (this.2 z hz))⟩
/-- What the texts of a run are: those of all its configurations and the code 0, or none and the code 5 where the tapes are full. -/
def MTx (rs : List MRuleD) (c : MConfD) (N : Nat) (f : MConfD → List UInt8) (L : List (List UInt8)) (k : Int) : Prop :=
  (∃ i, MEnd rs c N i ∧ L = (List.range (i + 1)).map (fun j => f (cfgM rs c j)) ∧ k = 0) ∨ (∃ i, MFull rs c N i ∧ L = [] ∧ k = 5)
theorem MEnd.one {rs : List MRuleD} {c : MConfD} {N i j : Nat} (h : MEnd rs c N i) (h' : MEnd rs c N j) : i = j := by
  rcases Nat.lt_trichotomy i j with e | e | e
  · rcases h.stop with s | s
    · have := h'.le; omega
    · exact absurd s (h'.runs.no i e)
  · exact e
  · rcases h'.stop with s | s
    · have := h.le; omega
    · exact absurd s (h.runs.no j e)
theorem MEnd.notFull {rs : List MRuleD} {c : MConfD} {N i j : Nat} (h : MEnd rs c N i) (h' : MFull rs c N j) : False := by
  have hp := h'.pos
  by_cases e : j ≤ i
  · have := h.runs.room j e
    rw [h'.full] at this
    cases this
  · rcases h.stop with s | s
    · have := h'.le; omega
    · by_cases e2 : i = j - 1
      · rw [e2] at s
        exact h'.no s
      · exact absurd s (h'.runs.no i (by omega))
theorem MTx.unique {rs : List MRuleD} {c : MConfD} {N : Nat} {f : MConfD → List UInt8} {L L' : List (List UInt8)} {k k' : Int} (h : MTx rs c N f L k) (h' : MTx rs c N f L' k') : L = L' ∧ k = k' := by
  rcases h with ⟨i, h, rfl, rfl⟩ | ⟨i, h, rfl, rfl⟩ <;> rcases h' with ⟨j, h', rfl, rfl⟩ | ⟨j, h', rfl, rfl⟩
  · rw [h.one h']; exact ⟨rfl, rfl⟩
  · exact absurd h' (fun h' => h.notFull h')
  · exact absurd h (fun h => h'.notFull h)
  · exact ⟨rfl, rfl⟩
end Go.Proofs.YtfghojbbofobeaaGreat
end
section
set_option linter.unusedSimpArgs false
set_option linter.unusedVariables false
namespace Go.Proofs.YtfghojbbofobeaaGreat
open Go Go.RowKit Go.Proofs
theorem getD_all {xs : List Int} {P : Int → Prop} (h : ∀ z ∈ xs, P z) (h0 : P 0) (i : Nat) : P (xs.getD i 0) := by
  rw [List.getD_eq_getElem?_getD]
  cases hi : xs[i]? with
  | none => exact h0
  | some z => exact h z (List.mem_of_getElem? hi)
theorem rule_wm {m : MultiD} (hm : multiOk m = true) {i : Int} (i0 : 0 ≤ i) (i1 : i < m.rules.length) (t : Nat) :
    (0 ≤ (mrAt m i).wr.getD t 0 ∧ (mrAt m i).wr.getD t 0 ≤ m.sy - 1) ∧ (-1 ≤ (mrAt m i).mv.getD t 0 ∧ (mrAt m i).mv.getD t 0 ≤ 1) := by
  obtain ⟨_, ⟨y1, y2⟩, _⟩ := multi_all hm
  obtain ⟨j, rfl, hj, e, hr⟩ := mrAt_ok hm i0 i1
  obtain ⟨_, _, _, _, _, _, hw, hv⟩ := mrule_all hr
  rw [e]
  exact ⟨getD_all (P := fun z => 0 ≤ z ∧ z ≤ m.sy - 1) hw ⟨Int.le_refl _, by omega⟩ t, getD_all (P := fun z => -1 ≤ z ∧ z ≤ 1) hv (by omega) t⟩
/-- A place that the machine may come to; the head of a tape that is carried moves. -/
def QW (m : MultiD) (p : MP) : Prop := WOk m p ∧ ((p.k = 1 ∨ p.k = 2) → mvP m p ≠ 0)
theorem aftP_k (m : MultiD) (i t d : Int) : (aftP m i t d).k ≠ 1 ∧ (aftP m i t d).k ≠ 2 := by
  unfold aftP leaveP lookP
  repeat' split
  all_goals simp
theorem putP_fine {m : MultiD} (hm : multiOk m = true) {i t d : Int} (i0 : 0 ≤ i) (i1 : i < m.rules.length) :
    ((0 ≤ (putP m i t d).w ∧ (putP m i t d).w < 2 * m.sy) ∧ ((putP m i t d).m = 1 ∨ (putP m i t d).m = -1)) ∧ (((putP m i t d).p.k = 1 ∨ (putP m i t d).p.k = 2) → mvP m (putP m i t d).p ≠ 0) := by
  obtain ⟨_, ⟨y1, y2⟩, _⟩ := multi_all hm
  obtain ⟨a, b⟩ := rule_wm hm i0 i1 t.toNat
  unfold putP
  split
  · have := aftP_k m i t (orB d t)
    exact ⟨⟨⟨by show 0 ≤ _ + _; omega, by show _ + _ < _; omega⟩, .inr rfl⟩, fun h => h.elim (fun h => absurd h this.1) (fun h => absurd h this.2)⟩
  · rename_i hne
    exact ⟨⟨⟨a.1, by show (mrAt m i).wr.getD t.toNat 0 < _; omega⟩, by show (mrAt m i).mv.getD t.toNat 0 = 1 ∨ (mrAt m i).mv.getD t.toNat 0 = -1; omega⟩, fun _ => hne⟩
theorem actW_fine {m : MultiD} (hm : multiOk m = true) {p : MP} {v : Int} (hq : QW m p) (v0 : 0 ≤ v) (v1 : v < 2 * m.sy) (hn : (actW m p v).no = false) :
    ((0 ≤ (actW m p v).w ∧ (actW m p v).w < 2 * m.sy) ∧ ((actW m p v).m = 1 ∨ (actW m p v).m = -1)) ∧ (((actW m p v).p.k = 1 ∨ (actW m p v).p.k = 2) → mvP m (actW m p v).p ≠ 0) := by
  obtain ⟨⟨tp1, tp2⟩, ⟨y1, y2⟩, ⟨s1, s2⟩, _, _⟩ := multi_all hm
  obtain ⟨hp, hmv⟩ := hq
  obtain ⟨t0, t1, c0, c1, d0, d7, f0, f1, f2, kd⟩ := hp
  rcases kd with ⟨k, a0, a1, c, d, hl, hf⟩ | ⟨k, a0, a1, g0, g1, g2⟩ | ⟨k, a0, a1, c, g0, g1, g2⟩ | ⟨k, a0, a1, c, t, d, g0, g1, g2⟩
  · have e : actW m p v = lkP m p v := by unfold actW; rw [if_pos k]
    rw [e] at hn ⊢
    unfold lkP at hn ⊢
    by_cases hc : m.sy ≤ v ∧ fnd p p.t = 0
    · rw [if_pos hc] at hn ⊢
      by_cases hk : lacksB m (seenP m p v) = true
      · rw [if_pos hk]
        exact ⟨⟨⟨v0, v1⟩, .inl rfl⟩, fun h => by
          have hk0 : (seenP m p v).k = p.k := rfl
          have h : (seenP m p v).k = 1 ∨ (seenP m p v).k = 2 := h
          omega⟩
      · rw [if_neg hk] at hn ⊢
        cases hr : findM m.rules (symsP m (seenP m p v)) m.rules.length with
        | none => rw [hr] at hn; simp [ruleP, noW] at hn
        | some i =>
          have hi := findM_lt hr
          exact putP_fine hm (i := (i : Int)) (by omega) (by omega)
    · rw [if_neg hc]
      exact ⟨⟨⟨v0, v1⟩, .inl rfl⟩, fun h => by
          have hk0 : (nxtT m p).k = p.k := rfl
          have h : (nxtT m p).k = 1 ∨ (nxtT m p).k = 2 := h
          omega⟩
  · have hne := hmv k
    have hb := (rule_wm hm a0 a1 p.t.toNat).2
    have hmq : mvP m p = 1 ∨ mvP m p = -1 := by
      have e : mvP m p = (mrAt m p.a).mv.getD p.t.toNat 0 := rfl
      omega
    have hvm : 0 ≤ v % m.sy ∧ v % m.sy < m.sy := ⟨Int.emod_nonneg _ (by omega), Int.emod_lt_of_pos _ (by omega)⟩
    rcases k with k | k
    · have e : actW m p v = if 0 < p.c then ⟨v, mvP m p, ⟨1, p.a, p.t, p.c - 1, 0, 0, 0, p.d⟩, false⟩ else ⟨v % m.sy + m.sy, -(mvP m p), ⟨2, p.a, p.t, m.tp - 1, 0, 0, 0, p.d⟩, false⟩ := by
        unfold actW; rw [if_neg (by omega), if_neg (by omega), if_neg (by omega), if_pos k]
      rw [e]
      split
      · exact ⟨⟨⟨v0, v1⟩, hmq⟩, fun _ => hne⟩
      · exact ⟨⟨⟨by show 0 ≤ v % m.sy + m.sy; omega, by show v % m.sy + m.sy < _; omega⟩, by show -(mvP m p) = 1 ∨ -(mvP m p) = -1; omega⟩, fun _ => hne⟩
    · have e : actW m p v = if 0 < p.c then ⟨v, -(mvP m p), ⟨2, p.a, p.t, p.c - 1, 0, 0, 0, p.d⟩, false⟩ else ⟨v, -1, aftP m p.a p.t p.d, false⟩ := by
        unfold actW; rw [if_neg (by omega), if_neg (by omega), if_neg (by omega), if_neg (by omega)]
      rw [e]
      split
      · exact ⟨⟨⟨v0, v1⟩, by show -(mvP m p) = 1 ∨ -(mvP m p) = -1; omega⟩, fun _ => hne⟩
      · have hak := aftP_k m p.a p.t p.d
        exact ⟨⟨⟨v0, v1⟩, .inr rfl⟩, fun h => h.elim (fun h => absurd h hak.1) (fun h => absurd h hak.2)⟩
  · have e : actW m p v = if m.sy ≤ v ∧ hasB p.d p.t = false then putP m p.a p.t p.d else ⟨v, -1, ⟨3, p.a, befT m.tp p.t, 0, 0, 0, 0, p.d⟩, false⟩ := by
      unfold actW; rw [if_neg (by omega), if_neg (by omega), if_pos k]
    rw [e]
    split
    · exact putP_fine hm a0 a1
    · exact ⟨⟨⟨v0, v1⟩, .inr rfl⟩, fun h => by
        have h : (3 : Int) = 1 ∨ (3 : Int) = 2 := h
        omega⟩
  · have e : actW m p v = ⟨v, -1, leaveP p.a (p.c - 1), false⟩ := by
      unfold actW; rw [if_neg (by omega), if_pos k]
    rw [e]
    refine ⟨⟨⟨v0, v1⟩, .inr rfl⟩, fun h => ?_⟩
    have h : (leaveP p.a (p.c - 1)).k = 1 ∨ (leaveP p.a (p.c - 1)).k = 2 := h
    unfold leaveP lookP at h
    split at h <;> simp at h
/-- The machine with one tape for several. -/
def oneM (m : MultiD) (s : List MP × List RuleD) : MachD := ⟨2 * m.sy, s.1.length, s.2⟩
theorem one_ok {m : MultiD} (hm : multiOk m = true) {s : List MP × List RuleD} (h : weaveB m = some s) : machOk (oneM m s) = true ∧ (∀ p ∈ s.1, WOk m p) := by
  obtain ⟨⟨tp1, tp2⟩, ⟨y1, y2⟩, ⟨s1, s2⟩, _, _⟩ := multi_all hm
  have hsy : ((2 * m.sy).toNat : Int) = 2 * m.sy := by omega
  have hd : QW m mp0 := ⟨lookP_ok hm (Int.le_refl 0) (by omega), fun h => by
    have h : (0 : Int) = 1 ∨ (0 : Int) = 2 := h
    omega⟩
  obtain ⟨hb, h1, h2, h3⟩ := bldF_ok (Q := QW m) (act := actW m) (d := mp0) (sy := (2 * m.sy).toNat) (fun p hp v hv hno => by
    have hf := actW_fine hm hp (v := (v : Int)) (by omega) (by omega) hno
    exact ⟨⟨actW_ok hm hp.1 (by omega) (by omega) hno, hf.2⟩, ⟨hf.1.1.1, by have := hf.1.1.2; omega⟩, hf.1.2⟩) 1002 0 ([mp0], []) s h ⟨fun p hp => by simp only [List.mem_singleton] at hp; subst hp; exact hd, fun r hr => by cases hr⟩ (by simp) (by simp) (by simp) (by simp)
  refine ⟨?_, fun p hp => (hb.all p hp).1⟩
  have hmul : (s.2.length : Int) = (2 * m.sy) * (s.1.length : Int) := by
    rw [h1, Int.natCast_mul, hsy, Int.mul_comm]
  have a1 : inB (2 * m.sy) 2 6 = true := inB_iff.2 (by omega)
  have a2 : inB (s.1.length : Int) 1 1000 = true := inB_iff.2 (by omega)
  have a3 : decide ((s.2.length : Int) = (2 * m.sy) * (s.1.length : Int)) = true := decide_eq_true hmul
  have a4 : s.2.all (ruleOk (2 * m.sy) (s.1.length : Int)) = true := List.all_eq_true.2 (fun r hr => by
    rcases hb.rules r hr with e | ⟨a, b, c, d⟩
    · simp [ruleOk, e]
    · have b1 : inB r.w 0 (2 * m.sy - 1) = true := inB_iff.2 (by omega)
      have b2 : inB r.n 0 ((s.1.length : Int) - 1) = true := inB_iff.2 (by omega)
      have b3 : (r.m == 1 || r.m == -1) = true := by rcases b with e | e <;> rw [e] <;> rfl
      simp only [ruleOk, b1, b2, b3, Bool.and_true, Bool.or_true, Bool.and_self])
  show (inB (2 * m.sy) 2 6 && inB (s.1.length : Int) 1 1000 && decide ((s.2.length : Int) = (2 * m.sy) * (s.1.length : Int)) && s.2.all (ruleOk (2 * m.sy) (s.1.length : Int))) = true
  rw [a1, a2, a3, a4]
  rfl
/-- The beginning: the cells of all tapes in turn, those under the heads marked. -/
def longL (ts : List (List Int)) : Nat := ts.foldl (fun a t => max a t.length) 1
def cellW (sy : Int) (k : Nat) (t : List Int) : Int := if k = 0 then t.getD k 0 + sy else t.getD k 0
def rowW (sy : Int) (ts : List (List Int)) (k : Nat) : List Int := ts.map (cellW sy k)
def flatW (sy : Int) (ts : List (List Int)) (n : Nat) : List Int := (List.range n).flatMap (rowW sy ts)
def rightO (m : MultiD) (ws : List (List Int)) : List Int := trim (flatW m.sy ws (longL ws))
def startO (m : MultiD) (ws : List (List Int)) : ConfD := ⟨0, [], rightO m ws⟩
def wordsOk (m : MultiD) (ws : List (List Int)) : Prop := (ws.length : Int) = m.tp ∧ ws.all (wordOk m) = true
instance (m : MultiD) (ws : List (List Int)) : Decidable (wordsOk m ws) := by unfold wordsOk; infer_instance
def startOC (m : MultiD) (ws : List (List Int)) : ConfD × Int :=
  if multiOk m then if wordsOk m ws then if (rightO m ws).length ≤ 200 then (startO m ws, 0) else (blankC, 5) else (blankC, 2) else (blankC, 1)
theorem flatW_succ (sy : Int) (ts : List (List Int)) (n : Nat) : flatW sy ts (n + 1) = flatW sy ts n ++ rowW sy ts n := by simp [flatW, List.range_succ]
theorem flatW_length (sy : Int) (ts : List (List Int)) : ∀ n, (flatW sy ts n).length = n * ts.length
  | 0 => by simp [flatW]
  | n + 1 => by rw [flatW_succ, List.length_append, flatW_length sy ts n, Nat.succ_mul]; simp [rowW]
theorem longF_ge : ∀ (ts : List (List Int)) (a : Nat), a ≤ ts.foldl (fun a t => max a t.length) a
  | [], a => Nat.le_refl _
  | t :: ts, a => Nat.le_trans (Nat.le_max_left a t.length) (longF_ge ts _)
theorem longF_mem : ∀ (ts : List (List Int)) (a : Nat) (t : List Int), t ∈ ts → t.length ≤ ts.foldl (fun a t => max a t.length) a
  | t :: ts, a, x, h => by
    rcases List.mem_cons.1 h with rfl | h
    · exact Nat.le_trans (Nat.le_max_right a _) (longF_ge ts _)
    · exact longF_mem ts _ x h
theorem longF_le : ∀ (ts : List (List Int)) (a b : Nat), a ≤ b → (∀ t ∈ ts, t.length ≤ b) → ts.foldl (fun a t => max a t.length) a ≤ b
  | [], a, b, h, _ => h
  | t :: ts, a, b, h, h2 => longF_le ts _ b (Nat.max_le.2 ⟨h, h2 t List.mem_cons_self⟩) (fun x hx => h2 x (List.mem_cons_of_mem _ hx))
theorem longL_one (ts : List (List Int)) : 1 ≤ longL ts := longF_ge ts 1
theorem longL_mem {ts : List (List Int)} {t : List Int} (h : t ∈ ts) : t.length ≤ longL ts := longF_mem ts 1 t h
theorem longL_le {ts : List (List Int)} {b : Nat} (h1 : 1 ≤ b) (h : ∀ t ∈ ts, t.length ≤ b) : longL ts ≤ b := longF_le ts 1 b h1 h
theorem longL_snoc (ts : List (List Int)) (t : List Int) : longL (ts ++ [t]) = max (longL ts) t.length := by simp [longL, List.foldl_append]
theorem trim_snoc (xs : List Int) : trim (xs ++ [0]) = trim xs := by
  have hs : ∀ n, n ≤ xs.length → trimN (xs ++ [0]) n = trimN xs n := by
    intro n
    induction n with
    | zero => intro _; rfl
    | succ n ih =>
      intro hn
      have hg : (xs ++ [0]).getD n 0 = xs.getD n 0 := by
        rw [List.getD_eq_getElem?_getD, List.getD_eq_getElem?_getD, List.getElem?_append_left (by omega)]
      unfold trimN
      rw [hg, ih (by omega)]
  unfold trim
  have h1 : trimN (xs ++ [0]) (xs ++ [0]).length = trimN xs xs.length := by
    rw [List.length_append]
    show trimN (xs ++ [0]) (xs.length + 1) = _
    have hg : (xs ++ [(0 : Int)]).getD xs.length 0 = 0 := by simp
    conv => lhs; unfold trimN
    rw [hg]
    simp only [beq_self_eq_true, if_true]
    exact hs _ (Nat.le_refl _)
  rw [h1, List.take_append_of_le_length (trimN_le _ _)]
theorem trim_zeros (xs : List Int) : ∀ zs : List Int, (∀ z ∈ zs, z = 0) → trim (xs ++ zs) = trim xs := by
  intro zs
  induction zs generalizing xs with
  | nil => intro _; simp
  | cons z zs ih =>
    intro h
    have e : xs ++ z :: zs = (xs ++ [z]) ++ zs := by simp
    rw [e, ih _ (fun y hy => h y (List.mem_cons_of_mem _ hy)), h z List.mem_cons_self, trim_snoc]
theorem rowW_trim (sy : Int) (ts : List (List Int)) (k : Nat) : rowW sy (ts.map trim) k = rowW sy ts k := by
  unfold rowW
  rw [List.map_map]
  refine List.map_congr_left fun t _ => ?_
  simp only [Function.comp, cellW, trim_get]
theorem flatW_trim (sy : Int) (ts : List (List Int)) : ∀ n, flatW sy (ts.map trim) n = flatW sy ts n
  | 0 => rfl
  | n + 1 => by rw [flatW_succ, flatW_succ, flatW_trim sy ts n, rowW_trim]
theorem right_more (sy : Int) (ts : List (List Int)) (n : Nat) (h1 : 1 ≤ n) (h : ∀ t ∈ ts, ∀ k, n ≤ k → t.getD k 0 = 0) : ∀ j, trim (flatW sy ts (n + j)) = trim (flatW sy ts n)
  | 0 => rfl
  | j + 1 => by
    rw [← Nat.add_assoc, flatW_succ, trim_zeros _ _ (fun z hz => ?_), right_more sy ts n h1 h j]
    unfold rowW at hz
    obtain ⟨t, ht, rfl⟩ := List.mem_map.1 hz
    unfold cellW
    rw [if_neg (by omega)]
    exact h t ht _ (by omega)
/-- Blanks at the ends of the words change nothing. -/
theorem right_trim (sy : Int) (ws : List (List Int)) : trim (flatW sy (ws.map trim) (longL (ws.map trim))) = trim (flatW sy ws (longL ws)) := by
  rw [flatW_trim]
  have hle : longL (ws.map trim) ≤ longL ws := longL_le (longL_one _) (fun t ht => by
    obtain ⟨x, hx, rfl⟩ := List.mem_map.1 ht
    exact Nat.le_trans (trim_len x) (longL_mem hx))
  have := right_more sy ws (longL (ws.map trim)) (longL_one _) (fun t ht k hk => by
    rw [← trim_get, List.getD_eq_getElem?_getD, List.getElem?_eq_none]
    · rfl
    · exact Nat.le_trans (longL_mem (List.mem_map_of_mem ht)) hk) (longL ws - longL (ws.map trim))
  rw [show longL (ws.map trim) + (longL ws - longL (ws.map trim)) = longL ws by omega] at this
  exact this.symm
theorem flatW_in {sy : Int} (hs : 1 ≤ sy) {ts : List (List Int)} (h : ∀ t ∈ ts, ∀ z ∈ t, 0 ≤ z ∧ z ≤ sy - 1) : ∀ n, ∀ z ∈ flatW sy ts n, 0 ≤ z ∧ z ≤ 2 * sy - 1
  | 0, z, hz => by simp [flatW] at hz
  | n + 1, z, hz => by
    rw [flatW_succ] at hz
    rcases List.mem_append.1 hz with hz | hz
    · exact flatW_in hs h n z hz
    · unfold rowW at hz
      obtain ⟨t, ht, rfl⟩ := List.mem_map.1 hz
      have hg := getD_all (P := fun z => 0 ≤ z ∧ z ≤ sy - 1) (h t ht) ⟨Int.le_refl _, by omega⟩ n
      unfold cellW
      split <;> omega
theorem wordOk_all {m : MultiD} {x : List Int} (h : wordOk m x = true) : x.length ≤ 200 ∧ ∀ z ∈ x, 0 ≤ z ∧ z ≤ m.sy - 1 := by
  simp only [wordOk, Bool.and_eq_true, decide_eq_true_eq, List.all_eq_true] at h
  exact ⟨h.1, fun z hz => inB_iff.1 (h.2 z hz)⟩
theorem startO_conf {m : MultiD} (hm : multiOk m = true) {s : List MP × List RuleD} (hs : weaveB m = some s) {ws : List (List Int)} (hw : wordsOk m ws) (hl : (rightO m ws).length ≤ 200) : confB (oneM m s) (startO m ws) = true := by
  obtain ⟨_, ⟨y1, y2⟩, _⟩ := multi_all hm
  obtain ⟨⟨_, _, t1, _⟩, _⟩ := machOk_five (one_ok hm hs).1
  have hr : sideOk (rightO m ws) (2 * m.sy) 200 = true := trim_side2 hl (flatW_in (by omega) (fun t ht => (wordOk_all (List.all_eq_true.1 hw.2 t ht)).2) _)
  have hl0 : sideOk [] (2 * m.sy) 200 = true := by simp [sideOk]
  have hq : inB 0 0 ((s.1.length : Int) - 1) = true := inB_iff.2 ⟨Int.le_refl _, by have : (1 : Int) ≤ (s.1.length : Int) := t1; omega⟩
  show (inB 0 0 ((s.1.length : Int) - 1) && sideOk [] (2 * m.sy) 200 && sideOk (rightO m ws) (2 * m.sy) 200) = true
  rw [hq, hl0, hr]
  rfl
theorem startOC_ok {m : MultiD} {ws : List (List Int)} (hm : multiOk m = true) (h : (startOC m ws).2 = 0) : wordsOk m ws ∧ (rightO m ws).length ≤ 200 ∧ startOC m ws = (startO m ws, 0) := by
  unfold startOC at h ⊢
  rw [if_pos hm] at h ⊢
  by_cases hw : wordsOk m ws
  · rw [if_pos hw] at h ⊢
    by_cases hl : (rightO m ws).length ≤ 200
    · rw [if_pos hl]
      exact ⟨hw, hl, rfl⟩
    · rw [if_neg hl] at h
      simp at h
  · rw [if_neg hw] at h
    simp at h
theorem decOne_tot {m : MultiD} (hm : multiOk m = true) (p : MP) (c : ConfD) : (decOne m p c).1.tapes = [] ∨ ∃ ts, (decOne m p c).1.tapes = ts ∧ decTapes m c p.t m.tp.toNat = some ts := by
  unfold decOne
  split
  · cases h : decTapes m c p.t m.tp.toNat with
    | none => exact .inl rfl
    | some ts => exact .inr ⟨ts, rfl, rfl⟩
  · exact .inl rfl
/-- What a run comes to: the configuration, the steps, whether it halts, a code. -/
structure ROut where
  c : MConfD
  n : Int
  h : Bool
  k : Int
def rNo (k : Int) : ROut := ⟨⟨0, []⟩, 0, false, k⟩
def endRO (m : MultiD) (s : List MP × List RuleD) (x : ConfD) (T : Nat) : ROut :=
  if (decOne m (s.1.getD (cfgI (oneM m s) x T).q.toNat mp0) (cfgI (oneM m s) x T)).2 = 0 then ⟨(decOne m (s.1.getD (cfgI (oneM m s) x T).q.toNat mp0) (cfgI (oneM m s) x T)).1, T, decide (lookI (oneM m s) (cfgI (oneM m s) x T) = noR), 0⟩
  else rNo (decOne m (s.1.getD (cfgI (oneM m s) x T).q.toNat mp0) (cfgI (oneM m s) x T)).2
def RunOT (m : MultiD) (ws : List (List Int)) (b : Int) (R : ROut) : Prop :=
  if multiOk m then
    if inB b 1 20000 then
      match weaveB m with
      | none => R = rNo 5
      | some s =>
        if (startOC m ws).2 = 0 then (∃ T, EndAt (oneM m s) (startO m ws) b.toNat T ∧ R = endRO m s (startO m ws) T) ∨ ((∃ T, FullAt (oneM m s) (startO m ws) b.toNat T) ∧ R = rNo 5)
        else R = rNo (startOC m ws).2
    else R = rNo 2
  else R = rNo 1
theorem RunOT.bad {m : MultiD} {ws : List (List Int)} {b : Int} (h : multiOk m = false) : RunOT m ws b (rNo 1) := by
  unfold RunOT
  rw [h]
  rfl
theorem RunOT.budget {m : MultiD} {ws : List (List Int)} {b : Int} (h : multiOk m = true) (hb : inB b 1 20000 = false) : RunOT m ws b (rNo 2) := by
  unfold RunOT
  rw [if_pos h, hb]
  rfl
theorem RunOT.big {m : MultiD} {ws : List (List Int)} {b : Int} (h : multiOk m = true) (hb : inB b 1 20000 = true) (hs : weaveB m = none) : RunOT m ws b (rNo 5) := by
  unfold RunOT
  rw [if_pos h, if_pos hb, hs]
theorem RunOT.start {m : MultiD} {ws : List (List Int)} {b : Int} {s : List MP × List RuleD} (h : multiOk m = true) (hb : inB b 1 20000 = true) (hs : weaveB m = some s) (hk : (startOC m ws).2 ≠ 0) : RunOT m ws b (rNo (startOC m ws).2) := by
  unfold RunOT
  rw [if_pos h, if_pos hb, hs]
  show (if (startOC m ws).2 = 0 then _ else _)
  rw [if_neg hk]
theorem RunOT.full {m : MultiD} {ws : List (List Int)} {N T : Nat} {s : List MP × List RuleD} (h : multiOk m = true) (hb : inB (N : Int) 1 20000 = true) (hs : weaveB m = some s) (hk : (startOC m ws).2 = 0) (hT : FullAt (oneM m s) (startO m ws) N T) : RunOT m ws (N : Int) (rNo 5) := by
  unfold RunOT
  rw [if_pos h, if_pos hb, hs]
  show (if (startOC m ws).2 = 0 then _ else _)
  rw [if_pos hk]
  exact .inr ⟨⟨T, hT⟩, rfl⟩
theorem RunOT.ends {m : MultiD} {ws : List (List Int)} {N T : Nat} {s : List MP × List RuleD} (h : multiOk m = true) (hb : inB (N : Int) 1 20000 = true) (hs : weaveB m = some s) (hk : (startOC m ws).2 = 0) (hT : EndAt (oneM m s) (startO m ws) N T) : RunOT m ws (N : Int) (endRO m s (startO m ws) T) := by
  unfold RunOT
  rw [if_pos h, if_pos hb, hs]
  show (if (startOC m ws).2 = 0 then _ else _)
  rw [if_pos hk]
  exact .inl ⟨T, hT, rfl⟩
theorem endRO_at {m : MultiD} {s : List MP × List RuleD} {x : ConfD} {T i : Nat} {p : MP} {y : ConfD} (hy : cfgI (oneM m s) x T = y) (hq : y.q = (i : Int)) (hp : s.1[i]? = some p) :
    endRO m s x T = if (decOne m p y).2 = 0 then ⟨(decOne m p y).1, T, decide (lookI (oneM m s) y = noR), 0⟩ else rNo (decOne m p y).2 := by
  unfold endRO
  rw [hy, hq, Int.toNat_natCast, List.getD_eq_getElem?_getD, hp]
  rfl
theorem RunOT.unique {m : MultiD} {ws : List (List Int)} {b : Int} {R R' : ROut} (h : RunOT m ws b R) (h' : RunOT m ws b R') : R = R' := by
  unfold RunOT at h h'
  split at h
  · rename_i h0
    rw [if_pos h0] at h'
    split at h
    · rename_i h1
      rw [if_pos h1] at h'
      cases hw : weaveB m with
      | none =>
        rw [hw] at h h'
        exact h.trans h'.symm
      | some s =>
        rw [hw] at h h'
        simp only at h h'
        split at h
        · rename_i h2
          rw [if_pos h2] at h'
          rcases h with ⟨T, e, rfl⟩ | ⟨⟨T, e⟩, rfl⟩ <;> rcases h' with ⟨T', e', rfl⟩ | ⟨⟨T', e'⟩, rfl⟩
          · rw [e.unique e']
          · exact (e.not_full e').elim
          · exact (e'.not_full e).elim
          · rfl
        · rename_i h2
          rw [if_neg h2] at h'
          exact h.trans h'.symm
    · rename_i h1
      rw [if_neg h1] at h'
      exact h.trans h'.symm
  · rename_i h0
    rw [if_neg h0] at h'
    exact h.trans h'.symm
end Go.Proofs.YtfghojbbofobeaaGreat
end
section
set_option linter.unusedSimpArgs false
set_option linter.unusedVariables false
namespace Go.Proofs.YtfghojbbofobeaaGreat
open Go Go.RowKit Go.Proofs Go.Maps
set_option maxHeartbeats 400000
/-- A configuration and a code. -/
def StaRes (w : World) (r : ConfD × Int) (e : Ending) (w' : World) : Prop :=
  ∃ lv rv, e = .returned (.tuple #[.agg #[.int .i64 r.1.q, lv, rv], .int .i64 r.2]) ∧ OwnInts w.heap.size w' lv r.1.l ∧ OwnInts w.heap.size w' rv r.1.r ∧ Ext w w'
/-- The right side grows. -/
structure GrR (base : Nat) (w : World) (bo : Nat) (xs : List Int) (rv : Value) : Prop where
  blk : Blk w bo 54 #[.int .i64 0, .slice none 0 0, rv]
  r : OwnInts base w rv xs
theorem GrR.ext {base : Nat} {w w' : World} {bo : Nat} {xs : List Int} {rv : Value} (h : GrR base w bo xs rv) (he : Ext w w') : GrR base w' bo xs rv := ⟨h.blk.ext he, OwnInts.ext h.r he⟩
theorem GrR.push {base : Nat} {w w' : World} {bo : Nat} {x : Int} {xs : List Int} {rv v' : Value} (h : GrR base w bo xs rv) (hown : w'.ownsRow base 2 1 v' (xs.length + 1) (ivs xs ++ [.int .i64 x])) (hg : w.grownBy w' rv.ownBlock) :
    GrR base (w'.setCell ⟨bo, 2, none⟩ v') bo (xs ++ [x]) v' := by
  have B5 := Blk.apart h.blk h.r (by decide) hg
  refine ⟨B5.set_ 2 v', ?_⟩
  have := own_kept hown (grownBy_setCell w' ⟨bo, 2, none⟩ v') (blk_ne_row B5 hown (by decide))
  unfold OwnInts
  rw [ivs_append]
  simpa [ivs] using this
theorem GrR.trim {base : Nat} {w : World} {bo : Nat} {xs : List Int} {A : Option Addr} {c : Nat} (h : GrR base w bo xs (.slice A xs.length c)) :
    GrR base (w.setCell ⟨bo, 2, none⟩ (.slice A (trimN xs xs.length) c)) bo (trim xs) (.slice A (trimN xs xs.length) c) := by
  have ho := own_trim h.r
  exact ⟨h.blk.set_ 2 _, own_kept ho (grownBy_setCell w ⟨bo, 2, none⟩ _) (blk_ne_row h.blk ho (by decide))⟩
theorem StaRes.fail {w w1 : World} {k : Int} {b : Nat} (hb : w.heap.size ≤ b) (hX : Ext w w1) (x y z : Value) :
    StaRes w (blankC, k) (.returned (.tuple #[.agg #[.int .i64 0, .slice none 0 0, .slice none 0 0], .int .i64 k])) (((w1.setCell ⟨b, 0, none⟩ x).setCell ⟨b, 1, none⟩ y).setCell ⟨b, 2, none⟩ z) :=
  ⟨_, _, rfl, World.ownsRow_nil .., World.ownsRow_nil .., ((hX.setCell hb _).setCell hb _).setCell hb _⟩
theorem StaRes.failA {w w1 : World} {k : Int} {b : Nat} (hb : w.heap.size ≤ b) (hX : Ext w w1) (x y z : Value) (o : Obj) :
    StaRes w (blankC, k) (.returned (.tuple #[.agg #[.int .i64 0, .slice none 0 0, .slice none 0 0], .int .i64 k])) ((((w1.setCell ⟨b, 0, none⟩ x).setCell ⟨b, 1, none⟩ y).setCell ⟨b, 2, none⟩ z).alloc o) :=
  ⟨_, _, rfl, World.ownsRow_nil .., World.ownsRow_nil .., (((hX.setCell hb _).setCell hb _).setCell hb _).trans (Ext.alloc _ _)⟩
theorem StaRes.done {w w1 : World} {b base : Nat} {cs : Array Value} {xs : List Int} {rv : Value} (hb : w.heap.size ≤ b) (hX : Ext w w1) (hB : Blk w1 b 54 cs) (h : OwnInts base w1 rv xs) (hbb : w.heap.size ≤ base) (x y z : Value) :
    StaRes w (⟨0, [], xs⟩, 0) (.returned (.tuple #[.agg #[.int .i64 0, .slice none 0 0, rv], .int .i64 0])) (((w1.setCell ⟨b, 0, none⟩ x).setCell ⟨b, 1, none⟩ y).setCell ⟨b, 2, none⟩ z) := by
  have f : ∀ k, rv.ownBlock = some k → k ≠ b := fun k hk e => by
    subst e
    exact blk_ne_row hB h (by decide) hk.symm
  exact ⟨_, _, rfl, World.ownsRow_nil .., ownsRow_base (ownsRow_far (ownsRow_far (ownsRow_far h f _) f _) f _) hbb, ((hX.setCell hb _).setCell hb _).setCell hb _⟩
theorem CpM.tapesA {w wr : World} {ts : List TapeD} {v : Value} {cl : List Value} (h : CpM w ts ts.length v cl wr) : Tapes wr v ts := by
  obtain ⟨A, c, rfl, a, b, hr⟩ := ownsRow_row h.own
  refine ⟨A, c, rfl, a, b, fun hn => ?_⟩
  obtain ⟨g, off, rfl, hc⟩ := hr.2 hn
  refine ⟨g, off, rfl, fun i hi => ?_⟩
  obtain ⟨x, y, c0, c1, o1, o2⟩ := h.side i hi hi
  have hl := h.len
  exact ⟨x, y, (hc _ (by omega)).trans c0, by rw [Nat.add_assoc]; exact (hc _ (by omega)).trans c1, o1.ints, o2.ints⟩
theorem startOC_bad {m : MultiD} {ws : List (List Int)} (h : multiOk m = false) : startOC m ws = (blankC, 1) := by
  unfold startOC
  rw [h]
  rfl
theorem startOC_words {m : MultiD} {ws : List (List Int)} (h : multiOk m = true) (hn : ¬ ((ws.length : Int) = m.tp ∧ ws.all (wordOk m) = true)) : startOC m ws = (blankC, 2) := by
  unfold startOC
  rw [h, if_pos rfl, if_neg (show ¬ wordsOk m ws from hn)]
theorem startOC_yes {m : MultiD} {ws : List (List Int)} (h : multiOk m = true) (hn : (ws.length : Int) = m.tp) (hw : ws.all (wordOk m) = true) : startOC m ws = if (rightO m ws).length ≤ 200 then (startO m ws, 0) else (blankC, 5) := by
  unfold startOC
  rw [h, if_pos rfl, if_pos (show wordsOk m ws from ⟨hn, hw⟩)]
theorem rowW_take_succ (sy : Int) (ts : List (List Int)) (k j : Nat) (h : j < ts.length) : (rowW sy ts k).take (j + 1) = (rowW sy ts k).take j ++ [cellW sy k ts[j]] := by
  have hl : j < (rowW sy ts k).length := by simpa [rowW] using h
  rw [List.take_succ_eq_append_getElem hl]
  simp [rowW]
set_option maxRecDepth 20000 in
set_option maxHeartbeats 4000000 in
theorem StartOneTape_c (m : MultiD) (mv wv : Value) (ws : List (List Int)) (vs : List Value) (w : World) (hM : Mult w mv m) (hW : Row w 1 wv ws.length vs) (hI : ∀ i, (h : i < ws.length) → ∃ u, vs[i]? = some u ∧ Ints w u ws[i] ∧ Flat u) :
    Calls Tryz.prog 30 #[mv, wv] w (StaRes w (startOC m ws)) := by
  obtain ⟨i0, hi, hz0, hz1, hz2⟩ := info_parts intInfo
  obtain ⟨rv, rfl, hR⟩ := id hM
  obtain ⟨A, cA, rfl, _, _⟩ := hR.form
  obtain ⟨B, cB, rfl, hB1, hB2, hvl⟩ := id hW.form
  obtain ⟨g, hg⟩ : ∃ g, w.heap.size = g := ⟨_, rfl⟩
  obtain ⟨V, hV⟩ : ∃ V, V = (w.alloc (.cells #[.int .i64 m.tp, .int .i64 m.sy, .int .i64 m.st, .slice A m.rules.length cA] 35)).alloc (.cells #[.int .i64 0, .slice none 0 0, .slice none 0 0] 54) := ⟨_, rfl⟩
  have hX : Ext w V := by rw [hV]; exact (Ext.alloc _ _).trans (Ext.alloc _ _)
  have bM : Blk V g 35 #[.int .i64 m.tp, .int .i64 m.sy, .int .i64 m.st, .slice A m.rules.length cA] := by rw [hV]; exact (Blk.new _ _ _ _ hg).alloc _
  have bO : Blk V (g + 1) 54 #[.int .i64 0, .slice none 0 0, .slice none 0 0] := by rw [hV]; exact Blk.new _ _ _ _ (by simp [hg])
  have SM := StartMultiC_c m (.agg #[.int .i64 m.tp, .int .i64 m.sy, .int .i64 m.st, .slice A m.rules.length cA]) (.slice B ws.length cB) ws vs V ⟨_, rfl, hR.ext hX⟩ (hW.ext hX) (fun i hi => by
    obtain ⟨u, e, iu, hf⟩ := hI i hi
    exact ⟨u, e, iu.ext hX, hf⟩)
  have hgb : w.heap.size ≤ g + 1 := by omega
  obtain ⟨R, hR'⟩ : ∃ R, R = startOC m ws := ⟨_, rfl⟩
  rw [← hR']
  have HR := Lib.hid hR'
  clear hR'
  go_enter Tryz.func30, Tryz.ntmps30
  go_wp2_with fail
  try rw [← hV]
  try rw [hg]
  clear hV
  refine SM.mono ?_
  rintro e w1 ⟨hres, hx1⟩
  clear SM
  have hX1 := hX.trans hx1
  have bO1 := bO.ext hx1
  have bOf := bO1.ext (Ext.alloc w1 (.cells #[.int .i64 0, .slice none 0 0] 30))
  have ob := bOf.cell
  have of_ := bOf.frozen
  rcases hres with ⟨hm, rfl⟩ | ⟨hm, hn, rfl⟩ | ⟨hm, hn, hw, v, cl, rfl, hC⟩
  · have HE := Lib.hid (HR.out.trans (startOC_bad (ws := ws) hm))
    clear hm
    go_wp2
    rw [HE.out]
    exact bodyPost_ret (v := .tuple #[.agg #[.int .i64 0, .slice none 0 0, .slice none 0 0], .int .i64 1]) (by simp [results, Tryz.results30, go_sem, ob]) rfl (StaRes.fail hgb (hX1.trans (Ext.alloc _ _)) _ _ _)
  · have HE := Lib.hid (HR.out.trans (startOC_words hm hn))
    clear hm hn
    go_wp2
    rw [HE.out]
    exact bodyPost_ret (v := .tuple #[.agg #[.int .i64 0, .slice none 0 0, .slice none 0 0], .int .i64 2]) (by simp [results, Tryz.results30, go_sem, ob]) rfl (StaRes.fail hgb (hX1.trans (Ext.alloc _ _)) _ _ _)
  · have HE := Lib.hid (HR.out.trans (startOC_yes hm hn hw))
    obtain ⟨⟨tp1, tp2⟩, ⟨y1, y2⟩, _⟩ := multi_all hm
    obtain ⟨ts, hts⟩ : ∃ ts, ts = ws.map trim := ⟨_, rfl⟩
    have hT := hC.tapesA
    obtain ⟨At, ct, rfl, _, _⟩ := hT.form
    have hln : (ws.map startT).length = ts.length := by rw [hts]; simp
    have hAT : Hid (∀ i, (h : i < ts.length) → ∃ b off A0 n0 k0 n c A', At = some ⟨b, off, none⟩ ∧ w1.cell? ⟨b, off + i * 2, none⟩ = some (.slice A0 n0 k0) ∧ w1.cell? ⟨b, off + i * 2 + 1, none⟩ = some (.slice A' n c) ∧ n = ts[i].length ∧ Ints w1 (.slice A' n c) ts[i]) := Lib.hid fun i hi => by
      obtain ⟨b, off, vl, vr, e, c0, c1, il, ir⟩ := hT.at (i := i) (by rw [hln]; exact hi)
      have er : (ws.map startT)[i].r = ts[i] := by
        simp only [hts, List.getElem_map]
        rfl
      rw [er] at ir
      obtain ⟨A', c', rfl, _, _⟩ := id ir.form
      obtain ⟨A0, k0, rfl, _, _⟩ := id il.form
      exact ⟨b, off, A0, _, k0, _, c', A', e, c0, c1, rfl, ir⟩
    rw [hln]
    have htw : ∀ t ∈ ts, t.length ≤ 200 ∧ ∀ z ∈ t, 0 ≤ z ∧ z ≤ m.sy - 1 := fun t ht => by
      rw [hts] at ht
      obtain ⟨x, hx, rfl⟩ := List.mem_map.1 ht
      obtain ⟨a, b⟩ := wordOk_all (List.all_eq_true.1 hw x hx)
      exact ⟨Nat.le_trans (trim_len x) a, fun z hz => b z (trim_mem hz)⟩
    have HRT : Hid (trim (flatW m.sy ts (longL ts)) = rightO m ws) := Lib.hid (by rw [hts]; exact right_trim m.sy ws)
    have htn : ts.length ≤ 3 := by rw [hts, List.length_map]; omega
    have HTW := Lib.hid htw
    have bM1 := bM.ext hx1
    have m1 := bM1.cell 1
    simp only [List.getElem?_toArray, List.getElem?_cons_zero, List.getElem?_cons_succ] at m1
    obtain ⟨W1, hW1⟩ : ∃ W1, W1 = w1.alloc (.cells #[.int .i64 0, .slice At ts.length ct] 30) := ⟨_, rfl⟩
    have hXa : Ext w1 W1 := by rw [hW1]; exact Ext.alloc _ _
    have bC : Blk W1 w1.heap.size 30 #[.int .i64 0, .slice At ts.length ct] := by rw [hW1]; exact Blk.new _ _ _ _ rfl
    obtain ⟨gm, hgm⟩ : ∃ k, w1.heap.size = k := ⟨_, rfl⟩
    rw [hgm] at bC
    have hbase : g ≤ w1.heap.size := by rw [← hg]; exact hX1.size
    have bOa := bO1.ext hXa
    have m1 := hXa.cell m1
    have hXW := hX1.trans hXa
    clear hm hn hw hT hts hln htw ob of_ hC bM1
    go_wp2_with fail
    try rw [← hW1]
    try rw [hgm]
    clear hW1
    go_loopw [8, 29] (fun lo i wr => ∃ k : Nat, k ≤ ts.length ∧ lo = .int .i64 (longL (ts.take k) : Nat) ∧ i = .int .i64 k ∧ Ext W1 wr) (fun _ i _ => ts.length - (intOf i).toNat)
    case atStart => exact ⟨0, Nat.zero_le _, rfl, rfl, Ext.refl _⟩
    case round =>
      obtain ⟨k, hk, rfl, rfl, hxr⟩ := hrel
      by_cases hlt : k < ts.length
      · obtain ⟨b, off, A0, n0, k0, n, c, A', rfl, c0, c1, hnl, ir⟩ := hAT.out k hlt
        have hb200 := (HTW.out _ (List.getElem_mem hlt)).1
        have HL : Hid (max ((longL (ts.take k) : Nat) : Int) (n : Int) = ((longL (ts.take (k + 1)) : Nat) : Int)) := Lib.hid (by
          rw [List.take_succ_eq_append_getElem hlt, longL_snoc, hnl]
          omega)
        have c0 := hxr.cell (hXa.cell c0)
        have c1 := hxr.cell (hXa.cell c1)
        have hi1 : (0 : Int) ≤ (k : Int) := by omega
        have hi2 : (k : Int) < (ts.length : Int) := by omega
        clear hnl
        generalize longL (ts.take k) = L at *
        go_wp2_with fail
        go_roundw
        case rel => exact ⟨k + 1, by omega, by rw [← HL.out], by go_num, hxr.trans (Ext.alloc _ _)⟩
        case measure => simp [intOf]; omega
      · obtain rfl : k = ts.length := by omega
        rw [List.take_length]
        obtain ⟨N, hN⟩ : ∃ N, longL ts = N := ⟨_, rfl⟩
        have hN2 : N ≤ 200 := by rw [← hN]; exact longL_le (by omega) (fun t ht => (HTW.out t ht).1)
        rw [hN] at HRT ⊢
        clear hN
        obtain ⟨W2, hW2⟩ : ∃ W2, W2 = wr.alloc (.cells #[.int .i64 0, .slice none 0 0, .slice none 0 0] 54) := ⟨_, rfl⟩
        have hX2 : Ext wr W2 := by rw [hW2]; exact Ext.alloc _ _
        obtain ⟨gc, hgc⟩ : ∃ k, wr.heap.size = k := ⟨_, rfl⟩
        have g2 : GrR gc W2 gc (flatW m.sy ts 0) (.slice none 0 0) := ⟨by rw [hW2]; exact Blk.new _ _ _ _ hgc, World.ownsRow_nil ..⟩
        have hxr2 := hxr.trans hX2
        have hgcW : W1.heap.size ≤ gc := by rw [← hgc]; exact hxr.size
        have hxr0 : Ext W1 W2 := hxr2
        clear hxr
        go_wp2_with fail
        try rw [← hW2]
        try rw [hgc]
        clear hW2 hX2 hxr2
        go_loopw [41] (fun i wr => ∃ (k : Nat) (rv : Value), k ≤ N ∧ i = .int .i64 k ∧ GrR gc wr gc (flatW m.sy ts k) rv ∧ Ext W1 wr) (fun i _ => N - (intOf i).toNat)
        case atStart => exact ⟨0, _, Nat.zero_le _, rfl, g2, hxr0⟩
        case round =>
          clear g2 hxr0
          obtain ⟨k, rv, hk, rfl, hG, hxr⟩ := hrel
          by_cases hlt : k < N
          · have i1 : (k : Int) < (N : Int) := by omega
            have b0 := (bC.ext hxr).cell 1
            simp only [List.getElem?_toArray, List.getElem?_cons_zero, List.getElem?_cons_succ] at b0
            have hGl : (flatW m.sy ts k).length ≤ 600 := by
              rw [flatW_length]
              exact Nat.mul_le_mul (show k ≤ 200 by omega) htn
            obtain ⟨ys0, hys0⟩ : ∃ ys, flatW m.sy ts k = ys := ⟨_, rfl⟩
            have HYS : Hid (flatW m.sy ts (k + 1) = ys0 ++ (rowW m.sy ts k).take ts.length) := Lib.hid (by
              rw [flatW_succ, hys0, List.take_of_length_le (by simp [rowW])])
            rw [hys0] at hG hGl
            clear hys0
            obtain ⟨wq, hwq⟩ : ∃ q, q = wr := ⟨_, rfl⟩
            subst hwq
            go_wp2_with fail
            go_loopw [47] (fun i wr => ∃ (j : Nat) (rv : Value), j ≤ ts.length ∧ i = .int .i64 j ∧ GrR gc wr gc (ys0 ++ (rowW m.sy ts k).take j) rv ∧ Ext W1 wr) (fun i _ => ts.length - (intOf i).toNat)
            case atStart => exact ⟨0, rv, Nat.zero_le _, rfl, by simpa using hG, hxr⟩
            case round =>
              clear hG hxr b0
              obtain ⟨j, rv, hj, rfl, hG, hxr⟩ := hrel
              by_cases hjl : j < ts.length
              · obtain ⟨b, off, A0, n0, k0, n, c, A', rfl, c0, c1, hnl, ir⟩ := hAT.out j hjl
                have HS := Lib.hid (rowW_take_succ m.sy ts k j hjl)
                have hlen : (ys0 ++ (rowW m.sy ts k).take j).length ≤ 1000 := by
                  rw [List.length_append, List.length_take]
                  omega
                have hzb := getD_all (P := fun z => 0 ≤ z ∧ z ≤ m.sy - 1) (HTW.out _ (List.getElem_mem hjl)).2 ⟨Int.le_refl _, by omega⟩ k
                obtain ⟨z, hz⟩ : ∃ z, ts[j].getD k 0 = z := ⟨_, rfl⟩
                obtain ⟨x, hx⟩ : ∃ x, cellW m.sy k ts[j] = x := ⟨_, rfl⟩
                have HX : Hid (x = if k = 0 then z + m.sy else z) := Lib.hid (by rw [← hx, ← hz]; rfl)
                rw [hx] at HS
                have SA := fun w' (h : Ext w1 w') => symbolAt_c (.slice A' n c) ts[j] k w' (ir.ext h)
                rw [hz] at SA hzb
                clear hx hz hnl
                obtain ⟨ys, hys⟩ : ∃ ys, ys0 ++ (rowW m.sy ts k).take j = ys := ⟨_, rfl⟩
                rw [hys] at hlen hG
                have HYQ := Lib.hid hys
                clear hys
                obtain ⟨Ay, cy, rfl, _, _⟩ := id hG.r.ints.form
                have hx1r := hXa.trans hxr
                have c0 := hx1r.cell c0
                have c1 := hx1r.cell c1
                have hi1 : (0 : Int) ≤ (j : Int) := by omega
                have hi2 : (j : Int) < (ts.length : Int) := by omega
                obtain ⟨W3, hW3⟩ : ∃ W3, W3 = wr.alloc (.cells #[.slice A0 n0 k0, .slice A' n c] 106) := ⟨_, rfl⟩
                have hX3 : Ext wr W3 := by rw [hW3]; exact Ext.alloc _ _
                have bT : Blk W3 wr.heap.size 106 #[.slice A0 n0 k0, .slice A' n c] := by rw [hW3]; exact Blk.new _ _ _ _ rfl
                obtain ⟨gt, hgt⟩ : ∃ k, wr.heap.size = k := ⟨_, rfl⟩
                rw [hgt] at bT
                have t1 := bT.cell 1
                simp only [List.getElem?_toArray, List.getElem?_cons_zero, List.getElem?_cons_succ] at t1
                have SA3 := SA W3 (hx1r.trans hX3)
                have G3 := hG.ext hX3
                have X3 := hxr.trans hX3
                have m3 := X3.cell m1
                clear hG SA
                rw [hW3] at t1
                go_wp2_with fail
                try rw [← hW3]
                try rw [hgt]
                clear hW3 c0 c1
                refine SA3.mono ?_
                rintro e w' ⟨rfl, rfl⟩
                clear SA3
                go_upto_if 56 with fail
                go_cut [15] (fun u wx => u = .int .i64 x ∧ wx = W3)
                case first =>
                  by_cases hk0 : k = 0
                  · subst hk0
                    have HX2 : Hid (z + m.sy = x) := Lib.hid (by rw [HX.out]; rfl)
                    go_wp2_with fail
                    go_meet
                    rw [← HX2.out]
                    exact ⟨by go_num, rfl⟩
                  · have HX2 : Hid (z = x) := Lib.hid (by rw [HX.out, if_neg hk0])
                    have hk1 : ((k : Int) == 0) = false := by simp; omega
                    go_wp2_with fail
                    go_meet
                    rw [← HX2.out]
                    exact ⟨rfl, rfl⟩
                case rest =>
                  rename World => wx
                  obtain ⟨rfl, rfl⟩ := hcut
                  have f2 := G3.blk.cell 2
                  simp only [List.getElem?_toArray, List.getElem?_cons_zero, List.getElem?_cons_succ] at f2
                  have G4 := G3.ext (Ext.alloc wx (.cells #[.int .i64 x] 2))
                  have hsz3 := X3.size
                  have hgx : gc ≤ wx.heap.size := by have := G3.blk.lt; omega
                  go_wp2_with (at_builtin; refine wpList_append_own_at _ rfl _ _ 46 rfl gc 2 i0 (.int .i64 0) 1 8 Tryz.underlying46 hi hz0 hz1 hz2 rfl (by decide) _ _ _ rfl G4.r ⟨wx.heap.size, 0, none⟩ 1 1 [.int .i64 x] rfl rfl (cell_one_new _ _ _) ?c2 ?c3 ?c4 ?c5 ?_)
                  case c2 => intro u hu; simp at hu; subst hu; rfl
                  case c3 => unfold maxLen; omega
                  case c4 => omega
                  case c5 => simp; omega
                  intro v' w5 hown' hgrow _ _
                  have G5 := G4.push hown' hgrow
                  rw [← HYQ.out, List.append_assoc, ← HS.out] at G5
                  have HG5 := Lib.hid G5
                  have B5 := Blk.apart G4.blk G4.r (by decide) hgrow
                  have q2 := B5.cell 2
                  have qf := B5.frozen 2
                  simp only [List.getElem?_toArray, List.getElem?_cons_zero, List.getElem?_cons_succ] at q2
                  have HX5 : Hid (Ext W1 (w5.setCell ⟨gc, 2, none⟩ v')) := Lib.hid (((X3.trans (Ext.alloc _ _)).grown hgrow (fun b hb => by have := (G4.r.lt b hb).1; omega)).setCell hgcW _)
                  obtain ⟨A5, c5, rfl, _, _, _⟩ := (ownsRow_row hown').form
                  clear hown' hgrow G4 G5 f2 B5
                  go_wp2
                  go_roundw
                  case rel => exact ⟨j + 1, _, by omega, by go_num, HG5.out, HX5.out⟩
                  case measure => simp [intOf]; omega
              · obtain rfl : j = ts.length := by omega
                rw [← HYS.out] at hG
                go_wp2
                go_roundw
                case rel => exact ⟨k + 1, rv, by omega, by go_num, hG, hxr⟩
                case measure => simp [intOf]; omega
          · obtain rfl : k = N := by omega
            have hlf : (flatW m.sy ts k).length ≤ 600 := by
              rw [flatW_length]
              exact Nat.mul_le_mul hN2 htn
            obtain ⟨ys, hys⟩ : ∃ ys, flatW m.sy ts k = ys := ⟨_, rfl⟩
            rw [hys] at hG hlf HRT
            clear hys
            obtain ⟨Ay, cy, rfl, _, _⟩ := id hG.r.ints.form
            have TR := trimmed_c _ ys wr hG.r.ints (by omega)
            have hGt := hG.trim
            have hlt := trimN_le ys ys.length
            have htl : (trim ys).length = trimN ys ys.length := by simp [trim]; omega
            rw [HRT.out] at hGt htl
            have f2 := hG.blk.cell 2
            have ff := hG.blk.frozen 2
            simp only [List.getElem?_toArray, List.getElem?_cons_zero, List.getElem?_cons_succ] at f2
            have hXt := hxr.setCell (p := ⟨gc, 2, none⟩) hgcW (.slice Ay (trimN ys ys.length) cy)
            have HTL := Lib.hid htl
            have HSO : Hid (startO m ws = ⟨0, [], rightO m ws⟩) := Lib.hid rfl
            obtain ⟨ro, hro⟩ : ∃ r, rightO m ws = r := ⟨_, rfl⟩
            rw [hro] at HSO HE hGt htl
            have q0 := hGt.blk.cell 0
            have q1 := hGt.blk.cell 1
            have q2 := hGt.blk.cell 2
            simp only [List.getElem?_toArray, List.getElem?_cons_zero, List.getElem?_cons_succ] at q0 q1 q2
            have bOt := bOa.ext hXt
            have ob := bOt.cell
            have of_ := bOt.frozen
            have HG := Lib.hid hGt
            have HXT := Lib.hid (hXW.trans hXt)
            have hgcw : w.heap.size ≤ gc := by have := hXW.size; omega
            clear hGt hro HTL HRT
            generalize trimN ys ys.length = tn at *
            by_cases hl : tn ≤ 200
            · have hE2 := Lib.hid (HE.out.trans (if_pos (by omega)))
              rw [HSO.out] at hE2
              have hl2 : ¬ (200 : Int) < (tn : Int) := by omega
              go_wp2_with fail
              refine TR.mono ?_
              rintro e _ ⟨⟨A', c', e1, rfl⟩, rfl⟩
              cases e1
              clear TR
              go_wp2
              rw [hE2.out]
              exact bodyPost_ret (v := .tuple #[.agg #[.int .i64 0, .slice none 0 0, .slice Ay tn cy], .int .i64 0]) (by simp [results, Tryz.results30, go_sem, ob]) rfl (StaRes.done hgb HXT.out bOt HG.out.r hgcw _ _ _)
            · have hE2 := Lib.hid (HE.out.trans (if_neg (by omega)))
              have hl2 : (200 : Int) < (tn : Int) := by omega
              go_wp2_with fail
              refine TR.mono ?_
              rintro e _ ⟨⟨A', c', e1, rfl⟩, rfl⟩
              cases e1
              clear TR
              go_wp2
              rw [hE2.out]
              exact bodyPost_ret (v := .tuple #[.agg #[.int .i64 0, .slice none 0 0, .slice none 0 0], .int .i64 5]) (by simp [results, Tryz.results30, go_sem, ob]) rfl (StaRes.fail hgb HXT.out _ _ _)
end Go.Proofs.YtfghojbbofobeaaGreat
end
