/- What the machine with one tape for several does in its places, in plain words. No program stands here.
The tapes that a configuration of the machine with one tape stands for, in plain words. No program stands here.
Contracts of the program's test of a machine with several tapes. No condition. -/
import Derived.Test.YtfghojbbofobeaaGreatDoorW06
import Derived.Test.YtfghojbbofobeaaGreatDoorW09
import Derived.Test.YtfghojbbofobeaaGreatDoorW07
import Derived.Test.YtfghojbbofobeaaGreatDoorW03
import Derived.Test.YtfghojbbofobeaaGreatDoorW04
section
set_option linter.unusedSimpArgs false
set_option linter.unusedVariables false
namespace Go.Proofs.YtfghojbbofobeaaGreatDoor
open Go Go.RowKit Go.Proofs
/-- A place. -/
structure MP where
  k : Int
  a : Int
  t : Int
  c : Int
  f0 : Int
  f1 : Int
  f2 : Int
  d : Int
deriving DecidableEq
def MP.v (p : MP) : Value := .agg #[.int .i64 p.k, .int .i64 p.a, .int .i64 p.t, .int .i64 p.c, .int .i64 p.f0, .int .i64 p.f1, .int .i64 p.f2, .int .i64 p.d]
theorem MP.v_inj (x y : MP) (h : x.v = y.v) : x = y := by
  cases x; cases y
  simp only [MP.v] at h
  injection h with h
  simp at h
  simp [h]
def ActM (a : ActG MP) : Value := .agg #[.int .i64 a.w, .int .i64 a.m, .int .i64 a.p.k, .int .i64 a.p.a, .int .i64 a.p.t, .int .i64 a.p.c, .int .i64 a.p.f0, .int .i64 a.p.f1, .int .i64 a.p.f2, .int .i64 a.p.d, .bool a.no]
def mp0 : MP := ⟨0, 0, 0, 0, 0, 0, 0, 0⟩
def noW : ActG MP := ⟨0, 0, mp0, true⟩
def mrAt (m : MultiD) (i : Int) : MRuleD := m.rules.getD i.toNat mr0
def lookP (q : Int) : MP := ⟨0, q, 0, 0, 0, 0, 0, 0⟩
def befT (T t : Int) : Int := (t + T - 1) % T
def fullB (T : Int) : Int := if T = 2 then 3 else 7
def leaveP (q k : Int) : MP := if k = 0 then lookP q else ⟨4, q, 0, k, 0, 0, 0, 0⟩
def aftP (m : MultiD) (i t d : Int) : MP := if d = fullB m.tp then leaveP (mrAt m i).nx (t + m.tp - 1) else ⟨3, i, befT m.tp t, 0, 0, 0, 0, d⟩
def orB (d t : Int) : Int := if t = 0 then (if d % 2 = 1 then d else d + 1) else if t = 1 then (if d / 2 % 2 = 1 then d else d + 2) else (if d / 4 % 2 = 1 then d else d + 4)
def hasB (d t : Int) : Bool := if t = 0 then decide (d % 2 = 1) else if t = 1 then decide (d / 2 % 2 = 1) else decide (d / 4 % 2 = 1)
def putP (m : MultiD) (i t d : Int) : ActG MP :=
  if (mrAt m i).mv.getD t.toNat 0 = 0 then ⟨(mrAt m i).wr.getD t.toNat 0 + m.sy, -1, aftP m i t (orB d t), false⟩
  else ⟨(mrAt m i).wr.getD t.toNat 0, (mrAt m i).mv.getD t.toNat 0, ⟨1, i, t, m.tp - 1, 0, 0, 0, orB d t⟩, false⟩
def fnd (p : MP) (t : Int) : Int := if t = 0 then p.f0 else if t = 1 then p.f1 else p.f2
def withF (p : MP) (t x : Int) : MP := ⟨p.k, p.a, p.t, p.c, if t = 0 then x else p.f0, if t = 1 then x else p.f1, if t = 2 then x else p.f2, p.d⟩
def withT (p : MP) (t : Int) : MP := ⟨p.k, p.a, t, p.c, p.f0, p.f1, p.f2, p.d⟩
def lacksB (m : MultiD) (p : MP) : Bool := decide (p.f0 = 0) || decide (p.f1 = 0) || (decide (m.tp = 3) && decide (p.f2 = 0))
def symsP (m : MultiD) (p : MP) : KeyM := (p.a, p.f0 - 1, p.f1 - 1, if m.tp = 3 then p.f2 - 1 else 0)
def nxtT (m : MultiD) (p : MP) : MP := withT p ((p.t + 1) % m.tp)
/-- The place behind a marked cell. -/
def seenP (m : MultiD) (p : MP) (v : Int) : MP := withF (nxtT m p) p.t (v - m.sy + 1)
/-- What is done behind the search of a rule. -/
def ruleP (m : MultiD) (t : Int) : Option Nat → ActG MP
  | some i => putP m (i : Int) t 0
  | none => noW
def lkP (m : MultiD) (p : MP) (v : Int) : ActG MP :=
  if m.sy ≤ v ∧ fnd p p.t = 0 then
    (if lacksB m (seenP m p v) = true then ⟨v, 1, seenP m p v, false⟩
     else ruleP m p.t (findM m.rules (symsP m (seenP m p v)) m.rules.length))
  else ⟨v, 1, nxtT m p, false⟩
def mvP (m : MultiD) (p : MP) : Int := (mrAt m p.a).mv.getD p.t.toNat 0
/-- What is done at a place with a symbol. -/
def actW (m : MultiD) (p : MP) (v : Int) : ActG MP :=
  if p.k = 0 then lkP m p v
  else if p.k = 4 then ⟨v, -1, leaveP p.a (p.c - 1), false⟩
  else if p.k = 3 then (if m.sy ≤ v ∧ hasB p.d p.t = false then putP m p.a p.t p.d else ⟨v, -1, ⟨3, p.a, befT m.tp p.t, 0, 0, 0, 0, p.d⟩, false⟩)
  else if p.k = 1 then (if 0 < p.c then ⟨v, mvP m p, ⟨1, p.a, p.t, p.c - 1, 0, 0, 0, p.d⟩, false⟩ else ⟨v % m.sy + m.sy, -(mvP m p), ⟨2, p.a, p.t, m.tp - 1, 0, 0, 0, p.d⟩, false⟩)
  else if 0 < p.c then ⟨v, -(mvP m p), ⟨2, p.a, p.t, p.c - 1, 0, 0, 0, p.d⟩, false⟩
  else ⟨v, -1, aftP m p.a p.t p.d, false⟩
/-- A place that the machine may come to. -/
structure WOk (m : MultiD) (p : MP) : Prop where
  t0 : 0 ≤ p.t
  t1 : p.t < m.tp
  c0 : 0 ≤ p.c
  c1 : p.c ≤ 6
  d0 : 0 ≤ p.d
  d7 : p.d ≤ 7
  f0 : 0 ≤ p.f0 ∧ p.f0 ≤ m.sy
  f1 : 0 ≤ p.f1 ∧ p.f1 ≤ m.sy
  f2 : 0 ≤ p.f2 ∧ p.f2 ≤ m.sy
  kd : (p.k = 0 ∧ 0 ≤ p.a ∧ p.a < m.st ∧ p.c = 0 ∧ p.d = 0 ∧ lacksB m p = true ∧ (m.tp = 2 → p.f2 = 0)) ∨
    ((p.k = 1 ∨ p.k = 2) ∧ 0 ≤ p.a ∧ p.a < m.rules.length ∧ p.f0 = 0 ∧ p.f1 = 0 ∧ p.f2 = 0) ∨
    (p.k = 3 ∧ 0 ≤ p.a ∧ p.a < m.rules.length ∧ p.c = 0 ∧ p.f0 = 0 ∧ p.f1 = 0 ∧ p.f2 = 0) ∨
    (p.k = 4 ∧ 0 ≤ p.a ∧ p.a < m.st ∧ 1 ≤ p.c ∧ p.t = 0 ∧ p.d = 0 ∧ p.f0 = 0 ∧ p.f1 = 0 ∧ p.f2 = 0)
theorem orB_le {d t : Int} (h0 : 0 ≤ d) (h7 : d ≤ 7) : 0 ≤ orB d t ∧ orB d t ≤ 7 := by
  unfold orB
  split
  · split <;> omega
  · split
    · split <;> omega
    · split <;> omega
theorem befT_le {T t : Int} (hT : 2 ≤ T) (h0 : 0 ≤ t) : 0 ≤ befT T t ∧ befT T t < T := by
  unfold befT
  exact ⟨Int.emod_nonneg _ (by omega), Int.emod_lt_of_pos _ (by omega)⟩
theorem lookP_ok {m : MultiD} (hm : multiOk m = true) {q : Int} (q0 : 0 ≤ q) (q1 : q < m.st) : WOk m (lookP q) := by
  obtain ⟨⟨t1, t2⟩, ⟨y1, y2⟩, ⟨s1, s2⟩, _, _⟩ := multi_all hm
  exact ⟨by simp [lookP], by simp [lookP]; omega, by simp [lookP], by simp [lookP], by simp [lookP], by simp [lookP], by simp [lookP]; omega, by simp [lookP]; omega, by simp [lookP]; omega, .inl ⟨rfl, q0, q1, rfl, rfl, by simp [lacksB, lookP], fun _ => rfl⟩⟩
theorem leaveP_ok {m : MultiD} (hm : multiOk m = true) {q k : Int} (q0 : 0 ≤ q) (q1 : q < m.st) (k0 : 0 ≤ k) (k1 : k ≤ 6) : WOk m (leaveP q k) := by
  obtain ⟨⟨t1, t2⟩, ⟨y1, y2⟩, ⟨s1, s2⟩, _, _⟩ := multi_all hm
  unfold leaveP
  by_cases h : k = 0
  · rw [if_pos h]; exact lookP_ok hm q0 q1
  · rw [if_neg h]
    exact ⟨by simp, by simp; omega, k0, k1, by simp, by simp, by simp; omega, by simp; omega, by simp; omega, .inr (.inr (.inr ⟨rfl, q0, q1, by simp; omega, rfl, rfl, rfl, rfl, rfl⟩))⟩
theorem mrAt_ok {m : MultiD} (hm : multiOk m = true) {i : Int} (i0 : 0 ≤ i) (i1 : i < m.rules.length) : ∃ j : Nat, i = j ∧ ∃ h : j < m.rules.length, mrAt m i = m.rules[j] ∧ mruleOk m m.rules[j] = true := by
  obtain ⟨j, rfl⟩ : ∃ j : Nat, i = j := ⟨i.toNat, by omega⟩
  refine ⟨j, rfl, by omega, ?_, multi_rule hm (by omega)⟩
  unfold mrAt
  rw [Int.toNat_natCast, List.getD_eq_getElem?_getD, List.getElem?_eq_getElem (by omega)]
  rfl
theorem aftP_ok {m : MultiD} (hm : multiOk m = true) {i t d : Int} (i0 : 0 ≤ i) (i1 : i < m.rules.length) (t0 : 0 ≤ t) (t1 : t < m.tp) (d0 : 0 ≤ d) (d7 : d ≤ 7) : WOk m (aftP m i t d) := by
  obtain ⟨⟨tp1, tp2⟩, ⟨y1, y2⟩, ⟨s1, s2⟩, _, _⟩ := multi_all hm
  obtain ⟨j, rfl, hj, e, hr⟩ := mrAt_ok hm i0 i1
  have hn := (mrule_all hr).2.1
  unfold aftP
  by_cases h : d = fullB m.tp
  · rw [if_pos h, e]; exact leaveP_ok hm hn.1 (by omega) (by omega) (by omega)
  · rw [if_neg h]
    have hb := befT_le (T := m.tp) (t := t) (by omega) t0
    exact ⟨hb.1, hb.2, by simp, by simp, d0, d7, by simp; omega, by simp; omega, by simp; omega, .inr (.inr (.inl ⟨rfl, i0, i1, rfl, rfl, rfl, rfl⟩))⟩
theorem putP_ok {m : MultiD} (hm : multiOk m = true) {i t d : Int} (i0 : 0 ≤ i) (i1 : i < m.rules.length) (t0 : 0 ≤ t) (t1 : t < m.tp) (d0 : 0 ≤ d) (d7 : d ≤ 7) : WOk m (putP m i t d).p := by
  obtain ⟨⟨tp1, tp2⟩, ⟨y1, y2⟩, ⟨s1, s2⟩, _, _⟩ := multi_all hm
  have ho := orB_le (t := t) d0 d7
  unfold putP
  split
  · exact aftP_ok hm i0 i1 t0 t1 ho.1 ho.2
  · exact ⟨t0, t1, by simp; omega, by simp; omega, ho.1, ho.2, by simp; omega, by simp; omega, by simp; omega, .inr (.inl ⟨.inl rfl, i0, i1, rfl, rfl, rfl⟩)⟩
theorem nxtT_le {m : MultiD} (hm : multiOk m = true) (t : Int) : 0 ≤ (t + 1) % m.tp ∧ (t + 1) % m.tp < m.tp := by
  obtain ⟨⟨tp1, tp2⟩, _⟩ := multi_all hm
  exact ⟨Int.emod_nonneg _ (by omega), Int.emod_lt_of_pos _ (by omega)⟩
theorem actW_ok {m : MultiD} (hm : multiOk m = true) {p : MP} {v : Int} (hp : WOk m p) (v0 : 0 ≤ v) (v1 : v < 2 * m.sy) (hn : (actW m p v).no = false) : WOk m (actW m p v).p := by
  obtain ⟨⟨tp1, tp2⟩, ⟨y1, y2⟩, ⟨s1, s2⟩, _, _⟩ := multi_all hm
  have hnt := nxtT_le hm p.t
  obtain ⟨t0, t1, c0, c1, d0, d7, f0, f1, f2, kd⟩ := hp
  rcases kd with ⟨k, a0, a1, c, d, hl, hf⟩ | ⟨k, a0, a1, g0, g1, g2⟩ | ⟨k, a0, a1, c, g0, g1, g2⟩ | ⟨k, a0, a1, c, t, d, g0, g1, g2⟩
  · have e : actW m p v = lkP m p v := by unfold actW; rw [if_pos k]
    rw [e] at hn ⊢
    unfold lkP at hn ⊢
    by_cases hc : m.sy ≤ v ∧ fnd p p.t = 0
    · rw [if_pos hc] at hn ⊢
      by_cases hk : lacksB m (seenP m p v) = true
      · rw [if_pos hk]
        refine ⟨hnt.1, hnt.2, c0, c1, d0, d7, ?_, ?_, ?_, .inl ⟨k, a0, a1, c, d, hk, fun h2 => ?_⟩⟩
        · show 0 ≤ (if p.t = 0 then v - m.sy + 1 else p.f0) ∧ (if p.t = 0 then v - m.sy + 1 else p.f0) ≤ m.sy
          split <;> omega
        · show 0 ≤ (if p.t = 1 then v - m.sy + 1 else p.f1) ∧ (if p.t = 1 then v - m.sy + 1 else p.f1) ≤ m.sy
          split <;> omega
        · show 0 ≤ (if p.t = 2 then v - m.sy + 1 else p.f2) ∧ (if p.t = 2 then v - m.sy + 1 else p.f2) ≤ m.sy
          split <;> omega
        · show (if p.t = 2 then v - m.sy + 1 else p.f2) = 0
          rw [if_neg (by omega)]
          exact hf h2
      · rw [if_neg hk] at hn ⊢
        cases hr : findM m.rules (symsP m (seenP m p v)) m.rules.length with
        | none => rw [hr] at hn; simp [ruleP, noW] at hn
        | some i =>
          have hi := findM_lt hr
          exact putP_ok hm (by omega) (by omega) t0 t1 (by omega) (by omega)
    · rw [if_neg hc]
      exact ⟨hnt.1, hnt.2, c0, c1, d0, d7, f0, f1, f2, .inl ⟨k, a0, a1, c, d, hl, hf⟩⟩
  · have hmv : ∀ {x : Int × Int × MP}, True := fun {_} => trivial
    rcases k with k | k
    · have e : actW m p v = if 0 < p.c then ⟨v, mvP m p, ⟨1, p.a, p.t, p.c - 1, 0, 0, 0, p.d⟩, false⟩ else ⟨v % m.sy + m.sy, -(mvP m p), ⟨2, p.a, p.t, m.tp - 1, 0, 0, 0, p.d⟩, false⟩ := by
        unfold actW; rw [if_neg (by omega), if_neg (by omega), if_neg (by omega), if_pos k]
      rw [e]
      split
      · exact ⟨t0, t1, by simp; omega, by simp; omega, d0, d7, by simp; omega, by simp; omega, by simp; omega, .inr (.inl ⟨.inl rfl, a0, a1, rfl, rfl, rfl⟩)⟩
      · exact ⟨t0, t1, by simp; omega, by simp; omega, d0, d7, by simp; omega, by simp; omega, by simp; omega, .inr (.inl ⟨.inr rfl, a0, a1, rfl, rfl, rfl⟩)⟩
    · have e : actW m p v = if 0 < p.c then ⟨v, -(mvP m p), ⟨2, p.a, p.t, p.c - 1, 0, 0, 0, p.d⟩, false⟩ else ⟨v, -1, aftP m p.a p.t p.d, false⟩ := by
        unfold actW; rw [if_neg (by omega), if_neg (by omega), if_neg (by omega), if_neg (by omega)]
      rw [e]
      split
      · exact ⟨t0, t1, by simp; omega, by simp; omega, d0, d7, by simp; omega, by simp; omega, by simp; omega, .inr (.inl ⟨.inr rfl, a0, a1, rfl, rfl, rfl⟩)⟩
      · exact aftP_ok hm a0 a1 t0 t1 d0 d7
  · have e : actW m p v = if m.sy ≤ v ∧ hasB p.d p.t = false then putP m p.a p.t p.d else ⟨v, -1, ⟨3, p.a, befT m.tp p.t, 0, 0, 0, 0, p.d⟩, false⟩ := by
      unfold actW; rw [if_neg (by omega), if_neg (by omega), if_pos k]
    rw [e]
    split
    · exact putP_ok hm a0 a1 t0 t1 d0 d7
    · have hb := befT_le (T := m.tp) (t := p.t) (by omega) t0
      exact ⟨hb.1, hb.2, by simp, by simp, d0, d7, by simp; omega, by simp; omega, by simp; omega, .inr (.inr (.inl ⟨rfl, a0, a1, rfl, rfl, rfl, rfl⟩))⟩
  · have e : actW m p v = ⟨v, -1, leaveP p.a (p.c - 1), false⟩ := by
      unfold actW; rw [if_neg (by omega), if_pos k]
    rw [e]
    exact leaveP_ok hm a0 a1 (by omega) (by omega)
/-- The reference's name of a place. -/
def encM (m : MultiD) (p : MP) : List Int :=
  if p.k = 0 then [0, p.a, p.t, p.f0 - 1, p.f1 - 1] ++ (if m.tp = 3 then [p.f2 - 1] else [])
  else if p.k = 4 then [4, p.a, p.c]
  else if p.k = 3 then [3, p.a, p.t, p.d]
  else [p.k, p.a, p.t, p.d, p.c]
theorem encM_head {m : MultiD} {p : MP} (hp : WOk m p) : (encM m p).head? = some p.k := by
  rcases hp.kd with ⟨k, _⟩ | ⟨k | k, _⟩ | ⟨k, _⟩ | ⟨k, _⟩ <;> simp [encM, k]
theorem encM_inj {m : MultiD} (hm : multiOk m = true) {x y : MP} (hx : WOk m x) (hy : WOk m y) (h : encM m x = encM m y) : x = y := by
  obtain ⟨⟨tp1, tp2⟩, _⟩ := multi_all hm
  have hk : x.k = y.k := by
    have a := encM_head hx
    rw [h, encM_head hy] at a
    injection a with a
    exact a.symm
  have kx := hx.kd
  have ky := hy.kd
  obtain ⟨k, a, t, c, f0, f1, f2, d⟩ := x
  obtain ⟨k', a', t', c', f0', f1', f2', d'⟩ := y
  simp only at hk kx ky
  subst hk
  rcases kx with ⟨rfl, _, _, rfl, rfl, _, hf⟩ | ⟨rfl | rfl, _, _, rfl, rfl, rfl⟩ | ⟨rfl, _, _, rfl, rfl, rfl, rfl⟩ | ⟨rfl, _, _, _, rfl, rfl, rfl, rfl, rfl⟩
  · rcases ky with ⟨_, _, _, rfl, rfl, _, hf'⟩ | ⟨e | e, _⟩ | ⟨e, _⟩ | ⟨e, _⟩
    · by_cases h3 : m.tp = 3
      · simp [encM, h3] at h
        obtain ⟨rfl, rfl, h1, h2, h4⟩ := h
        have : f0 = f0' := by omega
        have : f1 = f1' := by omega
        have : f2 = f2' := by omega
        simp [*]
      · simp [encM, h3] at h
        obtain ⟨rfl, rfl, h1, h2⟩ := h
        have : f0 = f0' := by omega
        have : f1 = f1' := by omega
        have e2 := hf (by omega)
        have e3 := hf' (by omega)
        simp [*]
    · omega
    · omega
    · omega
    · omega
  · rcases ky with ⟨e, _⟩ | ⟨_, _, _, rfl, rfl, rfl⟩ | ⟨e, _⟩ | ⟨e, _⟩
    · omega
    · simp [encM] at h
      simp [h]
    · omega
    · omega
  · rcases ky with ⟨e, _⟩ | ⟨_, _, _, rfl, rfl, rfl⟩ | ⟨e, _⟩ | ⟨e, _⟩
    · omega
    · simp [encM] at h
      simp [h]
    · omega
    · omega
  · rcases ky with ⟨e, _⟩ | ⟨e | e, _⟩ | ⟨_, _, _, rfl, rfl, rfl, rfl⟩ | ⟨e, _⟩
    · omega
    · omega
    · omega
    · simp [encM] at h
      simp [h]
    · omega
  · rcases ky with ⟨e, _⟩ | ⟨e | e, _⟩ | ⟨e, _⟩ | ⟨_, _, _, _, rfl, rfl, rfl, rfl, rfl⟩
    · omega
    · omega
    · omega
    · omega
    · simp [encM] at h
      simp [h]
def smallM (z : Int) : Prop := -1000000 ≤ z ∧ z ≤ 1000000
theorem WOk.small {m : MultiD} (hm : multiOk m = true) {p : MP} (hp : WOk m p) : smallM p.k ∧ smallM p.a ∧ smallM p.t ∧ smallM p.c ∧ smallM p.f0 ∧ smallM p.f1 ∧ smallM p.f2 ∧ smallM p.d := by
  obtain ⟨⟨tp1, tp2⟩, ⟨y1, y2⟩, ⟨s1, s2⟩, hl, _⟩ := multi_all hm
  obtain ⟨t0, t1, c0, c1, d0, d7, f0, f1, f2, kd⟩ := hp
  unfold smallM
  rcases kd with ⟨k, a0, a1, _⟩ | ⟨k | k, a0, a1, _⟩ | ⟨k, a0, a1, _⟩ | ⟨k, a0, a1, _⟩ <;> omega
end Go.Proofs.YtfghojbbofobeaaGreatDoor
end
section
set_option linter.unusedSimpArgs false
set_option linter.unusedVariables false
namespace Go.Proofs.YtfghojbbofobeaaGreatDoor
open Go Go.RowKit Go.Proofs
/-- The indices below n of one tape's cells. -/
def ixT (T f n : Nat) : List Nat := (List.range n).filter fun i => decide (i % T = f)
theorem ixT_zero (T f : Nat) : ixT T f 0 = [] := rfl
theorem ixT_hit {T f n : Nat} (h : n % T = f) : ixT T f (n + 1) = ixT T f n ++ [n] := by
  unfold ixT
  rw [List.range_succ, List.filter_append]
  simp [h]
theorem ixT_miss {T f n : Nat} (h : n % T ≠ f) : ixT T f (n + 1) = ixT T f n := by
  unfold ixT
  rw [List.range_succ, List.filter_append]
  simp [h]
theorem ixT_first {T f n : Nat} (hT : T = 2 ∨ T = 3) (h : n ≤ f) (hf : f < T) : ixT T f n = [] := by
  induction n with
  | zero => rfl
  | succ n ih =>
    rw [ixT_miss (by rcases hT with rfl | rfl <;> omega), ih (by omega)]
theorem ixT_step {T f k : Nat} (hT : T = 2 ∨ T = 3) (hk : k % T = f) : ∀ j, j < T → ixT T f (k + 1 + j) = ixT T f k ++ [k]
  | 0, _ => ixT_hit hk
  | j + 1, hj => by
    rw [← Nat.add_assoc, ixT_miss (by rcases hT with rfl | rfl <;> omega)]
    exact ixT_step hT hk j (by omega)
theorem ixT_next {T f k n : Nat} (hT : T = 2 ∨ T = 3) (hk : k % T = f) (h1 : k < n) (h2 : n ≤ k + T) : ixT T f n = ixT T f k ++ [k] := by
  have := ixT_step hT hk (n - k - 1) (by omega)
  rwa [show k + 1 + (n - k - 1) = n by omega] at this
/-- The cells of one tape. -/
def lineT (T f : Nat) (xs : List Int) (n : Nat) : List Int := (ixT T f n).map fun i => xs.getD i 0
def markB (sy v : Int) : Bool := decide (sy ≤ v)
/-- The tape of a line, in which one cell is marked. -/
def tapeDec (sy : Int) (line : List Int) : Option TapeD :=
  match line.findIdx? (markB sy) with
  | none => none
  | some h => if (line.drop (h + 1)).any (markB sy) then none else some ⟨trim (line.take h).reverse, trim ((line.getD h 0 - sy) :: line.drop (h + 1))⟩
def cellsC (c : ConfD) : List Int := c.l.reverse ++ c.r
def frstC (T t0 j : Int) (head : Nat) : Nat := ((j - t0 + head) % T).toNat
def lineC (m : MultiD) (c : ConfD) (t0 j : Int) : List Int := lineT m.tp.toNat (frstC m.tp t0 j c.l.length) (cellsC c) (cellsC c).length
def decTapes (m : MultiD) (c : ConfD) (t0 : Int) : Nat → Option (List TapeD)
  | 0 => some []
  | j + 1 => match decTapes m c t0 j, tapeDec m.sy (lineC m c t0 (j : Int)) with
    | some l, some t => some (l ++ [t])
    | _, _ => none
theorem frstC_lt {T t0 j : Int} (hT : 2 ≤ T) (head : Nat) : frstC T t0 j head < T.toNat := by
  unfold frstC
  have h1 := Int.emod_nonneg (j - t0 + head) (show T ≠ 0 by omega)
  have h2 := Int.emod_lt_of_pos (j - t0 + head) (show 0 < T by omega)
  omega
end Go.Proofs.YtfghojbbofobeaaGreatDoor
end
section
set_option linter.unusedVariables false
set_option linter.unusedSimpArgs false
namespace Go.Proofs.YtfghojbbofobeaaGreatDoor
open Go Go.RowKit Go.Proofs
set_option maxHeartbeats 400000
theorem compareMultiRules_c (u v : Value) (a b : MRuleD) (w : World) (ha : MRul w u a) (hb : MRul w v b) :
    Calls Tryz.prog 60 #[u, v] w fun e w' => e = .returned (.int .i64 (cmpM a b)) ∧ Ext w w' := by
  obtain ⟨ar, aw, am, rfl, ha1, _, _⟩ := ha
  obtain ⟨br, bw, bm, rfl, hb1, _, _⟩ := hb
  obtain ⟨A1, k1, rfl, _, _⟩ := ha1.form
  obtain ⟨B1, j1, rfl, _, _⟩ := hb1.form
  obtain ⟨W, hW⟩ : ∃ W, W = (w.alloc (.cells #[.int .i64 a.st, .slice A1 a.rd.length k1, aw, am, .int .i64 a.nx] 101)).alloc (.cells #[.int .i64 b.st, .slice B1 b.rd.length j1, bw, bm, .int .i64 b.nx] 101) := ⟨_, rfl⟩
  have hX : Ext w W := by rw [hW]; exact (Ext.alloc _ _).trans (Ext.alloc _ _)
  have hC := slicesCompare_c W _ _ a.rd b.rd (ha1.ext hX) (hb1.ext hX)
  obtain ⟨k, hk⟩ : ∃ k, cmpM a b = k := ⟨_, rfl⟩
  rw [hk]
  have HK := Lib.hid hk
  clear hk
  by_cases he : a.st = b.st
  · have H : (a.st != b.st) = false := by simp [he]
    have HE : Hid (k = cmpL a.rd b.rd) := by unfold Hid; rw [← HK.out, cmpM, if_pos he]
    clear he
    go_enter Tryz.func60, Tryz.ntmps60
    go_wp2_with fail
    try rw [← hW]
    clear hW
    refine hC.mono ?_
    rintro e w' ⟨rfl, rfl⟩
    go_wp2
    go_ret
    exact ⟨by rw [HE.out]; rfl, hX⟩
  · have H : (a.st != b.st) = true := by simp [he]
    by_cases hl : a.st < b.st
    · have HE : Hid (k = -1) := by unfold Hid; rw [← HK.out, cmpM, if_neg he, if_pos hl]
      clear he
      go_enter Tryz.func60, Tryz.ntmps60
      go_wp2
      go_ret
      exact ⟨by rw [HE.out]; rfl, (Ext.alloc _ _).trans (Ext.alloc _ _)⟩
    · have HE : Hid (k = 1) := by unfold Hid; rw [← HK.out, cmpM, if_neg he, if_neg hl]
      clear he
      go_enter Tryz.func60, Tryz.ntmps60
      go_wp2
      go_ret
      exact ⟨by rw [HE.out]; rfl, (Ext.alloc _ _).trans (Ext.alloc _ _)⟩
set_option maxRecDepth 20000 in
set_option maxHeartbeats 4000000 in
theorem validMultiRule_c (rv v : Value) (m : MultiD) (a : MRuleD) (w : World) (ha : MRul w v a) (t1 : 2 ≤ m.tp) (t2 : m.tp ≤ 3) (s1 : 2 ≤ m.sy) (s2 : m.sy ≤ 3) (q1 : 1 ≤ m.st) (q2 : m.st ≤ 16) :
    Calls Tryz.prog 59 #[.agg #[.int .i64 m.tp, .int .i64 m.sy, .int .i64 m.st, rv], v] w fun e w' => e = .returned (.bool (mruleOk m a)) ∧ Ext w w' := by
  obtain ⟨ar, aw, am, rfl, h1, h2, h3⟩ := ha
  obtain ⟨A1, k1, rfl, _, _⟩ := h1.form
  obtain ⟨A2, k2, rfl, _, _⟩ := h2.form
  obtain ⟨A3, k3, rfl, _, _⟩ := h3.form
  obtain ⟨W, hW⟩ : ∃ W, W = (w.alloc (.cells #[.int .i64 m.tp, .int .i64 m.sy, .int .i64 m.st, rv] 33)).alloc (.cells #[.int .i64 a.st, .slice A1 a.rd.length k1, .slice A2 a.wr.length k2, .slice A3 a.mv.length k3, .int .i64 a.nx] 101) := ⟨_, rfl⟩
  have hX : Ext w W := by rw [hW]; exact (Ext.alloc _ _).trans (Ext.alloc _ _)
  have bM : Blk W w.heap.size 33 #[.int .i64 m.tp, .int .i64 m.sy, .int .i64 m.st, rv] := by rw [hW]; exact (Blk.new _ _ _ _ rfl).alloc _
  have bR : Blk W (w.heap.size + 1) 101 #[.int .i64 a.st, .slice A1 a.rd.length k1, .slice A2 a.wr.length k2, .slice A3 a.mv.length k3, .int .i64 a.nx] := by rw [hW]; exact Blk.new _ _ _ _ (by simp)
  have m0 := bM.cell 0
  have m1 := bM.cell 1
  have m2 := bM.cell 2
  have r0 := bR.cell 0
  have r1 := bR.cell 1
  have r2 := bR.cell 2
  have r3 := bR.cell 3
  have r4 := bR.cell 4
  simp only [List.getElem?_toArray, List.getElem?_cons_zero, List.getElem?_cons_succ] at m0 m1 m2 r0 r1 r2 r3 r4
  have hw1 : IntKind.i64.wrap (m.st - 1) = m.st - 1 := IntWalk.i64_in _ (by omega)
  have hw2 : IntKind.i64.wrap (m.sy - 1) = m.sy - 1 := IntWalk.i64_in _ (by omega)
  have W1 := fun w => within_c a.st 0 (m.st - 1) w
  have W2 := fun w => within_c a.nx 0 (m.st - 1) w
  have hr1 := h1.ext hX
  have hr2 := h2.ext hX
  have hr3 := h3.ext hX
  have A1' := fun w (h : Ext W w) => allWithin_c _ a.rd 0 (m.sy - 1) w (hr1.ext h)
  have A2' := fun w (h : Ext W w) => allWithin_c _ a.wr 0 (m.sy - 1) w (hr2.ext h)
  have A3' := fun w (h : Ext W w) => allWithin_c _ a.mv (-1) 1 w (hr3.ext h)
  obtain ⟨b1, hb1⟩ : ∃ b, inB a.st 0 (m.st - 1) = b := ⟨_, rfl⟩
  obtain ⟨b2, hb2⟩ : ∃ b, inB a.nx 0 (m.st - 1) = b := ⟨_, rfl⟩
  obtain ⟨d1, hd1⟩ : ∃ b, decide ((a.rd.length : Int) = m.tp) = b := ⟨_, rfl⟩
  obtain ⟨d2, hd2⟩ : ∃ b, decide ((a.wr.length : Int) = m.tp) = b := ⟨_, rfl⟩
  obtain ⟨d3, hd3⟩ : ∃ b, decide ((a.mv.length : Int) = m.tp) = b := ⟨_, rfl⟩
  obtain ⟨f1, hf1⟩ : ∃ b, (a.rd.all fun z => inB z 0 (m.sy - 1)) = b := ⟨_, rfl⟩
  obtain ⟨f2, hf2⟩ : ∃ b, (a.wr.all fun z => inB z 0 (m.sy - 1)) = b := ⟨_, rfl⟩
  obtain ⟨f3, hf3⟩ : ∃ b, (a.mv.all fun z => inB z (-1) 1) = b := ⟨_, rfl⟩
  have HK : Hid (mruleOk m a = (b1 && b2 && d1 && d2 && d3 && f1 && f2 && f3)) := by
    unfold Hid mruleOk allIn
    rw [hb1, hb2, hd1, hd2, hd3, hf1, hf2, hf3]
  have n1 : ((a.rd.length : Int) != m.tp) = !d1 := by rw [← hd1]; rw [bne, Bool.beq_eq_decide_eq]
  have n2 : ((a.wr.length : Int) != m.tp) = !d2 := by rw [← hd2]; rw [bne, Bool.beq_eq_decide_eq]
  have n3 : ((a.mv.length : Int) != m.tp) = !d3 := by rw [← hd3]; rw [bne, Bool.beq_eq_decide_eq]
  rw [hb1] at W1
  rw [hb2] at W2
  rw [hf1] at A1'
  rw [hf2] at A2'
  rw [hf3] at A3'
  rw [HK.out]
  clear hb1 hb2 hd1 hd2 hd3 hf1 hf2 hf3 HK h1 h2 h3
  go_enter Tryz.func59, Tryz.ntmps59
  go_wp2_with fail
  try rw [← hW]
  clear hW
  refine (W1 W).mono ?_
  rintro e w' ⟨rfl, rfl⟩
  cases b1 with
  | false =>
    go_wp2
    go_ret
    exact ⟨by simp, hX⟩
  | true =>
    go_wp2_with fail
    refine (W2 W).mono ?_
    rintro e w' ⟨rfl, rfl⟩
    cases b2 with
    | false =>
      go_wp2
      go_ret
      exact ⟨by simp, hX⟩
    | true =>
      have e0 := cellR m0
      have e1 := cellR r1
      have e2 := cellR r2
      have e3 := cellR r3
      clear W1 W2
      cases d1 with
      | false =>
        simp only [Bool.not_false] at n1
        go_wp2_with fail
        refine wp_region_ext (by kernel_rfl) (by kernel_rfl) ?_
        repeat (go_big_quiet_step ((go_at_call 95; first | exact Calls.sameR (sizeInt_c _ _ _ (hr1.ext (below_regrown _ _ _))) | exact Calls.sameR (sizeInt_c _ _ _ (hr2.ext (below_regrown _ _ _))) | exact Calls.sameR (sizeInt_c _ _ _ (hr3.ext (below_regrown _ _ _))))))
        refine wpQuiet_nil ?_
        intro w2 hx2
        go_wp2
        go_ret
        exact ⟨by simp, hX.trans hx2⟩
      | true =>
        simp only [Bool.not_true] at n1
        cases d2 with
        | false =>
          simp only [Bool.not_false] at n2
          go_wp2_with fail
          refine wp_region_ext (by kernel_rfl) (by kernel_rfl) ?_
          repeat (go_big_quiet_step ((go_at_call 95; first | exact Calls.sameR (sizeInt_c _ _ _ (hr1.ext (below_regrown _ _ _))) | exact Calls.sameR (sizeInt_c _ _ _ (hr2.ext (below_regrown _ _ _))) | exact Calls.sameR (sizeInt_c _ _ _ (hr3.ext (below_regrown _ _ _))))))
          refine wpQuiet_nil ?_
          intro w2 hx2
          go_wp2
          go_ret
          exact ⟨by simp, hX.trans hx2⟩
        | true =>
          simp only [Bool.not_true] at n2
          cases d3 with
          | false =>
            simp only [Bool.not_false] at n3
            go_wp2_with fail
            refine wp_region_ext (by kernel_rfl) (by kernel_rfl) ?_
            repeat (go_big_quiet_step ((go_at_call 95; first | exact Calls.sameR (sizeInt_c _ _ _ (hr1.ext (below_regrown _ _ _))) | exact Calls.sameR (sizeInt_c _ _ _ (hr2.ext (below_regrown _ _ _))) | exact Calls.sameR (sizeInt_c _ _ _ (hr3.ext (below_regrown _ _ _))))))
            refine wpQuiet_nil ?_
            intro w2 hx2
            go_wp2
            go_ret
            exact ⟨by simp, hX.trans hx2⟩
          | true =>
            simp only [Bool.not_true] at n3
            go_wp2_with fail
            refine wp_region_ext (by kernel_rfl) (by kernel_rfl) ?_
            repeat (go_big_quiet_step ((go_at_call 95; first | exact Calls.sameR (sizeInt_c _ _ _ (hr1.ext (below_regrown _ _ _))) | exact Calls.sameR (sizeInt_c _ _ _ (hr2.ext (below_regrown _ _ _))) | exact Calls.sameR (sizeInt_c _ _ _ (hr3.ext (below_regrown _ _ _))))))
            refine wpQuiet_nil ?_
            intro w2 hx2
            have c0 := hx2.cell r1
            have c1 := hx2.cell r2
            have c2 := hx2.cell r3
            have c3 := hx2.cell m1
            have D1 := A1' w2 hx2
            have D2 := A2' w2 hx2
            have D3 := A3' w2 hx2
            clear A1' A2' A3' e0 e1 e2 e3 r0 r1 r2 r3 r4 m0 m1 m2
            cases f1 with
            | false =>
              go_wp2_with fail
              refine D1.mono ?_
              rintro e w' ⟨rfl, rfl⟩
              go_wp2
              go_ret
              exact ⟨by simp, hX.trans hx2⟩
            | true =>
              cases f2 with
              | false =>
                go_wp2_with fail
                refine D1.mono ?_
                rintro e w' ⟨rfl, rfl⟩
                go_wp2_with fail
                refine D2.mono ?_
                rintro e w' ⟨rfl, rfl⟩
                go_wp2
                go_ret
                exact ⟨by simp, hX.trans hx2⟩
              | true =>
                go_wp2_with fail
                refine D1.mono ?_
                rintro e w' ⟨rfl, rfl⟩
                go_wp2_with fail
                refine D2.mono ?_
                rintro e w' ⟨rfl, rfl⟩
                go_wp2_with fail
                refine D3.mono ?_
                rintro e w' ⟨rfl, rfl⟩
                go_wp2
                go_ret
                exact ⟨by simp, hX.trans hx2⟩
end Go.Proofs.YtfghojbbofobeaaGreatDoor
end
