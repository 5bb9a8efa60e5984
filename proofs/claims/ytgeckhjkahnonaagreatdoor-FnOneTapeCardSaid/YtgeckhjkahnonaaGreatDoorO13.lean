/- What a store into one block leaves of other blocks and rows. No condition.
Words for machines with several tapes in memory: rules, sides of tapes, configurations. No condition.
What the machine with one tape for several does in its places, in plain words. No program stands here. -/
import Derived.Test.YtgeckhjkahnonaaGreatDoorO01
import Derived.Test.YtgeckhjkahnonaaGreatDoorO12
import Derived.Test.YtgeckhjkahnonaaGreatDoorO02
import Derived.Test.YtgeckhjkahnonaaGreatDoorO10
section
namespace Go.Proofs.YtgeckhjkahnonaaGreatDoor
open Go Go.RowKit Go.Proofs
theorem Blk.kept {w w' : World} {g : Nat} {t : TypeId} {cs : Array Value} {row : Option Nat} (h : Blk w g t cs) (hg : w.grownBy w' row) (hne : some g ≠ row) : Blk w' g t cs := (hg.block g h.lt hne).trans h
theorem blk_ne_row {w : World} {g : Nat} {t : TypeId} {cs : Array Value} (hb : Blk w g t cs) {base : Nat} {e : TypeId} {size : Nat} {v : Value} {n : Nat} {xs : List Value} (ho : w.ownsRow base e size v n xs) (hne : t ≠ e) : some g ≠ v.ownBlock := by
  rcases ho.2 with ⟨rfl, _⟩ | ⟨g', cap, cur, rfl, _, hh, _⟩
  · simp [Value.ownBlock]
  · intro he
    have : g = g' := by simpa [Value.ownBlock] using he
    subst this
    unfold Blk at hb
    rw [hb] at hh
    injection hh with hh
    injection hh with _ ht
    exact hne ht
theorem own_kept {w w' : World} {base : Nat} {e : TypeId} {size : Nat} {v : Value} {n : Nat} {xs : List Value} {g : Nat} (h : w.ownsRow base e size v n xs) (hg : w.grownBy w' (some g)) (hne : some g ≠ v.ownBlock) : w'.ownsRow base e size v n xs := h.kept hg (.inr (Ne.symm hne))
theorem grownBy_setCell (w : World) (p : Addr) (u : Value) : w.grownBy (w.setCell p u) (some p.block) :=
  ⟨rfl, rfl, rfl, by simp [World.setCell], fun k _ hk => Below.heap_setCell w p u k (fun e => hk (by rw [e]))⟩
theorem blk_type {w : World} {g : Nat} {t t' : TypeId} {cs cs' : Array Value} (h : Blk w g t cs) (h' : Blk w g t' cs') : t = t' := by
  unfold Blk at h h'
  rw [h] at h'
  injection h' with h'
  injection h' with _ e
theorem blk_ne {w : World} {g g' : Nat} {t t' : TypeId} {cs cs' : Array Value} (h : Blk w g t cs) (h' : Blk w g' t' cs') (ht : t ≠ t') : g ≠ g' := by
  rintro rfl
  exact ht (blk_type h h')
end Go.Proofs.YtgeckhjkahnonaaGreatDoor
end
section
set_option linter.unusedVariables false
set_option linter.unusedSimpArgs false
namespace Go.Proofs.YtgeckhjkahnonaaGreatDoor
open Go Go.RowKit Go.Proofs
/-- Rules of a machine with several tapes. -/
def MRules (w : World) (v : Value) (rs : List MRuleD) : Prop :=
  ∃ A c, v = .slice A rs.length c ∧ rs.length ≤ c ∧ c ≤ 9223372036854775807 ∧ (0 < rs.length → ∃ b off, A = some ⟨b, off, none⟩ ∧ ∀ i, (h : i < rs.length) → ∃ vr vw vm,
    w.cell? ⟨b, off + i * 5, none⟩ = some (.int .i64 rs[i].st) ∧ w.cell? ⟨b, off + i * 5 + 1, none⟩ = some vr ∧ w.cell? ⟨b, off + i * 5 + 2, none⟩ = some vw ∧ w.cell? ⟨b, off + i * 5 + 3, none⟩ = some vm ∧ w.cell? ⟨b, off + i * 5 + 4, none⟩ = some (.int .i64 rs[i].nx) ∧
    Ints w vr rs[i].rd ∧ Ints w vw rs[i].wr ∧ Ints w vm rs[i].mv)
theorem MRules.ext {w w' : World} {v : Value} {rs : List MRuleD} (h : MRules w v rs) (he : Ext w w') : MRules w' v rs := by
  obtain ⟨A, c, rfl, h1, h2, h3⟩ := h
  refine ⟨A, c, rfl, h1, h2, fun hn => ?_⟩
  obtain ⟨b, off, e, hc⟩ := h3 hn
  refine ⟨b, off, e, fun i hi => ?_⟩
  obtain ⟨vr, vw, vm, c0, c1, c2, c3, c4, i1, i2, i3⟩ := hc i hi
  exact ⟨vr, vw, vm, he.cell c0, he.cell c1, he.cell c2, he.cell c3, he.cell c4, i1.ext he, i2.ext he, i3.ext he⟩
theorem MRules.form {w : World} {v : Value} {rs : List MRuleD} (h : MRules w v rs) : ∃ A c, v = .slice A rs.length c ∧ rs.length ≤ c ∧ c ≤ 9223372036854775807 := by
  obtain ⟨A, c, e, h1, h2, _⟩ := h
  exact ⟨A, c, e, h1, h2⟩
theorem MRules.at {w : World} {A : Option Addr} {c : Nat} {rs : List MRuleD} (h : MRules w (.slice A rs.length c) rs) {i : Nat} (hi : i < rs.length) : ∃ b off vr vw vm, A = some ⟨b, off, none⟩ ∧
    w.cell? ⟨b, off + i * 5, none⟩ = some (.int .i64 rs[i].st) ∧ w.cell? ⟨b, off + i * 5 + 1, none⟩ = some vr ∧ w.cell? ⟨b, off + i * 5 + 2, none⟩ = some vw ∧ w.cell? ⟨b, off + i * 5 + 3, none⟩ = some vm ∧ w.cell? ⟨b, off + i * 5 + 4, none⟩ = some (.int .i64 rs[i].nx) ∧
    Ints w vr rs[i].rd ∧ Ints w vw rs[i].wr ∧ Ints w vm rs[i].mv := by
  obtain ⟨A', c', e, _, _, h3⟩ := h
  injection e with e1 _ _
  subst e1
  obtain ⟨b, off, e, hc⟩ := h3 (by omega)
  obtain ⟨vr, vw, vm, hh⟩ := hc i hi
  exact ⟨b, off, vr, vw, vm, e, hh⟩
/-- A machine with several tapes as a value. -/
def Mult (w : World) (v : Value) (m : MultiD) : Prop := ∃ rv, v = .agg #[.int .i64 m.tp, .int .i64 m.sy, .int .i64 m.st, rv] ∧ MRules w rv m.rules
theorem Mult.ext {w w' : World} {v : Value} {m : MultiD} (h : Mult w v m) (he : Ext w w') : Mult w' v m := by
  obtain ⟨rv, e, hr⟩ := h
  exact ⟨rv, e, hr.ext he⟩
/-- A rule as a value. -/
def MRul (w : World) (v : Value) (r : MRuleD) : Prop := ∃ vr vw vm, v = .agg #[.int .i64 r.st, vr, vw, vm, .int .i64 r.nx] ∧ Ints w vr r.rd ∧ Ints w vw r.wr ∧ Ints w vm r.mv
theorem MRul.ext {w w' : World} {v : Value} {r : MRuleD} (h : MRul w v r) (he : Ext w w') : MRul w' v r := by
  obtain ⟨vr, vw, vm, e, h1, h2, h3⟩ := h
  exact ⟨vr, vw, vm, e, h1.ext he, h2.ext he, h3.ext he⟩
/-- The block of a slice that is not empty. -/
def _root_.Go.Value.ownS (v : Value) : Option Nat := match v with | .slice (some a) (_ + 1) _ => some a.block | _ => none
theorem ownS_some {a : Addr} {n c g : Nat} (h : (Value.slice (some a) n c).ownS = some g) : a.block = g ∧ 0 < n := by
  cases n with
  | zero => simp [Value.ownS] at h
  | succ n => exact ⟨by simpa [Value.ownS] using h, by omega⟩
theorem ownS_pos {a : Addr} {n c : Nat} (h : 0 < n) : (Value.slice (some a) n c).ownS = some a.block := by
  cases n with
  | zero => omega
  | succ n => rfl
theorem ownS_zero {A : Option Addr} {c : Nat} : (Value.slice A 0 c).ownS = none := by cases A <;> rfl
theorem ownS_less {A : Option Addr} {n k c c' g : Nat} (hk : k ≤ n) (h : (Value.slice A k c).ownS = some g) : (Value.slice A n c').ownS = some g := by
  cases A with
  | none => simp [Value.ownS] at h
  | some a =>
    obtain ⟨e, h0⟩ := ownS_some h
    rw [ownS_pos (by omega), e]
/-- A side of a tape: a list in a block of its own, from whatever place of it on; an empty one may lie anywhere. -/
def Side (base : Nat) (w : World) (v : Value) (xs : List Int) : Prop :=
  (xs = [] ∧ (v = .slice none 0 0 ∨ ∃ b off c, v = .slice (some ⟨b, off, none⟩) 0 c ∧ c ≤ 9223372036854775807)) ∨ ∃ g off c cs, v = .slice (some ⟨g, off, none⟩) xs.length c ∧ xs.length ≤ c ∧ c ≤ 9223372036854775807 ∧ base ≤ g ∧ Blk w g 2 cs ∧ ∀ j, (h : j < xs.length) → cs[off + j]? = some (.int .i64 xs[j])
section
variable {base : Nat} {w w' : World} {v : Value} {xs : List Int}
theorem Side.ints (h : Side base w v xs) : Ints w v xs := by
  rcases h with ⟨rfl, rfl | ⟨b, off, c, rfl, hc⟩⟩ | ⟨g, off, c, cs, rfl, h1, h2, hb, hg, hc⟩
  · exact ⟨none, 0, rfl, by simp, by omega, rfl, fun h => by simp at h⟩
  · exact ⟨_, c, rfl, by simp, hc, rfl, fun h => by simp at h⟩
  · refine ⟨_, c, rfl, h1, h2, by simp, fun _ => ⟨g, off, rfl, fun j hj => ?_⟩⟩
    have hj' : j < xs.length := by simpa using hj
    rw [hg.cell, hc j hj', ivs_get xs j hj']
theorem Side.ext (h : Side base w v xs) (he : Ext w w') : Side base w' v xs := by
  rcases h with h | ⟨g, off, c, cs, e, h1, h2, hb, hg, hc⟩
  · exact .inl h
  · exact .inr ⟨g, off, c, cs, e, h1, h2, hb, hg.ext he, hc⟩
theorem Side.lt (h : Side base w v xs) : ∀ g, v.ownS = some g → base ≤ g ∧ g < w.heap.size := by
  intro g hg
  rcases h with ⟨_, rfl | ⟨b, off, c, rfl, hc⟩⟩ | ⟨g', off, c, cs, rfl, _, _, hb, hb', _⟩
  · simp [Value.ownS] at hg
  · rw [ownS_zero] at hg
    cases hg
  · obtain ⟨e, _⟩ := ownS_some hg
    have e : g' = g := e
    subst e
    exact ⟨hb, hb'.lt⟩
/-- What leaves a side's block leaves the side. -/
theorem Side.same (h : Side base w v xs) (hs : ∀ g, v.ownS = some g → w'.heap[g]? = w.heap[g]?) : Side base w' v xs := by
  rcases h with h | ⟨g, off, c, cs, rfl, h1, h2, hb, hg, hc⟩
  · exact .inl h
  · by_cases h0 : 0 < xs.length
    · exact .inr ⟨g, off, c, cs, rfl, h1, h2, hb, (hs g (ownS_pos h0)).trans hg, hc⟩
    · have e : xs = [] := List.length_eq_zero_iff.1 (by omega)
      subst e
      exact .inl ⟨rfl, .inr ⟨_, _, _, rfl, h2⟩⟩
theorem Side.far (h : Side base w v xs) {p : Addr} (hp : v.ownS ≠ some p.block) (u : Value) : Side base (w.setCell p u) v xs :=
  h.same fun g hg => Below.heap_setCell w p u g (fun e => hp (by rw [← e]; exact hg))
theorem Side.low (h : Side base w v xs) {base' : Nat} (hb : base' ≤ base) : Side base' w v xs := by
  rcases h with h | ⟨g, off, c, cs, e, h1, h2, hb', hg, hc⟩
  · exact .inl h
  · exact .inr ⟨g, off, c, cs, e, h1, h2, by omega, hg, hc⟩
theorem Side.ofOwn (h : OwnInts base w v xs) : Side base w v xs := by
  obtain ⟨h1, h2⟩ := h
  rcases h2 with ⟨rfl, hz⟩ | ⟨g, cap, cur, rfl, hb, hh, hnc, hcm, hcs, htk⟩
  · exact .inl ⟨List.length_eq_zero_iff.1 hz, .inl rfl⟩
  · refine .inr ⟨g, 0, cap, cur, rfl, hnc, by simpa [maxLen] using hcm, hb, hh, fun j hj => ?_⟩
    have := ivs_get xs j hj
    rw [← htk, List.getElem?_take, if_pos (by omega)] at this
    simpa using this
end
end Go.Proofs.YtgeckhjkahnonaaGreatDoor
end
section
set_option linter.unusedSimpArgs false
set_option linter.unusedVariables false
namespace Go.Proofs.YtgeckhjkahnonaaGreatDoor
open Go Go.RowKit Go.Proofs
/-- A place. -/
structure MP where
  k : Int
  a : Int
  t : Int
  c : Int
  f0 : Int
  f1 : Int
  f2 : Int
  d : Int
deriving DecidableEq
def MP.v (p : MP) : Value := .agg #[.int .i64 p.k, .int .i64 p.a, .int .i64 p.t, .int .i64 p.c, .int .i64 p.f0, .int .i64 p.f1, .int .i64 p.f2, .int .i64 p.d]
theorem MP.v_inj (x y : MP) (h : x.v = y.v) : x = y := by
  cases x; cases y
  simp only [MP.v] at h
  injection h with h
  simp at h
  simp [h]
def ActM (a : ActG MP) : Value := .agg #[.int .i64 a.w, .int .i64 a.m, .int .i64 a.p.k, .int .i64 a.p.a, .int .i64 a.p.t, .int .i64 a.p.c, .int .i64 a.p.f0, .int .i64 a.p.f1, .int .i64 a.p.f2, .int .i64 a.p.d, .bool a.no]
def mp0 : MP := ⟨0, 0, 0, 0, 0, 0, 0, 0⟩
def noW : ActG MP := ⟨0, 0, mp0, true⟩
def mrAt (m : MultiD) (i : Int) : MRuleD := m.rules.getD i.toNat mr0
def lookP (q : Int) : MP := ⟨0, q, 0, 0, 0, 0, 0, 0⟩
def befT (T t : Int) : Int := (t + T - 1) % T
def fullB (T : Int) : Int := if T = 2 then 3 else 7
def leaveP (q k : Int) : MP := if k = 0 then lookP q else ⟨4, q, 0, k, 0, 0, 0, 0⟩
def aftP (m : MultiD) (i t d : Int) : MP := if d = fullB m.tp then leaveP (mrAt m i).nx (t + m.tp - 1) else ⟨3, i, befT m.tp t, 0, 0, 0, 0, d⟩
def orB (d t : Int) : Int := if t = 0 then (if d % 2 = 1 then d else d + 1) else if t = 1 then (if d / 2 % 2 = 1 then d else d + 2) else (if d / 4 % 2 = 1 then d else d + 4)
def hasB (d t : Int) : Bool := if t = 0 then decide (d % 2 = 1) else if t = 1 then decide (d / 2 % 2 = 1) else decide (d / 4 % 2 = 1)
def putP (m : MultiD) (i t d : Int) : ActG MP :=
  if (mrAt m i).mv.getD t.toNat 0 = 0 then ⟨(mrAt m i).wr.getD t.toNat 0 + m.sy, -1, aftP m i t (orB d t), false⟩
  else ⟨(mrAt m i).wr.getD t.toNat 0, (mrAt m i).mv.getD t.toNat 0, ⟨1, i, t, m.tp - 1, 0, 0, 0, orB d t⟩, false⟩
def fnd (p : MP) (t : Int) : Int := if t = 0 then p.f0 else if t = 1 then p.f1 else p.f2
def withF (p : MP) (t x : Int) : MP := ⟨p.k, p.a, p.t, p.c, if t = 0 then x else p.f0, if t = 1 then x else p.f1, if t = 2 then x else p.f2, p.d⟩
def withT (p : MP) (t : Int) : MP := ⟨p.k, p.a, t, p.c, p.f0, p.f1, p.f2, p.d⟩
def lacksB (m : MultiD) (p : MP) : Bool := decide (p.f0 = 0) || decide (p.f1 = 0) || (decide (m.tp = 3) && decide (p.f2 = 0))
def symsP (m : MultiD) (p : MP) : KeyM := (p.a, p.f0 - 1, p.f1 - 1, if m.tp = 3 then p.f2 - 1 else 0)
def nxtT (m : MultiD) (p : MP) : MP := withT p ((p.t + 1) % m.tp)
/-- The place behind a marked cell. -/
def seenP (m : MultiD) (p : MP) (v : Int) : MP := withF (nxtT m p) p.t (v - m.sy + 1)
/-- What is done behind the search of a rule. -/
def ruleP (m : MultiD) (t : Int) : Option Nat → ActG MP
  | some i => putP m (i : Int) t 0
  | none => noW
def lkP (m : MultiD) (p : MP) (v : Int) : ActG MP :=
  if m.sy ≤ v ∧ fnd p p.t = 0 then
    (if lacksB m (seenP m p v) = true then ⟨v, 1, seenP m p v, false⟩
     else ruleP m p.t (findM m.rules (symsP m (seenP m p v)) m.rules.length))
  else ⟨v, 1, nxtT m p, false⟩
def mvP (m : MultiD) (p : MP) : Int := (mrAt m p.a).mv.getD p.t.toNat 0
/-- What is done at a place with a symbol. -/
def actW (m : MultiD) (p : MP) (v : Int) : ActG MP :=
  if p.k = 0 then lkP m p v
  else if p.k = 4 then ⟨v, -1, leaveP p.a (p.c - 1), false⟩
  else if p.k = 3 then (if m.sy ≤ v ∧ hasB p.d p.t = false then putP m p.a p.t p.d else ⟨v, -1, ⟨3, p.a, befT m.tp p.t, 0, 0, 0, 0, p.d⟩, false⟩)
  else if p.k = 1 then (if 0 < p.c then ⟨v, mvP m p, ⟨1, p.a, p.t, p.c - 1, 0, 0, 0, p.d⟩, false⟩ else ⟨v % m.sy + m.sy, -(mvP m p), ⟨2, p.a, p.t, m.tp - 1, 0, 0, 0, p.d⟩, false⟩)
  else if 0 < p.c then ⟨v, -(mvP m p), ⟨2, p.a, p.t, p.c - 1, 0, 0, 0, p.d⟩, false⟩
  else ⟨v, -1, aftP m p.a p.t p.d, false⟩
/-- A place that the machine may come to. -/
structure WOk (m : MultiD) (p : MP) : Prop where
  t0 : 0 ≤ p.t
  t1 : p.t < m.tp
  c0 : 0 ≤ p.c
  c1 : p.c ≤ 6
  d0 : 0 ≤ p.d
  d7 : p.d ≤ 7
  f0 : 0 ≤ p.f0 ∧ p.f0 ≤ m.sy
  f1 : 0 ≤ p.f1 ∧ p.f1 ≤ m.sy
  f2 : 0 ≤ p.f2 ∧ p.f2 ≤ m.sy
  kd : (p.k = 0 ∧ 0 ≤ p.a ∧ p.a < m.st ∧ p.c = 0 ∧ p.d = 0 ∧ lacksB m p = true ∧ (m.tp = 2 → p.f2 = 0)) ∨
    ((p.k = 1 ∨ p.k = 2) ∧ 0 ≤ p.a ∧ p.a < m.rules.length ∧ p.f0 = 0 ∧ p.f1 = 0 ∧ p.f2 = 0) ∨
    (p.k = 3 ∧ 0 ≤ p.a ∧ p.a < m.rules.length ∧ p.c = 0 ∧ p.f0 = 0 ∧ p.f1 = 0 ∧ p.f2 = 0) ∨
    (p.k = 4 ∧ 0 ≤ p.a ∧ p.a < m.st ∧ 1 ≤ p.c ∧ p.t = 0 ∧ p.d = 0 ∧ p.f0 = 0 ∧ p.f1 = 0 ∧ p.f2 = 0)
theorem orB_le {d t : Int} (h0 : 0 ≤ d) (h7 : d ≤ 7) : 0 ≤ orB d t ∧ orB d t ≤ 7 := by
  unfold orB
  split
  · split <;> omega
  · split
    · split <;> omega
    · split <;> omega
theorem befT_le {T t : Int} (hT : 2 ≤ T) (h0 : 0 ≤ t) : 0 ≤ befT T t ∧ befT T t < T := by
  unfold befT
  exact ⟨Int.emod_nonneg _ (by omega), Int.emod_lt_of_pos _ (by omega)⟩
theorem lookP_ok {m : MultiD} (hm : multiOk m = true) {q : Int} (q0 : 0 ≤ q) (q1 : q < m.st) : WOk m (lookP q) := by
  obtain ⟨⟨t1, t2⟩, ⟨y1, y2⟩, ⟨s1, s2⟩, _, _⟩ := multi_all hm
  exact ⟨by simp [lookP], by simp [lookP]; omega, by simp [lookP], by simp [lookP], by simp [lookP], by simp [lookP], by simp [lookP]; omega, by simp [lookP]; omega, by simp [lookP]; omega, .inl ⟨rfl, q0, q1, rfl, rfl, by simp [lacksB, lookP], fun _ => rfl⟩⟩
theorem leaveP_ok {m : MultiD} (hm : multiOk m = true) {q k : Int} (q0 : 0 ≤ q) (q1 : q < m.st) (k0 : 0 ≤ k) (k1 : k ≤ 6) : WOk m (leaveP q k) := by
  obtain ⟨⟨t1, t2⟩, ⟨y1, y2⟩, ⟨s1, s2⟩, _, _⟩ := multi_all hm
  unfold leaveP
  by_cases h : k = 0
  · rw [if_pos h]; exact lookP_ok hm q0 q1
  · rw [if_neg h]
    exact ⟨by simp, by simp; omega, k0, k1, by simp, by simp, by simp; omega, by simp; omega, by simp; omega, .inr (.inr (.inr ⟨rfl, q0, q1, by simp; omega, rfl, rfl, rfl, rfl, rfl⟩))⟩
theorem mrAt_ok {m : MultiD} (hm : multiOk m = true) {i : Int} (i0 : 0 ≤ i) (i1 : i < m.rules.length) : ∃ j : Nat, i = j ∧ ∃ h : j < m.rules.length, mrAt m i = m.rules[j] ∧ mruleOk m m.rules[j] = true := by
  obtain ⟨j, rfl⟩ : ∃ j : Nat, i = j := ⟨i.toNat, by omega⟩
  refine ⟨j, rfl, by omega, ?_, multi_rule hm (by omega)⟩
  unfold mrAt
  rw [Int.toNat_natCast, List.getD_eq_getElem?_getD, List.getElem?_eq_getElem (by omega)]
  rfl
theorem aftP_ok {m : MultiD} (hm : multiOk m = true) {i t d : Int} (i0 : 0 ≤ i) (i1 : i < m.rules.length) (t0 : 0 ≤ t) (t1 : t < m.tp) (d0 : 0 ≤ d) (d7 : d ≤ 7) : WOk m (aftP m i t d) := by
  obtain ⟨⟨tp1, tp2⟩, ⟨y1, y2⟩, ⟨s1, s2⟩, _, _⟩ := multi_all hm
  obtain ⟨j, rfl, hj, e, hr⟩ := mrAt_ok hm i0 i1
  have hn := (mrule_all hr).2.1
  unfold aftP
  by_cases h : d = fullB m.tp
  · rw [if_pos h, e]; exact leaveP_ok hm hn.1 (by omega) (by omega) (by omega)
  · rw [if_neg h]
    have hb := befT_le (T := m.tp) (t := t) (by omega) t0
    exact ⟨hb.1, hb.2, by simp, by simp, d0, d7, by simp; omega, by simp; omega, by simp; omega, .inr (.inr (.inl ⟨rfl, i0, i1, rfl, rfl, rfl, rfl⟩))⟩
theorem putP_ok {m : MultiD} (hm : multiOk m = true) {i t d : Int} (i0 : 0 ≤ i) (i1 : i < m.rules.length) (t0 : 0 ≤ t) (t1 : t < m.tp) (d0 : 0 ≤ d) (d7 : d ≤ 7) : WOk m (putP m i t d).p := by
  obtain ⟨⟨tp1, tp2⟩, ⟨y1, y2⟩, ⟨s1, s2⟩, _, _⟩ := multi_all hm
  have ho := orB_le (t := t) d0 d7
  unfold putP
  split
  · exact aftP_ok hm i0 i1 t0 t1 ho.1 ho.2
  · exact ⟨t0, t1, by simp; omega, by simp; omega, ho.1, ho.2, by simp; omega, by simp; omega, by simp; omega, .inr (.inl ⟨.inl rfl, i0, i1, rfl, rfl, rfl⟩)⟩
theorem nxtT_le {m : MultiD} (hm : multiOk m = true) (t : Int) : 0 ≤ (t + 1) % m.tp ∧ (t + 1) % m.tp < m.tp := by
  obtain ⟨⟨tp1, tp2⟩, _⟩ := multi_all hm
  exact ⟨Int.emod_nonneg _ (by omega), Int.emod_lt_of_pos _ (by omega)⟩
theorem actW_ok {m : MultiD} (hm : multiOk m = true) {p : MP} {v : Int} (hp : WOk m p) (v0 : 0 ≤ v) (v1 : v < 2 * m.sy) (hn : (actW m p v).no = false) : WOk m (actW m p v).p := by
  obtain ⟨⟨tp1, tp2⟩, ⟨y1, y2⟩, ⟨s1, s2⟩, _, _⟩ := multi_all hm
  have hnt := nxtT_le hm p.t
  obtain ⟨t0, t1, c0, c1, d0, d7, f0, f1, f2, kd⟩ := hp
  rcases kd with ⟨k, a0, a1, c, d, hl, hf⟩ | ⟨k, a0, a1, g0, g1, g2⟩ | ⟨k, a0, a1, c, g0, g1, g2⟩ | ⟨k, a0, a1, c, t, d, g0, g1, g2⟩
  · have e : actW m p v = lkP m p v := by unfold actW; rw [if_pos k]
    rw [e] at hn ⊢
    unfold lkP at hn ⊢
    by_cases hc : m.sy ≤ v ∧ fnd p p.t = 0
    · rw [if_pos hc] at hn ⊢
      by_cases hk : lacksB m (seenP m p v) = true
      · rw [if_pos hk]
        refine ⟨hnt.1, hnt.2, c0, c1, d0, d7, ?_, ?_, ?_, .inl ⟨k, a0, a1, c, d, hk, fun h2 => ?_⟩⟩
        · show 0 ≤ (if p.t = 0 then v - m.sy + 1 else p.f0) ∧ (if p.t = 0 then v - m.sy + 1 else p.f0) ≤ m.sy
          split <;> omega
        · show 0 ≤ (if p.t = 1 then v - m.sy + 1 else p.f1) ∧ (if p.t = 1 then v - m.sy + 1 else p.f1) ≤ m.sy
          split <;> omega
        · show 0 ≤ (if p.t = 2 then v - m.sy + 1 else p.f2) ∧ (if p.t = 2 then v - m.sy + 1 else p.f2) ≤ m.sy
          split <;> omega
        · show (if p.t = 2 then v - m.sy + 1 else p.f2) = 0
          rw [if_neg (by omega)]
          exact hf h2
      · rw [if_neg hk] at hn ⊢
        cases hr : findM m.rules (symsP m (seenP m p v)) m.rules.length with
        | none => rw [hr] at hn; simp [ruleP, noW] at hn
        | some i =>
          have hi := findM_lt hr
          exact putP_ok hm (by omega) (by omega) t0 t1 (by omega) (by omega)
    · rw [if_neg hc]
      exact ⟨hnt.1, hnt.2, c0, c1, d0, d7, f0, f1, f2, .inl ⟨k, a0, a1, c, d, hl, hf⟩⟩
  · have hmv : ∀ {x : Int × Int × MP}, True := fun {_} => trivial
    rcases k with k | k
    · have e : actW m p v = if 0 < p.c then ⟨v, mvP m p, ⟨1, p.a, p.t, p.c - 1, 0, 0, 0, p.d⟩, false⟩ else ⟨v % m.sy + m.sy, -(mvP m p), ⟨2, p.a, p.t, m.tp - 1, 0, 0, 0, p.d⟩, false⟩ := by
        unfold actW; rw [if_neg (by omega), if_neg (by omega), if_neg (by omega), if_pos k]
      rw [e]
      split
      · exact ⟨t0, t1, by simp; omega, by simp; omega, d0, d7, by simp; omega, by simp; omega, by simp; omega, .inr (.inl ⟨.inl rfl, a0, a1, rfl, rfl, rfl⟩)⟩
      · exact ⟨t0, t1, by simp; omega, by simp; omega, d0, d7, by simp; omega, by simp; omega, by simp; omega, .inr (.inl ⟨.inr rfl, a0, a1, rfl, rfl, rfl⟩)⟩
    · have e : actW m p v = if 0 < p.c then ⟨v, -(mvP m p), ⟨2, p.a, p.t, p.c - 1, 0, 0, 0, p.d⟩, false⟩ else ⟨v, -1, aftP m p.a p.t p.d, false⟩ := by
        unfold actW; rw [if_neg (by omega), if_neg (by omega), if_neg (by omega), if_neg (by omega)]
      rw [e]
      split
      · exact ⟨t0, t1, by simp; omega, by simp; omega, d0, d7, by simp; omega, by simp; omega, by simp; omega, .inr (.inl ⟨.inr rfl, a0, a1, rfl, rfl, rfl⟩)⟩
      · exact aftP_ok hm a0 a1 t0 t1 d0 d7
  · have e : actW m p v = if m.sy ≤ v ∧ hasB p.d p.t = false then putP m p.a p.t p.d else ⟨v, -1, ⟨3, p.a, befT m.tp p.t, 0, 0, 0, 0, p.d⟩, false⟩ := by
      unfold actW; rw [if_neg (by omega), if_neg (by omega), if_pos k]
    rw [e]
    split
    · exact putP_ok hm a0 a1 t0 t1 d0 d7
    · have hb := befT_le (T := m.tp) (t := p.t) (by omega) t0
      exact ⟨hb.1, hb.2, by simp, by simp, d0, d7, by simp; omega, by simp; omega, by simp; omega, .inr (.inr (.inl ⟨rfl, a0, a1, rfl, rfl, rfl, rfl⟩))⟩
  · have e : actW m p v = ⟨v, -1, leaveP p.a (p.c - 1), false⟩ := by
      unfold actW; rw [if_neg (by omega), if_pos k]
    rw [e]
    exact leaveP_ok hm a0 a1 (by omega) (by omega)
def smallM (z : Int) : Prop := -1000000 ≤ z ∧ z ≤ 1000000
theorem WOk.small {m : MultiD} (hm : multiOk m = true) {p : MP} (hp : WOk m p) : smallM p.k ∧ smallM p.a ∧ smallM p.t ∧ smallM p.c ∧ smallM p.f0 ∧ smallM p.f1 ∧ smallM p.f2 ∧ smallM p.d := by
  obtain ⟨⟨tp1, tp2⟩, ⟨y1, y2⟩, ⟨s1, s2⟩, hl, _⟩ := multi_all hm
  obtain ⟨t0, t1, c0, c1, d0, d7, f0, f1, f2, kd⟩ := hp
  unfold smallM
  rcases kd with ⟨k, a0, a1, _⟩ | ⟨k | k, a0, a1, _⟩ | ⟨k, a0, a1, _⟩ | ⟨k, a0, a1, _⟩ <;> omega
end Go.Proofs.YtgeckhjkahnonaaGreatDoor
end
