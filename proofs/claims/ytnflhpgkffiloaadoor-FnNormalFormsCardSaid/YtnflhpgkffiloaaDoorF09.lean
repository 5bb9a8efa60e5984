/- Plain words on the program's runs of a machine: sides grow and shrink at their near ends.
Plain words on runs: positions of the head, the tape around it, and runs that come again moved by some cells.
Contracts of the reference's draws of machines, continued: a machine that is valid, one that may be bent.
Contracts of the reference's draws of machines, continued: a machine is bent.
Contracts of the reference's draws of machines, continued: any machine, a small machine, a machine that is decided.
Contract of the reference's draw of a machine that is decided. -/
import Derived.Test.YtnflhpgkffiloaaDoorF06
import Derived.Test.YtnflhpgkffiloaaDoorF08
import Derived.Deep.RegionLaw
import Derived.Deep.RegionHeld3
import Derived.Test.YtnflhpgkffiloaaDoorF03
section
namespace Go.Proofs.YtnflhpgkffiloaaDoor
open Go Go.RowKit Go.Proofs
def pushL (s : Int) (xs : List Int) : List Int := if s = 0 ∧ xs = [] then [] else s :: xs
def hdD (xs : List Int) : Int := xs.getD 0 0
/-- The rule that a configuration looks at. -/
def lookI (m : MachD) (c : ConfD) : RuleD := m.rules.getD (c.q * m.sy + hdD c.r).toNat noR
/-- The configuration behind a step. -/
def stepI (ru : RuleD) (c : ConfD) : ConfD :=
  if 0 < ru.m then ⟨ru.n, pushL ru.w c.l, c.r.drop 1⟩ else ⟨ru.n, c.l.drop 1, pushL (hdD c.l) (pushL ru.w (c.r.drop 1))⟩
def cfgI (m : MachD) (c : ConfD) : Nat → ConfD
  | 0 => c
  | t + 1 => stepI (lookI m (cfgI m c t)) (cfgI m c t)
def fitI (c : ConfD) : Bool := decide (c.l.length ≤ 200) && decide (c.r.length ≤ 200)
/-- A configuration of a machine. -/
structure IGood (m : MachD) (c : ConfD) : Prop where
  q0 : 0 ≤ c.q
  q1 : c.q < m.st
  l : ∀ z ∈ c.l, 0 ≤ z ∧ z < m.sy
  r : ∀ z ∈ c.r, 0 ≤ z ∧ z < m.sy
theorem hdD_of {xs : List Int} {sy : Int} (h : ∀ z ∈ xs, 0 ≤ z ∧ z < sy) (h0 : 0 < sy) : 0 ≤ hdD xs ∧ hdD xs < sy := by
  unfold hdD
  cases xs with
  | nil => exact ⟨by simp, by simpa using h0⟩
  | cons a l => exact h a List.mem_cons_self
theorem machOk_five {m : MachD} (h : machOk m = true) : (2 ≤ m.sy ∧ m.sy ≤ 6 ∧ 1 ≤ m.st ∧ m.st ≤ 1000) ∧ (m.rules.length : Int) = m.sy * m.st ∧ ∀ r ∈ m.rules, ruleOk m.sy m.st r = true := by
  simp only [machOk, inB, Bool.and_eq_true, decide_eq_true_eq, List.all_eq_true] at h
  refine ⟨by omega, by omega, h.2⟩
theorem IGood.idx {m : MachD} (hm : machOk m = true) {c : ConfD} (h : IGood m c) : ∃ k : Nat, k < m.rules.length ∧ c.q * m.sy + hdD c.r = (k : Int) := by
  obtain ⟨⟨s1, _, _, _⟩, hl, _⟩ := machOk_five hm
  have a := hdD_of h.r (by omega)
  have e1 := Int.mul_nonneg h.q0 (show 0 ≤ m.sy by omega)
  have e2 : c.q * m.sy + m.sy ≤ m.st * m.sy := by
    have := Int.mul_le_mul_of_nonneg_right (show c.q + 1 ≤ m.st from h.q1) (show 0 ≤ m.sy by omega)
    rw [Int.add_mul, Int.one_mul] at this
    exact this
  rw [Int.mul_comm] at hl
  exact ⟨(c.q * m.sy + hdD c.r).toNat, by omega, by omega⟩
theorem lookI_get {m : MachD} {c : ConfD} {k : Nat} (hk : k < m.rules.length) (e : c.q * m.sy + hdD c.r = (k : Int)) : lookI m c = m.rules[k] := by
  unfold lookI
  rw [e, Int.toNat_natCast, List.getD_eq_getElem?_getD, List.getElem?_eq_getElem hk]
  rfl
theorem pushL_mem {s z : Int} {xs : List Int} (h : z ∈ pushL s xs) : z = s ∨ z ∈ xs := by
  unfold pushL at h
  split at h
  · cases h
  · simpa using h
theorem IGood.step {m : MachD} (hm : machOk m = true) {c : ConfD} (h : IGood m c) (hr : ¬ lookI m c = noR) : IGood m (stepI (lookI m c) c) := by
  obtain ⟨⟨s1, _, _, _⟩, _, hall⟩ := machOk_five hm
  obtain ⟨k, hk, e⟩ := h.idx hm
  rw [lookI_get hk e] at hr ⊢
  have hq := hall _ (List.getElem_mem hk)
  simp only [ruleOk, hr, decide_false, Bool.false_or, Bool.and_eq_true, inB, decide_eq_true_eq] at hq
  have hl := hdD_of h.l (by omega)
  unfold stepI
  split
  · refine ⟨by simp; omega, by simp; omega, fun z hz => ?_, fun z hz => h.r z (List.mem_of_mem_drop hz)⟩
    rcases pushL_mem hz with rfl | hz
    · omega
    · exact h.l z hz
  · refine ⟨by simp; omega, by simp; omega, fun z hz => h.l z (List.mem_of_mem_drop hz), fun z hz => ?_⟩
    rcases pushL_mem hz with rfl | hz
    · exact hl
    · rcases pushL_mem hz with rfl | hz
      · omega
      · exact h.r z (List.mem_of_mem_drop hz)
/-- So many steps are made from c. -/
structure RunsTo (m : MachD) (c : ConfD) (n : Nat) : Prop where
  no : ∀ i < n, ¬ lookI m (cfgI m c i) = noR
  fit : ∀ i ≤ n, fitI (cfgI m c i) = true
theorem RunsTo.zero {m : MachD} {c : ConfD} (h : fitI c = true) : RunsTo m c 0 := ⟨fun i hi => by omega, fun i hi => by
  have : i = 0 := by omega
  subst this; exact h⟩
theorem RunsTo.succ {m : MachD} {c : ConfD} {n : Nat} (h : RunsTo m c n) (h1 : ¬ lookI m (cfgI m c n) = noR) (h2 : fitI (cfgI m c (n + 1)) = true) : RunsTo m c (n + 1) :=
  ⟨fun i hi => if e : i = n then e ▸ h1 else h.no i (by omega), fun i hi => if e : i = n + 1 then e ▸ h2 else h.fit i (by omega)⟩
end Go.Proofs.YtnflhpgkffiloaaDoor
end
section
set_option linter.unusedSimpArgs false
set_option linter.unusedVariables false
namespace Go.Proofs.YtnflhpgkffiloaaDoor
open Go Go.RowKit Go.Proofs
/-- The symbol of a configuration at a distance from its head. -/
def cellC (c : ConfD) (z : Int) : Int := if 0 ≤ z then c.r.getD z.toNat 0 else c.l.getD (-1 - z).toNat 0
theorem pushL_getD (s : Int) (xs : List Int) (i : Nat) : (pushL s xs).getD i 0 = (s :: xs).getD i 0 := by
  unfold pushL
  split
  · rename_i h
    obtain ⟨rfl, rfl⟩ := h
    cases i <;> simp
  · rfl
theorem drop1_getD (xs : List Int) (i : Nat) : (xs.drop 1).getD i 0 = xs.getD (i + 1) 0 := by
  simp [List.getD_eq_getElem?_getD, Nat.add_comm]
theorem cell_step {ru : RuleD} (hm : ru.m = 1 ∨ ru.m = -1) (c : ConfD) (z : Int) : cellC (stepI ru c) (z - ru.m) = if z = 0 then ru.w else cellC c z := by
  rcases hm with h | h
  · have e : stepI ru c = ⟨ru.n, pushL ru.w c.l, c.r.drop 1⟩ := by unfold stepI; rw [if_pos (by omega)]
    rw [e, h]
    unfold cellC
    simp only
    by_cases h0 : z = 0
    · subst h0
      rw [if_neg (by omega), if_pos rfl, pushL_getD]
      rfl
    · rw [if_neg h0]
      by_cases h1 : 0 ≤ z
      · rw [if_pos (show 0 ≤ z - 1 by omega), if_pos h1, drop1_getD]
        congr 1
        omega
      · rw [if_neg (show ¬ 0 ≤ z - 1 by omega), if_neg h1, pushL_getD]
        obtain ⟨k, hk⟩ : ∃ k : Nat, (-1 - (z - 1)).toNat = k + 1 := ⟨(-1 - z).toNat, by omega⟩
        rw [hk, List.getD_cons_succ]
        congr 1
        omega
  · have e : stepI ru c = ⟨ru.n, c.l.drop 1, pushL (hdD c.l) (pushL ru.w (c.r.drop 1))⟩ := by unfold stepI; rw [if_neg (by omega)]
    rw [e, h]
    unfold cellC
    simp only
    by_cases h0 : z = 0
    · subst h0
      rw [if_pos (by omega), if_pos rfl, pushL_getD]
      have : (0 - (-1 : Int)).toNat = 0 + 1 := by omega
      rw [this, List.getD_cons_succ, pushL_getD]
      rfl
    · rw [if_neg h0]
      by_cases h1 : 0 ≤ z
      · rw [if_pos (show 0 ≤ z - -1 by omega), if_pos h1, pushL_getD]
        obtain ⟨k, hk⟩ : ∃ k : Nat, z.toNat = k + 1 := ⟨z.toNat - 1, by omega⟩
        have : (z - -1).toNat = (k + 1) + 1 := by omega
        rw [this, List.getD_cons_succ, pushL_getD, List.getD_cons_succ, drop1_getD, hk]
      · rw [if_neg h1]
        by_cases h2 : z = -1
        · subst h2
          rw [if_pos (by omega), pushL_getD]
          rfl
        · rw [if_neg (show ¬ 0 ≤ z - -1 by omega), drop1_getD]
          congr 1
          omega
/-- Two configurations agree on a set of places, seen from two heads at the same place u. -/
structure Mt (D : Int → Prop) (u : Int) (c e : ConfD) : Prop where
  q : c.q = e.q
  at_ : ∀ z, D z → cellC c (z - u) = cellC e (z - u)
theorem Mt.step {D : Int → Prop} {u : Int} {c e : ConfD} (h : Mt D u c e) {ru : RuleD} (hm : ru.m = 1 ∨ ru.m = -1) : Mt D (u + ru.m) (stepI ru c) (stepI ru e) := by
  refine ⟨?_, fun z hz => ?_⟩
  · unfold stepI
    split <;> rfl
  · have e1 : z - (u + ru.m) = (z - u) - ru.m := by omega
    rw [e1, cell_step hm, cell_step hm, h.at_ z hz]
section
variable {m : MachD} (hm : machOk m = true) {c0 : ConfD} (hc0 : IGood m c0) {a b : Nat} {d : Int} {D : Int → Prop}
include hm hc0
end
/-- No blanks at the end. -/
def tidyL (xs : List Int) : Prop := xs = [] ∨ xs.getLastD 0 ≠ 0
end Go.Proofs.YtnflhpgkffiloaaDoor
end
section
namespace Go.Proofs.YtnflhpgkffiloaaDoor
open Go Go.RowKit Go.Proofs
set_option maxHeartbeats 400000
/-- The end of a draw: the machine is stored as the result. -/
theorem MRes.of {B b n n' c g : Nat} {w w2 : World} {m : MachD} {rv : Value} {base : Nat} {cs : Array Value} (hs : Src B w2 b n') (hn : n' ≤ n + c) (hg : w.grownBy w2 (some b)) (hB : B ≤ g) (hbl : b < g) (hgw : w.heap.size = g) (ho : OwnRules base w2 rv m.rules) (hbase : g ≤ base) (hb : Blk w2 g 26 cs) (hl : 0 < m.rules.length ∧ m.rules.length ≤ 600 ∧ machOk m = true) :
    MRes B w b n c (.returned (.agg #[.int .i64 m.sy, .int .i64 m.st, rv])) (((w2.setCell ⟨g, 0, none⟩ (.int .i64 m.sy)).setCell ⟨g, 1, none⟩ (.int .i64 m.st)).setCell ⟨g, 2, none⟩ rv) := by
  obtain ⟨r1, r2, r3⟩ := done3 hs hg hB hbl hgw ho hb (.int .i64 m.sy) (.int .i64 m.st) rv
  exact ⟨⟨m, rv, rfl, ownsRow_base r3 (by omega), hl.1, hl.2.1, hl.2.2⟩, r1.mono hn, r2⟩
end Go.Proofs.YtnflhpgkffiloaaDoor
namespace Go.Proofs.YtnflhpgkffiloaaDoor
open Go Go.RowKit Go.Proofs
set_option maxHeartbeats 400000
/-- A machine that is drawn, of any length. -/
def MRes0 (B : Nat) (w : World) (b n c : Nat) (e : Ending) (w' : World) : Prop :=
  (∃ (m : MachD) (rv : Value), e = .returned (.agg #[.int .i64 m.sy, .int .i64 m.st, rv]) ∧ OwnRules w.heap.size w' rv m.rules) ∧ Src B w' b (n + c) ∧ w.grownBy w' (some b)
theorem MRes.zero {B : Nat} {w : World} {b n c c' : Nat} {e : Ending} {w' : World} (h : MRes B w b n c e w') (hc : c ≤ c') : MRes0 B w b n c' e w' := by
  obtain ⟨⟨m, rv, he, ho, _, _⟩, hs, hg⟩ := h
  exact ⟨⟨m, rv, he, ho⟩, hs.mono (by omega), hg⟩
theorem MRes0.of {B b n n' c g : Nat} {w w2 : World} {sy st : Int} {rs : List RuleD} {rv : Value} {base : Nat} {cs : Array Value} (hs : Src B w2 b n') (hn : n' ≤ n + c) (hg : w.grownBy w2 (some b)) (hB : B ≤ g) (hbl : b < g) (hgw : w.heap.size ≤ g) (ho : OwnRules base w2 rv rs) (hbase : w.heap.size ≤ base) (hb : Blk w2 g 26 cs) :
    MRes0 B w b n c (.returned (.agg #[.int .i64 sy, .int .i64 st, rv])) (((w2.setCell ⟨g, 0, none⟩ (.int .i64 sy)).setCell ⟨g, 1, none⟩ (.int .i64 st)).setCell ⟨g, 2, none⟩ rv) := by
  have e : ∀ k, some g = some k → B ≤ k ∧ k ≠ b := fun k hk => by injection hk with hk; subst hk; exact ⟨hB, by omega⟩
  have e' : ∀ k, some g = some k → w.heap.size ≤ k ∨ some b = some k := fun k hk => by injection hk with hk; subst hk; exact .inl hgw
  have hfar := own_far_blk ho hb (by decide)
  have r1 := ((hs.kept (set_grownBy w2 ⟨g, 0, none⟩ (.int .i64 sy)) e).kept (set_grownBy _ ⟨g, 1, none⟩ (.int .i64 st)) e).kept (set_grownBy _ ⟨g, 2, none⟩ rv) e
  have r2 := grownBy_step (grownBy_step (grownBy_step hg (set_grownBy w2 ⟨g, 0, none⟩ (.int .i64 sy)) e') (set_grownBy _ ⟨g, 1, none⟩ (.int .i64 st)) e') (set_grownBy _ ⟨g, 2, none⟩ rv) e'
  have r3 := ownsRow_far (p := ⟨g, 2, none⟩) (ownsRow_far (p := ⟨g, 1, none⟩) (ownsRow_far (p := ⟨g, 0, none⟩) ho hfar (.int .i64 sy)) hfar (.int .i64 st)) hfar rv
  exact ⟨⟨⟨sy, st, rs⟩, rv, rfl, ownsRow_base r3 hbase⟩, r1.mono hn, r2⟩
/-- What is known while a machine is bent: the result's block, the machine's block, its rules. -/
structure BendSt (B b g go : Nat) (w0 : World) (n : Nat) (sy st : Int) (rs : List RuleD) (rv : Value) (w : World) : Prop where
  res : Blk w g 26 #[.int .i64 0, .int .i64 0, .slice none 0 0]
  mac : Blk w go 26 #[.int .i64 sy, .int .i64 st, rv]
  own : OwnRules w0.heap.size w rv rs
  src : Src B w b n
  grown : w0.grownBy w (some b)
theorem BendSt.src' {B b g go : Nat} {w0 : World} {n n' : Nat} {sy st : Int} {rs : List RuleD} {rv : Value} {w w' : World} (h : BendSt B b g go w0 n sy st rs rv w) (hs : Src B w' b n') (hg : w.grownBy w' (some b)) : BendSt B b g go w0 n' sy st rs rv w' :=
  ⟨blk_src h.src hg h.res (by decide), blk_src h.src hg h.mac (by decide), own_src h.src hg h.own (by decide), hs, grownBy_trans h.grown hg⟩
theorem BendSt.ext {B b g go : Nat} {w0 : World} {n : Nat} {sy st : Int} {rs : List RuleD} {rv : Value} {w w' : World} (h : BendSt B b g go w0 n sy st rs rv w) (he : Ext w w') : BendSt B b g go w0 n sy st rs rv w' :=
  ⟨h.res.ext he, h.mac.ext he, OwnRules.ext h.own he, h.src.ext he, grownBy_trans h.grown (ext_grownBy he _)⟩
theorem rvs_set0 : ∀ (rs : List RuleD) (k : Nat) (z : Int) (h : k < rs.length), (rvs rs).set (k * 3) (.int .i64 z) = rvs (rs.set k ⟨z, rs[k].m, rs[k].n⟩)
  | r :: rs, 0, z, _ => by simp [rvs]
  | r :: rs, k + 1, z, h => by
    have ih := rvs_set0 rs k z (by simpa using h)
    simp only [rvs, List.flatMap_cons, List.set_cons_succ, List.getElem_cons_succ] at ih ⊢
    rw [show (k + 1) * 3 = k * 3 + 1 + 1 + 1 by omega]
    simp only [List.cons_append, List.nil_append, List.set_cons_succ]
    rw [ih]
theorem rvs_set1 : ∀ (rs : List RuleD) (k : Nat) (z : Int) (h : k < rs.length), (rvs rs).set (k * 3 + 1) (.int .i64 z) = rvs (rs.set k ⟨rs[k].w, z, rs[k].n⟩)
  | r :: rs, 0, z, _ => by simp [rvs]
  | r :: rs, k + 1, z, h => by
    have ih := rvs_set1 rs k z (by simpa using h)
    simp only [rvs, List.flatMap_cons, List.set_cons_succ, List.getElem_cons_succ] at ih ⊢
    rw [show (k + 1) * 3 + 1 = k * 3 + 1 + 1 + 1 + 1 by omega]
    simp only [List.cons_append, List.nil_append, List.set_cons_succ]
    rw [ih]
theorem rvs_set2 : ∀ (rs : List RuleD) (k : Nat) (z : Int) (h : k < rs.length), (rvs rs).set (k * 3 + 2) (.int .i64 z) = rvs (rs.set k ⟨rs[k].w, rs[k].m, z⟩)
  | r :: rs, 0, z, _ => by simp [rvs]
  | r :: rs, k + 1, z, h => by
    have ih := rvs_set2 rs k z (by simpa using h)
    simp only [rvs, List.flatMap_cons, List.set_cons_succ, List.getElem_cons_succ] at ih ⊢
    rw [show (k + 1) * 3 + 2 = k * 3 + 2 + 1 + 1 + 1 by omega]
    simp only [List.cons_append, List.nil_append, List.set_cons_succ]
    rw [ih]
section
variable {B b g go : Nat} {w0 : World} {n : Nat} {sy st : Int} {rs : List RuleD} {rv : Value} {w : World}
/-- A field of a rule is written. -/
theorem BendSt.field {gr c : Nat} {qs : List RuleD} (h : BendSt B b g go w0 n sy st rs (.slice (some ⟨gr, 0, none⟩) rs.length c) w) (hbw : b < w0.heap.size) (hB : B ≤ w0.heap.size) (j : Nat) (u : Value) (hq : (rvs rs).set j u = rvs qs) (hl : qs.length = rs.length) :
    BendSt B b g go w0 n sy st qs (.slice (some ⟨gr, 0, none⟩) rs.length c) (w.setCell ⟨gr, j, none⟩ u) := by
  have hlt := h.own.lt gr rfl
  have n1 := own_far_blk h.own h.res (by decide) gr rfl
  have n2 := own_far_blk h.own h.mac (by decide) gr rfl
  refine ⟨h.res.far (by simpa using fun e => n1 e.symm) _, h.mac.far (by simpa using fun e => n2 e.symm) _, ?_, h.src.kept (set_grownBy _ _ _) (fun k hk => by injection hk with hk; subst hk; exact ⟨by simp; omega, by simp; omega⟩), grownBy_step h.grown (set_grownBy _ _ _) (fun k hk => by injection hk with hk; subst hk; exact .inl (by simp; omega))⟩
  have := (World.ownsRow.stored h.own j u).1
  rw [hq] at this
  unfold OwnRules
  rw [hl]
  exact this
end
end Go.Proofs.YtnflhpgkffiloaaDoor
namespace Go.Proofs.YtnflhpgkffiloaaDoor
open Go Go.RowKit Go.Proofs
set_option maxHeartbeats 400000
theorem BendSt.fieldN {B b g go : Nat} {w0 : World} {n : Nat} {sy st : Int} {rs : List RuleD} {w : World} {gr c N : Nat} {qs : List RuleD} (hN : rs.length = N) (h : BendSt B b g go w0 n sy st rs (.slice (some ⟨gr, 0, none⟩) N c) w) (hbw : b < w0.heap.size) (hB : B ≤ w0.heap.size) (j : Nat) (u : Value) (hq : (rvs rs).set j u = rvs qs) (hl : qs.length = N) :
    BendSt B b g go w0 n sy st qs (.slice (some ⟨gr, 0, none⟩) N c) (w.setCell ⟨gr, j, none⟩ u) := by
  subst hN
  exact h.field hbw hB j u hq hl
/-- A rule is written whole. -/
theorem BendSt.rule {B b g go : Nat} {w0 : World} {n : Nat} {sy st : Int} {rs : List RuleD} {w : World} {gr c N : Nat} (hN : rs.length = N) (h : BendSt B b g go w0 n sy st rs (.slice (some ⟨gr, 0, none⟩) N c) w) (hbw : b < w0.heap.size) (hB : B ≤ w0.heap.size) (k : Nat) (hk : k < N) (x y z : Int) :
    BendSt B b g go w0 n sy st (rs.set k ⟨x, y, z⟩) (.slice (some ⟨gr, 0, none⟩) N c) (((w.setCell ⟨gr, k * 3, none⟩ (.int .i64 x)).setCell ⟨gr, k * 3 + 1, none⟩ (.int .i64 y)).setCell ⟨gr, k * 3 + 2, none⟩ (.int .i64 z)) := by
  have s1 := BendSt.fieldN hN h hbw hB (k * 3) (.int .i64 x) (rvs_set0 rs k x (by omega)) (by simpa using hN)
  have l1 : (rs.set k ⟨x, rs[k].m, rs[k].n⟩).length = N := by simpa using hN
  have s2 := BendSt.fieldN l1 s1 hbw hB (k * 3 + 1) (.int .i64 y) (rvs_set1 _ k y (by omega)) (by simpa using hN)
  have l2 : ((rs.set k ⟨x, rs[k].m, rs[k].n⟩).set k ⟨((rs.set k ⟨x, rs[k].m, rs[k].n⟩)[k]'(by omega)).w, y, ((rs.set k ⟨x, rs[k].m, rs[k].n⟩)[k]'(by omega)).n⟩).length = N := by simpa using hN
  have s3 := BendSt.fieldN l2 s2 hbw hB (k * 3 + 2) (.int .i64 z) (rvs_set2 _ k z (by omega)) (by simpa using hN)
  simpa [List.set_set] using s3
end Go.Proofs.YtnflhpgkffiloaaDoor
namespace Go.Proofs.YtnflhpgkffiloaaDoor
open Go Go.RowKit Go.Proofs
set_option maxHeartbeats 400000
structure DecSt (w : World) (b n : Nat) (wr : World) : Prop where
  res : Blk wr w.heap.size 26 #[.int .i64 0, .int .i64 0, .slice none 0 0]
  src : Src (w.heap.size + 1) wr b n
  ext : Ext w wr
theorem DecSt.done {w : World} {b n base : Nat} {wr : World} {m : MachD} {rv : Value} (h : DecSt w b n wr) (ho : OwnRules base wr rv m.rules) (hbase : w.heap.size ≤ base) :
    OwnRules w.heap.size (((wr.setCell ⟨w.heap.size, 0, none⟩ (.int .i64 m.sy)).setCell ⟨w.heap.size, 1, none⟩ (.int .i64 m.st)).setCell ⟨w.heap.size, 2, none⟩ rv) rv m.rules ∧
    Ext w (((wr.setCell ⟨w.heap.size, 0, none⟩ (.int .i64 m.sy)).setCell ⟨w.heap.size, 1, none⟩ (.int .i64 m.st)).setCell ⟨w.heap.size, 2, none⟩ rv) := by
  have hfar := own_far_blk ho h.res (by decide)
  refine ⟨ownsRow_base (ownsRow_far (ownsRow_far (ownsRow_far ho hfar _) hfar _) hfar _) hbase, ?_⟩
  exact ((h.ext.setCell (Nat.le_refl _) _).setCell (Nat.le_refl _) _).setCell (Nat.le_refl _) _
end Go.Proofs.YtnflhpgkffiloaaDoor
end
