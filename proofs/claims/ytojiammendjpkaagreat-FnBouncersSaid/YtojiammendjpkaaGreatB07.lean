/- Plain words on runs: positions of the head, the tape around it, and runs that come again moved by some cells.
Contracts of the reference's draws of machines, continued: a machine that is valid, one that may be bent.
Contracts of the reference's draws of machines, continued: a machine is bent.
Contracts of the reference's draws of machines, continued: any machine, a small machine, a machine that is decided.
Contract of the reference's draw of a machine that is decided.
A region that draws its order, in which one operation calls or makes memory and all others only read: one walk in the order of the text serves every order. No program stands here. -/
import Derived.Test.YtojiammendjpkaaGreatB06
import Derived.Deep.RegionLaw
import Derived.Deep.RegionHeld3
import Derived.Test.YtojiammendjpkaaGreatB04
import Derived.Test.YtojiammendjpkaaGreatB03
import Derived.BigQuiet
import Derived.Deep.QuietTactic
import Derived.Test.YtojiammendjpkaaGreatB01
section
set_option linter.unusedSimpArgs false
set_option linter.unusedVariables false
namespace Go.Proofs.YtojiammendjpkaaGreat
open Go Go.RowKit Go.Proofs
/-- The position of the head behind so many steps. -/
def posI (m : MachD) (c : ConfD) : Nat → Int
  | 0 => 0
  | t + 1 => posI m c t + (lookI m (cfgI m c t)).m
/-- The symbol of a configuration at a distance from its head. -/
def cellC (c : ConfD) (z : Int) : Int := if 0 ≤ z then c.r.getD z.toNat 0 else c.l.getD (-1 - z).toNat 0
theorem pushL_getD (s : Int) (xs : List Int) (i : Nat) : (pushL s xs).getD i 0 = (s :: xs).getD i 0 := by
  unfold pushL
  split
  · rename_i h
    obtain ⟨rfl, rfl⟩ := h
    cases i <;> simp
  · rfl
theorem drop1_getD (xs : List Int) (i : Nat) : (xs.drop 1).getD i 0 = xs.getD (i + 1) 0 := by
  simp [List.getD_eq_getElem?_getD, Nat.add_comm]
theorem cell_step {ru : RuleD} (hm : ru.m = 1 ∨ ru.m = -1) (c : ConfD) (z : Int) : cellC (stepI ru c) (z - ru.m) = if z = 0 then ru.w else cellC c z := by
  rcases hm with h | h
  · have e : stepI ru c = ⟨ru.n, pushL ru.w c.l, c.r.drop 1⟩ := by unfold stepI; rw [if_pos (by omega)]
    rw [e, h]
    unfold cellC
    simp only
    by_cases h0 : z = 0
    · subst h0
      rw [if_neg (by omega), if_pos rfl, pushL_getD]
      rfl
    · rw [if_neg h0]
      by_cases h1 : 0 ≤ z
      · rw [if_pos (show 0 ≤ z - 1 by omega), if_pos h1, drop1_getD]
        congr 1
        omega
      · rw [if_neg (show ¬ 0 ≤ z - 1 by omega), if_neg h1, pushL_getD]
        obtain ⟨k, hk⟩ : ∃ k : Nat, (-1 - (z - 1)).toNat = k + 1 := ⟨(-1 - z).toNat, by omega⟩
        rw [hk, List.getD_cons_succ]
        congr 1
        omega
  · have e : stepI ru c = ⟨ru.n, c.l.drop 1, pushL (hdD c.l) (pushL ru.w (c.r.drop 1))⟩ := by unfold stepI; rw [if_neg (by omega)]
    rw [e, h]
    unfold cellC
    simp only
    by_cases h0 : z = 0
    · subst h0
      rw [if_pos (by omega), if_pos rfl, pushL_getD]
      have : (0 - (-1 : Int)).toNat = 0 + 1 := by omega
      rw [this, List.getD_cons_succ, pushL_getD]
      rfl
    · rw [if_neg h0]
      by_cases h1 : 0 ≤ z
      · rw [if_pos (show 0 ≤ z - -1 by omega), if_pos h1, pushL_getD]
        obtain ⟨k, hk⟩ : ∃ k : Nat, z.toNat = k + 1 := ⟨z.toNat - 1, by omega⟩
        have : (z - -1).toNat = (k + 1) + 1 := by omega
        rw [this, List.getD_cons_succ, pushL_getD, List.getD_cons_succ, drop1_getD, hk]
      · rw [if_neg h1]
        by_cases h2 : z = -1
        · subst h2
          rw [if_pos (by omega), pushL_getD]
          rfl
        · rw [if_neg (show ¬ 0 ≤ z - -1 by omega), drop1_getD]
          congr 1
          omega
theorem hd_cell (c : ConfD) : hdD c.r = cellC c 0 := by simp [hdD, cellC]
theorem look_cell (m : MachD) {c e : ConfD} (hq : c.q = e.q) (hc : cellC c 0 = cellC e 0) : lookI m c = lookI m e := by
  unfold lookI
  rw [hd_cell, hd_cell, hq, hc]
theorem look_move {m : MachD} (hm : machOk m = true) {c : ConfD} (hc : IGood m c) (hn : ¬ lookI m c = noR) : (lookI m c).m = 1 ∨ (lookI m c).m = -1 := by
  obtain ⟨_, _, hall⟩ := machOk_five hm
  obtain ⟨k, hk, e⟩ := hc.idx hm
  rw [lookI_get hk e] at hn ⊢
  have hq := hall _ (List.getElem_mem hk)
  simp only [ruleOk, hn, decide_false, Bool.false_or, Bool.and_eq_true, Bool.or_eq_true, beq_iff_eq] at hq
  exact hq.1.2
/-- Two configurations agree on a set of places, seen from two heads at the same place u. -/
structure Mt (D : Int → Prop) (u : Int) (c e : ConfD) : Prop where
  q : c.q = e.q
  at_ : ∀ z, D z → cellC c (z - u) = cellC e (z - u)
theorem Mt.look {D : Int → Prop} {u : Int} {c e : ConfD} (h : Mt D u c e) (hu : D u) (m : MachD) : lookI m c = lookI m e :=
  look_cell m h.q (by have := h.at_ u hu; rwa [Int.sub_self] at this)
theorem Mt.step {D : Int → Prop} {u : Int} {c e : ConfD} (h : Mt D u c e) {ru : RuleD} (hm : ru.m = 1 ∨ ru.m = -1) : Mt D (u + ru.m) (stepI ru c) (stepI ru e) := by
  refine ⟨?_, fun z hz => ?_⟩
  · unfold stepI
    split <;> rfl
  · have e1 : z - (u + ru.m) = (z - u) - ru.m := by omega
    rw [e1, cell_step hm, cell_step hm, h.at_ z hz]
section
variable {m : MachD} (hm : machOk m = true) {c0 : ConfD} (hc0 : IGood m c0) {a b : Nat} {d : Int} {D : Int → Prop}
include hm hc0
end
/-- No blanks at the end. -/
def tidyL (xs : List Int) : Prop := xs = [] ∨ xs.getLastD 0 ≠ 0
theorem tidy_drop {xs : List Int} (h : tidyL xs) : tidyL (xs.drop 1) := by
  cases xs with
  | nil => exact .inl rfl
  | cons a l =>
    cases l with
    | nil => exact .inl rfl
    | cons b l =>
      right
      rcases h with h | h
      · cases h
      · simpa using h
theorem tidy_push {s : Int} {xs : List Int} (h : tidyL xs) : tidyL (pushL s xs) := by
  unfold pushL
  split
  · exact .inl rfl
  · rename_i hn
    right
    cases xs with
    | nil => simp at hn; simpa using hn
    | cons a l =>
      rcases h with h | h
      · cases h
      · simpa using h
theorem tidy_step {ru : RuleD} {c : ConfD} (h : tidyL c.l ∧ tidyL c.r) : tidyL (stepI ru c).l ∧ tidyL (stepI ru c).r := by
  unfold stepI
  split
  · exact ⟨tidy_push h.1, tidy_drop h.2⟩
  · exact ⟨tidy_drop h.1, tidy_push (tidy_push (tidy_drop h.2))⟩
theorem tidy_cfg {m : MachD} {c : ConfD} (h : tidyL c.l ∧ tidyL c.r) : ∀ n, tidyL (cfgI m c n).l ∧ tidyL (cfgI m c n).r := by
  intro n
  induction n with
  | zero => exact h
  | succ n ih => exact tidy_step ih
end Go.Proofs.YtojiammendjpkaaGreat
end
section
namespace Go.Proofs.YtojiammendjpkaaGreat
open Go Go.RowKit Go.Proofs
set_option maxHeartbeats 400000
/-- The end of a draw: the machine is stored as the result. -/
theorem MRes.of {B b n n' c g : Nat} {w w2 : World} {m : MachD} {rv : Value} {base : Nat} {cs : Array Value} (hs : Src B w2 b n') (hn : n' ≤ n + c) (hg : w.grownBy w2 (some b)) (hB : B ≤ g) (hbl : b < g) (hgw : w.heap.size = g) (ho : OwnRules base w2 rv m.rules) (hbase : g ≤ base) (hb : Blk w2 g 26 cs) (hl : 0 < m.rules.length ∧ m.rules.length ≤ 600 ∧ machOk m = true) :
    MRes B w b n c (.returned (.agg #[.int .i64 m.sy, .int .i64 m.st, rv])) (((w2.setCell ⟨g, 0, none⟩ (.int .i64 m.sy)).setCell ⟨g, 1, none⟩ (.int .i64 m.st)).setCell ⟨g, 2, none⟩ rv) := by
  obtain ⟨r1, r2, r3⟩ := done3 hs hg hB hbl hgw ho hb (.int .i64 m.sy) (.int .i64 m.st) rv
  exact ⟨⟨m, rv, rfl, ownsRow_base r3 (by omega), hl.1, hl.2.1, hl.2.2⟩, r1.mono hn, r2⟩
end Go.Proofs.YtojiammendjpkaaGreat
namespace Go.Proofs.YtojiammendjpkaaGreat
open Go Go.RowKit Go.Proofs
set_option maxHeartbeats 400000
/-- A machine that is drawn, of any length. -/
def MRes0 (B : Nat) (w : World) (b n c : Nat) (e : Ending) (w' : World) : Prop :=
  (∃ (m : MachD) (rv : Value), e = .returned (.agg #[.int .i64 m.sy, .int .i64 m.st, rv]) ∧ OwnRules w.heap.size w' rv m.rules) ∧ Src B w' b (n + c) ∧ w.grownBy w' (some b)
theorem MRes.zero {B : Nat} {w : World} {b n c c' : Nat} {e : Ending} {w' : World} (h : MRes B w b n c e w') (hc : c ≤ c') : MRes0 B w b n c' e w' := by
  obtain ⟨⟨m, rv, he, ho, _, _⟩, hs, hg⟩ := h
  exact ⟨⟨m, rv, he, ho⟩, hs.mono (by omega), hg⟩
theorem MRes0.of {B b n n' c g : Nat} {w w2 : World} {sy st : Int} {rs : List RuleD} {rv : Value} {base : Nat} {cs : Array Value} (hs : Src B w2 b n') (hn : n' ≤ n + c) (hg : w.grownBy w2 (some b)) (hB : B ≤ g) (hbl : b < g) (hgw : w.heap.size ≤ g) (ho : OwnRules base w2 rv rs) (hbase : w.heap.size ≤ base) (hb : Blk w2 g 26 cs) :
    MRes0 B w b n c (.returned (.agg #[.int .i64 sy, .int .i64 st, rv])) (((w2.setCell ⟨g, 0, none⟩ (.int .i64 sy)).setCell ⟨g, 1, none⟩ (.int .i64 st)).setCell ⟨g, 2, none⟩ rv) := by
  have e : ∀ k, some g = some k → B ≤ k ∧ k ≠ b := fun k hk => by injection hk with hk; subst hk; exact ⟨hB, by omega⟩
  have e' : ∀ k, some g = some k → w.heap.size ≤ k ∨ some b = some k := fun k hk => by injection hk with hk; subst hk; exact .inl hgw
  have hfar := own_far_blk ho hb (by decide)
  have r1 := ((hs.kept (set_grownBy w2 ⟨g, 0, none⟩ (.int .i64 sy)) e).kept (set_grownBy _ ⟨g, 1, none⟩ (.int .i64 st)) e).kept (set_grownBy _ ⟨g, 2, none⟩ rv) e
  have r2 := grownBy_step (grownBy_step (grownBy_step hg (set_grownBy w2 ⟨g, 0, none⟩ (.int .i64 sy)) e') (set_grownBy _ ⟨g, 1, none⟩ (.int .i64 st)) e') (set_grownBy _ ⟨g, 2, none⟩ rv) e'
  have r3 := ownsRow_far (p := ⟨g, 2, none⟩) (ownsRow_far (p := ⟨g, 1, none⟩) (ownsRow_far (p := ⟨g, 0, none⟩) ho hfar (.int .i64 sy)) hfar (.int .i64 st)) hfar rv
  exact ⟨⟨⟨sy, st, rs⟩, rv, rfl, ownsRow_base r3 hbase⟩, r1.mono hn, r2⟩
/-- What is known while a machine is bent: the result's block, the machine's block, its rules. -/
structure BendSt (B b g go : Nat) (w0 : World) (n : Nat) (sy st : Int) (rs : List RuleD) (rv : Value) (w : World) : Prop where
  res : Blk w g 26 #[.int .i64 0, .int .i64 0, .slice none 0 0]
  mac : Blk w go 26 #[.int .i64 sy, .int .i64 st, rv]
  own : OwnRules w0.heap.size w rv rs
  src : Src B w b n
  grown : w0.grownBy w (some b)
theorem BendSt.src' {B b g go : Nat} {w0 : World} {n n' : Nat} {sy st : Int} {rs : List RuleD} {rv : Value} {w w' : World} (h : BendSt B b g go w0 n sy st rs rv w) (hs : Src B w' b n') (hg : w.grownBy w' (some b)) : BendSt B b g go w0 n' sy st rs rv w' :=
  ⟨blk_src h.src hg h.res (by decide), blk_src h.src hg h.mac (by decide), own_src h.src hg h.own (by decide), hs, grownBy_trans h.grown hg⟩
theorem BendSt.ext {B b g go : Nat} {w0 : World} {n : Nat} {sy st : Int} {rs : List RuleD} {rv : Value} {w w' : World} (h : BendSt B b g go w0 n sy st rs rv w) (he : Ext w w') : BendSt B b g go w0 n sy st rs rv w' :=
  ⟨h.res.ext he, h.mac.ext he, OwnRules.ext h.own he, h.src.ext he, grownBy_trans h.grown (ext_grownBy he _)⟩
theorem rvs_set0 : ∀ (rs : List RuleD) (k : Nat) (z : Int) (h : k < rs.length), (rvs rs).set (k * 3) (.int .i64 z) = rvs (rs.set k ⟨z, rs[k].m, rs[k].n⟩)
  | r :: rs, 0, z, _ => by simp [rvs]
  | r :: rs, k + 1, z, h => by
    have ih := rvs_set0 rs k z (by simpa using h)
    simp only [rvs, List.flatMap_cons, List.set_cons_succ, List.getElem_cons_succ] at ih ⊢
    rw [show (k + 1) * 3 = k * 3 + 1 + 1 + 1 by omega]
    simp only [List.cons_append, List.nil_append, List.set_cons_succ]
    rw [ih]
theorem rvs_set1 : ∀ (rs : List RuleD) (k : Nat) (z : Int) (h : k < rs.length), (rvs rs).set (k * 3 + 1) (.int .i64 z) = rvs (rs.set k ⟨rs[k].w, z, rs[k].n⟩)
  | r :: rs, 0, z, _ => by simp [rvs]
  | r :: rs, k + 1, z, h => by
    have ih := rvs_set1 rs k z (by simpa using h)
    simp only [rvs, List.flatMap_cons, List.set_cons_succ, List.getElem_cons_succ] at ih ⊢
    rw [show (k + 1) * 3 + 1 = k * 3 + 1 + 1 + 1 + 1 by omega]
    simp only [List.cons_append, List.nil_append, List.set_cons_succ]
    rw [ih]
theorem rvs_set2 : ∀ (rs : List RuleD) (k : Nat) (z : Int) (h : k < rs.length), (rvs rs).set (k * 3 + 2) (.int .i64 z) = rvs (rs.set k ⟨rs[k].w, rs[k].m, z⟩)
  | r :: rs, 0, z, _ => by simp [rvs]
  | r :: rs, k + 1, z, h => by
    have ih := rvs_set2 rs k z (by simpa using h)
    simp only [rvs, List.flatMap_cons, List.set_cons_succ, List.getElem_cons_succ] at ih ⊢
    rw [show (k + 1) * 3 + 2 = k * 3 + 2 + 1 + 1 + 1 by omega]
    simp only [List.cons_append, List.nil_append, List.set_cons_succ]
    rw [ih]
section
variable {B b g go : Nat} {w0 : World} {n : Nat} {sy st : Int} {rs : List RuleD} {rv : Value} {w : World}
/-- A field of a rule is written. -/
theorem BendSt.field {gr c : Nat} {qs : List RuleD} (h : BendSt B b g go w0 n sy st rs (.slice (some ⟨gr, 0, none⟩) rs.length c) w) (hbw : b < w0.heap.size) (hB : B ≤ w0.heap.size) (j : Nat) (u : Value) (hq : (rvs rs).set j u = rvs qs) (hl : qs.length = rs.length) :
    BendSt B b g go w0 n sy st qs (.slice (some ⟨gr, 0, none⟩) rs.length c) (w.setCell ⟨gr, j, none⟩ u) := by
  have hlt := h.own.lt gr rfl
  have n1 := own_far_blk h.own h.res (by decide) gr rfl
  have n2 := own_far_blk h.own h.mac (by decide) gr rfl
  refine ⟨h.res.far (by simpa using fun e => n1 e.symm) _, h.mac.far (by simpa using fun e => n2 e.symm) _, ?_, h.src.kept (set_grownBy _ _ _) (fun k hk => by injection hk with hk; subst hk; exact ⟨by simp; omega, by simp; omega⟩), grownBy_step h.grown (set_grownBy _ _ _) (fun k hk => by injection hk with hk; subst hk; exact .inl (by simp; omega))⟩
  have := (World.ownsRow.stored h.own j u).1
  rw [hq] at this
  unfold OwnRules
  rw [hl]
  exact this
end
end Go.Proofs.YtojiammendjpkaaGreat
namespace Go.Proofs.YtojiammendjpkaaGreat
open Go Go.RowKit Go.Proofs
set_option maxHeartbeats 400000
theorem BendSt.fieldN {B b g go : Nat} {w0 : World} {n : Nat} {sy st : Int} {rs : List RuleD} {w : World} {gr c N : Nat} {qs : List RuleD} (hN : rs.length = N) (h : BendSt B b g go w0 n sy st rs (.slice (some ⟨gr, 0, none⟩) N c) w) (hbw : b < w0.heap.size) (hB : B ≤ w0.heap.size) (j : Nat) (u : Value) (hq : (rvs rs).set j u = rvs qs) (hl : qs.length = N) :
    BendSt B b g go w0 n sy st qs (.slice (some ⟨gr, 0, none⟩) N c) (w.setCell ⟨gr, j, none⟩ u) := by
  subst hN
  exact h.field hbw hB j u hq hl
/-- A rule is written whole. -/
theorem BendSt.rule {B b g go : Nat} {w0 : World} {n : Nat} {sy st : Int} {rs : List RuleD} {w : World} {gr c N : Nat} (hN : rs.length = N) (h : BendSt B b g go w0 n sy st rs (.slice (some ⟨gr, 0, none⟩) N c) w) (hbw : b < w0.heap.size) (hB : B ≤ w0.heap.size) (k : Nat) (hk : k < N) (x y z : Int) :
    BendSt B b g go w0 n sy st (rs.set k ⟨x, y, z⟩) (.slice (some ⟨gr, 0, none⟩) N c) (((w.setCell ⟨gr, k * 3, none⟩ (.int .i64 x)).setCell ⟨gr, k * 3 + 1, none⟩ (.int .i64 y)).setCell ⟨gr, k * 3 + 2, none⟩ (.int .i64 z)) := by
  have s1 := BendSt.fieldN hN h hbw hB (k * 3) (.int .i64 x) (rvs_set0 rs k x (by omega)) (by simpa using hN)
  have l1 : (rs.set k ⟨x, rs[k].m, rs[k].n⟩).length = N := by simpa using hN
  have s2 := BendSt.fieldN l1 s1 hbw hB (k * 3 + 1) (.int .i64 y) (rvs_set1 _ k y (by omega)) (by simpa using hN)
  have l2 : ((rs.set k ⟨x, rs[k].m, rs[k].n⟩).set k ⟨((rs.set k ⟨x, rs[k].m, rs[k].n⟩)[k]'(by omega)).w, y, ((rs.set k ⟨x, rs[k].m, rs[k].n⟩)[k]'(by omega)).n⟩).length = N := by simpa using hN
  have s3 := BendSt.fieldN l2 s2 hbw hB (k * 3 + 2) (.int .i64 z) (rvs_set2 _ k z (by omega)) (by simpa using hN)
  simpa [List.set_set] using s3
end Go.Proofs.YtojiammendjpkaaGreat
namespace Go.Proofs.YtojiammendjpkaaGreat
open Go Go.RowKit Go.Proofs
set_option maxHeartbeats 400000
structure DecSt (w : World) (b n : Nat) (wr : World) : Prop where
  res : Blk wr w.heap.size 26 #[.int .i64 0, .int .i64 0, .slice none 0 0]
  src : Src (w.heap.size + 1) wr b n
  ext : Ext w wr
theorem DecSt.done {w : World} {b n base : Nat} {wr : World} {m : MachD} {rv : Value} (h : DecSt w b n wr) (ho : OwnRules base wr rv m.rules) (hbase : w.heap.size ≤ base) :
    OwnRules w.heap.size (((wr.setCell ⟨w.heap.size, 0, none⟩ (.int .i64 m.sy)).setCell ⟨w.heap.size, 1, none⟩ (.int .i64 m.st)).setCell ⟨w.heap.size, 2, none⟩ rv) rv m.rules ∧
    Ext w (((wr.setCell ⟨w.heap.size, 0, none⟩ (.int .i64 m.sy)).setCell ⟨w.heap.size, 1, none⟩ (.int .i64 m.st)).setCell ⟨w.heap.size, 2, none⟩ rv) := by
  have hfar := own_far_blk ho h.res (by decide)
  refine ⟨ownsRow_base (ownsRow_far (ownsRow_far (ownsRow_far ho hfar _) hfar _) hfar _) hbase, ?_⟩
  exact ((h.ext.setCell (Nat.le_refl _) _).setCell (Nat.le_refl _) _).setCell (Nat.le_refl _) _
end Go.Proofs.YtojiammendjpkaaGreat
end
section
namespace Go.Proofs.YtojiammendjpkaaGreat
open Go
section
variable {P : Program} {ops : Array Oper} {md : Region.Mode} {C : World → Prop} {Post : Value → World → Prop}
/-- What is asked of the one operation that stirs, by what it comes to. -/
def stirUpon (P : Program) (K : Value → World → Prop) : Result Next → Prop
  | .ok (.value v) w' => K v w'
  | .ok .skip w' => K undef w'
  | .ok (.enter f args) w' => Calls P f args w' (fun e w'' => ∃ v, e = .returned v ∧ K v w'')
  | _ => False
def stirAt (P : Program) (o : Oper) (a : Act) (w : World) (K : Value → World → Prop) : Prop := stirUpon P K ((execOp a.eval o).run P w)
theorem stirAt.wp {o : Oper} {a : Act} {w : World} {K : Value → World → Prop} {K' : Act → World → Prop} {Q : Exit → Act → World → Prop} (h : stirAt P o a w K) (hk : ∀ u w', K u w' → K' (a.put o.dst u) w') : o.wp P a w K' Q := by
  unfold stirAt at h
  unfold Oper.wp
  generalize (execOp a.eval o).run P w = r at *
  cases r with
  | ok n w' =>
    cases n <;> simp only [stirUpon] at h <;> simp only [Oper.upon]
    case value v => exact hk _ _ h
    case skip => exact hk _ _ h
    case enter f args => exact Calls.mono h fun e w'' ⟨v, he, hv⟩ => by subst he; exact hk _ _ hv
  | halt x w' => simp only [stirUpon] at h
theorem stirAt.some {o : Oper} {a : Act} {w : World} {K : Value → World → Prop} (h : stirAt P o a w K) : ∃ u w', K u w' := by
  unfold stirAt at h
  generalize (execOp a.eval o).run P w = r at *
  cases r with
  | ok n w' =>
    cases n <;> simp only [stirUpon] at h
    case value v => exact ⟨_, _, h⟩
    case skip => exact ⟨_, _, h⟩
    case enter f args =>
      obtain ⟨e, w'', fr, ⟨v, _, hv⟩, _⟩ := h []
      exact ⟨_, _, hv⟩
  | halt x w' => simp only [stirUpon] at h
end
end Go.Proofs.YtojiammendjpkaaGreat
namespace Go.Proofs.YtojiammendjpkaaGreat
open Go Go.RowKit
end Go.Proofs.YtojiammendjpkaaGreat
end
