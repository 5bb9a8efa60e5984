/- Contracts of the program's sorted list and of its test whether a list is an order of the numbers below n.
Contracts of the reference's draws of machines, continued: a machine that is valid, one that may be bent.
Contracts of the reference's draws of machines, continued: a machine is bent.
Contracts of the reference's draws of machines, continued: any machine, a small machine, a machine that is decided.
Contract of the reference's draw of a machine that is decided. -/
import Derived.Test.YtcebkjiafjmjfaaGreatDoorP27
import Derived.Test.YtcebkjiafjmjfaaGreatDoorP04
import Derived.Sort.OwnSortedInts
import Derived.Test.YtcebkjiafjmjfaaGreatDoorP21
import Derived.Deep.RegionLaw
import Derived.Deep.RegionHeld3
section
set_option linter.unusedSimpArgs false
set_option linter.unusedVariables false
namespace Go.Proofs.YtcebkjiafjmjfaaGreatDoor
open Go Go.RowKit Go.Proofs
set_option maxHeartbeats 400000
/-- A list, sorted. -/
def sortL (zs : List Int) : List Int := zs.mergeSort fun x y => decide (x ≤ y)
theorem sortL_len (zs : List Int) : (sortL zs).length = zs.length := List.length_mergeSort zs
/-- Is a list an order of the numbers below n. -/
def isOrd (order : List Int) (n : Int) : Bool := decide ((order.length : Int) = n) && decide (sortL order = upL order.length)
theorem upL_get (n k : Nat) (h : k < n) : (upL n)[k]'(by rw [upL_len]; exact h) = (k : Int) := by simp [upL]
end Go.Proofs.YtcebkjiafjmjfaaGreatDoor
end
section
namespace Go.Proofs.YtcebkjiafjmjfaaGreatDoor
open Go Go.RowKit Go.Proofs
set_option maxHeartbeats 400000
/-- The end of a draw: the machine is stored as the result. -/
theorem MRes.of {B b n n' c g : Nat} {w w2 : World} {m : MachD} {rv : Value} {base : Nat} {cs : Array Value} (hs : Src B w2 b n') (hn : n' ≤ n + c) (hg : w.grownBy w2 (some b)) (hB : B ≤ g) (hbl : b < g) (hgw : w.heap.size = g) (ho : OwnRules base w2 rv m.rules) (hbase : g ≤ base) (hb : Blk w2 g 26 cs) (hl : 0 < m.rules.length ∧ m.rules.length ≤ 600 ∧ machOk m = true) :
    MRes B w b n c (.returned (.agg #[.int .i64 m.sy, .int .i64 m.st, rv])) (((w2.setCell ⟨g, 0, none⟩ (.int .i64 m.sy)).setCell ⟨g, 1, none⟩ (.int .i64 m.st)).setCell ⟨g, 2, none⟩ rv) := by
  obtain ⟨r1, r2, r3⟩ := done3 hs hg hB hbl hgw ho hb (.int .i64 m.sy) (.int .i64 m.st) rv
  exact ⟨⟨m, rv, rfl, ownsRow_base r3 (by omega), hl.1, hl.2.1, hl.2.2⟩, r1.mono hn, r2⟩
set_option maxHeartbeats 2000000 in
theorem l05DrawOk_c (B b n : Nat) (w : World) (h : Src B w b n) (hB : B ≤ w.heap.size) (hn : n ≤ 100000000) :
    Calls Tryz.prog 14 #[.pointer (some ⟨b, 0, none⟩)] w (MRes B w b n 600) := by
  have hbl := h.lt
  obtain ⟨W, hW⟩ : ∃ W, W = w.alloc (.cells #[.int .i64 0, .int .i64 0, .slice none 0 0] 26) := ⟨_, rfl⟩
  have hX : Ext w W := by rw [hW]; exact Ext.alloc _ _
  have bR : Blk W w.heap.size 26 #[.int .i64 0, .int .i64 0, .slice none 0 0] := by rw [hW]; exact Blk.new _ _ _ _ rfl
  have hsW := h.ext hX
  go_enter Tryz.func14, Tryz.ntmps14
  go_wp2_with fail
  rw [← hW]
  clear hW
  refine (one_c B b n 4 W hsW (by omega)).mono ?_
  rintro e w1 ⟨⟨q, rfl⟩, hs1, hg1⟩
  have hW1 : w.grownBy w1 (some b) := grownBy_trans (ext_grownBy hX _) hg1
  have b1 := blk_src hsW hg1 bR (by decide)
  have z1 := hW1.size
  generalize hg : w.heap.size = g at *
  have HG := Lib.hid hg
  clear hg
  cases q with
  | true =>
    go_wp2_with fail
    refine (l05Known_c B b (n + 2) w1 hs1 (by omega) (by omega)).mono ?_
    rintro e w2 ⟨⟨m, rv, rfl, ho, hl⟩, hs2, hg2⟩
    have b2 := blk_src hs1 hg2 b1 (by decide)
    have d := b2.cell
    have f := b2.frozen
    obtain ⟨A, c, rfl, _, _, _⟩ := (ownsRow_row ho).form
    go_wp2
    refine bodyPost_ret (v := .agg #[.int .i64 m.sy, .int .i64 m.st, .slice A m.rules.length c]) ?_ rfl (MRes.of hs2 (by omega) (grownBy_trans hW1 hg2) hB hbl HG.out ho (by omega) b2 hl)
    simp [results, Tryz.results14, go_sem, d]
  | false =>
    go_wp2_with fail
    refine (one_c B b _ 4 w1 hs1 (by omega)).mono ?_
    rintro e w2 ⟨⟨q, rfl⟩, hs2, hg2⟩
    have b2 := blk_src hs1 hg2 b1 (by decide)
    have hW2 := grownBy_trans hW1 hg2
    have z2 := hg2.size
    cases q with
    | true =>
      go_wp2_with fail
      refine (pick_c B b _ 3 w2 hs2 (by omega)).mono ?_
      rintro e w3 ⟨⟨x, rfl, x0, _, x2⟩, hs3, hg3⟩
      have x3 := x2 (by omega)
      have b3 := blk_src hs2 hg3 b2 (by decide)
      have hW3 := grownBy_trans hW2 hg3
      have z3 := hg3.size
      go_wp2_with fail
      refine (pick_c B b _ 4 w3 hs3 (by omega)).mono ?_
      rintro e w4 ⟨⟨y, rfl, y0, _, y2⟩, hs4, hg4⟩
      have y3 := y2 (by omega)
      have b4 := blk_src hs3 hg4 b3 (by decide)
      have hW4 := grownBy_trans hW3 hg4
      have z4 := hg4.size
      go_wp2_with fail
      refine (l05DrawSize_m B b _ (2 + x) (1 + y) w4 hs4 (by omega) (by omega) (by omega) (by omega) (by omega) (by omega)).mono ?_
      rintro e w5 ⟨⟨m, rv, rfl, ho, hl⟩, hs5, hg5⟩
      have b5 := blk_src hs4 hg5 b4 (by decide)
      have d := b5.cell
      have f := b5.frozen
      obtain ⟨A, c, rfl, _, _, _⟩ := (ownsRow_row ho).form
      go_wp2
      refine bodyPost_ret (v := .agg #[.int .i64 m.sy, .int .i64 m.st, .slice A m.rules.length c]) ?_ rfl (MRes.of hs5 (by omega) (grownBy_trans hW4 hg5) hB hbl HG.out ho (by omega) b5 hl)
      simp [results, Tryz.results14, go_sem, d]
    | false =>
      go_wp2_with fail
      refine (pick_c B b _ 4 w2 hs2 (by omega)).mono ?_
      rintro e w4 ⟨⟨y, rfl, y0, _, y2⟩, hs4, hg4⟩
      have y3 := y2 (by omega)
      have b4 := blk_src hs2 hg4 b2 (by decide)
      have hW4 := grownBy_trans hW2 hg4
      have z4 := hg4.size
      go_wp2_with fail
      refine (l05DrawSize_m B b _ 2 (1 + y) w4 hs4 (by omega) (by omega) (by omega) (by omega) (by omega) (by omega)).mono ?_
      rintro e w5 ⟨⟨m, rv, rfl, ho, hl⟩, hs5, hg5⟩
      have b5 := blk_src hs4 hg5 b4 (by decide)
      have d := b5.cell
      have f := b5.frozen
      obtain ⟨A, c, rfl, _, _, _⟩ := (ownsRow_row ho).form
      go_wp2
      refine bodyPost_ret (v := .agg #[.int .i64 m.sy, .int .i64 m.st, .slice A m.rules.length c]) ?_ rfl (MRes.of hs5 (by omega) (grownBy_trans hW4 hg5) hB hbl HG.out ho (by omega) b5 hl)
      simp [results, Tryz.results14, go_sem, d]
end Go.Proofs.YtcebkjiafjmjfaaGreatDoor
namespace Go.Proofs.YtcebkjiafjmjfaaGreatDoor
open Go Go.RowKit Go.Proofs
set_option maxHeartbeats 400000
/-- A machine that is drawn, of any length. -/
def MRes0 (B : Nat) (w : World) (b n c : Nat) (e : Ending) (w' : World) : Prop :=
  (∃ (m : MachD) (rv : Value), e = .returned (.agg #[.int .i64 m.sy, .int .i64 m.st, rv]) ∧ OwnRules w.heap.size w' rv m.rules) ∧ Src B w' b (n + c) ∧ w.grownBy w' (some b)
theorem MRes.zero {B : Nat} {w : World} {b n c c' : Nat} {e : Ending} {w' : World} (h : MRes B w b n c e w') (hc : c ≤ c') : MRes0 B w b n c' e w' := by
  obtain ⟨⟨m, rv, he, ho, _, _⟩, hs, hg⟩ := h
  exact ⟨⟨m, rv, he, ho⟩, hs.mono (by omega), hg⟩
theorem MRes0.of {B b n n' c g : Nat} {w w2 : World} {sy st : Int} {rs : List RuleD} {rv : Value} {base : Nat} {cs : Array Value} (hs : Src B w2 b n') (hn : n' ≤ n + c) (hg : w.grownBy w2 (some b)) (hB : B ≤ g) (hbl : b < g) (hgw : w.heap.size ≤ g) (ho : OwnRules base w2 rv rs) (hbase : w.heap.size ≤ base) (hb : Blk w2 g 26 cs) :
    MRes0 B w b n c (.returned (.agg #[.int .i64 sy, .int .i64 st, rv])) (((w2.setCell ⟨g, 0, none⟩ (.int .i64 sy)).setCell ⟨g, 1, none⟩ (.int .i64 st)).setCell ⟨g, 2, none⟩ rv) := by
  have e : ∀ k, some g = some k → B ≤ k ∧ k ≠ b := fun k hk => by injection hk with hk; subst hk; exact ⟨hB, by omega⟩
  have e' : ∀ k, some g = some k → w.heap.size ≤ k ∨ some b = some k := fun k hk => by injection hk with hk; subst hk; exact .inl hgw
  have hfar := own_far_blk ho hb (by decide)
  have r1 := ((hs.kept (set_grownBy w2 ⟨g, 0, none⟩ (.int .i64 sy)) e).kept (set_grownBy _ ⟨g, 1, none⟩ (.int .i64 st)) e).kept (set_grownBy _ ⟨g, 2, none⟩ rv) e
  have r2 := grownBy_step (grownBy_step (grownBy_step hg (set_grownBy w2 ⟨g, 0, none⟩ (.int .i64 sy)) e') (set_grownBy _ ⟨g, 1, none⟩ (.int .i64 st)) e') (set_grownBy _ ⟨g, 2, none⟩ rv) e'
  have r3 := ownsRow_far (p := ⟨g, 2, none⟩) (ownsRow_far (p := ⟨g, 1, none⟩) (ownsRow_far (p := ⟨g, 0, none⟩) ho hfar (.int .i64 sy)) hfar (.int .i64 st)) hfar rv
  exact ⟨⟨⟨sy, st, rs⟩, rv, rfl, ownsRow_base r3 hbase⟩, r1.mono hn, r2⟩
/-- What is known while a machine is bent: the result's block, the machine's block, its rules. -/
structure BendSt (B b g go : Nat) (w0 : World) (n : Nat) (sy st : Int) (rs : List RuleD) (rv : Value) (w : World) : Prop where
  res : Blk w g 26 #[.int .i64 0, .int .i64 0, .slice none 0 0]
  mac : Blk w go 26 #[.int .i64 sy, .int .i64 st, rv]
  own : OwnRules w0.heap.size w rv rs
  src : Src B w b n
  grown : w0.grownBy w (some b)
theorem BendSt.src' {B b g go : Nat} {w0 : World} {n n' : Nat} {sy st : Int} {rs : List RuleD} {rv : Value} {w w' : World} (h : BendSt B b g go w0 n sy st rs rv w) (hs : Src B w' b n') (hg : w.grownBy w' (some b)) : BendSt B b g go w0 n' sy st rs rv w' :=
  ⟨blk_src h.src hg h.res (by decide), blk_src h.src hg h.mac (by decide), own_src h.src hg h.own (by decide), hs, grownBy_trans h.grown hg⟩
theorem BendSt.ext {B b g go : Nat} {w0 : World} {n : Nat} {sy st : Int} {rs : List RuleD} {rv : Value} {w w' : World} (h : BendSt B b g go w0 n sy st rs rv w) (he : Ext w w') : BendSt B b g go w0 n sy st rs rv w' :=
  ⟨h.res.ext he, h.mac.ext he, OwnRules.ext h.own he, h.src.ext he, grownBy_trans h.grown (ext_grownBy he _)⟩
theorem own_lits {w : World} {base : Nat} (zs : List Int) (hb : base ≤ w.heap.size) (hl : zs.length ≤ 100) : OwnInts base (w.alloc (.cells (ivs zs).toArray 2)) (.slice (some ⟨w.heap.size, 0, none⟩) zs.length zs.length) zs :=
  ⟨by simp, .inr ⟨w.heap.size, zs.length, (ivs zs).toArray, rfl, hb, heap_alloc_new w _, Nat.le_refl _, by unfold maxLen; omega, by simp, by simp [List.take_of_length_le]⟩⟩
theorem rvs_set0 : ∀ (rs : List RuleD) (k : Nat) (z : Int) (h : k < rs.length), (rvs rs).set (k * 3) (.int .i64 z) = rvs (rs.set k ⟨z, rs[k].m, rs[k].n⟩)
  | r :: rs, 0, z, _ => by simp [rvs]
  | r :: rs, k + 1, z, h => by
    have ih := rvs_set0 rs k z (by simpa using h)
    simp only [rvs, List.flatMap_cons, List.set_cons_succ, List.getElem_cons_succ] at ih ⊢
    rw [show (k + 1) * 3 = k * 3 + 1 + 1 + 1 by omega]
    simp only [List.cons_append, List.nil_append, List.set_cons_succ]
    rw [ih]
theorem rvs_set1 : ∀ (rs : List RuleD) (k : Nat) (z : Int) (h : k < rs.length), (rvs rs).set (k * 3 + 1) (.int .i64 z) = rvs (rs.set k ⟨rs[k].w, z, rs[k].n⟩)
  | r :: rs, 0, z, _ => by simp [rvs]
  | r :: rs, k + 1, z, h => by
    have ih := rvs_set1 rs k z (by simpa using h)
    simp only [rvs, List.flatMap_cons, List.set_cons_succ, List.getElem_cons_succ] at ih ⊢
    rw [show (k + 1) * 3 + 1 = k * 3 + 1 + 1 + 1 + 1 by omega]
    simp only [List.cons_append, List.nil_append, List.set_cons_succ]
    rw [ih]
theorem rvs_set2 : ∀ (rs : List RuleD) (k : Nat) (z : Int) (h : k < rs.length), (rvs rs).set (k * 3 + 2) (.int .i64 z) = rvs (rs.set k ⟨rs[k].w, rs[k].m, z⟩)
  | r :: rs, 0, z, _ => by simp [rvs]
  | r :: rs, k + 1, z, h => by
    have ih := rvs_set2 rs k z (by simpa using h)
    simp only [rvs, List.flatMap_cons, List.set_cons_succ, List.getElem_cons_succ] at ih ⊢
    rw [show (k + 1) * 3 + 2 = k * 3 + 2 + 1 + 1 + 1 by omega]
    simp only [List.cons_append, List.nil_append, List.set_cons_succ]
    rw [ih]
theorem rvs_take (rs : List RuleD) (k : Nat) : (rvs rs).take (k * 3) = rvs (rs.take k) := by
  induction rs generalizing k with
  | nil => simp [rvs]
  | cons r rs ih =>
    cases k with
    | zero => simp [rvs]
    | succ k =>
      have := ih k
      simp only [rvs, List.flatMap_cons, List.take_succ_cons] at this ⊢
      rw [show (k + 1) * 3 = k * 3 + 1 + 1 + 1 by omega]
      simp only [List.cons_append, List.nil_append, List.take_succ_cons]
      rw [this]
/-- A shorter slice of the same row. -/
theorem OwnRules.cut {base : Nat} {w : World} {A : Option Addr} {c : Nat} {rs : List RuleD} (h : OwnRules base w (.slice A rs.length c) rs) {k : Nat} (hk : k ≤ rs.length) (h0 : 0 < rs.length) : OwnRules base w (.slice A k c) (rs.take k) := by
  have hl : (rs.take k).length = k := by simp; omega
  unfold OwnRules
  rw [hl, ← rvs_take]
  refine ⟨by rw [List.length_take, rvs_length]; omega, ?_⟩
  rcases h.2 with ⟨_, h1⟩ | ⟨g, cap, cur, hv, h1, h2, h3, h4, h5, h6⟩
  · omega
  · injection hv with e1 e2 e3
    subst e1
    subst e3
    refine .inr ⟨g, c, cur, rfl, h1, h2, by omega, h4, h5, ?_⟩
    rw [← h6, List.take_take]
    congr 1
    omega
section
variable {B b g go : Nat} {w0 : World} {n : Nat} {sy st : Int} {rs : List RuleD} {rv : Value} {w : World}
theorem BendSt.putAny (h : BendSt B b g go w0 n sy st rs rv w) (h1 : b ≠ go) (h2 : B ≤ go) (h3 : w0.heap.size ≤ go) (h4 : g ≠ go) (j : Nat) (u : Value) :
    Blk (w.setCell ⟨go, j, none⟩ u) g 26 #[.int .i64 0, .int .i64 0, .slice none 0 0] ∧ Src B (w.setCell ⟨go, j, none⟩ u) b n ∧ w0.grownBy (w.setCell ⟨go, j, none⟩ u) (some b) ∧
      (∀ {base : Nat} {v : Value} {qs : List RuleD}, OwnRules base w v qs → OwnRules base (w.setCell ⟨go, j, none⟩ u) v qs) :=
  ⟨h.res.far (by simpa using h4) _, h.src.kept (set_grownBy _ _ _) (fun k hk => by injection hk with hk; subst hk; exact ⟨h2, fun e => h1 e.symm⟩),
   grownBy_step h.grown (set_grownBy _ _ _) (fun k hk => by injection hk with hk; subst hk; exact .inl h3), fun ho => ownsRow_far (p := ⟨go, j, none⟩) ho (own_far_blk ho h.mac (by decide)) _⟩
theorem BendSt.put0 (h : BendSt B b g go w0 n sy st rs rv w) (h1 : b ≠ go) (h2 : B ≤ go) (h3 : w0.heap.size ≤ go) (h4 : g ≠ go) (z : Int) : BendSt B b g go w0 n z st rs rv (w.setCell ⟨go, 0, none⟩ (.int .i64 z)) := by
  obtain ⟨a1, a2, a3, a4⟩ := h.putAny h1 h2 h3 h4 0 (.int .i64 z)
  exact ⟨a1, h.mac.set_ 0 _, a4 h.own, a2, a3⟩
theorem BendSt.put1 (h : BendSt B b g go w0 n sy st rs rv w) (h1 : b ≠ go) (h2 : B ≤ go) (h3 : w0.heap.size ≤ go) (h4 : g ≠ go) (z : Int) : BendSt B b g go w0 n sy z rs rv (w.setCell ⟨go, 1, none⟩ (.int .i64 z)) := by
  obtain ⟨a1, a2, a3, a4⟩ := h.putAny h1 h2 h3 h4 1 (.int .i64 z)
  exact ⟨a1, h.mac.set_ 1 _, a4 h.own, a2, a3⟩
theorem BendSt.put2 (h : BendSt B b g go w0 n sy st rs rv w) (h1 : b ≠ go) (h2 : B ≤ go) (h3 : w0.heap.size ≤ go) (h4 : g ≠ go) {rv' : Value} {qs : List RuleD} (ho : OwnRules w0.heap.size w rv' qs) : BendSt B b g go w0 n sy st qs rv' (w.setCell ⟨go, 2, none⟩ rv') := by
  obtain ⟨a1, a2, a3, a4⟩ := h.putAny h1 h2 h3 h4 2 rv'
  exact ⟨a1, h.mac.set_ 2 _, a4 ho, a2, a3⟩
/-- A field of a rule is written. -/
theorem BendSt.field {gr c : Nat} {qs : List RuleD} (h : BendSt B b g go w0 n sy st rs (.slice (some ⟨gr, 0, none⟩) rs.length c) w) (hbw : b < w0.heap.size) (hB : B ≤ w0.heap.size) (j : Nat) (u : Value) (hq : (rvs rs).set j u = rvs qs) (hl : qs.length = rs.length) :
    BendSt B b g go w0 n sy st qs (.slice (some ⟨gr, 0, none⟩) rs.length c) (w.setCell ⟨gr, j, none⟩ u) := by
  have hlt := h.own.lt gr rfl
  have n1 := own_far_blk h.own h.res (by decide) gr rfl
  have n2 := own_far_blk h.own h.mac (by decide) gr rfl
  refine ⟨h.res.far (by simpa using fun e => n1 e.symm) _, h.mac.far (by simpa using fun e => n2 e.symm) _, ?_, h.src.kept (set_grownBy _ _ _) (fun k hk => by injection hk with hk; subst hk; exact ⟨by simp; omega, by simp; omega⟩), grownBy_step h.grown (set_grownBy _ _ _) (fun k hk => by injection hk with hk; subst hk; exact .inl (by simp; omega))⟩
  have := (World.ownsRow.stored h.own j u).1
  rw [hq] at this
  unfold OwnRules
  rw [hl]
  exact this
end
end Go.Proofs.YtcebkjiafjmjfaaGreatDoor
namespace Go.Proofs.YtcebkjiafjmjfaaGreatDoor
open Go Go.RowKit Go.Proofs
set_option maxHeartbeats 400000
theorem BendSt.fieldN {B b g go : Nat} {w0 : World} {n : Nat} {sy st : Int} {rs : List RuleD} {w : World} {gr c N : Nat} {qs : List RuleD} (hN : rs.length = N) (h : BendSt B b g go w0 n sy st rs (.slice (some ⟨gr, 0, none⟩) N c) w) (hbw : b < w0.heap.size) (hB : B ≤ w0.heap.size) (j : Nat) (u : Value) (hq : (rvs rs).set j u = rvs qs) (hl : qs.length = N) :
    BendSt B b g go w0 n sy st qs (.slice (some ⟨gr, 0, none⟩) N c) (w.setCell ⟨gr, j, none⟩ u) := by
  subst hN
  exact h.field hbw hB j u hq hl
/-- A rule is written whole. -/
theorem BendSt.rule {B b g go : Nat} {w0 : World} {n : Nat} {sy st : Int} {rs : List RuleD} {w : World} {gr c N : Nat} (hN : rs.length = N) (h : BendSt B b g go w0 n sy st rs (.slice (some ⟨gr, 0, none⟩) N c) w) (hbw : b < w0.heap.size) (hB : B ≤ w0.heap.size) (k : Nat) (hk : k < N) (x y z : Int) :
    BendSt B b g go w0 n sy st (rs.set k ⟨x, y, z⟩) (.slice (some ⟨gr, 0, none⟩) N c) (((w.setCell ⟨gr, k * 3, none⟩ (.int .i64 x)).setCell ⟨gr, k * 3 + 1, none⟩ (.int .i64 y)).setCell ⟨gr, k * 3 + 2, none⟩ (.int .i64 z)) := by
  have s1 := BendSt.fieldN hN h hbw hB (k * 3) (.int .i64 x) (rvs_set0 rs k x (by omega)) (by simpa using hN)
  have l1 : (rs.set k ⟨x, rs[k].m, rs[k].n⟩).length = N := by simpa using hN
  have s2 := BendSt.fieldN l1 s1 hbw hB (k * 3 + 1) (.int .i64 y) (rvs_set1 _ k y (by omega)) (by simpa using hN)
  have l2 : ((rs.set k ⟨x, rs[k].m, rs[k].n⟩).set k ⟨((rs.set k ⟨x, rs[k].m, rs[k].n⟩)[k]'(by omega)).w, y, ((rs.set k ⟨x, rs[k].m, rs[k].n⟩)[k]'(by omega)).n⟩).length = N := by simpa using hN
  have s3 := BendSt.fieldN l2 s2 hbw hB (k * 3 + 2) (.int .i64 z) (rvs_set2 _ k z (by omega)) (by simpa using hN)
  simpa [List.set_set] using s3
end Go.Proofs.YtcebkjiafjmjfaaGreatDoor
namespace Go.Proofs.YtcebkjiafjmjfaaGreatDoor
open Go Go.RowKit Go.Proofs
set_option maxHeartbeats 400000
structure DecSt (w : World) (b n : Nat) (wr : World) : Prop where
  res : Blk wr w.heap.size 26 #[.int .i64 0, .int .i64 0, .slice none 0 0]
  src : Src (w.heap.size + 1) wr b n
  ext : Ext w wr
theorem DecSt.done {w : World} {b n base : Nat} {wr : World} {m : MachD} {rv : Value} (h : DecSt w b n wr) (ho : OwnRules base wr rv m.rules) (hbase : w.heap.size ≤ base) :
    OwnRules w.heap.size (((wr.setCell ⟨w.heap.size, 0, none⟩ (.int .i64 m.sy)).setCell ⟨w.heap.size, 1, none⟩ (.int .i64 m.st)).setCell ⟨w.heap.size, 2, none⟩ rv) rv m.rules ∧
    Ext w (((wr.setCell ⟨w.heap.size, 0, none⟩ (.int .i64 m.sy)).setCell ⟨w.heap.size, 1, none⟩ (.int .i64 m.st)).setCell ⟨w.heap.size, 2, none⟩ rv) := by
  have hfar := own_far_blk ho h.res (by decide)
  refine ⟨ownsRow_base (ownsRow_far (ownsRow_far (ownsRow_far ho hfar _) hfar _) hfar _) hbase, ?_⟩
  exact ((h.ext.setCell (Nat.le_refl _) _).setCell (Nat.le_refl _) _).setCell (Nat.le_refl _) _
end Go.Proofs.YtcebkjiafjmjfaaGreatDoor
end
