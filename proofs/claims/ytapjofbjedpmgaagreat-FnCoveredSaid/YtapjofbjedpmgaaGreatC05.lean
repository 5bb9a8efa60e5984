/- Contracts of the program's tests on configurations and budgets. The machine is valid where its numbers are reckoned with.
Plain words on the program's runs of a machine: sides grow and shrink at their near ends.
Plain words on runs: positions of the head, the tape around it, and runs that come again moved by some cells. -/
import Derived.Test.YtapjofbjedpmgaaGreatC04
import Derived.Test.YtapjofbjedpmgaaGreatC03
section
namespace Go.Proofs.YtapjofbjedpmgaaGreat
open Go Go.RowKit Go.Proofs
set_option maxHeartbeats 400000
/-- A configuration. -/
structure ConfD where
  q : Int
  l : List Int
  r : List Int
deriving DecidableEq
def Conf (w : World) (v : Value) (c : ConfD) : Prop := ∃ lv rv, v = .agg #[.int .i64 c.q, lv, rv] ∧ Ints w lv c.l ∧ Ints w rv c.r
theorem Conf.ext {w w' : World} {v : Value} {c : ConfD} (h : Conf w v c) (he : Ext w w') : Conf w' v c := by
  obtain ⟨lv, rv, hv, h1, h2⟩ := h; exact ⟨lv, rv, hv, h1.ext he, h2.ext he⟩
/-- A side of a tape may stand so. -/
def sideOk (xs : List Int) (sy most : Int) : Bool := decide ((xs.length : Int) ≤ most) && (xs.all fun z => inB z 0 (sy - 1)) && (((xs.length : Int) == 0) || xs.getLastD 0 != 0)
theorem lastD_get {xs : List Int} (h : 0 < xs.length) : xs.getLastD 0 = xs[xs.length - 1] := by
  rw [List.getLastD_eq_getLast?, List.getLast?_eq_getElem?, List.getElem?_eq_getElem (by omega)]
  rfl
theorem validSide_c (v : Value) (xs : List Int) (sy most : Int) (w : World) (h : Ints w v xs) (h1 : 1 ≤ sy) (h2 : sy ≤ 1000000) :
    Calls Tryz.prog 101 #[v, .int .i64 sy, .int .i64 most] w fun e w' => e = .returned (.bool (sideOk xs sy most)) ∧ w = w' := by
  have h0 := h
  obtain ⟨A, c, rfl, h5, h5'⟩ := h.form
  by_cases hl : (xs.length : Int) ≤ most
  · have hld : decide ((xs.length : Int) ≤ most) = true := by simp [hl]
    go_enter Tryz.func101, Tryz.ntmps101
    go_wp2_with fail
    refine (sizeInt_c _ _ _ h0).mono ?_
    rintro e w' ⟨rfl, rfl⟩
    go_wp2_with fail
    refine (allWithin_c _ _ _ _ _ h0).mono ?_
    rintro e w' ⟨rfl, rfl⟩
    cases ha : (xs.all fun z => inB z 0 (sy - 1)) with
    | false =>
      have HE : Hid (sideOk xs sy most = false) := by unfold Hid; simp only [sideOk, ha]; simp
      go_wp2
      go_ret
      exact ⟨by simp [HE.out], rfl⟩
    | true =>
      have HA := Lib.hid ha
      clear ha
      by_cases hz : xs.length = 0
      · have hzb : ((xs.length : Int) == 0) = true := by simp [hz]
        have HE : Hid (sideOk xs sy most = true) := by unfold Hid; simp only [sideOk, HA.out, hzb, hld]; rfl
        clear hz
        go_wp2
        go_ret
        exact ⟨by simp [HE.out], rfl⟩
      · have hzb : ((xs.length : Int) == 0) = false := by rw [beq_eq_false_iff_ne]; omega
        have hlt : xs.length - 1 < xs.length := by omega
        obtain ⟨b, off, rfl, hc⟩ := h0.at hlt
        have c0 := hc (xs.length - 1) hlt
        have HE : Hid (sideOk xs sy most = (xs[xs.length - 1] != 0)) := by unfold Hid; simp only [sideOk, HA.out, hzb, hld, lastD_get (show 0 < xs.length by omega)]; rfl
        have i1 : (0 : Int) ≤ (xs.length : Int) - 1 := by omega
        have i2 : ((xs.length : Int) - 1) < (xs.length : Int) := by omega
        have i3 : ((xs.length : Int) - 1).toNat = xs.length - 1 := by omega
        clear hc h h0
        generalize xs[xs.length - 1] = z at *
        go_wp2
        go_ret
        exact ⟨by simp [HE.out], rfl⟩
  · have hld : decide ((xs.length : Int) ≤ most) = false := by simp; omega
    have HE : Hid (sideOk xs sy most = false) := by unfold Hid; simp only [sideOk, hld]; simp
    go_enter Tryz.func101, Tryz.ntmps101
    go_wp2_with fail
    refine (sizeInt_c _ _ _ h0).mono ?_
    rintro e w' ⟨rfl, rfl⟩
    go_wp2
    go_ret
    exact ⟨by simp [HE.out], rfl⟩
def confB (m : MachD) (c : ConfD) : Bool := inB c.q 0 (m.st - 1) && sideOk c.l m.sy 200 && sideOk c.r m.sy 200
theorem configOf_c (v u : Value) (m : MachD) (c : ConfD) (w : World) (hm : Mach w v m) (hc : Conf w u c) (h1 : 2 ≤ m.sy) (h2 : m.sy ≤ 6) (h3 : 1 ≤ m.st) (h4 : m.st ≤ 1000) :
    Calls Tryz.prog 72 #[v, u] w fun e w' => e = .returned (.bool (confB m c)) ∧ Ext w w' := by
  obtain ⟨rv, rfl, hr⟩ := hm
  obtain ⟨lv, qv, rfl, hcl, hcr⟩ := hc
  have hx0 := (Ext.alloc w (.cells #[.int .i64 m.sy, .int .i64 m.st, rv] 26)).trans (Ext.alloc _ (.cells #[.int .i64 c.q, lv, qv] 29))
  obtain ⟨Al, cl, rfl, _, _⟩ := hcl.form
  obtain ⟨Aq, cq, rfl, _, _⟩ := hcr.form
  go_enter Tryz.func72, Tryz.ntmps72
  go_wp2_with fail
  refine (within_c _ _ _ _).mono ?_
  rintro e w' ⟨rfl, rfl⟩
  cases ha : inB c.q 0 (m.st - 1) with
  | false =>
    have HE : Hid (confB m c = false) := by unfold Hid; simp only [confB, ha]; simp
    clear ha
    go_wp2
    go_ret
    exact ⟨by simp [HE.out], hx0⟩
  | true =>
    have HA := Lib.hid ha
    clear ha
    go_wp2_with fail
    refine (validSide_c _ _ _ _ _ (hcl.ext hx0) (by omega) (by omega)).mono ?_
    rintro e w' ⟨rfl, rfl⟩
    cases hb : sideOk c.l m.sy 200 with
    | false =>
      have HE : Hid (confB m c = false) := by unfold Hid; simp only [confB, hb]; simp
      clear hb
      go_wp2
      go_ret
      exact ⟨by simp [HE.out], hx0⟩
    | true =>
      have HE : Hid (confB m c = sideOk c.r m.sy 200) := by unfold Hid; simp only [confB, hb, HA.out]; simp
      clear hb
      go_wp2_with fail
      refine (validSide_c _ _ _ _ _ (hcr.ext hx0) (by omega) (by omega)).mono ?_
      rintro e w' ⟨rfl, rfl⟩
      go_wp2
      go_ret
      exact ⟨by simp [HE.out], hx0⟩
theorem machOk_bounds {m : MachD} (h : machOk m = true) : 2 ≤ m.sy ∧ m.sy ≤ 6 ∧ 1 ≤ m.st ∧ m.st ≤ 1000 := by
  simp only [machOk, inB, Bool.and_eq_true, decide_eq_true_eq] at h
  omega
theorem ValidConfig_c (v u : Value) (m : MachD) (c : ConfD) (w : World) (hm : Mach w v m) (hc : Conf w u c) :
    Calls Tryz.prog 34 #[v, u] w fun e w' => e = .returned (.bool (machOk m && confB m c)) ∧ Ext w w' := by
  obtain ⟨rv, rfl, hr⟩ := hm
  obtain ⟨lv, qv, rfl, hcl, hcr⟩ := hc
  obtain ⟨Ar, cr, rfl, _, _⟩ := hr.form
  obtain ⟨Al, cl, rfl, _, _⟩ := hcl.form
  obtain ⟨Aq, cq, rfl, _, _⟩ := hcr.form
  have hx0 := (Ext.alloc w (.cells #[.int .i64 m.sy, .int .i64 m.st, .slice Ar m.rules.length cr] 26)).trans (Ext.alloc _ (.cells #[.int .i64 c.q, .slice Al c.l.length cl, .slice Aq c.r.length cq] 29))
  have bM := (Blk.new w w.heap.size 26 #[.int .i64 m.sy, .int .i64 m.st, .slice Ar m.rules.length cr] rfl).alloc (.cells #[.int .i64 c.q, .slice Al c.l.length cl, .slice Aq c.r.length cq] 29)
  have bC := Blk.new (w.alloc (.cells #[.int .i64 m.sy, .int .i64 m.st, .slice Ar m.rules.length cr] 26)) (w.heap.size + 1) 29 #[.int .i64 c.q, .slice Al c.l.length cl, .slice Aq c.r.length cq] (by simp)
  go_enter Tryz.func34, Tryz.ntmps34
  go_wp2_with fail
  refine (ValidMachine_c _ m _ ⟨_, rfl, hr.ext hx0⟩).mono ?_
  rintro e w1 ⟨rfl, hx1⟩
  have hX1 := hx0.trans hx1
  cases ha : machOk m with
  | false =>
    go_wp2
    go_ret
    exact ⟨by simp [ha], hX1⟩
  | true =>
    obtain ⟨k1, k2, k3, k4⟩ := machOk_bounds ha
    have HA := Lib.hid ha
    clear ha
    have c0 := (bM.ext hx1).cell 0
    have c1 := (bM.ext hx1).cell 1
    have c2 := (bM.ext hx1).cell 2
    have d0 := (bC.ext hx1).cell 0
    have d1 := (bC.ext hx1).cell 1
    have d2 := (bC.ext hx1).cell 2
    simp only [List.getElem?_toArray, List.getElem?_cons_zero, List.getElem?_cons_succ] at c0 c1 c2 d0 d1 d2
    go_wp2_with fail
    refine (configOf_c _ _ m c _ ⟨_, rfl, hr.ext hX1⟩ ⟨_, _, rfl, hcl.ext hX1, hcr.ext hX1⟩ k1 k2 k3 k4).mono ?_
    rintro e w2 ⟨rfl, hx2⟩
    go_wp2
    go_ret
    exact ⟨by simp [HA.out], hX1.trans hx2⟩
def blankC : ConfD := ⟨0, [], []⟩
theorem conf_blank {m : MachD} (h : machOk m = true) : confB m blankC = true := by
  obtain ⟨_, _, _, _⟩ := machOk_bounds h
  simp [confB, blankC, sideOk, inB]
  omega
end Go.Proofs.YtapjofbjedpmgaaGreat
end
section
namespace Go.Proofs.YtapjofbjedpmgaaGreat
open Go Go.RowKit Go.Proofs
def pushL (s : Int) (xs : List Int) : List Int := if s = 0 ∧ xs = [] then [] else s :: xs
def hdD (xs : List Int) : Int := xs.getD 0 0
/-- The rule that a configuration looks at. -/
def lookI (m : MachD) (c : ConfD) : RuleD := m.rules.getD (c.q * m.sy + hdD c.r).toNat noR
/-- The configuration behind a step. -/
def stepI (ru : RuleD) (c : ConfD) : ConfD :=
  if 0 < ru.m then ⟨ru.n, pushL ru.w c.l, c.r.drop 1⟩ else ⟨ru.n, c.l.drop 1, pushL (hdD c.l) (pushL ru.w (c.r.drop 1))⟩
def cfgI (m : MachD) (c : ConfD) : Nat → ConfD
  | 0 => c
  | t + 1 => stepI (lookI m (cfgI m c t)) (cfgI m c t)
def fitI (c : ConfD) : Bool := decide (c.l.length ≤ 200) && decide (c.r.length ≤ 200)
/-- A configuration of a machine. -/
structure IGood (m : MachD) (c : ConfD) : Prop where
  q0 : 0 ≤ c.q
  q1 : c.q < m.st
  l : ∀ z ∈ c.l, 0 ≤ z ∧ z < m.sy
  r : ∀ z ∈ c.r, 0 ≤ z ∧ z < m.sy
theorem hdD_of {xs : List Int} {sy : Int} (h : ∀ z ∈ xs, 0 ≤ z ∧ z < sy) (h0 : 0 < sy) : 0 ≤ hdD xs ∧ hdD xs < sy := by
  unfold hdD
  cases xs with
  | nil => exact ⟨by simp, by simpa using h0⟩
  | cons a l => exact h a List.mem_cons_self
theorem machOk_five {m : MachD} (h : machOk m = true) : (2 ≤ m.sy ∧ m.sy ≤ 6 ∧ 1 ≤ m.st ∧ m.st ≤ 1000) ∧ (m.rules.length : Int) = m.sy * m.st ∧ ∀ r ∈ m.rules, ruleOk m.sy m.st r = true := by
  simp only [machOk, inB, Bool.and_eq_true, decide_eq_true_eq, List.all_eq_true] at h
  refine ⟨by omega, by omega, h.2⟩
theorem IGood.idx {m : MachD} (hm : machOk m = true) {c : ConfD} (h : IGood m c) : ∃ k : Nat, k < m.rules.length ∧ c.q * m.sy + hdD c.r = (k : Int) := by
  obtain ⟨⟨s1, _, _, _⟩, hl, _⟩ := machOk_five hm
  have a := hdD_of h.r (by omega)
  have e1 := Int.mul_nonneg h.q0 (show 0 ≤ m.sy by omega)
  have e2 : c.q * m.sy + m.sy ≤ m.st * m.sy := by
    have := Int.mul_le_mul_of_nonneg_right (show c.q + 1 ≤ m.st from h.q1) (show 0 ≤ m.sy by omega)
    rw [Int.add_mul, Int.one_mul] at this
    exact this
  rw [Int.mul_comm] at hl
  exact ⟨(c.q * m.sy + hdD c.r).toNat, by omega, by omega⟩
theorem lookI_get {m : MachD} {c : ConfD} {k : Nat} (hk : k < m.rules.length) (e : c.q * m.sy + hdD c.r = (k : Int)) : lookI m c = m.rules[k] := by
  unfold lookI
  rw [e, Int.toNat_natCast, List.getD_eq_getElem?_getD, List.getElem?_eq_getElem hk]
  rfl
theorem pushL_mem {s z : Int} {xs : List Int} (h : z ∈ pushL s xs) : z = s ∨ z ∈ xs := by
  unfold pushL at h
  split at h
  · cases h
  · simpa using h
theorem pushL_len (s : Int) (xs : List Int) : (pushL s xs).length ≤ xs.length + 1 := by
  unfold pushL
  split <;> simp
theorem IGood.step {m : MachD} (hm : machOk m = true) {c : ConfD} (h : IGood m c) (hr : ¬ lookI m c = noR) : IGood m (stepI (lookI m c) c) := by
  obtain ⟨⟨s1, _, _, _⟩, _, hall⟩ := machOk_five hm
  obtain ⟨k, hk, e⟩ := h.idx hm
  rw [lookI_get hk e] at hr ⊢
  have hq := hall _ (List.getElem_mem hk)
  simp only [ruleOk, hr, decide_false, Bool.false_or, Bool.and_eq_true, inB, decide_eq_true_eq] at hq
  have hl := hdD_of h.l (by omega)
  unfold stepI
  split
  · refine ⟨by simp; omega, by simp; omega, fun z hz => ?_, fun z hz => h.r z (List.mem_of_mem_drop hz)⟩
    rcases pushL_mem hz with rfl | hz
    · omega
    · exact h.l z hz
  · refine ⟨by simp; omega, by simp; omega, fun z hz => h.l z (List.mem_of_mem_drop hz), fun z hz => ?_⟩
    rcases pushL_mem hz with rfl | hz
    · exact hl
    · rcases pushL_mem hz with rfl | hz
      · omega
      · exact h.r z (List.mem_of_mem_drop hz)
/-- So many steps are made from c. -/
structure RunsTo (m : MachD) (c : ConfD) (n : Nat) : Prop where
  no : ∀ i < n, ¬ lookI m (cfgI m c i) = noR
  fit : ∀ i ≤ n, fitI (cfgI m c i) = true
theorem RunsTo.zero {m : MachD} {c : ConfD} (h : fitI c = true) : RunsTo m c 0 := ⟨fun i hi => by omega, fun i hi => by
  have : i = 0 := by omega
  subst this; exact h⟩
theorem RunsTo.succ {m : MachD} {c : ConfD} {n : Nat} (h : RunsTo m c n) (h1 : ¬ lookI m (cfgI m c n) = noR) (h2 : fitI (cfgI m c (n + 1)) = true) : RunsTo m c (n + 1) :=
  ⟨fun i hi => if e : i = n then e ▸ h1 else h.no i (by omega), fun i hi => if e : i = n + 1 then e ▸ h2 else h.fit i (by omega)⟩
theorem cfg_good {m : MachD} (hm : machOk m = true) {c : ConfD} (hc : IGood m c) : ∀ n, (∀ i < n, ¬ lookI m (cfgI m c i) = noR) → IGood m (cfgI m c n) := by
  intro n
  induction n with
  | zero => intro _; exact hc
  | succ n ih => intro h; exact (ih fun i hi => h i (by omega)).step hm (h n (by omega))
end Go.Proofs.YtapjofbjedpmgaaGreat
end
section
set_option linter.unusedSimpArgs false
set_option linter.unusedVariables false
namespace Go.Proofs.YtapjofbjedpmgaaGreat
open Go Go.RowKit Go.Proofs
/-- The position of the head behind so many steps. -/
def posI (m : MachD) (c : ConfD) : Nat → Int
  | 0 => 0
  | t + 1 => posI m c t + (lookI m (cfgI m c t)).m
/-- The symbol of a configuration at a distance from its head. -/
def cellC (c : ConfD) (z : Int) : Int := if 0 ≤ z then c.r.getD z.toNat 0 else c.l.getD (-1 - z).toNat 0
theorem pushL_getD (s : Int) (xs : List Int) (i : Nat) : (pushL s xs).getD i 0 = (s :: xs).getD i 0 := by
  unfold pushL
  split
  · rename_i h
    obtain ⟨rfl, rfl⟩ := h
    cases i <;> simp
  · rfl
theorem drop1_getD (xs : List Int) (i : Nat) : (xs.drop 1).getD i 0 = xs.getD (i + 1) 0 := by
  simp [List.getD_eq_getElem?_getD, Nat.add_comm]
theorem cell_step {ru : RuleD} (hm : ru.m = 1 ∨ ru.m = -1) (c : ConfD) (z : Int) : cellC (stepI ru c) (z - ru.m) = if z = 0 then ru.w else cellC c z := by
  rcases hm with h | h
  · have e : stepI ru c = ⟨ru.n, pushL ru.w c.l, c.r.drop 1⟩ := by unfold stepI; rw [if_pos (by omega)]
    rw [e, h]
    unfold cellC
    simp only
    by_cases h0 : z = 0
    · subst h0
      rw [if_neg (by omega), if_pos rfl, pushL_getD]
      rfl
    · rw [if_neg h0]
      by_cases h1 : 0 ≤ z
      · rw [if_pos (show 0 ≤ z - 1 by omega), if_pos h1, drop1_getD]
        congr 1
        omega
      · rw [if_neg (show ¬ 0 ≤ z - 1 by omega), if_neg h1, pushL_getD]
        obtain ⟨k, hk⟩ : ∃ k : Nat, (-1 - (z - 1)).toNat = k + 1 := ⟨(-1 - z).toNat, by omega⟩
        rw [hk, List.getD_cons_succ]
        congr 1
        omega
  · have e : stepI ru c = ⟨ru.n, c.l.drop 1, pushL (hdD c.l) (pushL ru.w (c.r.drop 1))⟩ := by unfold stepI; rw [if_neg (by omega)]
    rw [e, h]
    unfold cellC
    simp only
    by_cases h0 : z = 0
    · subst h0
      rw [if_pos (by omega), if_pos rfl, pushL_getD]
      have : (0 - (-1 : Int)).toNat = 0 + 1 := by omega
      rw [this, List.getD_cons_succ, pushL_getD]
      rfl
    · rw [if_neg h0]
      by_cases h1 : 0 ≤ z
      · rw [if_pos (show 0 ≤ z - -1 by omega), if_pos h1, pushL_getD]
        obtain ⟨k, hk⟩ : ∃ k : Nat, z.toNat = k + 1 := ⟨z.toNat - 1, by omega⟩
        have : (z - -1).toNat = (k + 1) + 1 := by omega
        rw [this, List.getD_cons_succ, pushL_getD, List.getD_cons_succ, drop1_getD, hk]
      · rw [if_neg h1]
        by_cases h2 : z = -1
        · subst h2
          rw [if_pos (by omega), pushL_getD]
          rfl
        · rw [if_neg (show ¬ 0 ≤ z - -1 by omega), drop1_getD]
          congr 1
          omega
theorem hd_cell (c : ConfD) : hdD c.r = cellC c 0 := by simp [hdD, cellC]
theorem look_cell (m : MachD) {c e : ConfD} (hq : c.q = e.q) (hc : cellC c 0 = cellC e 0) : lookI m c = lookI m e := by
  unfold lookI
  rw [hd_cell, hd_cell, hq, hc]
/-- Two configurations agree on a set of places, seen from two heads at the same place u. -/
structure Mt (D : Int → Prop) (u : Int) (c e : ConfD) : Prop where
  q : c.q = e.q
  at_ : ∀ z, D z → cellC c (z - u) = cellC e (z - u)
theorem Mt.look {D : Int → Prop} {u : Int} {c e : ConfD} (h : Mt D u c e) (hu : D u) (m : MachD) : lookI m c = lookI m e :=
  look_cell m h.q (by have := h.at_ u hu; rwa [Int.sub_self] at this)
theorem Mt.step {D : Int → Prop} {u : Int} {c e : ConfD} (h : Mt D u c e) {ru : RuleD} (hm : ru.m = 1 ∨ ru.m = -1) : Mt D (u + ru.m) (stepI ru c) (stepI ru e) := by
  refine ⟨?_, fun z hz => ?_⟩
  · unfold stepI
    split <;> rfl
  · have e1 : z - (u + ru.m) = (z - u) - ru.m := by omega
    rw [e1, cell_step hm, cell_step hm, h.at_ z hz]
section
variable {m : MachD} (hm : machOk m = true) {c0 : ConfD} (hc0 : IGood m c0) {a b : Nat} {d : Int} {D : Int → Prop}
include hm hc0
end
/-- No blanks at the end. -/
def tidyL (xs : List Int) : Prop := xs = [] ∨ xs.getLastD 0 ≠ 0
theorem tidy_drop {xs : List Int} (h : tidyL xs) : tidyL (xs.drop 1) := by
  cases xs with
  | nil => exact .inl rfl
  | cons a l =>
    cases l with
    | nil => exact .inl rfl
    | cons b l =>
      right
      rcases h with h | h
      · cases h
      · simpa using h
theorem tidy_push {s : Int} {xs : List Int} (h : tidyL xs) : tidyL (pushL s xs) := by
  unfold pushL
  split
  · exact .inl rfl
  · rename_i hn
    right
    cases xs with
    | nil => simp at hn; simpa using hn
    | cons a l =>
      rcases h with h | h
      · cases h
      · simpa using h
theorem tidy_step {ru : RuleD} {c : ConfD} (h : tidyL c.l ∧ tidyL c.r) : tidyL (stepI ru c).l ∧ tidyL (stepI ru c).r := by
  unfold stepI
  split
  · exact ⟨tidy_push h.1, tidy_drop h.2⟩
  · exact ⟨tidy_drop h.1, tidy_push (tidy_push (tidy_drop h.2))⟩
end Go.Proofs.YtapjofbjedpmgaaGreat
end
