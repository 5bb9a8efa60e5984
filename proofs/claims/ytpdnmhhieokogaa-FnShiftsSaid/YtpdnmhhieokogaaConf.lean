/- Contracts of the program's tests on configurations and budgets. The machine is valid where its numbers are reckoned with. -/
import Derived.Test.YtpdnmhhieokogaaRead
import Derived.Test.YtpdnmhhieokogaaValid
namespace Go.Proofs.Ytpdnmhhieokogaa
open Go Go.RowKit Go.Proofs
set_option maxHeartbeats 400000
/-- A configuration. -/
structure ConfD where
  q : Int
  l : List Int
  r : List Int
deriving DecidableEq
def Conf (w : World) (v : Value) (c : ConfD) : Prop := ∃ lv rv, v = .agg #[.int .i64 c.q, lv, rv] ∧ Ints w lv c.l ∧ Ints w rv c.r
theorem Conf.ext {w w' : World} {v : Value} {c : ConfD} (h : Conf w v c) (he : Ext w w') : Conf w' v c := by
  obtain ⟨lv, rv, hv, h1, h2⟩ := h; exact ⟨lv, rv, hv, h1.ext he, h2.ext he⟩
/-- A side of a tape may stand so. -/
def sideOk (xs : List Int) (sy most : Int) : Bool := decide ((xs.length : Int) ≤ most) && (xs.all fun z => inB z 0 (sy - 1)) && (((xs.length : Int) == 0) || xs.getLastD 0 != 0)
theorem lastD_get {xs : List Int} (h : 0 < xs.length) : xs.getLastD 0 = xs[xs.length - 1] := by
  rw [List.getLastD_eq_getLast?, List.getLast?_eq_getElem?, List.getElem?_eq_getElem (by omega)]
  rfl
theorem validSide_c (v : Value) (xs : List Int) (sy most : Int) (w : World) (h : Ints w v xs) (h1 : 1 ≤ sy) (h2 : sy ≤ 1000000) :
    Calls Try.prog 76 #[v, .int .i64 sy, .int .i64 most] w fun e w' => e = .returned (.bool (sideOk xs sy most)) ∧ w = w' := by
  have h0 := h
  obtain ⟨A, c, rfl, h5, h5'⟩ := h.form
  by_cases hl : (xs.length : Int) ≤ most
  · have hld : decide ((xs.length : Int) ≤ most) = true := by simp [hl]
    go_enter Try.func76, Try.ntmps76
    go_wp2_with fail
    refine (sizeInt_c _ _ _ h0).mono ?_
    rintro e w' ⟨rfl, rfl⟩
    go_wp2_with fail
    refine (allWithin_c _ _ _ _ _ h0).mono ?_
    rintro e w' ⟨rfl, rfl⟩
    cases ha : (xs.all fun z => inB z 0 (sy - 1)) with
    | false =>
      have HE : Hid (sideOk xs sy most = false) := by unfold Hid; simp only [sideOk, ha]; simp
      go_wp2
      go_ret
      exact ⟨by simp [HE.out], rfl⟩
    | true =>
      have HA := Lib.hid ha
      clear ha
      by_cases hz : xs.length = 0
      · have hzb : ((xs.length : Int) == 0) = true := by simp [hz]
        have HE : Hid (sideOk xs sy most = true) := by unfold Hid; simp only [sideOk, HA.out, hzb, hld]; rfl
        clear hz
        go_wp2
        go_ret
        exact ⟨by simp [HE.out], rfl⟩
      · have hzb : ((xs.length : Int) == 0) = false := by rw [beq_eq_false_iff_ne]; omega
        have hlt : xs.length - 1 < xs.length := by omega
        obtain ⟨b, off, rfl, hc⟩ := h0.at hlt
        have c0 := hc (xs.length - 1) hlt
        have HE : Hid (sideOk xs sy most = (xs[xs.length - 1] != 0)) := by unfold Hid; simp only [sideOk, HA.out, hzb, hld, lastD_get (show 0 < xs.length by omega)]; rfl
        have i1 : (0 : Int) ≤ (xs.length : Int) - 1 := by omega
        have i2 : ((xs.length : Int) - 1) < (xs.length : Int) := by omega
        have i3 : ((xs.length : Int) - 1).toNat = xs.length - 1 := by omega
        clear hc h h0
        generalize xs[xs.length - 1] = z at *
        go_wp2
        go_ret
        exact ⟨by simp [HE.out], rfl⟩
  · have hld : decide ((xs.length : Int) ≤ most) = false := by simp; omega
    have HE : Hid (sideOk xs sy most = false) := by unfold Hid; simp only [sideOk, hld]; simp
    go_enter Try.func76, Try.ntmps76
    go_wp2_with fail
    refine (sizeInt_c _ _ _ h0).mono ?_
    rintro e w' ⟨rfl, rfl⟩
    go_wp2
    go_ret
    exact ⟨by simp [HE.out], rfl⟩
def confB (m : MachD) (c : ConfD) : Bool := inB c.q 0 (m.st - 1) && sideOk c.l m.sy 200 && sideOk c.r m.sy 200
theorem configOf_c (v u : Value) (m : MachD) (c : ConfD) (w : World) (hm : Mach w v m) (hc : Conf w u c) (h1 : 2 ≤ m.sy) (h2 : m.sy ≤ 6) (h3 : 1 ≤ m.st) (h4 : m.st ≤ 1000) :
    Calls Try.prog 62 #[v, u] w fun e w' => e = .returned (.bool (confB m c)) ∧ Ext w w' := by
  obtain ⟨rv, rfl, hr⟩ := hm
  obtain ⟨lv, qv, rfl, hcl, hcr⟩ := hc
  have hx0 := (Ext.alloc w (.cells #[.int .i64 m.sy, .int .i64 m.st, rv] 26)).trans (Ext.alloc _ (.cells #[.int .i64 c.q, lv, qv] 36))
  obtain ⟨Al, cl, rfl, _, _⟩ := hcl.form
  obtain ⟨Aq, cq, rfl, _, _⟩ := hcr.form
  go_enter Try.func62, Try.ntmps62
  go_wp2_with fail
  refine (within_c _ _ _ _).mono ?_
  rintro e w' ⟨rfl, rfl⟩
  cases ha : inB c.q 0 (m.st - 1) with
  | false =>
    have HE : Hid (confB m c = false) := by unfold Hid; simp only [confB, ha]; simp
    clear ha
    go_wp2
    go_ret
    exact ⟨by simp [HE.out], hx0⟩
  | true =>
    have HA := Lib.hid ha
    clear ha
    go_wp2_with fail
    refine (validSide_c _ _ _ _ _ (hcl.ext hx0) (by omega) (by omega)).mono ?_
    rintro e w' ⟨rfl, rfl⟩
    cases hb : sideOk c.l m.sy 200 with
    | false =>
      have HE : Hid (confB m c = false) := by unfold Hid; simp only [confB, hb]; simp
      clear hb
      go_wp2
      go_ret
      exact ⟨by simp [HE.out], hx0⟩
    | true =>
      have HE : Hid (confB m c = sideOk c.r m.sy 200) := by unfold Hid; simp only [confB, hb, HA.out]; simp
      clear hb
      go_wp2_with fail
      refine (validSide_c _ _ _ _ _ (hcr.ext hx0) (by omega) (by omega)).mono ?_
      rintro e w' ⟨rfl, rfl⟩
      go_wp2
      go_ret
      exact ⟨by simp [HE.out], hx0⟩
theorem machOk_bounds {m : MachD} (h : machOk m = true) : 2 ≤ m.sy ∧ m.sy ≤ 6 ∧ 1 ≤ m.st ∧ m.st ≤ 1000 := by
  simp only [machOk, inB, Bool.and_eq_true, decide_eq_true_eq] at h
  omega
theorem ValidConfig_c (v u : Value) (m : MachD) (c : ConfD) (w : World) (hm : Mach w v m) (hc : Conf w u c) :
    Calls Try.prog 42 #[v, u] w fun e w' => e = .returned (.bool (machOk m && confB m c)) ∧ Ext w w' := by
  obtain ⟨rv, rfl, hr⟩ := hm
  obtain ⟨lv, qv, rfl, hcl, hcr⟩ := hc
  obtain ⟨Ar, cr, rfl, _, _⟩ := hr.form
  obtain ⟨Al, cl, rfl, _, _⟩ := hcl.form
  obtain ⟨Aq, cq, rfl, _, _⟩ := hcr.form
  have hx0 := (Ext.alloc w (.cells #[.int .i64 m.sy, .int .i64 m.st, .slice Ar m.rules.length cr] 26)).trans (Ext.alloc _ (.cells #[.int .i64 c.q, .slice Al c.l.length cl, .slice Aq c.r.length cq] 36))
  have bM := (Blk.new w w.heap.size 26 #[.int .i64 m.sy, .int .i64 m.st, .slice Ar m.rules.length cr] rfl).alloc (.cells #[.int .i64 c.q, .slice Al c.l.length cl, .slice Aq c.r.length cq] 36)
  have bC := Blk.new (w.alloc (.cells #[.int .i64 m.sy, .int .i64 m.st, .slice Ar m.rules.length cr] 26)) (w.heap.size + 1) 36 #[.int .i64 c.q, .slice Al c.l.length cl, .slice Aq c.r.length cq] (by simp)
  go_enter Try.func42, Try.ntmps42
  go_wp2_with fail
  refine (ValidMachine_c _ m _ ⟨_, rfl, hr.ext hx0⟩).mono ?_
  rintro e w1 ⟨rfl, hx1⟩
  have hX1 := hx0.trans hx1
  cases ha : machOk m with
  | false =>
    go_wp2
    go_ret
    exact ⟨by simp [ha], hX1⟩
  | true =>
    obtain ⟨k1, k2, k3, k4⟩ := machOk_bounds ha
    have HA := Lib.hid ha
    clear ha
    have c0 := (bM.ext hx1).cell 0
    have c1 := (bM.ext hx1).cell 1
    have c2 := (bM.ext hx1).cell 2
    have d0 := (bC.ext hx1).cell 0
    have d1 := (bC.ext hx1).cell 1
    have d2 := (bC.ext hx1).cell 2
    simp only [List.getElem?_toArray, List.getElem?_cons_zero, List.getElem?_cons_succ] at c0 c1 c2 d0 d1 d2
    go_wp2_with fail
    refine (configOf_c _ _ m c _ ⟨_, rfl, hr.ext hX1⟩ ⟨_, _, rfl, hcl.ext hX1, hcr.ext hX1⟩ k1 k2 k3 k4).mono ?_
    rintro e w2 ⟨rfl, hx2⟩
    go_wp2
    go_ret
    exact ⟨by simp [HA.out], hX1.trans hx2⟩
theorem budgetOk_c (n : Int) (w : World) : Calls Try.prog 43 #[.int .i64 n] w fun e w' => e = .returned (.bool (inB n 1 20000)) ∧ w = w' := by
  go_enter Try.func43, Try.ntmps43
  go_wp2_with fail
  refine (within_c _ _ _ _).mono ?_
  rintro e w' ⟨rfl, rfl⟩
  go_wp2
  go_ret
  exact ⟨rfl, rfl⟩
def codeOf (m : MachD) (c : ConfD) (b : Int) : Int := if machOk m && confB m c then (if inB b 1 20000 then 0 else 2) else 1
theorem runCode_c (v u : Value) (m : MachD) (c : ConfD) (b : Int) (w : World) (hm : Mach w v m) (hc : Conf w u c) :
    Calls Try.prog 30 #[v, u, .int .i64 b] w fun e w' => e = .returned (.int .i64 (codeOf m c b)) ∧ Ext w w' := by
  obtain ⟨rv, rfl, hr⟩ := hm
  obtain ⟨lv, qv, rfl, hcl, hcr⟩ := hc
  have hx0 := (Ext.alloc w (.cells #[.int .i64 m.sy, .int .i64 m.st, rv] 26)).trans (Ext.alloc _ (.cells #[.int .i64 c.q, lv, qv] 36))
  obtain ⟨Ar, cr, rfl, _, _⟩ := hr.form
  obtain ⟨Al, cl, rfl, _, _⟩ := hcl.form
  obtain ⟨Aq, cq, rfl, _, _⟩ := hcr.form
  go_enter Try.func30, Try.ntmps30
  go_wp2_with fail
  refine (ValidConfig_c _ _ m c _ ⟨_, rfl, hr.ext hx0⟩ ⟨_, _, rfl, hcl.ext hx0, hcr.ext hx0⟩).mono ?_
  rintro e w1 ⟨rfl, hx1⟩
  cases ha : (machOk m && confB m c) with
  | false =>
    go_wp2
    go_ret
    exact ⟨by simp [codeOf, ha], hx0.trans hx1⟩
  | true =>
    go_wp2_with fail
    refine (budgetOk_c _ _).mono ?_
    rintro e w' ⟨rfl, rfl⟩
    cases hb : inB b 1 20000 with
    | false =>
      go_wp2
      go_ret
      exact ⟨by simp [codeOf, ha, hb], hx0.trans hx1⟩
    | true =>
      go_wp2
      go_ret
      exact ⟨by simp [codeOf, ha, hb], hx0.trans hx1⟩
def blankC : ConfD := ⟨0, [], []⟩
theorem conf_blank {m : MachD} (h : machOk m = true) : confB m blankC = true := by
  obtain ⟨_, _, _, _⟩ := machOk_bounds h
  simp [confB, blankC, sideOk, inB]
  omega
def budC (m : MachD) (b : Int) : Int := if machOk m then (if inB b 1 20000 then 0 else 2) else 1
theorem budC_eq (m : MachD) (b : Int) : codeOf m blankC b = budC m b := by
  unfold codeOf budC
  cases h : machOk m with
  | false => rfl
  | true => rw [conf_blank h]; rfl
theorem ints_nil (w : World) : Ints w (.slice none 0 0) [] := ⟨none, 0, rfl, Nat.le_refl _, by omega, rfl, fun h => by simp at h⟩
theorem budgeted_c (v : Value) (m : MachD) (b : Int) (w : World) (hm : Mach w v m) :
    Calls Try.prog 13 #[v, .int .i64 b] w fun e w' => e = .returned (.int .i64 (budC m b)) ∧ Ext w w' := by
  obtain ⟨rv, rfl, hr⟩ := hm
  have hx0 := Ext.alloc w (.cells #[.int .i64 m.sy, .int .i64 m.st, rv] 26)
  go_enter Try.func13, Try.ntmps13
  go_wp2_with fail
  refine (runCode_c _ _ m blankC b _ ⟨_, rfl, hr.ext hx0⟩ ⟨_, _, rfl, ints_nil _, ints_nil _⟩).mono ?_
  rintro e w1 ⟨rfl, hx1⟩
  rw [budC_eq]
  go_wp2
  go_ret
  exact ⟨rfl, hx0.trans hx1⟩
end Go.Proofs.Ytpdnmhhieokogaa
