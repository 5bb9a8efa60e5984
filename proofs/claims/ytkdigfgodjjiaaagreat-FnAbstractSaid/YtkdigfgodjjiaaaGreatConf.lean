/- Contracts of the program's tests on configurations and budgets. The machine is valid where its numbers are reckoned with. -/
import Derived.Test.YtkdigfgodjjiaaaGreatRead
import Derived.Test.YtkdigfgodjjiaaaGreatValid
namespace Go.Proofs.YtkdigfgodjjiaaaGreat
open Go Go.RowKit Go.Proofs
set_option maxHeartbeats 400000
/-- A configuration. -/
structure ConfD where
  q : Int
  l : List Int
  r : List Int
deriving DecidableEq
def Conf (w : World) (v : Value) (c : ConfD) : Prop := ∃ lv rv, v = .agg #[.int .i64 c.q, lv, rv] ∧ Ints w lv c.l ∧ Ints w rv c.r
theorem Conf.ext {w w' : World} {v : Value} {c : ConfD} (h : Conf w v c) (he : Ext w w') : Conf w' v c := by
  obtain ⟨lv, rv, hv, h1, h2⟩ := h; exact ⟨lv, rv, hv, h1.ext he, h2.ext he⟩
/-- A side of a tape may stand so. -/
def sideOk (xs : List Int) (sy most : Int) : Bool := decide ((xs.length : Int) ≤ most) && (xs.all fun z => inB z 0 (sy - 1)) && (((xs.length : Int) == 0) || xs.getLastD 0 != 0)
theorem lastD_get {xs : List Int} (h : 0 < xs.length) : xs.getLastD 0 = xs[xs.length - 1] := by
  rw [List.getLastD_eq_getLast?, List.getLast?_eq_getElem?, List.getElem?_eq_getElem (by omega)]
  rfl
theorem validSide_c (v : Value) (xs : List Int) (sy most : Int) (w : World) (h : Ints w v xs) (h1 : 1 ≤ sy) (h2 : sy ≤ 1000000) :
    Calls Tryz.prog 52 #[v, .int .i64 sy, .int .i64 most] w fun e w' => e = .returned (.bool (sideOk xs sy most)) ∧ w = w' := by
  have h0 := h
  obtain ⟨A, c, rfl, h5, h5'⟩ := h.form
  by_cases hl : (xs.length : Int) ≤ most
  · have hld : decide ((xs.length : Int) ≤ most) = true := by simp [hl]
    go_enter Tryz.func52, Tryz.ntmps52
    go_wp2_with fail
    refine (sizeInt_c _ _ _ h0).mono ?_
    rintro e w' ⟨rfl, rfl⟩
    go_wp2_with fail
    refine (allWithin_c _ _ _ _ _ h0).mono ?_
    rintro e w' ⟨rfl, rfl⟩
    cases ha : (xs.all fun z => inB z 0 (sy - 1)) with
    | false =>
      have HE : Hid (sideOk xs sy most = false) := by unfold Hid; simp only [sideOk, ha]; simp
      go_wp2
      go_ret
      exact ⟨by simp [HE.out], rfl⟩
    | true =>
      have HA := Lib.hid ha
      clear ha
      by_cases hz : xs.length = 0
      · have hzb : ((xs.length : Int) == 0) = true := by simp [hz]
        have HE : Hid (sideOk xs sy most = true) := by unfold Hid; simp only [sideOk, HA.out, hzb, hld]; rfl
        clear hz
        go_wp2
        go_ret
        exact ⟨by simp [HE.out], rfl⟩
      · have hzb : ((xs.length : Int) == 0) = false := by rw [beq_eq_false_iff_ne]; omega
        have hlt : xs.length - 1 < xs.length := by omega
        obtain ⟨b, off, rfl, hc⟩ := h0.at hlt
        have c0 := hc (xs.length - 1) hlt
        have HE : Hid (sideOk xs sy most = (xs[xs.length - 1] != 0)) := by unfold Hid; simp only [sideOk, HA.out, hzb, hld, lastD_get (show 0 < xs.length by omega)]; rfl
        have i1 : (0 : Int) ≤ (xs.length : Int) - 1 := by omega
        have i2 : ((xs.length : Int) - 1) < (xs.length : Int) := by omega
        have i3 : ((xs.length : Int) - 1).toNat = xs.length - 1 := by omega
        clear hc h h0
        generalize xs[xs.length - 1] = z at *
        go_wp2
        go_ret
        exact ⟨by simp [HE.out], rfl⟩
  · have hld : decide ((xs.length : Int) ≤ most) = false := by simp; omega
    have HE : Hid (sideOk xs sy most = false) := by unfold Hid; simp only [sideOk, hld]; simp
    go_enter Tryz.func52, Tryz.ntmps52
    go_wp2_with fail
    refine (sizeInt_c _ _ _ h0).mono ?_
    rintro e w' ⟨rfl, rfl⟩
    go_wp2
    go_ret
    exact ⟨by simp [HE.out], rfl⟩
def confB (m : MachD) (c : ConfD) : Bool := inB c.q 0 (m.st - 1) && sideOk c.l m.sy 200 && sideOk c.r m.sy 200
theorem configOf_c (v u : Value) (m : MachD) (c : ConfD) (w : World) (hm : Mach w v m) (hc : Conf w u c) (h1 : 2 ≤ m.sy) (h2 : m.sy ≤ 6) (h3 : 1 ≤ m.st) (h4 : m.st ≤ 1000) :
    Calls Tryz.prog 28 #[v, u] w fun e w' => e = .returned (.bool (confB m c)) ∧ Ext w w' := by
  obtain ⟨rv, rfl, hr⟩ := hm
  obtain ⟨lv, qv, rfl, hcl, hcr⟩ := hc
  have hx0 := (Ext.alloc w (.cells #[.int .i64 m.sy, .int .i64 m.st, rv] 26)).trans (Ext.alloc _ (.cells #[.int .i64 c.q, lv, qv] 35))
  obtain ⟨Al, cl, rfl, _, _⟩ := hcl.form
  obtain ⟨Aq, cq, rfl, _, _⟩ := hcr.form
  go_enter Tryz.func28, Tryz.ntmps28
  go_wp2_with fail
  refine (within_c _ _ _ _).mono ?_
  rintro e w' ⟨rfl, rfl⟩
  cases ha : inB c.q 0 (m.st - 1) with
  | false =>
    have HE : Hid (confB m c = false) := by unfold Hid; simp only [confB, ha]; simp
    clear ha
    go_wp2
    go_ret
    exact ⟨by simp [HE.out], hx0⟩
  | true =>
    have HA := Lib.hid ha
    clear ha
    go_wp2_with fail
    refine (validSide_c _ _ _ _ _ (hcl.ext hx0) (by omega) (by omega)).mono ?_
    rintro e w' ⟨rfl, rfl⟩
    cases hb : sideOk c.l m.sy 200 with
    | false =>
      have HE : Hid (confB m c = false) := by unfold Hid; simp only [confB, hb]; simp
      clear hb
      go_wp2
      go_ret
      exact ⟨by simp [HE.out], hx0⟩
    | true =>
      have HE : Hid (confB m c = sideOk c.r m.sy 200) := by unfold Hid; simp only [confB, hb, HA.out]; simp
      clear hb
      go_wp2_with fail
      refine (validSide_c _ _ _ _ _ (hcr.ext hx0) (by omega) (by omega)).mono ?_
      rintro e w' ⟨rfl, rfl⟩
      go_wp2
      go_ret
      exact ⟨by simp [HE.out], hx0⟩
theorem machOk_bounds {m : MachD} (h : machOk m = true) : 2 ≤ m.sy ∧ m.sy ≤ 6 ∧ 1 ≤ m.st ∧ m.st ≤ 1000 := by
  simp only [machOk, inB, Bool.and_eq_true, decide_eq_true_eq] at h
  omega
def codeOf (m : MachD) (c : ConfD) (b : Int) : Int := if machOk m && confB m c then (if inB b 1 20000 then 0 else 2) else 1
def blankC : ConfD := ⟨0, [], []⟩
theorem conf_blank {m : MachD} (h : machOk m = true) : confB m blankC = true := by
  obtain ⟨_, _, _, _⟩ := machOk_bounds h
  simp [confB, blankC, sideOk, inB]
  omega
def budC (m : MachD) (b : Int) : Int := if machOk m then (if inB b 1 20000 then 0 else 2) else 1
theorem budC_eq (m : MachD) (b : Int) : codeOf m blankC b = budC m b := by
  unfold codeOf budC
  cases h : machOk m with
  | false => rfl
  | true => rw [conf_blank h]; rfl
theorem ints_nil (w : World) : Ints w (.slice none 0 0) [] := ⟨none, 0, rfl, Nat.le_refl _, by omega, rfl, fun h => by simp at h⟩
end Go.Proofs.YtkdigfgodjjiaaaGreat
