/- Contract of the program's text of digits. The letters are from 0 to 9.
Contracts of the program's tests on configurations and budgets. The machine is valid where its numbers are reckoned with.
Plain words: the text of a configuration, and that its parts are found again. No program stands here. -/
import Derived.Test.YtkbpchdncljlbaaGreatDoorV07
import Derived.Test.YtkbpchdncljlbaaGreatDoorV04
import Derived.Test.YtkbpchdncljlbaaGreatDoorV03
import Derived.Test.YtkbpchdncljlbaaGreatDoorV05
import Derived.Lib.IndexMore
section
set_option linter.unusedSimpArgs false
set_option linter.unusedVariables false
namespace Go.Proofs.YtkbpchdncljlbaaGreatDoor
open Go Go.RowKit Go.Proofs
set_option maxHeartbeats 400000
def digU (z : Int) : UInt8 := UInt8.ofNat (48 + z.toNat)
def digB (zs : List Int) : List UInt8 := zs.map digU
theorem digU_nat {z : Int} (h0 : 0 ≤ z) (h1 : z ≤ 9) : ((digU z).toNat : Int) = 48 + z := by
  unfold digU
  rw [UInt8.toNat_ofNat', Nat.mod_eq_of_lt (by omega)]
  omega
theorem ext_below {w a b : World} {g : Nat} (h : Ext w a) (hg : w.heap.size = g) (k : Below g a b) : Ext w b := by
  subst hg
  exact Below.trans h k
theorem Bldr.lt {B b : Nat} {l : List UInt8} {w : World} (h : Bldr B b l w) : b < w.heap.size := h.elim (fun x => x.lt) (fun x => x.lt)
set_option maxRecDepth 20000 in
set_option maxHeartbeats 4000000 in
theorem digitsText_c (v : Value) (zs : List Int) (w : World) (h : Ints w v zs) (hz : ∀ z ∈ zs, 0 ≤ z ∧ z ≤ 9) (hl : zs.length ≤ 1048576) :
    Calls Tryz.prog 31 #[v] w fun e w' => e = .returned (.string ⟨(digB zs).toArray⟩) ∧ Ext w w' := by
  obtain ⟨A, c, rfl, h1, h2⟩ := h.form
  obtain ⟨W, hW⟩ : ∃ W, w.alloc (.cells #[.pointer none, .slice none 0 0] 113) = W := ⟨_, rfl⟩
  have hX : Ext w W := by rw [← hW]; exact Ext.alloc _ _
  have hB : Bldr w.heap.size w.heap.size [] W := by rw [← hW]; exact Lib.fresh_isBuilder _ _ w
  have HZ := Lib.hid hz
  generalize hg0 : w.heap.size = g at *
  go_enter Tryz.func31, Tryz.ntmps31
  go_wp2_with fail
  try rw [hW]
  clear hW
  go_loopw [8] (fun i wr => ∃ k : Nat, k ≤ zs.length ∧ i = .int .i64 (k : Int) ∧ Bldr g g (digB (zs.take k)) wr ∧ Ext w wr) (fun i _ => zs.length - (intOf i).toNat)
  case atStart => exact ⟨0, Nat.zero_le _, rfl, hB, hX⟩
  case round =>
    clear hB hX
    obtain ⟨k, hk, rfl, hB, hX⟩ := hrel
    by_cases hlt : k < zs.length
    · obtain ⟨b', off, rfl, hc⟩ := (h.ext hX).at hlt
      have c0 := hc k hlt
      have hnx : Hid (digB (zs.take (k + 1)) = digB (zs.take k) ++ [digU zs[k]]) := Lib.hid (by unfold digB; rw [List.take_succ_eq_append_getElem hlt, List.map_append]; rfl)
      have hz0 := HZ.out _ (List.getElem_mem hlt)
      have hll : (digB (zs.take k)).length ≤ 1048576 := by simp [digB]; omega
      generalize zs[k] = z at *
      have hd := digU_nat hz0.1 hz0.2
      have hn : (digU z).toNat ≤ 127 := by omega
      have hwz : IntKind.i32.wrap z = z := by
        rcases (show z = 0 ∨ z = 1 ∨ z = 2 ∨ z = 3 ∨ z = 4 ∨ z = 5 ∨ z = 6 ∨ z = 7 ∨ z = 8 ∨ z = 9 by omega) with e | e | e | e | e | e | e | e | e | e <;> rw [e] <;> rfl
      have hwr := writeRuneA_c g g _ (digU z) hn wr hB (by omega) (by have := hX.size; omega)
      rw [hd] at hwr
      clear hc
      go_wp2_with fail
      refine hwr.mono ?_
      rintro e w2 ⟨rfl, hB2, hX2⟩
      go_wp2
      go_roundw
      case rel => exact ⟨k + 1, by omega, by go_num, by rw [hnx.out]; exact .inr hB2, ext_below hX hg0 hX2⟩
      case measure => simp [intOf]; omega
    · have hke : zs.take k = zs := List.take_of_length_le (by omega)
      rw [hke] at hB
      clear hke
      have hst := Tryz.Builder_String_any g g (digB zs) wr hB (by have := hX.size; omega)
      go_wp2_with fail
      refine hst.mono ?_
      rintro e w2 ⟨rfl, hX2⟩
      go_wp2
      go_ret
      exact ⟨rfl, ext_below hX hg0 hX2⟩
end Go.Proofs.YtkbpchdncljlbaaGreatDoor
end
section
namespace Go.Proofs.YtkbpchdncljlbaaGreatDoor
open Go Go.RowKit Go.Proofs
set_option maxHeartbeats 400000
/-- A configuration. -/
structure ConfD where
  q : Int
  l : List Int
  r : List Int
deriving DecidableEq
def Conf (w : World) (v : Value) (c : ConfD) : Prop := ∃ lv rv, v = .agg #[.int .i64 c.q, lv, rv] ∧ Ints w lv c.l ∧ Ints w rv c.r
theorem Conf.ext {w w' : World} {v : Value} {c : ConfD} (h : Conf w v c) (he : Ext w w') : Conf w' v c := by
  obtain ⟨lv, rv, hv, h1, h2⟩ := h; exact ⟨lv, rv, hv, h1.ext he, h2.ext he⟩
/-- A side of a tape may stand so. -/
def sideOk (xs : List Int) (sy most : Int) : Bool := decide ((xs.length : Int) ≤ most) && (xs.all fun z => inB z 0 (sy - 1)) && (((xs.length : Int) == 0) || xs.getLastD 0 != 0)
theorem lastD_get {xs : List Int} (h : 0 < xs.length) : xs.getLastD 0 = xs[xs.length - 1] := by
  rw [List.getLastD_eq_getLast?, List.getLast?_eq_getElem?, List.getElem?_eq_getElem (by omega)]
  rfl
theorem validSide_c (v : Value) (xs : List Int) (sy most : Int) (w : World) (h : Ints w v xs) (h1 : 1 ≤ sy) (h2 : sy ≤ 1000000) :
    Calls Tryz.prog 84 #[v, .int .i64 sy, .int .i64 most] w fun e w' => e = .returned (.bool (sideOk xs sy most)) ∧ w = w' := by
  have h0 := h
  obtain ⟨A, c, rfl, h5, h5'⟩ := h.form
  by_cases hl : (xs.length : Int) ≤ most
  · have hld : decide ((xs.length : Int) ≤ most) = true := by simp [hl]
    go_enter Tryz.func84, Tryz.ntmps84
    go_wp2_with fail
    refine (sizeInt_c _ _ _ h0).mono ?_
    rintro e w' ⟨rfl, rfl⟩
    go_wp2_with fail
    refine (allWithin_c _ _ _ _ _ h0).mono ?_
    rintro e w' ⟨rfl, rfl⟩
    cases ha : (xs.all fun z => inB z 0 (sy - 1)) with
    | false =>
      have HE : Hid (sideOk xs sy most = false) := by unfold Hid; simp only [sideOk, ha]; simp
      go_wp2
      go_ret
      exact ⟨by simp [HE.out], rfl⟩
    | true =>
      have HA := Lib.hid ha
      clear ha
      by_cases hz : xs.length = 0
      · have hzb : ((xs.length : Int) == 0) = true := by simp [hz]
        have HE : Hid (sideOk xs sy most = true) := by unfold Hid; simp only [sideOk, HA.out, hzb, hld]; rfl
        clear hz
        go_wp2
        go_ret
        exact ⟨by simp [HE.out], rfl⟩
      · have hzb : ((xs.length : Int) == 0) = false := by rw [beq_eq_false_iff_ne]; omega
        have hlt : xs.length - 1 < xs.length := by omega
        obtain ⟨b, off, rfl, hc⟩ := h0.at hlt
        have c0 := hc (xs.length - 1) hlt
        have HE : Hid (sideOk xs sy most = (xs[xs.length - 1] != 0)) := by unfold Hid; simp only [sideOk, HA.out, hzb, hld, lastD_get (show 0 < xs.length by omega)]; rfl
        have i1 : (0 : Int) ≤ (xs.length : Int) - 1 := by omega
        have i2 : ((xs.length : Int) - 1) < (xs.length : Int) := by omega
        have i3 : ((xs.length : Int) - 1).toNat = xs.length - 1 := by omega
        clear hc h h0
        generalize xs[xs.length - 1] = z at *
        go_wp2
        go_ret
        exact ⟨by simp [HE.out], rfl⟩
  · have hld : decide ((xs.length : Int) ≤ most) = false := by simp; omega
    have HE : Hid (sideOk xs sy most = false) := by unfold Hid; simp only [sideOk, hld]; simp
    go_enter Tryz.func84, Tryz.ntmps84
    go_wp2_with fail
    refine (sizeInt_c _ _ _ h0).mono ?_
    rintro e w' ⟨rfl, rfl⟩
    go_wp2
    go_ret
    exact ⟨by simp [HE.out], rfl⟩
def confB (m : MachD) (c : ConfD) : Bool := inB c.q 0 (m.st - 1) && sideOk c.l m.sy 200 && sideOk c.r m.sy 200
theorem machOk_bounds {m : MachD} (h : machOk m = true) : 2 ≤ m.sy ∧ m.sy ≤ 6 ∧ 1 ≤ m.st ∧ m.st ≤ 1000 := by
  simp only [machOk, inB, Bool.and_eq_true, decide_eq_true_eq] at h
  omega
theorem budgetOk_c (n : Int) (w : World) : Calls Tryz.prog 20 #[.int .i64 n] w fun e w' => e = .returned (.bool (inB n 1 20000)) ∧ w = w' := by
  go_enter Tryz.func20, Tryz.ntmps20
  go_wp2_with fail
  refine (within_c _ _ _ _).mono ?_
  rintro e w' ⟨rfl, rfl⟩
  go_wp2
  go_ret
  exact ⟨rfl, rfl⟩
def codeOf (m : MachD) (c : ConfD) (b : Int) : Int := if machOk m && confB m c then (if inB b 1 20000 then 0 else 2) else 1
def blankC : ConfD := ⟨0, [], []⟩
theorem conf_blank {m : MachD} (h : machOk m = true) : confB m blankC = true := by
  obtain ⟨_, _, _, _⟩ := machOk_bounds h
  simp [confB, blankC, sideOk, inB]
  omega
def budC (m : MachD) (b : Int) : Int := if machOk m then (if inB b 1 20000 then 0 else 2) else 1
theorem budC_eq (m : MachD) (b : Int) : codeOf m blankC b = budC m b := by
  unfold codeOf budC
  cases h : machOk m with
  | false => rfl
  | true => rw [conf_blank h]; rfl
theorem ints_nil (w : World) : Ints w (.slice none 0 0) [] := ⟨none, 0, rfl, Nat.le_refl _, by omega, rfl, fun h => by simp at h⟩
end Go.Proofs.YtkbpchdncljlbaaGreatDoor
end
section
set_option linter.unusedSimpArgs false
set_option linter.unusedVariables false
namespace Go.Proofs.YtkbpchdncljlbaaGreatDoor
open Go Go.RowKit Go.Proofs
theorem cut_one {c : UInt8} {p : List UInt8} (r : List UInt8) (h : c ∉ p) : Lib.cut (p ++ c :: r) [c] = (p, r, true) := by
  unfold Lib.cut
  rw [idx_one r h, if_pos (by omega), Int.toNat_natCast]
  congr 1
  · simp
  · congr 1
    rw [show p.length + [c].length = p.length + 1 from rfl, List.drop_append, List.drop_of_length_le (by omega), show p.length + 1 - p.length = 1 by omega]
    rfl
theorem digB_dig {zs : List Int} (h : ∀ z ∈ zs, 0 ≤ z ∧ z ≤ 9) : ∀ c ∈ digB zs, isDig c = true := by
  intro c hc
  obtain ⟨z, hz, rfl⟩ := List.mem_map.1 hc
  obtain ⟨n, rfl⟩ : ∃ n : Nat, z = (n : Int) := ⟨z.toNat, by have := h z hz; omega⟩
  have := h _ hz
  unfold digU
  rw [Int.toNat_natCast]
  exact dig_of n (by omega)
/-- The text of a configuration. -/
def confT (c : ConfD) : List UInt8 := digB c.l.reverse ++ 40 :: (Lib.itoa c.q ++ 41 :: digB c.r)
theorem conf_cut {c : ConfD} (hl : ∀ z ∈ c.l, 0 ≤ z ∧ z ≤ 9) : Lib.cut (confT c) [40] = (digB c.l.reverse, Lib.itoa c.q ++ 41 :: digB c.r, true) :=
  cut_one _ fun h => absurd (digB_dig (fun z hz => hl z (List.mem_reverse.1 hz)) _ h) (by decide)
theorem conf_cut2 {c : ConfD} (hq : 0 ≤ c.q) : Lib.cut (Lib.itoa c.q ++ 41 :: digB c.r) [41] = (Lib.itoa c.q, digB c.r, true) :=
  cut_one _ fun h => absurd (itoa_dig hq _ h) (by decide)
end Go.Proofs.YtkbpchdncljlbaaGreatDoor
end
