/- Contract of the program's text of digits. The letters are from 0 to 9.
Contracts of the program's tests on configurations and budgets. The machine is valid where its numbers are reckoned with.
Plain words: lists of texts as cells; the letters of a valid configuration. -/
import Derived.Test.YtgeckhjkahnonaaGreatDoorO06
import Derived.Test.YtgeckhjkahnonaaGreatDoorO04
import Derived.Test.YtgeckhjkahnonaaGreatDoorO03
import Derived.Test.YtgeckhjkahnonaaGreatDoorO05
import Derived.Lib.IndexMore
section
set_option linter.unusedSimpArgs false
set_option linter.unusedVariables false
namespace Go.Proofs.YtgeckhjkahnonaaGreatDoor
open Go Go.RowKit Go.Proofs
set_option maxHeartbeats 400000
def digU (z : Int) : UInt8 := UInt8.ofNat (48 + z.toNat)
def digB (zs : List Int) : List UInt8 := zs.map digU
theorem digU_nat {z : Int} (h0 : 0 ≤ z) (h1 : z ≤ 9) : ((digU z).toNat : Int) = 48 + z := by
  unfold digU
  rw [UInt8.toNat_ofNat', Nat.mod_eq_of_lt (by omega)]
  omega
theorem ext_below {w a b : World} {g : Nat} (h : Ext w a) (hg : w.heap.size = g) (k : Below g a b) : Ext w b := by
  subst hg
  exact Below.trans h k
theorem Bldr.lt {B b : Nat} {l : List UInt8} {w : World} (h : Bldr B b l w) : b < w.heap.size := h.elim (fun x => x.lt) (fun x => x.lt)
set_option maxRecDepth 20000 in
set_option maxHeartbeats 4000000 in
theorem digitsText_c (v : Value) (zs : List Int) (w : World) (h : Ints w v zs) (hz : ∀ z ∈ zs, 0 ≤ z ∧ z ≤ 9) (hl : zs.length ≤ 1048576) :
    Calls Tryz.prog 42 #[v] w fun e w' => e = .returned (.string ⟨(digB zs).toArray⟩) ∧ Ext w w' := by
  obtain ⟨A, c, rfl, h1, h2⟩ := h.form
  obtain ⟨W, hW⟩ : ∃ W, w.alloc (.cells #[.pointer none, .slice none 0 0] 101) = W := ⟨_, rfl⟩
  have hX : Ext w W := by rw [← hW]; exact Ext.alloc _ _
  have hB : Bldr w.heap.size w.heap.size [] W := by rw [← hW]; exact Lib.fresh_isBuilder _ _ w
  have HZ := Lib.hid hz
  generalize hg0 : w.heap.size = g at *
  go_enter Tryz.func42, Tryz.ntmps42
  go_wp2_with fail
  try rw [hW]
  clear hW
  go_loopw [8] (fun i wr => ∃ k : Nat, k ≤ zs.length ∧ i = .int .i64 (k : Int) ∧ Bldr g g (digB (zs.take k)) wr ∧ Ext w wr) (fun i _ => zs.length - (intOf i).toNat)
  case atStart => exact ⟨0, Nat.zero_le _, rfl, hB, hX⟩
  case round =>
    clear hB hX
    obtain ⟨k, hk, rfl, hB, hX⟩ := hrel
    by_cases hlt : k < zs.length
    · obtain ⟨b', off, rfl, hc⟩ := (h.ext hX).at hlt
      have c0 := hc k hlt
      have hnx : Hid (digB (zs.take (k + 1)) = digB (zs.take k) ++ [digU zs[k]]) := Lib.hid (by unfold digB; rw [List.take_succ_eq_append_getElem hlt, List.map_append]; rfl)
      have hz0 := HZ.out _ (List.getElem_mem hlt)
      have hll : (digB (zs.take k)).length ≤ 1048576 := by simp [digB]; omega
      generalize zs[k] = z at *
      have hd := digU_nat hz0.1 hz0.2
      have hn : (digU z).toNat ≤ 127 := by omega
      have hwz : IntKind.i32.wrap z = z := by
        rcases (show z = 0 ∨ z = 1 ∨ z = 2 ∨ z = 3 ∨ z = 4 ∨ z = 5 ∨ z = 6 ∨ z = 7 ∨ z = 8 ∨ z = 9 by omega) with e | e | e | e | e | e | e | e | e | e <;> rw [e] <;> rfl
      have hwr := writeRuneA_c g g _ (digU z) hn wr hB (by omega) (by have := hX.size; omega)
      rw [hd] at hwr
      clear hc
      go_wp2_with fail
      refine hwr.mono ?_
      rintro e w2 ⟨rfl, hB2, hX2⟩
      go_wp2
      go_roundw
      case rel => exact ⟨k + 1, by omega, by go_num, by rw [hnx.out]; exact .inr hB2, ext_below hX hg0 hX2⟩
      case measure => simp [intOf]; omega
    · have hke : zs.take k = zs := List.take_of_length_le (by omega)
      rw [hke] at hB
      clear hke
      have hst := Tryz.Builder_String_any g g (digB zs) wr hB (by have := hX.size; omega)
      go_wp2_with fail
      refine hst.mono ?_
      rintro e w2 ⟨rfl, hX2⟩
      go_wp2
      go_ret
      exact ⟨rfl, ext_below hX hg0 hX2⟩
end Go.Proofs.YtgeckhjkahnonaaGreatDoor
end
section
namespace Go.Proofs.YtgeckhjkahnonaaGreatDoor
open Go Go.RowKit Go.Proofs
set_option maxHeartbeats 400000
/-- A configuration. -/
structure ConfD where
  q : Int
  l : List Int
  r : List Int
deriving DecidableEq
def Conf (w : World) (v : Value) (c : ConfD) : Prop := ∃ lv rv, v = .agg #[.int .i64 c.q, lv, rv] ∧ Ints w lv c.l ∧ Ints w rv c.r
theorem Conf.ext {w w' : World} {v : Value} {c : ConfD} (h : Conf w v c) (he : Ext w w') : Conf w' v c := by
  obtain ⟨lv, rv, hv, h1, h2⟩ := h; exact ⟨lv, rv, hv, h1.ext he, h2.ext he⟩
/-- A side of a tape may stand so. -/
def sideOk (xs : List Int) (sy most : Int) : Bool := decide ((xs.length : Int) ≤ most) && (xs.all fun z => inB z 0 (sy - 1)) && (((xs.length : Int) == 0) || xs.getLastD 0 != 0)
theorem lastD_get {xs : List Int} (h : 0 < xs.length) : xs.getLastD 0 = xs[xs.length - 1] := by
  rw [List.getLastD_eq_getLast?, List.getLast?_eq_getElem?, List.getElem?_eq_getElem (by omega)]
  rfl
def confB (m : MachD) (c : ConfD) : Bool := inB c.q 0 (m.st - 1) && sideOk c.l m.sy 200 && sideOk c.r m.sy 200
def blankC : ConfD := ⟨0, [], []⟩
end Go.Proofs.YtgeckhjkahnonaaGreatDoor
end
section
set_option linter.unusedSimpArgs false
set_option linter.unusedVariables false
namespace Go.Proofs.YtgeckhjkahnonaaGreatDoor
open Go Go.RowKit Go.Proofs
def svB (xs : List (List UInt8)) : List Value := xs.map fun l => Value.string (bsS l)
end Go.Proofs.YtgeckhjkahnonaaGreatDoor
end
