/- Contracts: the number of a decimal form, and the rule of a text. The texts are those that the program makes; the library's table is as its text lays it.
Contract: the rule of a text. The text is that of a rule of a valid machine; the library's table is as its text lays it.
Contract of the program's text of digits. The letters are from 0 to 9. -/
import Derived.Test.YtkbpchdncljlbaaDoorR22
import Derived.Test.YtkbpchdncljlbaaDoorR21
section
set_option linter.unusedSimpArgs false
set_option linter.unusedVariables false
namespace Go.Proofs.YtkbpchdncljlbaaDoor
open Go Go.RowKit Go.Proofs
set_option maxHeartbeats 400000
theorem itoa_nat {n : Int} (h0 : 0 ≤ n) : Lib.itoa n = Lib.decDigits n.toNat := by
  unfold Lib.itoa
  rw [if_neg (by omega)]
theorem itoa_len {n : Int} (h0 : 0 ≤ n) (h1 : n ≤ 1000000) : (Lib.itoa n).length ≤ 18 := by
  rw [itoa_nat h0]
  exact digits_len _ (by omega)
theorem trim_itoa {n : Int} (h0 : 0 ≤ n) : Lib.trimPrefix (Lib.itoa n) [45] = Lib.itoa n := by
  have hd := itoa_dig h0
  cases hl : Lib.itoa n with
  | nil => rfl
  | cons c r =>
    have hc := hd c (by rw [hl]; exact List.mem_cons_self)
    have hne : ¬ (45 : UInt8) = c := fun e => by subst e; exact absurd hc (by decide)
    have h1 : [(45 : UInt8)].isPrefixOf (c :: r) = false := by
      show (45 == c && _) = false
      rw [beq_eq_false_iff_ne.2 hne]
      rfl
    unfold Lib.trimPrefix Lib.hasPrefix
    rw [h1]
    rfl
end Go.Proofs.YtkbpchdncljlbaaDoor
end
section
set_option linter.unusedSimpArgs false
set_option linter.unusedVariables false
namespace Go.Proofs.YtkbpchdncljlbaaDoor
open Go Go.RowKit Go.Proofs
set_option maxHeartbeats 400000
theorem ascii_of {l : List UInt8} (h : ∀ c ∈ l, inRule c = true) (j : Nat) (b : UInt8) (hb : (bsS l).data.toList[j]? = some b) : b.toNat < 128 := by
  have hm : b ∈ l := List.mem_of_getElem? hb
  have := h b hm
  simp only [inRule, isDig, Bool.or_eq_true, Bool.and_eq_true, decide_eq_true_eq, beq_iff_eq, UInt8.le_iff_toNat_le] at this
  rcases this with ((⟨h1, h2⟩ | rfl) | rfl) | rfl
  · have : (57 : UInt8).toNat = 57 := rfl
    omega
  · decide
  · decide
  · decide
theorem bs_extract (l : List UInt8) (a b : Nat) : (bsS l).extract a b = bsS ((l.drop a).take (b - a)) := by
  apply ByteArray.ext
  apply Array.toList_inj.1
  exact Lib.extract_data _ _ _
theorem bs_size (l : List UInt8) : (bsS l).size = l.length := by show l.toArray.size = _; simp
theorem bs_get (l : List UInt8) (k : Nat) (h : k < (bsS l).size) (h' : k < l.length) : (bsS l)[k]'h = l[k]'h' := by
  show l.toArray[k]'_ = _
  simp
/-- The text of a rule in parts. -/
theorem rule_parts {r : RuleD} (hr : r ≠ noR) : ∃ (k : Nat) (hk : k < (bsS (ruleT r)).size), (Lib.itoa r.w).length = k ∧ (bsS (ruleT r))[k] = (if r.m < 0 then 76 else 82) ∧ (bsS (ruleT r)).extract 0 k = itoaS r.w ∧ (bsS (ruleT r)).extract (k + 1) (bsS (ruleT r)).size = itoaS r.n := by
  have e : ruleT r = Lib.itoa r.w ++ (if r.m < 0 then 76 else 82) :: Lib.itoa r.n := by unfold ruleT; rw [if_neg hr]
  have hl : (Lib.itoa r.w).length < (ruleT r).length := by rw [e]; simp
  refine ⟨(Lib.itoa r.w).length, by rw [bs_size]; exact hl, rfl, ?_, ?_, ?_⟩
  · rw [bs_get _ _ _ hl]
    have : (ruleT r)[(Lib.itoa r.w).length]? = some (if r.m < 0 then 76 else 82) := by rw [e, List.getElem?_append_right (Nat.le_refl _), Nat.sub_self]; rfl
    rw [List.getElem?_eq_getElem hl] at this
    exact Option.some.inj this
  · rw [bs_extract, e]
    simp
    rfl
  · rw [bs_extract, bs_size, e]
    have : (Lib.itoa r.w ++ (if r.m < 0 then 76 else 82) :: Lib.itoa r.n).drop ((Lib.itoa r.w).length + 1) = Lib.itoa r.n := by
      rw [List.drop_append, List.drop_of_length_le (by omega), show (Lib.itoa r.w).length + 1 - (Lib.itoa r.w).length = 1 by omega]
      rfl
    rw [this]
    show bsS _ = bsS _
    congr 1
    apply List.take_of_length_le
    simp
    omega
end Go.Proofs.YtkbpchdncljlbaaDoor
end
section
set_option linter.unusedSimpArgs false
set_option linter.unusedVariables false
namespace Go.Proofs.YtkbpchdncljlbaaDoor
open Go Go.RowKit Go.Proofs
set_option maxHeartbeats 400000
def digU (z : Int) : UInt8 := UInt8.ofNat (48 + z.toNat)
def digB (zs : List Int) : List UInt8 := zs.map digU
theorem digU_nat {z : Int} (h0 : 0 ≤ z) (h1 : z ≤ 9) : ((digU z).toNat : Int) = 48 + z := by
  unfold digU
  rw [UInt8.toNat_ofNat', Nat.mod_eq_of_lt (by omega)]
  omega
theorem ext_below {w a b : World} {g : Nat} (h : Ext w a) (hg : w.heap.size = g) (k : Below g a b) : Ext w b := by
  subst hg
  exact Below.trans h k
theorem Bldr.lt {B b : Nat} {l : List UInt8} {w : World} (h : Bldr B b l w) : b < w.heap.size := h.elim (fun x => x.lt) (fun x => x.lt)
set_option maxRecDepth 20000 in
set_option maxHeartbeats 4000000 in
theorem digitsText_c (v : Value) (zs : List Int) (w : World) (h : Ints w v zs) (hz : ∀ z ∈ zs, 0 ≤ z ∧ z ≤ 9) (hl : zs.length ≤ 1048576) :
    Calls Tryd.prog 63 #[v] w fun e w' => e = .returned (.string ⟨(digB zs).toArray⟩) ∧ Ext w w' := by
  obtain ⟨A, c, rfl, h1, h2⟩ := h.form
  obtain ⟨W, hW⟩ : ∃ W, w.alloc (.cells #[.pointer none, .slice none 0 0] 102) = W := ⟨_, rfl⟩
  have hX : Ext w W := by rw [← hW]; exact Ext.alloc _ _
  have hB : Bldr w.heap.size w.heap.size [] W := by rw [← hW]; exact Lib.fresh_isBuilder _ _ w
  have HZ := Lib.hid hz
  generalize hg0 : w.heap.size = g at *
  go_enter Tryd.func63, Tryd.ntmps63
  go_wp2_with fail
  try rw [hW]
  clear hW
  go_loopw [8] (fun i wr => ∃ k : Nat, k ≤ zs.length ∧ i = .int .i64 (k : Int) ∧ Bldr g g (digB (zs.take k)) wr ∧ Ext w wr) (fun i _ => zs.length - (intOf i).toNat)
  case atStart => exact ⟨0, Nat.zero_le _, rfl, hB, hX⟩
  case round =>
    clear hB hX
    obtain ⟨k, hk, rfl, hB, hX⟩ := hrel
    by_cases hlt : k < zs.length
    · obtain ⟨b', off, rfl, hc⟩ := (h.ext hX).at hlt
      have c0 := hc k hlt
      have hnx : Hid (digB (zs.take (k + 1)) = digB (zs.take k) ++ [digU zs[k]]) := Lib.hid (by unfold digB; rw [List.take_succ_eq_append_getElem hlt, List.map_append]; rfl)
      have hz0 := HZ.out _ (List.getElem_mem hlt)
      have hll : (digB (zs.take k)).length ≤ 1048576 := by simp [digB]; omega
      generalize zs[k] = z at *
      have hd := digU_nat hz0.1 hz0.2
      have hn : (digU z).toNat ≤ 127 := by omega
      have hwz : IntKind.i32.wrap z = z := by
        rcases (show z = 0 ∨ z = 1 ∨ z = 2 ∨ z = 3 ∨ z = 4 ∨ z = 5 ∨ z = 6 ∨ z = 7 ∨ z = 8 ∨ z = 9 by omega) with e | e | e | e | e | e | e | e | e | e <;> rw [e] <;> rfl
      have hwr := writeRuneA_c g g _ (digU z) hn wr hB (by omega) (by have := hX.size; omega)
      rw [hd] at hwr
      clear hc
      go_wp2_with fail
      refine hwr.mono ?_
      rintro e w2 ⟨rfl, hB2, hX2⟩
      go_wp2
      go_roundw
      case rel => exact ⟨k + 1, by omega, by go_num, by rw [hnx.out]; exact .inr hB2, ext_below hX hg0 hX2⟩
      case measure => simp [intOf]; omega
    · have hke : zs.take k = zs := List.take_of_length_le (by omega)
      rw [hke] at hB
      clear hke
      have hst := Tryd.Builder_String_any g g (digB zs) wr hB (by have := hX.size; omega)
      go_wp2_with fail
      refine hst.mono ?_
      rintro e w2 ⟨rfl, hX2⟩
      go_wp2
      go_ret
      exact ⟨rfl, ext_below hX hg0 hX2⟩
end Go.Proofs.YtkbpchdncljlbaaDoor
end
