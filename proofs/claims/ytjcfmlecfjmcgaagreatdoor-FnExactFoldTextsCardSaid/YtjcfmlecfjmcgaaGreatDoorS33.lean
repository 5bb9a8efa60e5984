/- Contract: the rule of a text. The text is that of a rule of a valid machine; the library's table is as its text lays it.
Plain words: lists of texts as cells; the letters of a valid configuration. -/
import Derived.Test.YtjcfmlecfjmcgaaGreatDoorS32
import Derived.Test.YtjcfmlecfjmcgaaGreatDoorS25
section
set_option linter.unusedSimpArgs false
set_option linter.unusedVariables false
namespace Go.Proofs.YtjcfmlecfjmcgaaGreatDoor
open Go Go.RowKit Go.Proofs
set_option maxHeartbeats 400000
theorem ascii_of {l : List UInt8} (h : ∀ c ∈ l, inRule c = true) (j : Nat) (b : UInt8) (hb : (bsS l).data.toList[j]? = some b) : b.toNat < 128 := by
  have hm : b ∈ l := List.mem_of_getElem? hb
  have := h b hm
  simp only [inRule, isDig, Bool.or_eq_true, Bool.and_eq_true, decide_eq_true_eq, beq_iff_eq, UInt8.le_iff_toNat_le] at this
  rcases this with ((⟨h1, h2⟩ | rfl) | rfl) | rfl
  · have : (57 : UInt8).toNat = 57 := rfl
    omega
  · decide
  · decide
  · decide
theorem bs_extract (l : List UInt8) (a b : Nat) : (bsS l).extract a b = bsS ((l.drop a).take (b - a)) := by
  apply ByteArray.ext
  apply Array.toList_inj.1
  exact Lib.extract_data _ _ _
theorem bs_size (l : List UInt8) : (bsS l).size = l.length := by show l.toArray.size = _; simp
theorem bs_get (l : List UInt8) (k : Nat) (h : k < (bsS l).size) (h' : k < l.length) : (bsS l)[k]'h = l[k]'h' := by
  show l.toArray[k]'_ = _
  simp
/-- The text of a rule in parts. -/
theorem rule_parts {r : RuleD} (hr : r ≠ noR) : ∃ (k : Nat) (hk : k < (bsS (ruleT r)).size), (Lib.itoa r.w).length = k ∧ (bsS (ruleT r))[k] = (if r.m < 0 then 76 else 82) ∧ (bsS (ruleT r)).extract 0 k = itoaS r.w ∧ (bsS (ruleT r)).extract (k + 1) (bsS (ruleT r)).size = itoaS r.n := by
  have e : ruleT r = Lib.itoa r.w ++ (if r.m < 0 then 76 else 82) :: Lib.itoa r.n := by unfold ruleT; rw [if_neg hr]
  have hl : (Lib.itoa r.w).length < (ruleT r).length := by rw [e]; simp
  refine ⟨(Lib.itoa r.w).length, by rw [bs_size]; exact hl, rfl, ?_, ?_, ?_⟩
  · rw [bs_get _ _ _ hl]
    have : (ruleT r)[(Lib.itoa r.w).length]? = some (if r.m < 0 then 76 else 82) := by rw [e, List.getElem?_append_right (Nat.le_refl _), Nat.sub_self]; rfl
    rw [List.getElem?_eq_getElem hl] at this
    exact Option.some.inj this
  · rw [bs_extract, e]
    simp
    rfl
  · rw [bs_extract, bs_size, e]
    have : (Lib.itoa r.w ++ (if r.m < 0 then 76 else 82) :: Lib.itoa r.n).drop ((Lib.itoa r.w).length + 1) = Lib.itoa r.n := by
      rw [List.drop_append, List.drop_of_length_le (by omega), show (Lib.itoa r.w).length + 1 - (Lib.itoa r.w).length = 1 by omega]
      rfl
    rw [this]
    show bsS _ = bsS _
    congr 1
    apply List.take_of_length_le
    simp
    omega
end Go.Proofs.YtjcfmlecfjmcgaaGreatDoor
end
section
set_option linter.unusedSimpArgs false
set_option linter.unusedVariables false
namespace Go.Proofs.YtjcfmlecfjmcgaaGreatDoor
open Go Go.RowKit Go.Proofs
def svB (xs : List (List UInt8)) : List Value := xs.map fun l => Value.string (bsS l)
theorem svB_length (xs : List (List UInt8)) : (svB xs).length = xs.length := by simp [svB]
theorem svB_take {α : Type} (f : α → List UInt8) (xs : List α) (k : Nat) (h : k < xs.length) : svB ((xs.take (k + 1)).map f) = svB ((xs.take k).map f) ++ [.string (bsS (f xs[k]))] := by
  unfold svB; rw [List.take_succ_eq_append_getElem h, List.map_append, List.map_append]; rfl
theorem conf_digs {m : MachD} {c : ConfD} (hm : machOk m = true) (hc : confB m c = true) : (0 ≤ c.q ∧ c.q ≤ 999) ∧ (c.l.length ≤ 200 ∧ ∀ z ∈ c.l, 0 ≤ z ∧ z ≤ 9) ∧ (c.r.length ≤ 200 ∧ ∀ z ∈ c.r, 0 ≤ z ∧ z ≤ 9) := by
  obtain ⟨s1, s2, t1, t2⟩ := machOk_bounds hm
  simp only [confB, sideOk, Bool.and_eq_true, decide_eq_true_eq, List.all_eq_true] at hc
  obtain ⟨⟨h1, ⟨⟨h2, h3⟩, _⟩⟩, ⟨⟨h4, h5⟩, _⟩⟩ := hc
  have h1 := inB_iff.1 h1
  refine ⟨by omega, ⟨by omega, fun z hz => ?_⟩, ⟨by omega, fun z hz => ?_⟩⟩
  · have := inB_iff.1 (h3 z hz); omega
  · have := inB_iff.1 (h5 z hz); omega
theorem confT_app (c : ConfD) : bsS (digB c.l.reverse) ++ ⟨#[40]⟩ ++ itoaS c.q ++ ⟨#[41]⟩ ++ bsS (digB c.r) = bsS (confT c) := by
  have e : confT c = digB c.l.reverse ++ [40] ++ Lib.itoa c.q ++ [41] ++ digB c.r := by
    unfold confT
    simp
  rw [e, ← bs_app, ← bs_app, ← bs_app, ← bs_app]
  rfl
end Go.Proofs.YtjcfmlecfjmcgaaGreatDoor
end
