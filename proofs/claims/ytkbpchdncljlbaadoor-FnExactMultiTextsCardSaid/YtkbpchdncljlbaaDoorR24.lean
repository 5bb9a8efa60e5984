/- Plain words: the text of a configuration, and that its parts are found again. No program stands here.
Plain words: lists of texts as cells; the letters of a valid configuration. -/
import Derived.Test.YtkbpchdncljlbaaDoorR22
import Derived.Test.YtkbpchdncljlbaaDoorR23
import Derived.Test.YtkbpchdncljlbaaDoorR06
import Derived.Lib.IndexMore
section
set_option linter.unusedSimpArgs false
set_option linter.unusedVariables false
namespace Go.Proofs.YtkbpchdncljlbaaDoor
open Go Go.RowKit Go.Proofs
theorem cut_one {c : UInt8} {p : List UInt8} (r : List UInt8) (h : c ∉ p) : Lib.cut (p ++ c :: r) [c] = (p, r, true) := by
  unfold Lib.cut
  rw [idx_one r h, if_pos (by omega), Int.toNat_natCast]
  congr 1
  · simp
  · congr 1
    rw [show p.length + [c].length = p.length + 1 from rfl, List.drop_append, List.drop_of_length_le (by omega), show p.length + 1 - p.length = 1 by omega]
    rfl
theorem digB_dig {zs : List Int} (h : ∀ z ∈ zs, 0 ≤ z ∧ z ≤ 9) : ∀ c ∈ digB zs, isDig c = true := by
  intro c hc
  obtain ⟨z, hz, rfl⟩ := List.mem_map.1 hc
  obtain ⟨n, rfl⟩ : ∃ n : Nat, z = (n : Int) := ⟨z.toNat, by have := h z hz; omega⟩
  have := h _ hz
  unfold digU
  rw [Int.toNat_natCast]
  exact dig_of n (by omega)
/-- The text of a configuration. -/
def confT (c : ConfD) : List UInt8 := digB c.l.reverse ++ 40 :: (Lib.itoa c.q ++ 41 :: digB c.r)
theorem conf_cut {c : ConfD} (hl : ∀ z ∈ c.l, 0 ≤ z ∧ z ≤ 9) : Lib.cut (confT c) [40] = (digB c.l.reverse, Lib.itoa c.q ++ 41 :: digB c.r, true) :=
  cut_one _ fun h => absurd (digB_dig (fun z hz => hl z (List.mem_reverse.1 hz)) _ h) (by decide)
theorem conf_cut2 {c : ConfD} (hq : 0 ≤ c.q) : Lib.cut (Lib.itoa c.q ++ 41 :: digB c.r) [41] = (Lib.itoa c.q, digB c.r, true) :=
  cut_one _ fun h => absurd (itoa_dig hq _ h) (by decide)
end Go.Proofs.YtkbpchdncljlbaaDoor
end
section
set_option linter.unusedSimpArgs false
set_option linter.unusedVariables false
namespace Go.Proofs.YtkbpchdncljlbaaDoor
open Go Go.RowKit Go.Proofs
def svB (xs : List (List UInt8)) : List Value := xs.map fun l => Value.string (bsS l)
theorem svB_length (xs : List (List UInt8)) : (svB xs).length = xs.length := by simp [svB]
theorem svB_take {α : Type} (f : α → List UInt8) (xs : List α) (k : Nat) (h : k < xs.length) : svB ((xs.take (k + 1)).map f) = svB ((xs.take k).map f) ++ [.string (bsS (f xs[k]))] := by
  unfold svB; rw [List.take_succ_eq_append_getElem h, List.map_append, List.map_append]; rfl
theorem conf_digs {m : MachD} {c : ConfD} (hm : machOk m = true) (hc : confB m c = true) : (0 ≤ c.q ∧ c.q ≤ 999) ∧ (c.l.length ≤ 200 ∧ ∀ z ∈ c.l, 0 ≤ z ∧ z ≤ 9) ∧ (c.r.length ≤ 200 ∧ ∀ z ∈ c.r, 0 ≤ z ∧ z ≤ 9) := by
  obtain ⟨s1, s2, t1, t2⟩ := machOk_bounds hm
  simp only [confB, sideOk, Bool.and_eq_true, decide_eq_true_eq, List.all_eq_true] at hc
  obtain ⟨⟨h1, ⟨⟨h2, h3⟩, _⟩⟩, ⟨⟨h4, h5⟩, _⟩⟩ := hc
  have h1 := inB_iff.1 h1
  refine ⟨by omega, ⟨by omega, fun z hz => ?_⟩, ⟨by omega, fun z hz => ?_⟩⟩
  · have := inB_iff.1 (h3 z hz); omega
  · have := inB_iff.1 (h5 z hz); omega
theorem confT_app (c : ConfD) : bsS (digB c.l.reverse) ++ ⟨#[40]⟩ ++ itoaS c.q ++ ⟨#[41]⟩ ++ bsS (digB c.r) = bsS (confT c) := by
  have e : confT c = digB c.l.reverse ++ [40] ++ Lib.itoa c.q ++ [41] ++ digB c.r := by
    unfold confT
    simp
  rw [e, ← bs_app, ← bs_app, ← bs_app, ← bs_app]
  rfl
end Go.Proofs.YtkbpchdncljlbaaDoor
end
