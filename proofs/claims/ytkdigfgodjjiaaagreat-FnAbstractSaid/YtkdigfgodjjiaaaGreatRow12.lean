/- Each configuration of the run from the blank tape has an abstraction that is reached, whatever the automata are, and the product of two automata runs both: the law answers true for all arguments and leaves them as they are. No condition. -/
import Derived.Test.YtkdigfgodjjiaaaGreatArgs
import Derived.Test.YtkdigfgodjjiaaaGreatArgsB
import Derived.Test.YtkdigfgodjjiaaaGreatLaw12
import Derived.Test.YtkdigfgodjjiaaaGreatRows
namespace Go.Proofs.YtkdigfgodjjiaaaGreat
open Go Go.RowKit Go.ChangeShapes Go.WideShapes Go.ChangeAt Go.Deep Go.Joins
theorem own12 : ownKnob Tryz.prog.godebug = none := by kernel_rfl
theorem laidOut12 : laidOutB Tryz.prog = true := by kernel_rfl
set_option maxRecDepth 100000 in
theorem lifted12 (os : Os) (started : os.Started) (H : Type) (enc : TypeId × Value → H) :
    ReturnsInHanded {} Tryz.checked os 3 .any (Rows.fnAbstractSpec.pre6 enc Tryz.prog Tryz.f3 Rows.fnAbstractRow.domain false) (Rows.fnAbstractSpec.post enc Tryz.prog Tryz.f3 false true false false) := by
  refine returnsInHanded_of_change (C := Tryz.checked) own12 started (by kernel_rfl) Tryz.func3
    (ChangeSpec.witness6 (enc := enc) (C := Tryz.checked) false ⟨#[], #[.slice none 0 0, .slice none 0 0], []⟩ 8 (by kernel_rfl) (by kernel_rfl) (by kernel_rfl) (by kernel_rfl)) ?_
  intro W base args ds gs before hval0 hW hcnd _
  have hval : ∀ (j : Nat) t v, Tryz.f3.params[j]? = some t → args[j]? = some v → Value.okWide Tryz.prog W .any base t v := hval0
  have hW' := hW
  obtain ⟨p, q, hA0, hV, rfl, hfz, hnd⟩ := hW
  have hA : DataW.TrodAll enc Tryz.prog W 0 (fun _ => true) true Tryz.f3.params.toList args.toList ds p := hA0
  rw [Tryz.params3] at hA hval
  obtain ⟨v0, v1, d0, d1, p0, p1, hargs, rfl, rfl, h0, h1⟩ := trodAll_two hA
  obtain ⟨bs, hb0⟩ := open_bytesT (hval 0 _ v0 rfl (by rw [hargs]; rfl)) h0
  obtain ⟨ms, hb1⟩ := open_bytesT (hval 1 _ v1 rfl (by rw [hargs]; rfl)) h1
  subst hargs
  refine (law12_c v0 v1 bs ms W hb0 hb1).mono fun e W' ⟨he, hb⟩ => ?_
  subst he
  exact ⟨_, rfl, law_post laidOut12 (by kernel_rfl) (by kernel_rfl) Tryz.underlying4 rfl (fun ds hd => by
      match ds, hd.trans (show Tryz.f3.params.size = 2 by kernel_rfl) with
      | [d0, d1], _ => rfl) hW' hb⟩
theorem abstract_holds : Rows.FnAbstractSaid :=
  OpenClaim.holds_of_wide 3 Tryz.f3 rfl rfl rfl rfl rfl rfl rfl ⟨rfl, rfl, rfl, rfl, rfl⟩ rfl rfl rfl rfl rfl (by kernel_rfl) Tryz.func3 (by kernel_rfl)
    (of_decide_eq_true (by kernel_rfl)) (by unfold Func.isWrapper; first | (rw [if_pos (by decide +kernel)]; kernel_rfl) | (rw [if_neg (by decide +kernel)]; exact ⟨rfl, rfl⟩))
    (fun os started H enc _ => lifted12 os started H enc)
#print axioms abstract_holds
end Go.Proofs.YtkdigfgodjjiaaaGreat
