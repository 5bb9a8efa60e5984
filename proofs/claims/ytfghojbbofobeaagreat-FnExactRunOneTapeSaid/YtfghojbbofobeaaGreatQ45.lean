/- The program's run of the machine with one tape for several and the reference's are the same, for every machine, all words and every budget: the law answers true and leaves its arguments as they are. No condition. -/
import Derived.Test.YtfghojbbofobeaaGreatQ08
import Derived.Test.YtfghojbbofobeaaGreatQ44
import Derived.Test.YtfghojbbofobeaaGreatRows
section
namespace Go.Proofs.YtfghojbbofobeaaGreat
open Go Go.RowKit Go.ChangeShapes Go.WideShapes Go.ChangeAt Go.Deep Go.Joins
theorem own25 : ownKnob Tryz.prog.godebug = none := by kernel_rfl
theorem laidOut25 : laidOutB Tryz.prog = true := by kernel_rfl
set_option maxRecDepth 100000 in
theorem lifted25 (os : Os) (started : os.Started) (H : Type) (enc : TypeId × Value → H) :
    ReturnsInHanded {} Tryz.checked os 3 .any (Rows.fnExactRunOneTapeSpec.pre6 enc Tryz.prog Tryz.f3 Rows.fnExactRunOneTapeRow.domain false) (Rows.fnExactRunOneTapeSpec.post enc Tryz.prog Tryz.f3 false true false false) := by
  refine returnsInHanded_of_change (C := Tryz.checked) own25 started (by kernel_rfl) Tryz.func3
    (ChangeSpec.witness6 (enc := enc) (C := Tryz.checked) false ⟨#[], #[.agg #[.int .i64 0, .int .i64 0, .int .i64 0, .slice none 0 0], .slice none 0 0, .int .i64 0], []⟩ 8 (by kernel_rfl) (by kernel_rfl) (by kernel_rfl) (by kernel_rfl)) ?_
  intro W base args ds gs before hval0 hW hcnd _
  have hval : ∀ (j : Nat) t v, Tryz.f3.params[j]? = some t → args[j]? = some v → Value.okWide Tryz.prog W .any base t v := hval0
  have hW' := hW
  obtain ⟨p, q, hA0, hV, rfl, hfz, hnd⟩ := hW
  have hA : DataW.TrodAll enc Tryz.prog W 0 (fun _ => true) true Tryz.f3.params.toList args.toList ds p := hA0
  rw [Tryz.params3] at hA hval
  obtain ⟨v0, v1, v2, d0, d1, d2, p0, p1, p2, hargs, rfl, rfl, h0, h1, h2⟩ := trodAll_three hA
  obtain ⟨m, hm⟩ := open_mult (hval 0 _ v0 rfl (by rw [hargs]; rfl)) h0
  obtain ⟨ws, hw⟩ := open_words (hval 1 _ v1 rfl (by rw [hargs]; rfl)) h1
  obtain ⟨n, rfl, _⟩ := open_num (hval 2 _ v2 rfl (by rw [hargs]; rfl)) h2
  subst hargs
  refine (law25_c v0 v1 m ws n W hm hw).mono fun e W' ⟨he, hb⟩ => ?_
  subst he
  exact ⟨_, rfl, law_post laidOut25 (by kernel_rfl) (by kernel_rfl) Tryz.underlying4 rfl (fun ds hd => by
      match ds, hd.trans (show Tryz.f3.params.size = 3 by kernel_rfl) with
      | [d0, d1, d2], _ => rfl) hW' hb⟩
theorem runOneTape_holds : Rows.FnExactRunOneTapeSaid :=
  OpenClaim.holds_of_wide 3 Tryz.f3 rfl rfl rfl rfl rfl rfl rfl ⟨rfl, rfl, rfl, rfl, rfl⟩ rfl rfl rfl rfl rfl (by kernel_rfl) Tryz.func3 (by kernel_rfl)
    (of_decide_eq_true (by kernel_rfl)) (by unfold Func.isWrapper; first | (rw [if_pos (by decide +kernel)]; kernel_rfl) | (rw [if_neg (by decide +kernel)]; exact ⟨rfl, rfl⟩))
    (fun os started H enc _ => lifted25 os started H enc)
#print axioms runOneTape_holds
end Go.Proofs.YtfghojbbofobeaaGreat
end
