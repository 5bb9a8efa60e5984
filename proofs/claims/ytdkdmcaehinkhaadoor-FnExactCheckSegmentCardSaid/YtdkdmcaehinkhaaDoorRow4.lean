/- The program's check of a proof by segments and the reference's are the same, for every machine and every proof: the law answers true and leaves its arguments as they are. The listed tables of the library hold what the program's text lays in them. -/
import Derived.Test.YtdkdmcaehinkhaaDoorTab
import Derived.Test.YtdkdmcaehinkhaaDoorLaw4
import Derived.Test.YtdkdmcaehinkhaaDoorArgs4
import Derived.Test.YtdkdmcaehinkhaaDoorCards
namespace Go.Proofs.YtdkdmcaehinkhaaDoor
open Go Go.RowKit Go.ChangeShapes Go.WideShapes Go.ChangeAt
set_option maxRecDepth 100000 in
theorem lifted4 (os : Os) (started : os.Started) (H : Type) (enc : TypeId × Value → H) :
    ReturnsInHanded {} Tryd.checked os 4 .any (fun w args => (Rows.fnExactCheckSegmentSpec.pre enc Tryd.prog Tryd.f4 [] false w args ∧ laidMetH Tryd.prog laid3 w) ∧ sizedMet enc Tryd.prog Tryd.f4 (OpenSpec.ofChange Rows.fnExactCheckSegmentSpec) false w args)
      (Rows.fnExactCheckSegmentSpec.post enc Tryd.prog Tryd.f4 false true false false) := by
  refine law_lift (C := Tryd.checked) (X := fun w _ => laidMetH Tryd.prog laid3 w) (tb := 4) (fun _ _ _ hh h => h.of_heap hh) ownKn started (by kernel_rfl) Tryd.func4
    (ChangeSpec.witness_shaped (enc := enc) (C := Tryd.checked) (os := os) (X := fun w _ => laidMetH Tryd.prog laid3 w) false (World.doorLaid Tryd.prog 24 os) #[.agg #[.int .i64 0, .int .i64 0, .slice none 0 0], .agg #[.int .i64 0, .slice none 0 0, .slice none 0 0]] 8 rfl (World.shaped_of_RefB (by kernel_rfl) (by kernel_rfl)) (by kernel_rfl) (by kernel_rfl) (by kernel_rfl) (door_met os _))
    laidOutP (by kernel_rfl) (by kernel_rfl) Tryd.underlying4 rfl
    (fun ds hd => by
      match ds, hd.trans (show Tryd.f4.params.size = 2 by kernel_rfl) with
      | [d0, d1], _ => rfl) ?_
  intro W base args ds p hval hA hL
  rw [Tryd.params4] at hA hval
  obtain ⟨v0, v1, d0, d1, p0, p1, rfl, rfl, rfl, h0, h1⟩ := trodAll_two hA
  obtain ⟨m, hm⟩ := open_mach (hval 0 _ v0 rfl rfl) h0
  obtain ⟨pf, hp⟩ := open_prf (hval 1 _ v1 rfl rfl) h1
  exact law4_c v0 v1 m pf W hm hp (tab_of_laid hL)
theorem row4 : Rows.FnExactCheckSegmentSaid :=
  OpenClaim.holds_of_wide 4 Tryd.f4 rfl rfl rfl rfl rfl rfl rfl ⟨rfl, rfl, rfl, rfl, rfl⟩ rfl rfl rfl rfl rfl (by kernel_rfl) Tryd.func4 (by kernel_rfl)
    (of_decide_eq_true (by kernel_rfl)) (by unfold Func.isWrapper; first | (rw [if_pos (by decide +kernel)]; kernel_rfl) | (rw [if_neg (by decide +kernel)]; exact ⟨rfl, rfl⟩))
    (fun os started H enc _ => lifted4 os started H enc)
theorem check_holds : Rows.FnExactCheckSegmentCardSaid :=
  Claim7.holds_tied_plain_at .later [] Rows.fnExactCheckSegmentCard.laidKinds true Rows.fnExactCheckSegmentCard.stood.harness Rows.fnExactCheckSegmentCard.stood.looks
    row4 (fun _ h => by cases h) (by kernel_rfl) (fun _ h => by cases h) fnExactCheckSegment_row_tie rfl ⟨rfl, rfl⟩ (by kernel_rfl) rfl
    (fun f fn hf hfn => by
      obtain rfl : f = 4 := Option.some.inj ((show Tryd.prog.funcNamed "loop.example/g01079/laws.FnExactCheckSegment" = some 4 by kernel_rfl).symm.trans hf) |>.symm
      obtain rfl : fn = Tryd.f4 := (Option.some.inj (Tryd.func4.symm.trans hfn)).symm
      exact ⟨by kernel_rfl, fun j t ht => by
        rw [Tryd.params4] at ht
        have hm : t ∈ [24, 40] := by simpa using Array.mem_of_getElem? ht
        have hall : ([24, 40].all fun u => !Tryd.prog.wantsStandIn u) = true := by kernel_rfl
        exact (show Tryd.prog.wantsStandIn t = false by simpa using List.all_eq_true.1 hall t hm)⟩)
    (by kernel_rfl)
#print axioms check_holds
end Go.Proofs.YtdkdmcaehinkhaaDoor
