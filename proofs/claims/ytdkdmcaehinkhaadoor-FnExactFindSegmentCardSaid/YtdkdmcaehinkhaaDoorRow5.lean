/- The program's search for a proof by segments and the reference's answer the same, for every machine and every budget: the law answers true and leaves its arguments as they are. The listed tables of the library hold what the program's text lays in them. -/
import Derived.Test.YtdkdmcaehinkhaaDoorTab
import Derived.Test.YtdkdmcaehinkhaaDoorLaw5
import Derived.Test.YtdkdmcaehinkhaaDoorCards
namespace Go.Proofs.YtdkdmcaehinkhaaDoor
open Go Go.RowKit Go.ChangeShapes Go.WideShapes Go.ChangeAt
set_option maxRecDepth 100000 in
theorem lifted5 (os : Os) (started : os.Started) (H : Type) (enc : TypeId × Value → H) :
    ReturnsInHanded {} Tryd.checked os 5 .any (fun w args => (Rows.fnExactFindSegmentSpec.pre enc Tryd.prog Tryd.f5 [] false w args ∧ laidMetH Tryd.prog laid3 w) ∧ sizedMet enc Tryd.prog Tryd.f5 (OpenSpec.ofChange Rows.fnExactFindSegmentSpec) false w args)
      (Rows.fnExactFindSegmentSpec.post enc Tryd.prog Tryd.f5 false true false false) := by
  refine law_lift (C := Tryd.checked) (X := fun w _ => laidMetH Tryd.prog laid3 w) (tb := 4) (fun _ _ _ hh h => h.of_heap hh) ownKn started (by kernel_rfl) Tryd.func5
    (ChangeSpec.witness_shaped (enc := enc) (C := Tryd.checked) (os := os) (X := fun w _ => laidMetH Tryd.prog laid3 w) false (World.doorLaid Tryd.prog 24 os) #[.agg #[.int .i64 0, .int .i64 0, .slice none 0 0], .int .i64 0] 8 rfl (World.shaped_of_RefB (by kernel_rfl) (by kernel_rfl)) (by kernel_rfl) (by kernel_rfl) (by kernel_rfl) (door_met os _))
    laidOutP (by kernel_rfl) (by kernel_rfl) Tryd.underlying4 rfl
    (fun ds hd => by
      match ds, hd.trans (show Tryd.f5.params.size = 2 by kernel_rfl) with
      | [d0, d1], _ => rfl) ?_
  intro W base args ds p hval hA hL
  rw [Tryd.params5] at hA hval
  obtain ⟨v0, v1, d0, d1, p0, p1, rfl, rfl, rfl, h0, h1⟩ := trodAll_two hA
  obtain ⟨m, hm⟩ := open_mach (hval 0 _ v0 rfl rfl) h0
  obtain ⟨n, rfl, _⟩ := open_num (hval 1 _ v1 rfl rfl) h1
  exact law5_c v0 m n W hm (tab_of_laid hL)
theorem row5 : Rows.FnExactFindSegmentSaid :=
  OpenClaim.holds_of_wide 5 Tryd.f5 rfl rfl rfl rfl rfl rfl rfl ⟨rfl, rfl, rfl, rfl, rfl⟩ rfl rfl rfl rfl rfl (by kernel_rfl) Tryd.func5 (by kernel_rfl)
    (of_decide_eq_true (by kernel_rfl)) (by unfold Func.isWrapper; first | (rw [if_pos (by decide +kernel)]; kernel_rfl) | (rw [if_neg (by decide +kernel)]; exact ⟨rfl, rfl⟩))
    (fun os started H enc _ => lifted5 os started H enc)
theorem find_holds : Rows.FnExactFindSegmentCardSaid :=
  Claim7.holds_tied_plain_at .later [] Rows.fnExactFindSegmentCard.laidKinds true Rows.fnExactFindSegmentCard.stood.harness Rows.fnExactFindSegmentCard.stood.looks
    row5 (fun _ h => by cases h) (by kernel_rfl) (fun _ h => by cases h) fnExactFindSegment_row_tie rfl ⟨rfl, rfl⟩ (by kernel_rfl) rfl
    (fun f fn hf hfn => by
      obtain rfl : f = 5 := Option.some.inj ((show Tryd.prog.funcNamed "loop.example/g01079/laws.FnExactFindSegment" = some 5 by kernel_rfl).symm.trans hf) |>.symm
      obtain rfl : fn = Tryd.f5 := (Option.some.inj (Tryd.func5.symm.trans hfn)).symm
      exact ⟨by kernel_rfl, fun j t ht => by
        rw [Tryd.params5] at ht
        have hm : t ∈ [24, 2] := by simpa using Array.mem_of_getElem? ht
        have hall : ([24, 2].all fun u => !Tryd.prog.wantsStandIn u) = true := by kernel_rfl
        exact (show Tryd.prog.wantsStandIn t = false by simpa using List.all_eq_true.1 hall t hm)⟩)
    (by kernel_rfl)
#print axioms find_holds
end Go.Proofs.YtdkdmcaehinkhaaDoor
