/- The program's texts of the run of the machine with one tape for several and the reference's are the same, for every machine, all words and every number: the law answers true and leaves its arguments as they are. The listed tables of the library hold what the program's text lays in them. -/
import Derived.Test.YtfghojbbofobeaaGreatDoorW05
import Derived.Test.YtfghojbbofobeaaGreatDoorW47
import Derived.Test.YtfghojbbofobeaaGreatDoorCards
section
namespace Go.Proofs.YtfghojbbofobeaaGreatDoor
open Go Go.RowKit Go.ChangeShapes Go.WideShapes Go.ChangeAt
set_option maxRecDepth 100000 in
theorem lifted31 (os : Os) (started : os.Started) (H : Type) (enc : TypeId × Value → H) :
    ReturnsInHanded {} Tryz.checked os 3 .any (fun w args => (Rows.fnExactOneTapeTextsSpec.pre enc Tryz.prog Tryz.f3 [] false w args ∧ laidMetH Tryz.prog laid3 w) ∧ sizedMet enc Tryz.prog Tryz.f3 (OpenSpec.ofChange Rows.fnExactOneTapeTextsSpec) false w args)
      (Rows.fnExactOneTapeTextsSpec.post enc Tryz.prog Tryz.f3 false true false false) := by
  refine law_lift (C := Tryz.checked) (X := fun w _ => laidMetH Tryz.prog laid3 w) (tb := 4) (fun _ _ _ hh h => h.of_heap hh) ownKn started (by kernel_rfl) Tryz.func3
    (ChangeSpec.witness_shaped (enc := enc) (C := Tryz.checked) (os := os) (X := fun w _ => laidMetH Tryz.prog laid3 w) false (World.doorLaid Tryz.prog 24 os) #[.agg #[.int .i64 0, .int .i64 0, .int .i64 0, .slice none 0 0], .slice none 0 0, .int .i64 0] 8 rfl (World.shaped_of_RefB (by kernel_rfl) (by kernel_rfl)) (by kernel_rfl) (by kernel_rfl) (by kernel_rfl) (door_met os _))
    laidOutP (by kernel_rfl) (by kernel_rfl) Tryz.underlying4 rfl
    (fun ds hd => by
      match ds, hd.trans (show Tryz.f3.params.size = 3 by kernel_rfl) with
      | [d0, d1, d2], _ => rfl) ?_
  intro W base args ds p hval hA hL
  rw [Tryz.params3] at hA hval
  obtain ⟨v0, v1, v2, d0, d1, d2, p0, p1, p2, rfl, rfl, rfl, h0, h1, h2⟩ := trodAll_three hA
  obtain ⟨m, hm⟩ := open_mult (hval 0 _ v0 rfl rfl) h0
  obtain ⟨ws, hw⟩ := open_words (hval 1 _ v1 rfl rfl) h1
  obtain ⟨k0, rfl, _, _, _⟩ := open_int Tryz.underlying2 (hval 2 _ v2 rfl rfl) h2
  exact law31_c v0 v1 m ws k0 W hm hw (tab_of_laid hL)
theorem row31 : Rows.FnExactOneTapeTextsSaid :=
  OpenClaim.holds_of_wide 3 Tryz.f3 rfl rfl rfl rfl rfl rfl rfl ⟨rfl, rfl, rfl, rfl, rfl⟩ rfl rfl rfl rfl rfl (by kernel_rfl) Tryz.func3 (by kernel_rfl)
    (of_decide_eq_true (by kernel_rfl)) (by unfold Func.isWrapper; first | (rw [if_pos (by decide +kernel)]; kernel_rfl) | (rw [if_neg (by decide +kernel)]; exact ⟨rfl, rfl⟩))
    (fun os started H enc _ => lifted31 os started H enc)
theorem oneTapeTexts_holds : Rows.FnExactOneTapeTextsCardSaid :=
  Claim7.holds_tied_plain_at .later [] Rows.fnExactOneTapeTextsCard.laidKinds true Rows.fnExactOneTapeTextsCard.stood.harness Rows.fnExactOneTapeTextsCard.stood.looks
    row31 (fun _ h => by cases h) (by kernel_rfl) (fun _ h => by cases h) fnExactOneTapeTexts_row_tie rfl ⟨rfl, rfl⟩ (by kernel_rfl) rfl
    (fun f fn hf hfn => by
      obtain rfl : f = 3 := Option.some.inj ((show Tryz.prog.funcNamed "loop.example/g01079/laws.FnExactOneTapeTexts" = some 3 by kernel_rfl).symm.trans hf) |>.symm
      obtain rfl : fn = Tryz.f3 := (Option.some.inj (Tryz.func3.symm.trans hfn)).symm
      exact ⟨by kernel_rfl, fun j t ht => by
        rw [Tryz.params3] at ht
        have hm : t ∈ [24, 25, 2] := by simpa using Array.mem_of_getElem? ht
        have hall : ([24, 25, 2].all fun u => !Tryz.prog.wantsStandIn u) = true := by kernel_rfl
        exact (show Tryz.prog.wantsStandIn t = false by simpa using List.all_eq_true.1 hall t hm)⟩)
    (by kernel_rfl)
#print axioms oneTapeTexts_holds
end Go.Proofs.YtfghojbbofobeaaGreatDoor
end
