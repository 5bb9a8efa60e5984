/- The machine with one tape comes to all configurations of the machine with several tapes, in order: the law answers true for all bytes, and leaves its arguments as they are. The listed tables of the library hold what the program's text lays in them. -/
import Derived.Test.YtgeckhjkahnonaaGreatDoorO08
import Derived.Test.YtgeckhjkahnonaaGreatDoorO44
import Derived.Test.YtgeckhjkahnonaaGreatDoorCards
section
namespace Go.Proofs.YtgeckhjkahnonaaGreatDoor
open Go Go.RowKit Go.ChangeShapes Go.WideShapes Go.ChangeAt
set_option maxRecDepth 100000 in
theorem lifted9 (os : Os) (started : os.Started) (H : Type) (enc : TypeId × Value → H) :
    ReturnsInHanded {} Tryz.checked os 3 .any (fun w args => (Rows.fnOneTapeSpec.pre enc Tryz.prog Tryz.f3 [] false w args ∧ laidMetH Tryz.prog laidP w) ∧ sizedMet enc Tryz.prog Tryz.f3 (OpenSpec.ofChange Rows.fnOneTapeSpec) false w args)
      (Rows.fnOneTapeSpec.post enc Tryz.prog Tryz.f3 false true false false) := by
  refine law_liftS (C := Tryz.checked) (X := fun w _ => laidMetH Tryz.prog laidP w) (tb := 4) (fun _ _ _ hh h => h.of_heap hh) ownKnP started (by kernel_rfl) Tryz.func3
    (ChangeSpec.witness_shaped (enc := enc) (C := Tryz.checked) (os := os) (X := fun w _ => laidMetH Tryz.prog laidP w) false (World.laidAll Tryz.prog os laidP) #[.slice none 0 0, .slice none 0 0] 8 (World.laidAll_os _ _ _) (World.shaped_of_ZipB (by kernel_rfl) (by kernel_rfl)) (by kernel_rfl) (by kernel_rfl) (by kernel_rfl) (laid_metP os _))
    laidOutPP (by kernel_rfl) (by kernel_rfl) Tryz.underlying4 rfl
    (fun ds hd => by
      match ds, hd.trans (show Tryz.f3.params.size = 2 by kernel_rfl) with
      | [d0, d1], _ => rfl) ?_
  intro W base args ds p hval hA hL hSh
  rw [Tryz.params3] at hA hval
  obtain ⟨v0, v1, d0, d1, p0, p1, rfl, rfl, rfl, h0, h1⟩ := trodAll_two hA
  obtain ⟨bs, hb⟩ := open_bytesT (hval 0 _ v0 rfl rfl) h0
  obtain ⟨bs', hb'⟩ := open_bytesT (hval 1 _ v1 rfl rfl) h1
  exact law9_c v0 v1 bs bs' W hb hb' (tab_of_laidP hL)
theorem row9 : Rows.FnOneTapeSaid :=
  OpenClaim.holds_of_wide 3 Tryz.f3 rfl rfl rfl rfl rfl rfl rfl ⟨rfl, rfl, rfl, rfl, rfl⟩ rfl rfl rfl rfl rfl (by kernel_rfl) Tryz.func3 (by kernel_rfl)
    (of_decide_eq_true (by kernel_rfl)) (by unfold Func.isWrapper; first | (rw [if_pos (by decide +kernel)]; kernel_rfl) | (rw [if_neg (by decide +kernel)]; exact ⟨rfl, rfl⟩))
    (fun os started H enc _ => lifted9 os started H enc)
theorem oneTape_holds : Rows.FnOneTapeCardSaid :=
  Claim7.holds_tied_plain_at .later [] Rows.fnOneTapeCard.laidKinds true Rows.fnOneTapeCard.stood.harness Rows.fnOneTapeCard.stood.looks
    row9 (fun _ h => by cases h) (by kernel_rfl) (fun _ h => by cases h) fnOneTape_row_tie rfl ⟨rfl, rfl⟩ (by kernel_rfl) rfl
    (fun f fn hf hfn => by
      obtain rfl : f = 3 := Option.some.inj ((show Tryz.prog.funcNamed "loop.example/g01079/laws.FnOneTape" = some 3 by kernel_rfl).symm.trans hf) |>.symm
      obtain rfl : fn = Tryz.f3 := (Option.some.inj (Tryz.func3.symm.trans hfn)).symm
      exact ⟨by kernel_rfl, fun j t ht => by
        rw [Tryz.params3] at ht
        have hm : t ∈ [22, 22] := by simpa using Array.mem_of_getElem? ht
        have hall : ([22, 22].all fun u => !Tryz.prog.wantsStandIn u) = true := by kernel_rfl
        exact (show Tryz.prog.wantsStandIn t = false by simpa using List.all_eq_true.1 hall t hm)⟩)
    (by kernel_rfl)
#print axioms oneTape_holds
end Go.Proofs.YtgeckhjkahnonaaGreatDoor
end
