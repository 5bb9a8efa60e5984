/- The normal form of a formula tape stands for the same configurations, and a formula tape has not grown against itself: the law answers true for all bytes, and leaves its arguments as they are. The listed tables of the library hold what the program's text lays in them. -/
import Derived.Test.YtnflhpgkffiloaaDoorF06
import Derived.Test.YtnflhpgkffiloaaDoorF07
import Derived.Test.YtnflhpgkffiloaaDoorF27
import Derived.Test.YtnflhpgkffiloaaDoorCards
section
namespace Go.Proofs.YtnflhpgkffiloaaDoor
open Go Go.RowKit Go.ChangeShapes Go.WideShapes Go.ChangeAt
set_option maxRecDepth 100000 in
theorem lifted7 (os : Os) (started : os.Started) (H : Type) (enc : TypeId × Value → H) :
    ReturnsInHanded {} Tryd.checked os 3 .any (fun w args => (Rows.fnNormalFormsSpec.pre enc Tryd.prog Tryd.f3 [] false w args ∧ laidMetH Tryd.prog laidP w) ∧ sizedMet enc Tryd.prog Tryd.f3 (OpenSpec.ofChange Rows.fnNormalFormsSpec) false w args)
      (Rows.fnNormalFormsSpec.post enc Tryd.prog Tryd.f3 false true false false) := by
  refine law_liftS (C := Tryd.checked) (X := fun w _ => laidMetH Tryd.prog laidP w) (tb := 4) (fun _ _ _ hh h => h.of_heap hh) ownKnP started (by kernel_rfl) Tryd.func3
    (ChangeSpec.witness_shaped (enc := enc) (C := Tryd.checked) (os := os) (X := fun w _ => laidMetH Tryd.prog laidP w) false (World.laidAll Tryd.prog os laidP) #[.slice none 0 0, .slice none 0 0] 8 (World.laidAll_os _ _ _) (World.shaped_of_ZipB (by kernel_rfl) (by kernel_rfl)) (by kernel_rfl) (by kernel_rfl) (by kernel_rfl) (laid_metP os _))
    laidOutPP (by kernel_rfl) (by kernel_rfl) Tryd.underlying4 rfl
    (fun ds hd => by
      match ds, hd.trans (show Tryd.f3.params.size = 2 by kernel_rfl) with
      | [d0, d1], _ => rfl) ?_
  intro W base args ds p hval hA hL hSh
  rw [Tryd.params3] at hA hval
  obtain ⟨v0, v1, d0, d1, p0, p1, rfl, rfl, rfl, h0, h1⟩ := trodAll_two hA
  obtain ⟨bs, hb⟩ := open_bytesT (hval 0 _ v0 rfl rfl) h0
  obtain ⟨bs', hb'⟩ := open_bytesT (hval 1 _ v1 rfl rfl) h1
  exact law7_c v0 v1 bs bs' W hb hb' (tab_of_laidP hL)
theorem row7 : Rows.FnNormalFormsSaid :=
  OpenClaim.holds_of_wide 3 Tryd.f3 rfl rfl rfl rfl rfl rfl rfl ⟨rfl, rfl, rfl, rfl, rfl⟩ rfl rfl rfl rfl rfl (by kernel_rfl) Tryd.func3 (by kernel_rfl)
    (of_decide_eq_true (by kernel_rfl)) (by unfold Func.isWrapper; first | (rw [if_pos (by decide +kernel)]; kernel_rfl) | (rw [if_neg (by decide +kernel)]; exact ⟨rfl, rfl⟩))
    (fun os started H enc _ => lifted7 os started H enc)
theorem normalForms_holds : Rows.FnNormalFormsCardSaid :=
  Claim7.holds_tied_plain_at .later [] Rows.fnNormalFormsCard.laidKinds true Rows.fnNormalFormsCard.stood.harness Rows.fnNormalFormsCard.stood.looks
    row7 (fun _ h => by cases h) (by kernel_rfl) (fun _ h => by cases h) fnNormalForms_row_tie rfl ⟨rfl, rfl⟩ (by kernel_rfl) rfl
    (fun f fn hf hfn => by
      obtain rfl : f = 3 := Option.some.inj ((show Tryd.prog.funcNamed "loop.example/g01079/laws.FnNormalForms" = some 3 by kernel_rfl).symm.trans hf) |>.symm
      obtain rfl : fn = Tryd.f3 := (Option.some.inj (Tryd.func3.symm.trans hfn)).symm
      exact ⟨by kernel_rfl, fun j t ht => by
        rw [Tryd.params3] at ht
        have hm : t ∈ [22, 22] := by simpa using Array.mem_of_getElem? ht
        have hall : ([22, 22].all fun u => !Tryd.prog.wantsStandIn u) = true := by kernel_rfl
        exact (show Tryd.prog.wantsStandIn t = false by simpa using List.all_eq_true.1 hall t hm)⟩)
    (by kernel_rfl)
#print axioms normalForms_holds
end Go.Proofs.YtnflhpgkffiloaaDoor
end
