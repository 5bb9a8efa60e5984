/- The program's decoding of a configuration of the machine on one half of the tape and the reference's are the same, for every machine and every configuration: the law answers true and leaves its arguments as they are. No condition. -/
import Derived.Test.YtejgobemlgogiaaArgs
import Derived.Test.YtejgobemlgogiaaLaw3
import Derived.Test.YtejgobemlgogiaaRows
namespace Go.Proofs.Ytejgobemlgogiaa
open Go Go.RowKit Go.ChangeShapes Go.WideShapes Go.ChangeAt Go.Deep Go.Joins
theorem own3 : ownKnob Try.prog.godebug = none := by kernel_rfl
section
variable {H : Type} {enc : TypeId × Value → H} {w : World}
set_option maxRecDepth 100000 in
theorem open_conf {r : Reach} {b0 : Nat} {v : Value} {d : DataW H} {p : List MemPlace} (hv : Value.okWide Try.prog w r b0 27 v) (h : DataW.Trod enc Try.prog w 0 (fun _ => true) true 27 v d p) : ∃ c, Conf w v c := by
  obtain ⟨v0, v1, v2, y0, y1, y2, n, rfl, _, _, h0, h1, h2⟩ := open_agg3 Try.underlying27 (by kernel_rfl) (by kernel_rfl) hv h
  obtain ⟨k0, e0, _⟩ := open_i64 Try.underlying2 h0
  obtain ⟨ls, hl⟩ := open_ints Try.underlying25 h1
  obtain ⟨rs, hr⟩ := open_ints Try.underlying25 h2
  injection e0 with e0 _
  subst e0
  exact ⟨⟨k0, ls, rs⟩, v1, v2, rfl, hl, hr⟩
end
set_option maxRecDepth 100000 in
theorem lifted3 (os : Os) (started : os.Started) (H : Type) (enc : TypeId × Value → H) :
    ReturnsInHanded {} Try.checked os 3 .any (Rows.fnExactDecodeFoldSpec.pre6 enc Try.prog Try.f3 Rows.fnExactDecodeFoldRow.domain false) (Rows.fnExactDecodeFoldSpec.post enc Try.prog Try.f3 false true false false) := by
  refine returnsInHanded_of_change (C := Try.checked) own3 started (by kernel_rfl) Try.func3
    (ChangeSpec.witness6 (enc := enc) (C := Try.checked) false ⟨#[], #[.agg #[.int .i64 0, .int .i64 0, .slice none 0 0], .agg #[.int .i64 0, .slice none 0 0, .slice none 0 0]], []⟩ 8 (by kernel_rfl) (by kernel_rfl) (by kernel_rfl) (by kernel_rfl)) ?_
  intro W base args ds gs before hval0 hW hcnd _
  have hval : ∀ (j : Nat) t v, Try.f3.params[j]? = some t → args[j]? = some v → Value.okWide Try.prog W .any base t v := hval0
  have hW' := hW
  obtain ⟨p, q, hA0, hV, rfl, hfz, hnd⟩ := hW
  have hA : DataW.TrodAll enc Try.prog W 0 (fun _ => true) true Try.f3.params.toList args.toList ds p := hA0
  rw [Try.params3] at hA hval
  obtain ⟨v0, v1, d0, d1, p0, p1, hargs, rfl, rfl, h0, h1⟩ := trodAll_two hA
  obtain ⟨m, hm⟩ := open_mach (hval 0 _ v0 rfl (by rw [hargs]; rfl)) h0
  obtain ⟨c, hc⟩ := open_conf (hval 1 _ v1 rfl (by rw [hargs]; rfl)) h1
  subst hargs
  refine (law3_c v0 v1 m c W hm hc).mono fun e W' ⟨he, hb⟩ => ?_
  subst he
  exact ⟨_, rfl, law_post laidOutF (by kernel_rfl) (by kernel_rfl) Try.underlying4 rfl (fun ds hd => by
      match ds, hd.trans (show Try.f3.params.size = 2 by kernel_rfl) with
      | [d0, d1], _ => rfl) hW' hb⟩
theorem decodeFold_holds : Rows.FnExactDecodeFoldSaid :=
  OpenClaim.holds_of_wide 3 Try.f3 rfl rfl rfl rfl rfl rfl rfl ⟨rfl, rfl, rfl, rfl, rfl⟩ rfl rfl rfl rfl rfl (by kernel_rfl) Try.func3 (by kernel_rfl)
    (of_decide_eq_true (by kernel_rfl)) (by unfold Func.isWrapper; first | (rw [if_pos (by decide +kernel)]; kernel_rfl) | (rw [if_neg (by decide +kernel)]; exact ⟨rfl, rfl⟩))
    (fun os started H enc _ => lifted3 os started H enc)
#print axioms decodeFold_holds
end Go.Proofs.Ytejgobemlgogiaa
