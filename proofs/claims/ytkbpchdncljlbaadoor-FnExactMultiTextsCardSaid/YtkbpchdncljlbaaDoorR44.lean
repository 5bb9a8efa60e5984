/- A machine with several tapes as an argument. No condition.
The program's texts of the run of a machine with several tapes and the reference's are the same, for every machine, all words and every number: the law answers true and leaves its arguments as they are. The listed tables of the library hold what the program's text lays in them. -/
import Derived.Test.YtkbpchdncljlbaaDoorR43
import Derived.Test.YtkbpchdncljlbaaDoorR08
import Derived.Test.YtkbpchdncljlbaaDoorR05
import Derived.Test.YtkbpchdncljlbaaDoorCards
section
namespace Go.Proofs.YtkbpchdncljlbaaDoor
open Go Go.RowKit Go.ChangeShapes Go.WideShapes Go.ChangeAt Go.Deep Go.Joins
section
variable {H : Type} {enc : TypeId × Value → H} {w : World}
theorem trod_struct5 {P : Program} {base : Nat} {spare : Nat → Bool} {held : Bool} {t : TypeId} {f0 f1 f2 f3 f4 : Field} {fuel : Nat} {cs : List Value} {x : DataW H × List MemPlace} (ht : P.underlying t = some (.struct #[f0, f1, f2, f3, f4])) (h : DataW.trod enc P w base spare held fuel t cs = some x) :
    ∃ y0 y1 y2 y3 y4 n, cs.length = P.cellsOf t ∧ DataW.trod enc P w base spare held n f0.type ((cs.drop f0.offset).take (P.cellsOf f0.type)) = some y0 ∧
      DataW.trod enc P w base spare held n f1.type ((cs.drop f1.offset).take (P.cellsOf f1.type)) = some y1 ∧ DataW.trod enc P w base spare held n f2.type ((cs.drop f2.offset).take (P.cellsOf f2.type)) = some y2 ∧
      DataW.trod enc P w base spare held n f3.type ((cs.drop f3.offset).take (P.cellsOf f3.type)) = some y3 ∧ DataW.trod enc P w base spare held n f4.type ((cs.drop f4.offset).take (P.cellsOf f4.type)) = some y4 := by
  obtain ⟨xs, n, _, rfl, hl, hlen, hf⟩ := DataW.trod_struct ht h
  match xs, hlen with
  | [y0, y1, y2, y3, y4], _ => exact ⟨y0, y1, y2, y3, y4, n, hl, by simpa using hf 0 f0 rfl, by simpa using hf 1 f1 rfl, by simpa using hf 2 f2 rfl, by simpa using hf 3 f3 rfl, by simpa using hf 4 f4 rfl⟩
theorem cellsMRule : Tryd.prog.cellsOf 71 = 5 := by kernel_rfl
theorem cellsInts : Tryd.prog.cellsOf 44 = 1 := by kernel_rfl
theorem one_of_drop {cs : List Value} {k : Nat} (h : k < cs.length) : (cs.drop k).take 1 = [cs[k]] := by
  rw [List.drop_eq_getElem_cons h]; rfl
theorem open_mrules {t : TypeId} {fuel : Nat} {v : Value} {x : DataW H × List MemPlace} (ht : Tryd.prog.underlying t = some (.slice 71)) (h : DataW.trod enc Tryd.prog w 0 (fun _ => true) true fuel t [v] = some x) : ∃ rs, MRules w v rs := by
  obtain ⟨ls, xs, h1, h2⟩ := open_rows (size := 5) (fun cs (r : MRuleD) => cs.length = 5 ∧ cs[0]? = some (.int .i64 r.st) ∧ (∃ u, cs[1]? = some u ∧ Ints w u r.rd) ∧ (∃ u, cs[2]? = some u ∧ Ints w u r.wr) ∧ (∃ u, cs[3]? = some u ∧ Ints w u r.mv) ∧ cs[4]? = some (.int .i64 r.nx)) ht (by kernel_rfl) (by omega) (fun n cs y hy => by
    obtain ⟨y0, y1, y2, y3, y4, n', hlen, g0, g1, g2, g3, g4⟩ := trod_struct5 Tryd.underlying71 hy
    have hlen5 : cs.length = 5 := hlen.trans cellsMRule
    simp only [cellsI64, cellsInts] at g0 g1 g2 g3 g4
    match cs, hlen5 with
    | [a, b, c, d, e], _ =>
      simp only [List.drop_succ_cons, List.drop_zero, List.take_succ_cons, List.take_zero] at g0 g1 g2 g3 g4
      obtain ⟨k0, e0, _⟩ := open_i64 Tryd.underlying2 g0
      obtain ⟨k4, e4, _⟩ := open_i64 Tryd.underlying2 g4
      obtain ⟨z1, i1⟩ := open_ints Tryd.underlying44 g1
      obtain ⟨z2, i2⟩ := open_ints Tryd.underlying44 g2
      obtain ⟨z3, i3⟩ := open_ints Tryd.underlying44 g3
      simp only [List.cons.injEq, and_true] at e0 e4
      subst e0 e4
      exact ⟨⟨k0, z1, z2, z3, k4⟩, rfl, rfl, ⟨_, rfl, i1⟩, ⟨_, rfl, i2⟩, ⟨_, rfl, i3⟩, rfl⟩) h
  refine ⟨ls, ?_⟩
  obtain ⟨A, c, hv, hc1, hc2, hl⟩ := h1.form
  refine ⟨A, c, hv, hc1, hc2, fun hn => ?_⟩
  obtain ⟨A', c', hv', _, _, hl', hcl⟩ := id h1
  obtain ⟨b, off, hA, hcell⟩ := hcl (by omega)
  rw [hv] at hv'
  injection hv' with hv' _ _
  subst hv'
  refine ⟨b, off, hA, fun i hi => ?_⟩
  obtain ⟨q5, q0, ⟨u1, q1, i1⟩, ⟨u2, q2, i2⟩, ⟨u3, q3, i3⟩, q4⟩ := h2 i hi
  have hlt : i * 5 + 5 ≤ xs.length := by
    have : (i + 1) * 5 ≤ ls.length * 5 := Nat.mul_le_mul_right _ hi
    omega
  have ce : ∀ k, k < 5 → w.cell? ⟨b, off + i * 5 + k, none⟩ = ((xs.drop (i * 5)).take 5)[k]? := fun k hk => by
    rw [List.getElem?_take_of_lt hk, List.getElem?_drop]
    have := hcell (i * 5 + k) (by omega)
    rw [← Nat.add_assoc] at this
    exact this
  refine ⟨u1, u2, u3, (ce 0 (by omega)).trans q0, (ce 1 (by omega)).trans q1, (ce 2 (by omega)).trans q2, (ce 3 (by omega)).trans q3, (ce 4 (by omega)).trans q4, i1, i2, i3⟩
set_option maxRecDepth 100000 in
theorem open_mult {r : Reach} {b0 : Nat} {v : Value} {d : DataW H} {p : List MemPlace} (hv : Value.okWide Tryd.prog w r b0 24 v) (h : DataW.Trod enc Tryd.prog w 0 (fun _ => true) true 24 v d p) : ∃ m, Mult w v m := by
  obtain ⟨v0, v1, v2, v3, y0, y1, y2, y3, n, rfl, _, _, h0, h1, h2, h3⟩ := open_agg4 Tryd.underlying24 (by kernel_rfl) (by kernel_rfl) hv h
  obtain ⟨k0, e0, _⟩ := open_i64 Tryd.underlying2 h0
  obtain ⟨k1, e1, _⟩ := open_i64 Tryd.underlying2 h1
  obtain ⟨k2, e2, _⟩ := open_i64 Tryd.underlying2 h2
  obtain ⟨rs, hr⟩ := open_mrules Tryd.underlying22 h3
  injection e0 with e0 _
  injection e1 with e1 _
  injection e2 with e2 _
  subst e0 e1 e2
  exact ⟨⟨k0, k1, k2, rs⟩, v3, rfl, hr⟩
set_option maxRecDepth 100000 in
theorem open_words {r : Reach} {b0 : Nat} {v : Value} {d : DataW H} {p : List MemPlace} (hv : Value.okWide Tryd.prog w r b0 25 v) (h : DataW.Trod enc Tryd.prog w 0 (fun _ => true) true 25 v d p) : ∃ xss, IntRows w v xss := by
  obtain ⟨a, l, c, rfl⟩ := okWide_slice Tryd.underlying25 hv
  obtain ⟨n, h⟩ := h
  exact open_introws Tryd.underlying25 h
end
end Go.Proofs.YtkbpchdncljlbaaDoor
end
section
namespace Go.Proofs.YtkbpchdncljlbaaDoor
open Go Go.RowKit Go.ChangeShapes Go.WideShapes Go.ChangeAt
set_option maxRecDepth 100000 in
theorem lifted16 (os : Os) (started : os.Started) (H : Type) (enc : TypeId × Value → H) :
    ReturnsInHanded {} Tryd.checked os 3 .any (fun w args => (Rows.fnExactMultiTextsSpec.pre enc Tryd.prog Tryd.f3 [] false w args ∧ laidMetH Tryd.prog laid3 w) ∧ sizedMet enc Tryd.prog Tryd.f3 (OpenSpec.ofChange Rows.fnExactMultiTextsSpec) false w args)
      (Rows.fnExactMultiTextsSpec.post enc Tryd.prog Tryd.f3 false true false false) := by
  refine law_lift (C := Tryd.checked) (X := fun w _ => laidMetH Tryd.prog laid3 w) (tb := 4) (fun _ _ _ hh h => h.of_heap hh) ownKn started (by kernel_rfl) Tryd.func3
    (ChangeSpec.witness_shaped (enc := enc) (C := Tryd.checked) (os := os) (X := fun w _ => laidMetH Tryd.prog laid3 w) false (World.doorLaid Tryd.prog 24 os) #[.agg #[.int .i64 0, .int .i64 0, .int .i64 0, .slice none 0 0], .slice none 0 0, .int .i64 0] 8 rfl (World.shaped_of_RefB (by kernel_rfl) (by kernel_rfl)) (by kernel_rfl) (by kernel_rfl) (by kernel_rfl) (door_met os _))
    laidOutP (by kernel_rfl) (by kernel_rfl) Tryd.underlying4 rfl
    (fun ds hd => by
      match ds, hd.trans (show Tryd.f3.params.size = 3 by kernel_rfl) with
      | [d0, d1, d2], _ => rfl) ?_
  intro W base args ds p hval hA hL
  rw [Tryd.params3] at hA hval
  obtain ⟨v0, v1, v2, d0, d1, d2, p0, p1, p2, rfl, rfl, rfl, h0, h1, h2⟩ := trodAll_three hA
  obtain ⟨m, hm⟩ := open_mult (hval 0 _ v0 rfl rfl) h0
  obtain ⟨ws, hw⟩ := open_words (hval 1 _ v1 rfl rfl) h1
  obtain ⟨k0, rfl, _, _, _⟩ := open_int Tryd.underlying2 (hval 2 _ v2 rfl rfl) h2
  exact law16_c v0 v1 m ws k0 W hm hw (tab_of_laid hL)
theorem row16 : Rows.FnExactMultiTextsSaid :=
  OpenClaim.holds_of_wide 3 Tryd.f3 rfl rfl rfl rfl rfl rfl rfl ⟨rfl, rfl, rfl, rfl, rfl⟩ rfl rfl rfl rfl rfl (by kernel_rfl) Tryd.func3 (by kernel_rfl)
    (of_decide_eq_true (by kernel_rfl)) (by unfold Func.isWrapper; first | (rw [if_pos (by decide +kernel)]; kernel_rfl) | (rw [if_neg (by decide +kernel)]; exact ⟨rfl, rfl⟩))
    (fun os started H enc _ => lifted16 os started H enc)
theorem multiTexts_holds : Rows.FnExactMultiTextsCardSaid :=
  Claim7.holds_tied_plain_at .later [] Rows.fnExactMultiTextsCard.laidKinds true Rows.fnExactMultiTextsCard.stood.harness Rows.fnExactMultiTextsCard.stood.looks
    row16 (fun _ h => by cases h) (by kernel_rfl) (fun _ h => by cases h) fnExactMultiTexts_row_tie rfl ⟨rfl, rfl⟩ (by kernel_rfl) rfl
    (fun f fn hf hfn => by
      obtain rfl : f = 3 := Option.some.inj ((show Tryd.prog.funcNamed "loop.example/g01079/laws.FnExactMultiTexts" = some 3 by kernel_rfl).symm.trans hf) |>.symm
      obtain rfl : fn = Tryd.f3 := (Option.some.inj (Tryd.func3.symm.trans hfn)).symm
      exact ⟨by kernel_rfl, fun j t ht => by
        rw [Tryd.params3] at ht
        have hm : t ∈ [24, 25, 2] := by simpa using Array.mem_of_getElem? ht
        have hall : ([24, 25, 2].all fun u => !Tryd.prog.wantsStandIn u) = true := by kernel_rfl
        exact (show Tryd.prog.wantsStandIn t = false by simpa using List.all_eq_true.1 hall t hm)⟩)
    (by kernel_rfl)
#print axioms multiTexts_holds
end Go.Proofs.YtkbpchdncljlbaaDoor
end
