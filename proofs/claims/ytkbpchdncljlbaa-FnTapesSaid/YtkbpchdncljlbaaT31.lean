/- Contract of the program's machine of palindromes.
Plain words: a run of a machine with several tapes stays among valid configurations; what the copier and the machines of palindromes do on short words; rules in order are unique. -/
import Derived.Test.YtkbpchdncljlbaaT30
import Derived.Test.YtkbpchdncljlbaaT11
import Derived.Test.YtkbpchdncljlbaaT12
import Derived.Test.YtkbpchdncljlbaaT26
import Derived.Test.YtkbpchdncljlbaaT27
section
set_option linter.unusedVariables false
set_option linter.unusedSimpArgs false
namespace Go.Proofs.Ytkbpchdncljlbaa
open Go Go.RowKit Go.Proofs Go.Maps
set_option maxHeartbeats 400000
def pal0 (n : Nat) : List MRuleD := copyRs (n - 1) ++ [twoT 0 0 0 (-1) 0 1, twoT 1 0 0 1 (-1) 2, twoT 2 0 0 0 0 3]
def palS (n : Nat) : Nat → List MRuleD
  | 0 => pal0 n
  | k + 1 => palS n k ++ [twoT 1 ((k : Int) + 1) 0 (-1) 0 1, twoT 2 ((k : Int) + 1) ((k : Int) + 1) 1 (-1) 2]
theorem palS_len (n : Nat) : ∀ k, (palS n k).length = n - 1 + 3 + 2 * k
  | 0 => by simp [palS, pal0, copyRs_len]
  | k + 1 => by simp [palS, palS_len n k]; omega
set_option maxRecDepth 20000 in
set_option maxHeartbeats 4000000 in
theorem PalindromeMulti_c (n : Nat) (w : World) (h1 : 2 ≤ n) (h2 : n ≤ 3) : Calls Try.prog 12 #[.int .i64 (n : Int)] w fun e w' =>
    ∃ v rs', e = .returned (.tuple #[.agg #[.int .i64 2, .int .i64 (n : Int), .int .i64 4, v], .int .i64 0]) ∧ rs'.Perm (palS n (n - 1)) ∧ SortedM rs' ∧ MRules w' v rs' ∧ Ext w w' := by
  obtain ⟨i0, hi, hz0, hz1, hz2⟩ := info_parts mruleInfo
  obtain ⟨V, hV⟩ : ∃ V, V = w.alloc (.cells #[.int .i64 0, .int .i64 0, .int .i64 0, .slice none 0 0] 29) := ⟨_, rfl⟩
  have hX : Ext w V := by rw [hV]; exact Ext.alloc _ _
  obtain ⟨g, hg⟩ : ∃ g, w.heap.size = g := ⟨_, rfl⟩
  have hVs : V.heap.size = g + 1 := by rw [hV]; simp [hg]
  have bV : Blk V g 29 #[.int .i64 0, .int .i64 0, .int .i64 0, .slice none 0 0] := by rw [hV]; exact Blk.new _ _ _ _ hg
  have WI := fun w => within_c (n : Int) 2 3 w
  have hb : inB (n : Int) 2 3 = true := inB_iff.2 ⟨by omega, by omega⟩
  rw [hb] at WI
  go_enter Try.func12, Try.ntmps12
  go_wp2_with fail
  try rw [← hV]
  try rw [hg]
  clear hV
  refine (WI V).mono ?_
  rintro e _ ⟨rfl, rfl⟩
  have CR := copyRules_c n V (by omega) (by omega)
  rw [hVs] at CR
  clear WI
  go_wp2_with fail
  refine CR.mono ?_
  rintro e w2 ⟨v, rfl, st, hx2⟩
  obtain ⟨cl, ho1, hcl⟩ := st
  have hlc := copyRs_len (n - 1)
  rw [hlc] at ho1
  obtain ⟨Av, cv, rfl, _, _, _⟩ := (ownsRow_row ho1).form
  have hX2 := hX.trans hx2
  obtain ⟨W, hWW⟩ : ∃ W, W = w2.alloc (.cells #[.int .i64 2, .int .i64 (n : Int), .int .i64 4, .slice Av (n - 1) cv] 29) := ⟨_, rfl⟩
  obtain ⟨gc, hgc⟩ : ∃ gc, w2.heap.size = gc := ⟨_, rfl⟩
  have hXW : Ext w2 W := by rw [hWW]; exact Ext.alloc _ _
  have bC : Blk W gc 29 #[.int .i64 2, .int .i64 (n : Int), .int .i64 4, .slice Av (n - 1) cv] := by rw [hWW]; exact Blk.new _ _ _ _ hgc
  have bO := (bV.ext hx2).ext hXW
  have hgl : g < gc := by rw [← hgc]; exact (bV.ext hx2).lt
  have z3 := bC.drew.cell 3
  simp only [List.getElem?_toArray, List.getElem?_cons_zero, List.getElem?_cons_succ] at z3
  have hXWW := hX2.trans hXW
  clear CR bV hX hx2 hX2
  go_wp2_with fail
  try rw [← hWW]
  try rw [hgc]
  clear hWW
  have T1 := twoTapes_c 0 0 0 (-1) 0 1 W.drew
  have T2 := fun W' => twoTapes_c 1 0 0 1 (-1) 2 W'
  have T3 := fun W' => twoTapes_c 2 0 0 0 0 3 W'
  refine wp_region_ord 6 [0, 1, 2, 3, 4, 5] (by kernel_rfl) (by kernel_rfl) (fun _ _ _ _ _ h => h) ?_
  simp only [pickO, List.drop_succ_cons, List.drop_zero, List.head?_cons, Option.elim_some]
  repeat (refine wpOrd_read (v := ?_) (by rfl) (Or.inl ⟨by rfl, fun x hx => ?_⟩) ?_; rotate_left; (· have a5 := hx.cell z3; go_simp; try with_reducible rfl); simp only [Act.put, List.setIfInBounds_toArray, List.set_cons_zero, List.set_cons_succ])
  refine wpOrd_stir (by rfl) (fun K hK => ?_)
  go_simp
  go_at_call 37
  refine T1.mono ?_
  rintro e w3 ⟨_, rfl, ⟨vr, vw, vm, rfl, o1, o2, o3⟩, hx3⟩
  obtain ⟨R1, r1, rfl, _, _⟩ := id o1.ints.form
  obtain ⟨R2, r2, rfl, _, _⟩ := id o2.ints.form
  obtain ⟨R3, r3, rfl, _, _⟩ := id o3.ints.form
  simp only [mcell, twoT, List.length_cons, List.length_nil] at o1 o2 o3 ⊢
  refine hK _ _ hx3 ?_
  clear hK K
  try simp only [Act.put, List.setIfInBounds_toArray, List.set_cons_zero, List.set_cons_succ]
  refine wpOrd_stir (by rfl) (fun K hK => ?_)
  go_simp
  go_at_call 37
  refine (T2 _).mono ?_
  rintro e w4 ⟨_, rfl, ⟨vr, vw, vm, rfl, p1, p2, p3⟩, hx4⟩
  obtain ⟨P1, s1, rfl, _, _⟩ := id p1.ints.form
  obtain ⟨P2, s2, rfl, _, _⟩ := id p2.ints.form
  obtain ⟨P3, s3, rfl, _, _⟩ := id p3.ints.form
  simp only [mcell, twoT, List.length_cons, List.length_nil] at p1 p2 p3 ⊢
  refine hK _ _ hx4 ?_
  clear hK K
  try simp only [Act.put, List.setIfInBounds_toArray, List.set_cons_zero, List.set_cons_succ]
  refine wpOrd_stir (by rfl) (fun K hK => ?_)
  go_simp
  go_at_call 37
  refine (T3 _).mono ?_
  rintro e w5 ⟨_, rfl, ⟨vr, vw, vm, rfl, q1, q2, q3⟩, hx5⟩
  obtain ⟨Q1, t1, rfl, _, _⟩ := id q1.ints.form
  obtain ⟨Q2, t2, rfl, _, _⟩ := id q2.ints.form
  obtain ⟨Q3, t3, rfl, _, _⟩ := id q3.ints.form
  simp only [mcell, twoT, List.length_cons, List.length_nil] at q1 q2 q3 ⊢
  refine hK _ _ hx5 ?_
  clear hK K
  try simp only [Act.put, List.setIfInBounds_toArray, List.set_cons_zero, List.set_cons_succ]
  refine wpOrd_stir (by rfl) (fun K hK => ?_)
  go_simp
  refine hK _ _ (Ext.alloc _ _) ?_
  clear hK K
  try simp only [Act.put, List.setIfInBounds_toArray, List.set_cons_zero, List.set_cons_succ]
  refine wpOrd_done ?_
  try simp only [List.drop_succ_cons, List.drop_zero]
  obtain ⟨W6, hW6⟩ : ∃ W6, W6 = w5.alloc (.cells #[.int .i64 0, .slice R1 2 r1, .slice R2 2 r2, .slice R3 2 r3, .int .i64 1, .int .i64 1, .slice P1 2 s1, .slice P2 2 s2, .slice P3 2 s3, .int .i64 2, .int .i64 2, .slice Q1 2 t1, .slice Q2 2 t2, .slice Q3 2 t3, .int .i64 3] 70) := ⟨_, rfl⟩
  have eA : Ext w5 W6 := by rw [hW6]; exact Ext.alloc _ _
  have bN : Blk W6 w5.heap.size 70 #[.int .i64 0, .slice R1 2 r1, .slice R2 2 r2, .slice R3 2 r3, .int .i64 1, .int .i64 1, .slice P1 2 s1, .slice P2 2 s2, .slice P3 2 s3, .int .i64 2, .int .i64 2, .slice Q1 2 t1, .slice Q2 2 t2, .slice Q3 2 t3, .int .i64 3] := by rw [hW6]; exact Blk.new _ _ _ _ rfl
  have hXr : Ext W W6 := (Ext.drew W).trans (hx3.trans (hx4.trans (hx5.trans eA)))
  have ho6 := ownsRow_ext ho1 (hXW.trans hXr)
  have z0 : g + 1 ≤ W.drew.heap.size := by have := hXW.size; show g + 1 ≤ W.heap.size; omega
  have z3' := hx3.size
  have z4 := hx4.size
  have z5 := hx5.size
  have hNL : MCells (g + 1) W6 (mcell (twoT 0 0 0 (-1) 0 1) (.slice R1 2 r1) (.slice R2 2 r2) (.slice R3 2 r3) ++ (mcell (twoT 1 0 0 1 (-1) 2) (.slice P1 2 s1) (.slice P2 2 s2) (.slice P3 2 s3) ++ mcell (twoT 2 0 0 0 0 3) (.slice Q1 2 t1) (.slice Q2 2 t2) (.slice Q3 2 t3))) ([twoT 0 0 0 (-1) 0 1] ++ ([twoT 1 0 0 1 (-1) 2] ++ [twoT 2 0 0 0 0 3])) :=
    have e3 := hx4.trans (hx5.trans eA)
    have e4 := hx5.trans eA
    (MCells.one (ownsRow_base (OwnInts.ext o1 e3) z0) (ownsRow_base (OwnInts.ext o2 e3) z0) (ownsRow_base (OwnInts.ext o3 e3) z0)).append
      ((MCells.one (ownsRow_base (OwnInts.ext p1 e4) (by omega)) (ownsRow_base (OwnInts.ext p2 e4) (by omega)) (ownsRow_base (OwnInts.ext p3 e4) (by omega))).append
        (MCells.one (ownsRow_base (OwnInts.ext q1 eA) (by omega)) (ownsRow_base (OwnInts.ext q2 eA) (by omega)) (ownsRow_base (OwnInts.ext q3 eA) (by omega))))
  have hs6 : g + 1 ≤ W6.heap.size := by have := eA.size; omega
  clear T1 T2 T3 z3
  go_wp2_with (at_builtin; rw [← hW6]; refine wpList_append_own_at _ rfl _ _ 27 rfl (g + 1) 70 i0 (.agg #[.int .i64 0, .slice none 0 0, .slice none 0 0, .slice none 0 0, .int .i64 0]) 5 88 Try.underlying27 hi hz0 hz1 hz2 rfl (by decide) _ _ cl rfl ho6 ⟨w5.heap.size, 0, none⟩ 3 3 [.int .i64 0, .slice R1 2 r1, .slice R2 2 r2, .slice R3 2 r3, .int .i64 1, .int .i64 1, .slice P1 2 s1, .slice P2 2 s2, .slice P3 2 s3, .int .i64 2, .int .i64 2, .slice Q1 2 t1, .slice Q2 2 t2, .slice Q3 2 t3, .int .i64 3] rfl rfl (World.news_of_block bN) ?c2 ?c3 ?c4 ?c5 ?_)
  case c2 => intro u hu; simp at hu; rcases hu with rfl | rfl | rfl | rfl | rfl | rfl | rfl | rfl | rfl | rfl | rfl | rfl | rfl <;> rfl
  case c3 => unfold maxLen; omega
  case c4 => omega
  case c5 => exact hs6
  intro v' w7 hown7 hg7 _ _
  try rw [← hW6] at hg7
  have HS : OwnMR (g + 1) w7 v' (palS n 0) := OwnMR.push (by rw [hlc]; exact ho6) (hcl.ext (hXW.trans hXr)) hNL (by rw [hlc]; rfl) hown7 hg7
  obtain ⟨A7, c7, rfl, _, _, _⟩ := (ownsRow_row hown7).form
  have bO7 := Blk.apart (bO.ext hXr) ho6 (by decide) hg7
  have bC7 := Blk.apart (bC.ext hXr) ho6 (by decide) hg7
  have hx7 : Ext w w7 := (hXWW.trans hXr).grown hg7 (fun q hq => by have := (ho6.lt q hq).1; omega)
  have q3' := bC7.cell 3
  have qf := bC7.frozen 3
  simp only [List.getElem?_toArray, List.getElem?_cons_zero, List.getElem?_cons_succ] at q3'
  have HS' := HS.far bC7 (by decide) (by decide) 3 (.slice A7 (n - 1 + 3) c7)
  have HX := hx7.setCell (p := ⟨gc, 3, none⟩) (by show w.heap.size ≤ gc; omega) (.slice A7 (n - 1 + 3) c7)
  have HO := bO7.far (p := ⟨gc, 3, none⟩) (by show g ≠ gc; omega) (.slice A7 (n - 1 + 3) c7)
  have HC := bC7.set_ 3 (.slice A7 (n - 1 + 3) c7)
  clear hW6 eA bN hXr ho6 hNL hown7 hg7 o1 o2 o3 p1 p2 p3 q1 q2 q3 hx3 hx4 hx5 ho1 hcl HS bO bC bO7 bC7 hx7 hXW hXWW
  go_wp2_with fail
  generalize (w7.setCell ⟨gc, 3, none⟩ (.slice A7 (n - 1 + 3) c7)) = Y at *
  go_loopw [5] (fun u wr => ∃ (k : Nat) (v : Value), k + 1 ≤ n ∧ u = .int .i64 ((k + 1 : Nat) : Int) ∧ OwnMR (g + 1) wr v (palS n k) ∧ Ext w wr ∧ Blk wr g 29 #[.int .i64 0, .int .i64 0, .int .i64 0, .slice none 0 0] ∧ Blk wr gc 29 #[.int .i64 2, .int .i64 (n : Int), .int .i64 4, v]) (fun u _ => n - (intOf u).toNat)
  case atStart => exact ⟨0, _, by omega, rfl, HS', HX, HO, HC⟩
  case round =>
    clear HS' HX HO HC
    obtain ⟨k, v, hk, rfl, st, hx, bO, bC⟩ := hrel
    have hlk := palS_len n k
    obtain ⟨Av, cv, rfl, _, _⟩ := st.form
    by_cases hlt : k + 1 < n
    · obtain ⟨cl, ho1, hcl⟩ := st
      obtain ⟨ln, hln⟩ : ∃ ln, (palS n k).length = ln := ⟨_, rfl⟩
      rw [hln] at ho1 bC hlk
      have HLK := Lib.hid hlk
      have HLN := Lib.hid hln
      clear hlk hln
      have z3 := bC.drew.cell 3
      simp only [List.getElem?_toArray, List.getElem?_cons_zero, List.getElem?_cons_succ] at z3
      have T1 := twoTapes_c 1 ((k + 1 : Nat) : Int) 0 (-1) 0 1 wr.drew
      have T2 := fun W' => twoTapes_c 2 ((k + 1 : Nat) : Int) ((k + 1 : Nat) : Int) 1 (-1) 2 W'
      have hsz := hx.size
      have hgw : gc < wr.heap.size := bC.lt
      go_wp2_with fail
      refine wp_region_ord 8 [0, 1, 2, 4, 5, 3, 6, 7] (by kernel_rfl) (by kernel_rfl) (fun _ _ _ _ _ h => h) ?_
      simp only [pickO, List.drop_succ_cons, List.drop_zero, List.head?_cons, Option.elim_some]
      repeat (refine wpOrd_read (v := ?_) (by rfl) (Or.inl ⟨by rfl, fun x hx => ?_⟩) ?_; rotate_left; (· have a5 := hx.cell z3; go_simp; try with_reducible rfl); simp only [Act.put, List.setIfInBounds_toArray, List.set_cons_zero, List.set_cons_succ])
      refine wpOrd_stir (by rfl) (fun K hK => ?_)
      go_simp
      go_at_call 37
      refine T1.mono ?_
      rintro e w3 ⟨_, rfl, ⟨vr, vw, vm, rfl, o1, o2, o3⟩, hx3⟩
      obtain ⟨R1, r1, rfl, _, _⟩ := id o1.ints.form
      obtain ⟨R2, r2, rfl, _, _⟩ := id o2.ints.form
      obtain ⟨R3, r3, rfl, _, _⟩ := id o3.ints.form
      simp only [mcell, twoT, List.length_cons, List.length_nil] at o1 o2 o3 ⊢
      refine hK _ _ hx3 ?_
      clear hK K
      try simp only [Act.put, List.setIfInBounds_toArray, List.set_cons_zero, List.set_cons_succ]
      refine wpOrd_stir (by rfl) (fun K hK => ?_)
      go_simp
      go_at_call 37
      refine (T2 _).mono ?_
      rintro e w4 ⟨_, rfl, ⟨vr, vw, vm, rfl, p1, p2, p3⟩, hx4⟩
      obtain ⟨P1, s1, rfl, _, _⟩ := id p1.ints.form
      obtain ⟨P2, s2, rfl, _, _⟩ := id p2.ints.form
      obtain ⟨P3, s3, rfl, _, _⟩ := id p3.ints.form
      simp only [mcell, twoT, List.length_cons, List.length_nil] at p1 p2 p3 ⊢
      refine hK _ _ hx4 ?_
      clear hK K
      try simp only [Act.put, List.setIfInBounds_toArray, List.set_cons_zero, List.set_cons_succ]
      refine wpOrd_stir (by rfl) (fun K hK => ?_)
      go_simp
      refine hK _ _ (Ext.alloc _ _) ?_
      clear hK K
      try simp only [Act.put, List.setIfInBounds_toArray, List.set_cons_zero, List.set_cons_succ]
      refine wpOrd_done ?_
      try simp only [List.drop_succ_cons, List.drop_zero]
      obtain ⟨W6, hW6⟩ : ∃ W6, W6 = w4.alloc (.cells #[.int .i64 1, .slice R1 2 r1, .slice R2 2 r2, .slice R3 2 r3, .int .i64 1, .int .i64 2, .slice P1 2 s1, .slice P2 2 s2, .slice P3 2 s3, .int .i64 2] 70) := ⟨_, rfl⟩
      have eA : Ext w4 W6 := by rw [hW6]; exact Ext.alloc _ _
      have bN : Blk W6 w4.heap.size 70 #[.int .i64 1, .slice R1 2 r1, .slice R2 2 r2, .slice R3 2 r3, .int .i64 1, .int .i64 2, .slice P1 2 s1, .slice P2 2 s2, .slice P3 2 s3, .int .i64 2] := by rw [hW6]; exact Blk.new _ _ _ _ rfl
      have hXr : Ext wr W6 := (Ext.drew wr).trans (hx3.trans (hx4.trans eA))
      have ho6 := ownsRow_ext ho1 hXr
      have z0 : g + 1 ≤ wr.drew.heap.size := by show g + 1 ≤ wr.heap.size; omega
      have z3' := hx3.size
      have z4 := hx4.size
      have ek : ((k + 1 : Nat) : Int) = (k : Int) + 1 := by omega
      rw [ek] at o1 o2 p1 p2
      have hNL : MCells (g + 1) W6 (mcell (twoT 1 ((k : Int) + 1) 0 (-1) 0 1) (.slice R1 2 r1) (.slice R2 2 r2) (.slice R3 2 r3) ++ mcell (twoT 2 ((k : Int) + 1) ((k : Int) + 1) 1 (-1) 2) (.slice P1 2 s1) (.slice P2 2 s2) (.slice P3 2 s3)) ([twoT 1 ((k : Int) + 1) 0 (-1) 0 1] ++ [twoT 2 ((k : Int) + 1) ((k : Int) + 1) 1 (-1) 2]) :=
        have e3 := hx4.trans eA
        (MCells.one (ownsRow_base (OwnInts.ext o1 e3) z0) (ownsRow_base (OwnInts.ext o2 e3) z0) (ownsRow_base (OwnInts.ext o3 e3) z0)).append
          (MCells.one (ownsRow_base (OwnInts.ext p1 eA) (by omega)) (ownsRow_base (OwnInts.ext p2 eA) (by omega)) (ownsRow_base (OwnInts.ext p3 eA) (by omega)))
      have hs6 : g + 1 ≤ W6.heap.size := by have := eA.size; omega
      clear T1 T2 z3
      go_wp2_with (at_builtin; rw [← hW6]; refine wpList_append_own_at _ rfl _ _ 27 rfl (g + 1) 70 i0 (.agg #[.int .i64 0, .slice none 0 0, .slice none 0 0, .slice none 0 0, .int .i64 0]) 5 88 Try.underlying27 hi hz0 hz1 hz2 rfl (by decide) _ _ cl rfl ho6 ⟨w4.heap.size, 0, none⟩ 2 2 [.int .i64 1, .slice R1 2 r1, .slice R2 2 r2, .slice R3 2 r3, .int .i64 1, .int .i64 2, .slice P1 2 s1, .slice P2 2 s2, .slice P3 2 s3, .int .i64 2] rfl rfl (World.news_of_block bN) ?c2 ?c3 ?c4 ?c5 ?_)
      case c2 => intro u hu; simp at hu; rcases hu with rfl | rfl | rfl | rfl | rfl | rfl | rfl | rfl | rfl | rfl <;> rfl
      case c3 => have := HLK.out; unfold maxLen; omega
      case c4 => have := HLK.out; omega
      case c5 => exact hs6
      intro v' w7 hown7 hg7 _ _
      try rw [← hW6] at hg7
      have HS : OwnMR (g + 1) w7 v' (palS n (k + 1)) := OwnMR.push (by rw [HLN.out]; exact ho6) (hcl.ext hXr) hNL (by rw [HLN.out]; rfl) hown7 hg7
      obtain ⟨A7, c7, rfl, _, _, _⟩ := (ownsRow_row hown7).form
      have bO7 := Blk.apart (bO.ext hXr) ho6 (by decide) hg7
      have bC7 := Blk.apart (bC.ext hXr) ho6 (by decide) hg7
      have hx7 : Ext w w7 := (hx.trans hXr).grown hg7 (fun q hq => by have := (ho6.lt q hq).1; omega)
      have q3' := bC7.cell 3
      have qf := bC7.frozen 3
      simp only [List.getElem?_toArray, List.getElem?_cons_zero, List.getElem?_cons_succ] at q3'
      have HS' := Lib.hid (HS.far bC7 (by decide) (by decide) 3 (.slice A7 (ln + 2) c7))
      have HX := Lib.hid (hx7.setCell (p := ⟨gc, 3, none⟩) (by show w.heap.size ≤ gc; omega) (.slice A7 (ln + 2) c7))
      have HO := Lib.hid (bO7.far (p := ⟨gc, 3, none⟩) (by show g ≠ gc; omega) (.slice A7 (ln + 2) c7))
      have HC := Lib.hid (bC7.set_ 3 (.slice A7 (ln + 2) c7))
      clear hW6 eA bN hXr ho6 hNL hown7 hg7 o1 o2 o3 p1 p2 p3 hx3 hx4 hx ho1 hcl HS bO bC bO7 bC7 hx7
      go_wp2_with fail
      go_roundw
      case rel => exact ⟨k + 1, _, by omega, by go_num, HS'.out, HX.out, HO.out, HC.out⟩
      case measure => simp [intOf]; omega
    · obtain rfl : n = k + 1 := by omega
      obtain ⟨rl, hrl⟩ : ∃ rl, palS (k + 1) k = rl := ⟨_, rfl⟩
      rw [hrl] at st bC hlk
      have HRL := Lib.hid hrl
      clear hrl
      have SR := sortRules_c (g + 1) wr gc 2 ((k + 1 : Nat) : Int) 4 _ rl bC st (by omega) (by omega)
      clear hlk
      obtain ⟨cl, ho1, _⟩ := id st
      go_wp2_with fail
      refine SR.mono ?_
      rintro e w8 ⟨rfl, ⟨rs', hp, hs, hk8⟩, hg8⟩
      have bC8 := bC.kept hg8 (blk_ne_row bC ho1 (by decide))
      have bO8 := bO.kept hg8 (blk_ne_row bO ho1 (by decide))
      have hx8 : Ext w w8 := hx.grown hg8 (fun q hq => by have := (ho1.lt q hq).1; omega)
      have d0 := bC8.cell 0
      have d1 := bC8.cell 1
      have d2 := bC8.cell 2
      have d3 := bC8.cell 3
      simp only [List.getElem?_toArray, List.getElem?_cons_zero, List.getElem?_cons_succ] at d0 d1 d2 d3
      have ob := bO8.cell
      have of_ := bO8.frozen
      have hne : gc ≠ g := by omega
      have HP := Lib.hid hp
      have HSS := Lib.hid hs
      have HR : Hid (∀ u0 u1 u2 u3, MRules ((((w8.setCell ⟨g, 0, none⟩ u0).setCell ⟨g, 1, none⟩ u1).setCell ⟨g, 2, none⟩ u2).setCell ⟨g, 3, none⟩ u3) (.slice Av rl.length cv) rs') := Lib.hid fun u0 u1 u2 u3 =>
        hk8 _ ((((KeepB.setCell (p := ⟨g, 0, none⟩) w8 (by show g < g + 1; omega) u0).trans (KeepB.setCell (p := ⟨g, 1, none⟩) _ (by show g < g + 1; omega) u1)).trans (KeepB.setCell (p := ⟨g, 2, none⟩) _ (by show g < g + 1; omega) u2)).trans (KeepB.setCell (p := ⟨g, 3, none⟩) _ (by show g < g + 1; omega) u3))
      have HXX : Hid (∀ u0 u1 u2 u3, Ext w ((((w8.setCell ⟨g, 0, none⟩ u0).setCell ⟨g, 1, none⟩ u1).setCell ⟨g, 2, none⟩ u2).setCell ⟨g, 3, none⟩ u3)) := Lib.hid fun u0 u1 u2 u3 =>
        (((hx8.setCell (p := ⟨g, 0, none⟩) (by show w.heap.size ≤ g; omega) u0).setCell (p := ⟨g, 1, none⟩) (by show w.heap.size ≤ g; omega) u1).setCell (p := ⟨g, 2, none⟩) (by show w.heap.size ≤ g; omega) u2).setCell (p := ⟨g, 3, none⟩) (by show w.heap.size ≤ g; omega) u3
      clear hk8 hg8 hp hs hx8 hx bC bO bC8 bO8 SR st ho1
      go_wp2_with fail
      exact bodyPost_ret (v := .tuple #[.agg #[.int .i64 2, .int .i64 ((k + 1 : Nat) : Int), .int .i64 4, .slice Av rl.length cv], .int .i64 0]) (by simp [results, Try.results12, go_sem, ob]) rfl ⟨_, rs', rfl, by have := HP.out; rw [← HRL.out] at this; exact this, HSS.out, HR.out _ _ _ _, HXX.out _ _ _ _⟩
end Go.Proofs.Ytkbpchdncljlbaa
end
section
set_option linter.unusedVariables false
set_option linter.unusedSimpArgs false
namespace Go.Proofs.Ytkbpchdncljlbaa
open Go Go.RowKit Go.Proofs
theorem trimN_end (xs : List Int) : ∀ n, trimN xs n = 0 ∨ xs.getD (trimN xs n - 1) 0 ≠ 0 := by
  intro n
  induction n with
  | zero => exact .inl rfl
  | succ n ih =>
    unfold trimN
    split
    · exact ih
    · rename_i h
      right
      simpa using h
theorem trim_side2 {xs : List Int} {sy : Int} (hl : (trim xs).length ≤ 200) (h : ∀ z ∈ xs, 0 ≤ z ∧ z ≤ sy - 1) : sideOk (trim xs) sy 200 = true := by
  have hle := trim_len xs
  simp only [sideOk, inB, Bool.and_eq_true, Bool.or_eq_true, decide_eq_true_eq, List.all_eq_true, beq_iff_eq, bne_iff_ne, ne_eq]
  refine ⟨⟨by omega, fun z hz => by have := h z (trim_mem hz); omega⟩, ?_⟩
  by_cases h0 : 0 < (trim xs).length
  · right
    rw [lastD_get h0]
    have hn : (trim xs).length = trimN xs xs.length := by
      have := trimN_le xs xs.length
      simp [trim]; omega
    rcases trimN_end xs xs.length with e | e
    · omega
    · rw [← hn, List.getD_eq_getElem?_getD] at e
      have hk : (trim xs).length - 1 < (trim xs).length := by omega
      have hk' : (trim xs).length - 1 < xs.length := by omega
      rw [List.getElem?_eq_getElem hk', Option.getD_some] at e
      have : (trim xs)[(trim xs).length - 1] = xs[(trim xs).length - 1] := by simp [trim]
      rw [this]
      exact e
  · left
    omega
theorem getD_in {xs : List Int} {hi : Int} (h : ∀ z ∈ xs, 0 ≤ z ∧ z ≤ hi) (h0 : 0 ≤ hi) (k : Nat) : 0 ≤ xs.getD k 0 ∧ xs.getD k 0 ≤ hi := by
  by_cases hk : k < xs.length
  · rw [List.getD_eq_getElem?_getD, List.getElem?_eq_getElem hk]
    exact h _ (List.getElem_mem hk)
  · rw [List.getD_eq_getElem?_getD, List.getElem?_eq_none (by omega)]
    exact ⟨Int.le_refl _, h0⟩
theorem writeT_ok {m : MultiD} {t : TapeD} {s mv : Int} (hl : ∀ z ∈ t.l, 0 ≤ z ∧ z ≤ m.sy - 1) (hr : ∀ z ∈ t.r, 0 ≤ z ∧ z ≤ m.sy - 1) (hs : 0 ≤ s ∧ s ≤ m.sy - 1) (h2 : 2 ≤ m.sy) (hroom : roomT (writeT t s mv) = true) : tapeOk m (writeT t s mv) = true := by
  simp only [roomT, Bool.and_eq_true, decide_eq_true_eq] at hroom
  obtain ⟨r1, r2⟩ := hroom
  have hd : ∀ {xs : List Int} (k : Nat), (∀ z ∈ xs, 0 ≤ z ∧ z ≤ m.sy - 1) → ∀ z ∈ xs.drop k, 0 ≤ z ∧ z ≤ m.sy - 1 := fun k h z hz => h z (List.mem_of_mem_drop hz)
  have hc : ∀ {x : Int} {xs : List Int}, (0 ≤ x ∧ x ≤ m.sy - 1) → (∀ z ∈ xs, 0 ≤ z ∧ z ≤ m.sy - 1) → ∀ z ∈ x :: xs, 0 ≤ z ∧ z ≤ m.sy - 1 := fun hx h z hz => by
    rcases List.mem_cons.1 hz with e | e
    · rw [e]; exact hx
    · exact h z e
  have hw : ∀ z ∈ writeR t s, 0 ≤ z ∧ z ≤ m.sy - 1 := hc hs (hd 1 hr)
  unfold writeT at r1 r2 ⊢
  simp only [tapeOk, Bool.and_eq_true]
  split at r1
  · rename_i e
    rw [if_pos e] at r2 ⊢
    exact ⟨trim_side2 r1 (hc hs hl), trim_side2 r2 (hd 1 hr)⟩
  · rename_i e
    rw [if_neg e] at r2 ⊢
    split at r1
    · rename_i e2
      rw [if_pos e2] at r2 ⊢
      exact ⟨trim_side2 r1 (hd 1 hl), trim_side2 r2 (hc (getD_in hl (by omega) 0) hw)⟩
    · rename_i e2
      rw [if_neg e2] at r2 ⊢
      exact ⟨trim_side2 r1 hl, trim_side2 r2 hw⟩
/-- A run stays among valid configurations. -/
theorem cfg_ok {m : MultiD} {c : MConfD} (hm : multiOk m = true) (hq : inB c.q 0 (m.st - 1) = true) (hn : (c.tapes.length : Int) = m.tp) (hts : c.tapes.all (tapeOk m) = true) : ∀ i, MRuns m.rules c i →
    inB (cfgM m.rules c i).q 0 (m.st - 1) = true ∧ (cfgM m.rules c i).tapes.all (tapeOk m) = true
  | 0, _ => ⟨hq, hts⟩
  | i + 1, h => by
    obtain ⟨iq, it⟩ := cfg_ok hm hq hn hts i ⟨fun j hj => h.no j (by omega), fun j hj => h.room j (by omega)⟩
    have h0 := h.no i (by omega)
    have hr := h.room (i + 1) (Nat.le_refl _)
    have hlen := cfgM_tapes m.rules c i
    cases hl : lookM m.rules (cfgM m.rules c i) with
    | none => exact absurd hl h0
    | some j =>
      have hjl : j < m.rules.length := findM_lt hl
      have e : m.rules.getD j mr0 = m.rules[j] := by rw [List.getD_eq_getElem?_getD, List.getElem?_eq_getElem hjl]; rfl
      have hs : cfgM m.rules c (i + 1) = applyM (cfgM m.rules c i) m.rules[j] := by
        show stepM m.rules (cfgM m.rules c i) = _
        rw [step_some hl, e]
      have hro := mrule_all (multi_rule hm hjl)
      obtain ⟨_, ⟨n1, n2⟩, l1, l2, l3, _, w2, _⟩ := hro
      obtain ⟨_, ⟨sy1, sy2⟩, _⟩ := multi_all hm
      rw [hs] at hr ⊢
      refine ⟨inB_iff.2 ⟨n1, n2⟩, List.all_eq_true.2 fun t ht => ?_⟩
      have hrt := List.all_eq_true.1 hr t ht
      obtain ⟨k, hk, rfl⟩ := List.getElem_of_mem ht
      have hk' : k < (cfgM m.rules c i).tapes.length := by rw [← writeAll_length (cfgM m.rules c i).tapes m.rules[j].wr m.rules[j].mv]; exact hk
      have e2 : (applyM (cfgM m.rules c i) m.rules[j]).tapes[k] = writeT (cfgM m.rules c i).tapes[k] (m.rules[j].wr.getD k 0) (m.rules[j].mv.getD k 0) := writeAll_get _ _ _ k hk'
      rw [e2] at hrt ⊢
      obtain ⟨_, a, b⟩ := tape_len (List.all_eq_true.1 it _ (List.getElem_mem hk'))
      exact writeT_ok a b (getD_in w2 (by omega) k) (by omega) hrt
theorem start_ok {m : MultiD} {ws : List (List Int)} (h2 : 2 ≤ m.sy) (h : ws.all (wordOk m) = true) : (startM ws).tapes.all (tapeOk m) = true := by
  rw [List.all_eq_true]
  intro t ht
  obtain ⟨x, hx, rfl⟩ := List.mem_map.1 ht
  have := List.all_eq_true.1 h x hx
  simp only [wordOk, Bool.and_eq_true, decide_eq_true_eq, List.all_eq_true] at this
  have hl := trim_len x
  simp only [tapeOk, startT, Bool.and_eq_true]
  exact ⟨by simp [sideOk], trim_side2 (by omega) (fun z hz => inB_iff.1 (this.2 z hz))⟩
theorem readT_ok {m : MultiD} {t : TapeD} (h : tapeOk m t = true) (h3 : m.sy ≤ 3) : readT t = true := by
  obtain ⟨hr, a, b⟩ := tape_len h
  simp only [roomT, Bool.and_eq_true, decide_eq_true_eq] at hr
  simp only [readT, Bool.and_eq_true, decide_eq_true_eq, List.all_eq_true]
  exact ⟨⟨hr, fun z hz => inB_iff.2 (by have := a z hz; omega)⟩, fun z hz => inB_iff.2 (by have := b z hz; omega)⟩
theorem sorted_same {rs ts : List MRuleD} (hp : rs.Perm ts) (hs : SortedM rs) (ht : ∀ i j, i < j → j < ts.length → cmpM (ts.getD i mr0) (ts.getD j mr0) < 0) : rs = ts := by
  have hg : ∀ (l : List MRuleD) (i : Nat) (h : i < l.length), l.getD i mr0 = l[i] := fun l i h => by rw [List.getD_eq_getElem?_getD, List.getElem?_eq_getElem h]; rfl
  have sw := cmpM_swo (fun k => ts.getD k mr0)
  have h1 : rs.Pairwise fun a b => ¬ cmpM b a < 0 := List.pairwise_iff_getElem.2 fun i j hi hj hij => by
    have := hs i j hij hj
    rwa [hg rs j hj, hg rs i hi] at this
  have h2 : ts.Pairwise fun a b => ¬ cmpM b a < 0 := List.pairwise_iff_getElem.2 fun i j hi hj hij h => by
    have a := ht i j hij hj
    have t1 := sw.trans i j i (by simpa [ltOf] using a) (by rw [← hg ts i hi, ← hg ts j hj] at h; simpa [ltOf] using h)
    have t2 := sw.irrefl i
    rw [t1] at t2
    cases t2
  refine List.Perm.eq_of_pairwise (le := fun a b => ¬ cmpM b a < 0) (fun a b ha hb hab hba => ?_) h1 h2 hp
  have ha' := hp.mem_iff.1 ha
  obtain ⟨i, hi, rfl⟩ := List.getElem_of_mem ha'
  obtain ⟨j, hj, rfl⟩ := List.getElem_of_mem hb
  rcases Nat.lt_trichotomy i j with h | h | h
  · exact absurd (by have := ht i j h hj; rwa [hg ts i hi, hg ts j hj] at this) hba
  · subst h; rfl
  · exact absurd (by have := ht j i h hi; rwa [hg ts i hi, hg ts j hj] at this) hab
/-- A list is in strict order. -/
def strictB (ts : List MRuleD) : Bool := (List.range ts.length).all fun j => (List.range j).all fun i => decide (cmpM (ts.getD i mr0) (ts.getD j mr0) < 0)
theorem strict_of {ts : List MRuleD} (h : strictB ts = true) : ∀ i j, i < j → j < ts.length → cmpM (ts.getD i mr0) (ts.getD j mr0) < 0 := fun i j hij hj => by
  have := List.all_eq_true.1 h j (List.mem_range.2 hj)
  have := List.all_eq_true.1 this i (List.mem_range.2 hij)
  simpa using this
theorem pal_rules {rs : List MRuleD} (hp : rs.Perm (palS 3 2)) (hs : SortedM rs) : rs = palRs3 :=
  sorted_same (hp.trans (by decide +kernel)) hs (strict_of (by decide +kernel))
theorem palx_rules {rs : List MRuleD} (hp : rs.Perm (palRs3.map (permR [1, 0]))) (hs : SortedM rs) : rs = palRs3x :=
  sorted_same (hp.trans (by decide +kernel)) hs (strict_of (by decide +kernel))
theorem copier3_ok : multiOk copier3 = true := by decide +kernel
theorem pal3_ok : multiOk pal3 = true := by decide +kernel
theorem pal3x_ok : multiOk pal3x = true := by decide +kernel
theorem chkW_all {w : List Int} (h : ∀ z ∈ w, z = 1 ∨ z = 2) (hl : w.length ≤ 9) : chkW w = true := by
  have hm := mem_wordsL w h
  have key : ∀ n, w.length = n → (wordsL n).all chkW = true → chkW w = true := fun n e ha => List.all_eq_true.1 ha w (by rw [← e]; exact hm)
  have hs : ∀ n, wordsL (n + 1) = (wordsL n).map (fun w => 1 :: w) ++ (wordsL n).map (fun w => 2 :: w) := fun n => rfl
  by_cases h7 : w.length ≤ 7
  · match hw : w.length, h7 with
    | 0, _ => exact key 0 hw words0
    | 1, _ => exact key 1 hw words1
    | 2, _ => exact key 2 hw words2
    | 3, _ => exact key 3 hw words3
    | 4, _ => exact key 4 hw words4
    | 5, _ => exact key 5 hw words5
    | 6, _ => exact key 6 hw words6
    | 7, _ => exact key 7 hw words7
    | n + 8, h => omega
  · by_cases h8 : w.length = 8
    · refine key 8 h8 ?_
      rw [hs 7, List.all_append, words8a, words8b]
      rfl
    · refine key 9 (by omega) ?_
      rw [hs 8, hs 7, List.map_append, List.map_append, List.all_append, List.all_append, List.all_append, List.map_map, List.map_map, List.map_map, List.map_map]
      have a := words9a1
      have b := words9b1
      have c := words9a2
      have d := words9b2
      simp only [Function.comp_def]
      rw [a, b, c, d]
      rfl
/-- The copier on a word. -/
theorem copy_law {w : List Int} (h : ∀ z ∈ w, z = 1 ∨ z = 2) (hl : w.length ≤ 9) :
    (∀ i, MEnd copyRs3 (startM [w, []]) 100 i → i = w.length ∧ (lookM copyRs3 (cfgM copyRs3 (startM [w, []]) i)).isNone = true ∧ wordT ((cfgM copyRs3 (startM [w, []]) i).tapes.getD 1 ⟨[], []⟩) = w) ∧ ∀ i, ¬ MFull copyRs3 (startM [w, []]) 100 i := by
  have hc := chkW_all h hl
  simp only [chkW, Bool.and_eq_true] at hc
  have hc := hc.1
  unfold chkC at hc
  refine ⟨fun i hi => ?_, fun i hi => ?_⟩
  · rw [runB_end _ _ _ _ hi] at hc
    cases hb : (lookM copyRs3 (cfgM copyRs3 (startM [w, []]) i)).isNone with
    | false => rw [hb] at hc; simp at hc
    | true =>
      rw [hb] at hc
      simp only [Bool.and_eq_true, decide_eq_true_eq] at hc
      exact ⟨hc.1, rfl, hc.2⟩
  · rw [runB_full _ _ _ _ hi] at hc
    simp at hc
/-- The machine of palindromes on a word, and with its tapes exchanged. -/
theorem pal_law {w : List Int} (h : ∀ z ∈ w, z = 1 ∨ z = 2) (hl : w.length ≤ 9) :
    (∀ i, MEnd palRs3 (startM [w, []]) 200 i → (lookM palRs3 (cfgM palRs3 (startM [w, []]) i)).isNone = true ∧ decide ((cfgM palRs3 (startM [w, []]) i).q = 3) = decide (w = w.reverse) ∧
      ∀ j, MEnd palRs3x (startM [[], w]) 200 j → (lookM palRs3x (cfgM palRs3x (startM [[], w]) j)).isNone = true ∧ j = i ∧ (cfgM palRs3x (startM [[], w]) j).q = (cfgM palRs3 (startM [w, []]) i).q) ∧
    (∀ i, ¬ MFull palRs3 (startM [w, []]) 200 i) ∧ ∀ i, ¬ MFull palRs3x (startM [[], w]) 200 i := by
  have hc := chkW_all h hl
  simp only [chkW, Bool.and_eq_true] at hc
  have hc := hc.2
  unfold chkP at hc
  cases hr : runB palRs3 200 (startM [w, []]) with
  | none => rw [hr] at hc; simp at hc
  | some x =>
    obtain ⟨n, b, c⟩ := x
    rw [hr] at hc
    cases b with
    | false => simp at hc
    | true =>
      cases hx : runB palRs3x 200 (startM [[], w]) with
      | none => rw [hx] at hc; simp at hc
      | some y =>
        obtain ⟨k, b, d⟩ := y
        rw [hx] at hc
        cases b with
        | false => simp at hc
        | true =>
          simp only [Bool.and_eq_true, decide_eq_true_eq, beq_iff_eq] at hc
          obtain ⟨h1, h2, h3⟩ := hc
          refine ⟨fun i hi => ?_, fun i hi => ?_, fun i hi => ?_⟩
          · have e := runB_end _ _ _ _ hi
            rw [hr] at e
            injection e with e
            injection e with e1 e
            injection e with e2 e3
            refine ⟨e2.symm, by rw [← e3]; exact h1, fun j hj => ?_⟩
            have e := runB_end _ _ _ _ hj
            rw [hx] at e
            injection e with e
            injection e with e4 e
            injection e with e5 e6
            exact ⟨e5.symm, by omega, by rw [← e6, ← e3]; exact h3⟩
          · rw [runB_full _ _ _ _ hi] at hr
            cases hr
          · rw [runB_full _ _ _ _ hi] at hx
            cases hx
end Go.Proofs.Ytkbpchdncljlbaa
end
