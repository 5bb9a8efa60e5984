/- Contract on all abstractions that are reached, in order. -/
import Derived.Test.YtkdigfgodjjiaaaGreatAbJ
import Derived.Test.YtkdigfgodjjiaaaGreatSortR
set_option linter.unusedSimpArgs false
set_option linter.unusedVariables false
set_option linter.unusedSectionVars false
set_option maxHeartbeats 4000000
namespace Go.Proofs.YtkdigfgodjjiaaaGreat
open Go Go.RowKit Go.Proofs Go.Maps
/-- Four blocks: a machine, two automata, and all of them in one. -/
theorem boxes4 (w : World) (m : MachD) (L R : DfaD) (mv uv tv : Value) : ∃ W, (((w.alloc (.cells #[.int .i64 m.sy, .int .i64 m.st, mv] 26)).alloc (.cells #[.int .i64 L.st, uv] 30)).alloc (.cells #[.int .i64 R.st, tv] 30)).alloc (.cells #[.int .i64 m.sy, .int .i64 m.st, mv, .int .i64 L.st, uv, .int .i64 R.st, tv] 62) = W ∧
    Ext w W ∧ Blk W (w.heap.size + 1 + 1 + 1) 62 #[.int .i64 m.sy, .int .i64 m.st, mv, .int .i64 L.st, uv, .int .i64 R.st, tv] := by
  refine ⟨_, rfl, (((Ext.alloc _ _).trans (Ext.alloc _ _)).trans (Ext.alloc _ _)).trans (Ext.alloc _ _), ?_⟩
  exact Blk.new _ _ _ _ (by simp)
theorem rowInfoN : (Tryz.prog.info? 28).map (fun i => (i.zero, i.size, i.bytes)) = some (some (.slice none 0 0), 1, 24) := by kernel_rfl
set_option maxRecDepth 20000 in
theorem AbstractClosure_c (m : MachD) (L R : DfaD) (mv uv tv : Value) (w : World) (hr : Rules w mv m.rules) (hu : Ints w uv L.nx) (ht : Ints w tv R.nx)
    (hm : machOk m = true) (hL : dfaOk L m.sy = true) (hR : dfaOk R m.sy = true) (hn : ∀ K, (rndA m L R K).length ≤ 3000) :
    Calls Tryz.prog 8 #[.agg #[.int .i64 m.sy, .int .i64 m.st, mv], .agg #[.int .i64 L.st, uv], .agg #[.int .i64 R.st, tv]] w fun e w' => ∃ K u yss, (rndA m L R K).length ≤ K ∧ e = .returned (.tuple #[u, .int .i64 0]) ∧ yss.Perm ((rndA m L R K).map outL) ∧ (∀ W, KeepB w.heap.size w' W → IntRows W u yss) ∧ Ext w w' := by
  obtain ⟨i0, hi0, hz0, hz1, hz2⟩ := info_parts rowInfoN
  obtain ⟨Am, cm, rfl, _, _⟩ := hr.form
  obtain ⟨Au, cu, rfl, _, _⟩ := hu.form
  obtain ⟨At, ct, rfl, _, _⟩ := ht.form
  obtain ⟨W, hW, hX, bA⟩ := boxes4 w m L R (.slice Am m.rules.length cm) (.slice Au L.nx.length cu) (.slice At R.nx.length ct)
  generalize hg0 : w.heap.size = g0 at *
  have hval := valid_autos_c _ m L R W ⟨_, _, _, rfl, hr.ext hX, hu.ext hX, ht.ext hX⟩ hm hL hR
  have a0 := bA.cell 0
  have a1 := bA.cell 1
  have a2 := bA.cell 2
  have a3 := bA.cell 3
  have a4 := bA.cell 4
  have a5 := bA.cell 5
  have a6 := bA.cell 6
  simp only [List.getElem?_toArray, List.getElem?_cons_zero, List.getElem?_cons_succ] at a0 a1 a2 a3 a4 a5 a6
  go_enter Tryz.func8, Tryz.ntmps8
  go_wp2_with fail
  clear hW a0 a1 a2 a3 a4 a5 a6
  refine hval.mono ?_
  rintro e w2 ⟨rfl, hx2⟩
  have bA2 := bA.ext hx2
  have a0 := bA2.cell 0
  have a1 := bA2.cell 1
  have a2 := bA2.cell 2
  have a3 := bA2.cell 3
  have a4 := bA2.cell 4
  have a5 := bA2.cell 5
  have a6 := bA2.cell 6
  simp only [List.getElem?_toArray, List.getElem?_cons_zero, List.getElem?_cons_succ] at a0 a1 a2 a3 a4 a5 a6
  have hX2 := hX.trans hx2
  go_wp2_with fail
  refine (closure_c _ m L R w2 ⟨_, _, _, rfl, hr.ext hX2, hu.ext hX2, ht.ext hX2⟩ hm hL hR).mono ?_
  rintro e w4 ⟨hx4, hres⟩
  obtain ⟨K, ov, hK, hK3, hown, rfl⟩ : ∃ K ov, (rndA m L R K).length ≤ K ∧ (rndA m L R K).length ≤ 3000 ∧ w4.ownsRow w2.heap.size 68 4 ov (rndA m L R K).length (ovs (rndA m L R K)) ∧ e = .returned (.tuple #[ov, .bool (rulA m L R K), .bool true]) := by
    rcases hres with h | ⟨K, h, _⟩
    · exact h
    · exact absurd (hn K) (by omega)
  have hX4 := hX2.trans hx4
  have h0K : 0 < (rndA m L R K).length := List.length_pos_of_mem (rndA_start m L R K)
  have HK := Lib.hid hK
  clear hK a0 a1 a2 a3 a4 a5 a6 hn hval
  generalize rulA m L R K = rk at *
  generalize hl : rndA m L R K = l at *
  have HL := Lib.hid hl
  clear hl
  obtain ⟨Ao, co, rfl, o1, o2, _⟩ := (ownsRow_row hown).form
  obtain ⟨W5, hW5⟩ : ∃ W5, w4.alloc (.cells #[] 28) = W5 := ⟨_, rfl⟩
  have hx5 : Ext w4 W5 := by rw [← hW5]; exact Ext.alloc _ _
  have hs4 : w.heap.size ≤ w4.heap.size := hX4.size
  have st0 : OutR w.heap.size W5 (.slice (some ⟨w4.heap.size, 0, none⟩) 0 0) [] [] :=
    ⟨⟨by simp, .inr ⟨w4.heap.size, 0, #[], rfl, hs4, by rw [← hW5]; exact heap_alloc_new w4 _, by simp, by unfold maxLen; omega, rfl, by simp⟩⟩, fun i hi => by simp at hi⟩
  have hX5 := hX4.trans hx5
  have hown5 := ownsRow_ext hown hx5
  have HW5 := Lib.hid hW5
  clear hW5
  go_wp2_with fail
  rw [HW5.out]
  clear HW5
  go_loopw [12, 33] (fun o i wr => ∃ (k : Nat) (vs : List Value), k ≤ l.length ∧ i = .int .i64 (k : Int) ∧ OutR w.heap.size wr o vs ((l.take k).map outL) ∧ Ext w wr ∧ wr.ownsRow w2.heap.size 68 4 (.slice Ao l.length co) l.length (ovs l)) (fun _ i _ => l.length - (intOf i).toNat)
  case atStart => exact ⟨0, [], Nat.zero_le _, rfl, st0, hX5, hown5⟩
  case round =>
    clear st0
    obtain ⟨k, vs, hk, rfl, stk, hX6, hoK⟩ := hrel
    by_cases hlt : k < l.length
    · obtain ⟨gl, rfl, l0, l1, l2, l3⟩ := ovs_at hoK hlt
      have hnx : Hid ((l.take (k + 1)).map outL = (l.take k).map outL ++ [outL l[k]]) := Lib.hid (by rw [List.take_succ_eq_append_getElem hlt, List.map_append]; rfl)
      obtain ⟨Av, cv, rfl, v1, v2, _⟩ := (ownsRow_row stk.1).form
      have hlk : ((l.take k).map outL).length = k := by simp; omega
      have HLK := Lib.hid hlk
      have i1 : (0 : Int) ≤ (k : Int) := by omega
      have i2 : (k : Int) < (l.length : Int) := by omega
      rw [hlk] at v1
      generalize l[k] = x at *
      obtain ⟨W6, hW6⟩ : ∃ W6, wr.alloc (.cells #[.int .i64 x.1, .int .i64 x.2.1, .int .i64 x.2.2.1, .int .i64 x.2.2.2] 68) = W6 := ⟨_, rfl⟩
      have hx6 : Ext wr W6 := by rw [← hW6]; exact Ext.alloc _ _
      have bX : Blk W6 wr.heap.size 68 #[.int .i64 x.1, .int .i64 x.2.1, .int .i64 x.2.2.1, .int .i64 x.2.2.2] := by rw [← hW6]; exact Blk.new _ _ _ _ rfl
      have hcl := Clone_c _ _ W6 (outInts bX) (by simp) (by simp)
      have st6 := stk.ext hx6
      have hs6 : w.heap.size ≤ W6.heap.size := (hX6.trans hx6).size
      have HW6 := Lib.hid hW6
      clear hW6 bX hlk
      generalize (l.take k).map outL = xss at *
      go_wp2_with fail
      rw [HW6.out]
      clear HW6
      refine hcl.mono ?_
      rintro e w7 ⟨u, rfl, hu7, hx7⟩
      obtain ⟨Au', cu', hform, _, _⟩ := hu7.ints.form
      have e4 : u = .slice Au' 4 cu' := hform
      subst e4
      clear hform
      have st7 := st6.ext hx7
      have eA := Ext.alloc w7 (.cells #[.slice Au' 4 cu'] 28)
      have st8 := st7.ext eA
      have ho8 : (w7.alloc (.cells #[.slice Au' 4 cu'] 28)).ownsRow w.heap.size 28 1 (.slice Av k cv) k vs := by have := st8.1; rw [HLK.out] at this; exact this
      have hu8 : OwnInts w.heap.size (w7.alloc (.cells #[.slice Au' 4 cu'] 28)) (.slice Au' 4 cu') (outL x) := ownsRow_ext (ownsRow_base hu7 hs6) eA
      have hs7 : w.heap.size ≤ w7.heap.size := by have := hx7.size; omega
      have hX8 := ((hX6.trans hx6).trans hx7).trans eA
      have H5 := Lib.hid (ownsRow_ext hoK ((hx6.trans hx7).trans eA))
      clear hown eA st6 st7 stk hu7 hcl hoK
      rw [HLK.out]
      go_wp2_with (at_builtin; refine wpList_append_own_at _ rfl _ _ 36 rfl w.heap.size 28 i0 (.slice none 0 0) 1 24 Tryz.underlying36 hi0 hz0 hz1 hz2 rfl (by decide) _ _ _ rfl ho8 ⟨w7.heap.size, 0, none⟩ 1 1 [.slice Au' 4 cu'] rfl rfl (cell_one_new _ _ _) ?c2 ?c3 ?c4 ?c5 ?_)
      case c2 => intro u hu; simp at hu; subst hu; rfl
      case c3 => unfold maxLen; omega
      case c4 => omega
      case c5 => simp; omega
      intro v' w9 hown9 hg9 _ _
      obtain ⟨A9, c9, rfl, _, _, _⟩ := (ownsRow_row hown9).form
      have st9 := Lib.hid (st8.snoc (v' := .slice A9 (k + 1) c9) hu8 (by rw [HLK.out, hg0]; exact hown9) (by rw [HLK.out]; exact hg9))
      have hX9 := Lib.hid (hX8.grown hg9 (fun b hb => (ho8.lt b hb).1))
      have h59 : Hid (w9.ownsRow w2.heap.size 68 4 (.slice (some ⟨gl, 0, none⟩) l.length co) l.length (ovs l)) := Lib.hid (World.ownsRow.kept H5.out hg9 (own_ne H5.out ho8 (by decide)))
      clear st8 hX8 H5 hown9 hg9 ho8 hu8
      go_wp2
      go_roundw
      case rel => exact ⟨k + 1, _, by omega, by go_num, by rw [hnx.out]; exact st9.out, hX9.out, h59.out⟩
      case measure => simp [intOf]; omega
    · have hke : l.take k = l := List.take_of_length_le (by omega)
      rw [hke] at stk
      have hml : (l.map outL).length = l.length := List.length_map _
      obtain ⟨Av, cv, rfl, v1, v2, _⟩ := (ownsRow_row stk.1).form
      have hsort := sortRows_c w.heap.size wr _ vs _ stk (by rw [hml]; exact h0K) (by rw [hml]; omega)
      have hlow : ∀ b, (Value.slice Av (l.map outL).length cv).ownBlock = some b → w.heap.size ≤ b := fun b hb => (stk.1.lt b hb).1
      have HLow := Lib.hid hlow
      have hKL := Lib.hid (show l.map outL = (rndA m L R K).map outL by rw [HL.out])
      have HKK : Hid ((rndA m L R K).length ≤ K) := Lib.hid (by rw [HL.out]; exact HK.out)
      clear stk hown hke hlow hoK hown5
      generalize l.map outL = xss at *
      clear hml
      go_wp2_with fail
      with_reducible refine hsort.mono ?_
      rintro e w9 ⟨rfl, ⟨yss, hp, hrows⟩, hg9⟩
      have hX9 := hX6.grown hg9 HLow.out
      have HP := Lib.hid hp
      clear hp hsort
      go_wp2
      refine bodyPost_ret (v := .tuple #[.slice Av xss.length cv, .int .i64 0]) (by simp [results, Tryz.results8, go_sem]) rfl ⟨K, _, yss, HKK.out, rfl, by rw [← hKL.out]; exact HP.out, fun W hk => hrows W (by rw [hg0]; exact hk), hX9⟩
end Go.Proofs.YtkdigfgodjjiaaaGreat
