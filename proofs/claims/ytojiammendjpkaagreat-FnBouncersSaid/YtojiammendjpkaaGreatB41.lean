/- Contract: slices.DeleteFunc at records: what is left is some of the records that were there.
A made map from numbers to lists of records of the call's own: what a look-up answers and what a store leaves.
Contract: the search of a bouncer. -/
import Derived.Test.YtojiammendjpkaaGreatB40
import Derived.Maps.GroupsBeside
section
set_option linter.unusedSimpArgs false
set_option linter.unusedVariables false
namespace Go.Proofs.YtojiammendjpkaaGreat
open Go Go.RowKit Go.Proofs
set_option maxHeartbeats 400000
theorem flat_form {v : Value} (h : Flat v) : ∃ A n c, v = .slice A n c := by
  rcases h with rfl | ⟨_, _, _, _, rfl⟩
  · exact ⟨_, _, _, rfl⟩
  · exact ⟨_, _, _, rfl⟩
theorem recZero (w : World) : (zeroValue 105).run Tryz.prog w = .ok (.agg #[.int .i64 0, .int .i64 0, .int .i64 0, .slice none 0 0, .slice none 0 0]) w := by kernel_rfl
theorem setCells_low {b : Nat} : ∀ (vs : List Value) (o : Nat) (w : World) (j : Nat), j < o → (w.setCells b o vs).cell? ⟨b, j, none⟩ = w.cell? ⟨b, j, none⟩
  | [], _, _, _, _ => rfl
  | v :: vs, o, w, j, h => by
    show ((w.setCell ⟨b, o, none⟩ v).setCells b (o + 1) vs).cell? ⟨b, j, none⟩ = _
    rw [setCells_low vs (o + 1) _ j (by omega), World.cell?_setCell_other _ _ _ _ (by intro h; simp only [Addr.mk.injEq] at h; omega)]
theorem grownBy_setCells {b : Nat} : ∀ (vs : List Value) (o : Nat) (w w' : World), w.grownBy w' (some b) → w.grownBy (w'.setCells b o vs) (some b)
  | [], _, _, _, h => h
  | v :: vs, o, w, w', h => grownBy_setCells vs (o + 1) w _ (grownBy_trans h (grownBy_setCell w' ⟨b, o, none⟩ v))
theorem run_clear_recs (w : World) (b o n c : Nat) (hn : 0 < n)
    (hc : ∀ j, j < n * 5 → (w.cell? ⟨b, o + j, none⟩).isSome = true) (hf : ∀ j, w.frozen? ⟨b, j, none⟩ = false) :
    ∃ vs : List Value, ∀ ty, (Builtin.clear_ #[102] ty #[.slice (some ⟨b, o, none⟩) n c]).run Tryz.prog w = .ok (.tuple #[]) (w.setCells b o vs) := by
  have ht := Tryz.underlying102
  refine ⟨(Builtin.zeroCells (Value.cells (.agg #[.int .i64 0, .int .i64 0, .int .i64 0, .slice none 0 0, .slice none 0 0])) n).toList, fun ty => ?_⟩
  obtain ⟨m, rfl⟩ : ∃ m, n = m + 1 := ⟨n - 1, by omega⟩
  have hs : (Builtin.zeroCells (Value.cells (.agg #[.int .i64 0, .int .i64 0, .int .i64 0, .slice none 0 0, .slice none 0 0])) (m + 1)).toList.length = (m + 1) * 5 := by
    rw [Array.length_toList, size_zeroCells]
    rfl
  have hst := run_storeCells_cells (P := Tryz.prog) b o (Builtin.zeroCells (Value.cells (.agg #[.int .i64 0, .int .i64 0, .int .i64 0, .slice none 0 0, .slice none 0 0])) (m + 1)).toList 0 w (by rw [hs]; simpa using hc) (by intro j _; exact hf _) (by
    intro v hv
    simp only [Builtin.zeroCells, Array.mem_toList_iff, Array.mem_map, Array.mem_range] at hv
    obtain ⟨i, hi, rfl⟩ := hv
    have h5 : i % 5 = 0 ∨ i % 5 = 1 ∨ i % 5 = 2 ∨ i % 5 = 3 ∨ i % 5 = 4 := by omega
    show ((#[.int .i64 0, .int .i64 0, .int .i64 0, .slice none 0 0, .slice none 0 0] : Array Value)[i % 5]!).oneCell' = true
    rcases h5 with h | h | h | h | h <;> rw [h] <;> rfl)
  simp only [Nat.add_zero] at hst
  simp [Builtin.clear_, run_underlying ht, recZero, hst]
/-- One record is put over another. -/
theorem row_set5 {w : World} {base g n c : Nat} {rs : List RecV} (h : w.ownsRow base 105 5 (.slice (some ⟨g, 0, none⟩) n c) n (encs rs)) (hn : rs.length = n) (x : RecV) (k : Nat) (hk : k < n) :
    (((((w.setCell ⟨g, k * 5, none⟩ (.int .i64 x.n)).setCell ⟨g, k * 5 + 1, none⟩ (.int .i64 x.side)).setCell ⟨g, k * 5 + 2, none⟩ (.int .i64 x.c.q)).setCell ⟨g, k * 5 + 3, none⟩ x.lv).setCell ⟨g, k * 5 + 4, none⟩ x.rv).ownsRow base 105 5 (.slice (some ⟨g, 0, none⟩) n c) n (encs (rs.set k x)) := by
  rw [encs_set x rs k (by omega)]
  exact (World.ownsRow.stored (World.ownsRow.stored (World.ownsRow.stored (World.ownsRow.stored (World.ownsRow.stored h _ _).1 _ _).1 _ _).1 _ _).1 _ _).1
theorem grown5 {w w' : World} {g : Nat} (h : w.grownBy w' (some g)) (a b c d e : Nat) (u v x y z : Value) : w.grownBy (((((w'.setCell ⟨g, a, none⟩ u).setCell ⟨g, b, none⟩ v).setCell ⟨g, c, none⟩ x).setCell ⟨g, d, none⟩ y).setCell ⟨g, e, none⟩ z) (some g) :=
  grownBy_trans (grownBy_trans (grownBy_trans (grownBy_trans (grownBy_trans h (grownBy_setCell _ ⟨g, a, none⟩ _)) (grownBy_setCell _ ⟨g, b, none⟩ _)) (grownBy_setCell _ ⟨g, c, none⟩ _)) (grownBy_setCell _ ⟨g, d, none⟩ _)) (grownBy_setCell _ ⟨g, e, none⟩ _)
/-- What is left. -/
def DelRes (w : World) (v : Value) (rs : List RecV) (e : Ending) (w' : World) : Prop :=
  ∃ (qs : List RecV) (A : Option Addr) (c : Nat), e = .returned (.slice A qs.length c) ∧ (∀ r ∈ qs, r ∈ rs) ∧ Recs w' (.slice A qs.length c) qs ∧ w.grownBy w' v.ownBlock
set_option maxRecDepth 20000 in
set_option maxHeartbeats 4000000 in
theorem DeleteFunc_c (base : Nat) (v : Value) (rs : List RecV) (w : World) (ho : w.ownsRow base 105 5 v rs.length (encs rs)) (hf : ∀ r ∈ rs, Flat r.lv ∧ Flat r.rv) :
    Calls Tryz.prog 63 #[v, fnSide] w (DelRes w v rs) := by
  have IX := indexR_c v rs w (ownsRow_row ho) hf
  have HO := Lib.hid ho
  obtain ⟨At, ct, rfl, h1, h2, _⟩ := (ownsRow_row ho).form
  have HF := Lib.hid hf
  clear hf ho
  go_enter Tryz.func63, Tryz.ntmps63
  go_wp2_with fail
  refine IX.mono ?_
  rintro e w1 ⟨z, rfl, hz, hx1⟩
  clear IX
  rcases hz with rfl | ⟨hz0, hz1⟩
  · go_wp2
    go_ret
    exact ⟨rs, At, ct, rfl, fun r h => h, (show Recs w _ rs from ownsRow_row HO.out).ext hx1, ext_grownBy hx1 _⟩
  · obtain ⟨k0, rfl⟩ : ∃ k : Nat, z = (k : Int) := ⟨z.toNat, by omega⟩
    have hg : ∃ g, At = some ⟨g, 0, none⟩ := by
      rcases HO.out.2 with ⟨_, h0⟩ | ⟨g, cap, cur, h, _⟩
      · omega
      · injection h with h
        exact ⟨g, h⟩
    obtain ⟨g, rfl⟩ := hg
    have hzn : ((k0 : Int) == -1) = false := by simp only [beq_eq_false_iff_ne, ne_eq]; omega
    have hwk : IntKind.i64.wrap ((k0 : Int) + 1) = ((k0 + 1 : Nat) : Int) := by rw [show (k0 : Int) + 1 = ((k0 + 1 : Nat) : Int) by omega]; exact IntWalk.i64_in _ (by omega)
    have hown1 := ownsRow_ext HO.out hx1
    have HG1 := Lib.hid (ext_grownBy hx1 (some g))
    obtain ⟨N, hN⟩ : ∃ N, rs.length = N := ⟨_, rfl⟩
    have HN := Lib.hid hN
    rw [hN] at h1 hz1 hown1
    rw [hN]
    clear hx1 hN
    go_wp2_with fail
    go_loopw [5, 6] (fun i j wr => ∃ (ik jk : Nat) (qs : List RecV), i = .int .i64 (ik : Int) ∧ j = .int .i64 (jk : Int) ∧ ik < jk ∧ jk ≤ N ∧ qs.length = N ∧ Hid (∀ r ∈ qs, r ∈ rs) ∧ wr.ownsRow base 105 5 (.slice (some ⟨g, 0, none⟩) N ct) N (encs qs) ∧ Hid (w.grownBy wr (some g))) (fun _ j _ => N - (intOf j).toNat)
    case atStart => exact ⟨k0, k0 + 1, rs, rfl, by go_num, by omega, by omega, HN.out, Lib.hid (fun r h => h), hown1, HG1⟩
    case round =>
      clear hown1 hwk hzn
      obtain ⟨ik, jk, qs, rfl, rfl, hij, hjN, hql, HQ, hown, HGR⟩ := hrel
      by_cases hlt : jk < N
      · obtain ⟨b', off', e', hc⟩ := Row.at (ownsRow_row hown) hlt
        injection e' with e'
        injection e' with e1 e2
        subst e1 e2
        have cell5 : ∀ k, (hk : k < N) → wr.cell? ⟨g, k * 5, none⟩ = some (.int .i64 (qs[k]'(by omega)).n) ∧ wr.cell? ⟨g, k * 5 + 1, none⟩ = some (.int .i64 (qs[k]'(by omega)).side) ∧ wr.cell? ⟨g, k * 5 + 2, none⟩ = some (.int .i64 (qs[k]'(by omega)).c.q) ∧ wr.cell? ⟨g, k * 5 + 3, none⟩ = some (qs[k]'(by omega)).lv ∧ wr.cell? ⟨g, k * 5 + 4, none⟩ = some (qs[k]'(by omega)).rv := fun k hk => by
          obtain ⟨d0, d1, d2, d3, d4⟩ := encs_get qs k (by omega)
          have h0 := hc (k * 5) (by omega)
          have h1 := hc (k * 5 + 1) (by omega)
          have h2 := hc (k * 5 + 2) (by omega)
          have h3 := hc (k * 5 + 3) (by omega)
          have h4 := hc (k * 5 + 4) (by omega)
          rw [Nat.zero_add] at h0 h1 h2 h3 h4
          exact ⟨h0.trans d0, h1.trans d1, h2.trans d2, h3.trans d3, h4.trans d4⟩
        obtain ⟨c0, c1, c2, c3, c4⟩ := cell5 jk hlt
        obtain ⟨t0, t1, t2, t3, t4⟩ := cell5 ik (by omega)
        obtain ⟨f1, f2⟩ := HF.out qs[jk] (HQ.out _ (List.getElem_mem _))
        have hXm : Hid (qs[jk] ∈ rs) := Lib.hid (HQ.out _ (List.getElem_mem _))
        have bG : ∃ cur, Blk wr g 105 cur := by
          rcases hown.2 with ⟨h, _⟩ | ⟨g', cap, cur, h, _, hh, _⟩
          · cases h
          · injection h with h
            injection h with h
            injection h with h
            subst h
            exact ⟨_, hh⟩
        obtain ⟨cur, bG⟩ := bG
        generalize qs[jk] = X at *
        obtain ⟨n, side, C, lv, rv⟩ := X
        simp only at *
        obtain ⟨A1, n1, k1, rfl⟩ := flat_form f1
        obtain ⟨A2, n2, k2, rfl⟩ := flat_form f2
        obtain ⟨V, hV⟩ : ∃ V, V = wr.alloc (.cells #[.int .i64 n, .int .i64 side, .int .i64 C.q, .slice A1 n1 k1, .slice A2 n2 k2] 105) := ⟨_, rfl⟩
        obtain ⟨gv, hgv⟩ : ∃ g, wr.heap.size = g := ⟨_, rfl⟩
        have hxV : Ext wr V := by rw [hV]; exact Ext.alloc _ _
        have bV : Blk V gv 105 #[.int .i64 n, .int .i64 side, .int .i64 C.q, .slice A1 n1 k1, .slice A2 n2 k2] := by rw [hV]; exact Blk.new _ _ _ _ hgv
        have SC := side_c ⟨n, side, C, .slice A1 n1 k1, .slice A2 n2 k2⟩ V f1 f2
        simp only [recVal] at SC
        have HC := Lib.hid (And.intro hc (And.intro t0 (And.intro t1 (And.intro t2 (And.intro t3 (And.intro t4 (And.intro bG (And.intro bV hxV))))))))
        have HOW := Lib.hid hown
        have hgl := bG.lt
        clear hc cell5 t0 t1 t2 t3 t4 bG bV hxV hown f1 f2
        go_wp2_with fail
        try rw [← hV]
        try rw [hgv]
        clear hV hgv
        refine SC.mono ?_
        rintro e w3 ⟨⟨y, rfl⟩, hx3⟩
        clear SC c0 c1 c2 c3 c4
        have hx13 := HC.out.2.2.2.2.2.2.2.2.trans hx3
        have HX3 := Lib.hid hx13
        cases y with
        | true =>
          clear hx3 hx13
          have hwj : IntKind.i64.wrap ((jk : Int) + 1) = ((jk + 1 : Nat) : Int) := by rw [show (jk : Int) + 1 = ((jk + 1 : Nat) : Int) by omega]; exact IntWalk.i64_in _ (by omega)
          go_wp2_with fail
          go_roundw
          case rel => exact ⟨ik, jk + 1, qs, rfl, by go_num, by omega, by omega, hql, HQ, ownsRow_ext HOW.out HX3.out, Lib.hid (grownBy_trans HGR.out (ext_grownBy HX3.out _))⟩
          case measure => simp [intOf]; omega
        | false =>
          have hwj : IntKind.i64.wrap ((jk : Int) + 1) = ((jk + 1 : Nat) : Int) := by rw [show (jk : Int) + 1 = ((jk + 1 : Nat) : Int) by omega]; exact IntWalk.i64_in _ (by omega)
          have hwi : IntKind.i64.wrap ((ik : Int) + 1) = ((ik + 1 : Nat) : Int) := by rw [show (ik : Int) + 1 = ((ik + 1 : Nat) : Int) by omega]; exact IntWalk.i64_in _ (by omega)
          obtain ⟨_, t0, t1, t2, t3, t4, bG, bV, _⟩ := HC.out
          replace t0 := hx13.cell t0
          replace t1 := hx13.cell t1
          replace t2 := hx13.cell t2
          replace t3 := hx13.cell t3
          replace t4 := hx13.cell t4
          have bG3 := bG.ext hx13
          have z0 := bG3.frozen (ik * 5)
          have z1 := bG3.frozen (ik * 5 + 1)
          have z2 := bG3.frozen (ik * 5 + 2)
          have z3 := bG3.frozen (ik * 5 + 3)
          have z4 := bG3.frozen (ik * 5 + 4)
          have bV3 := bV.ext hx3
          have s0 := bV3.cell 0
          have s1 := bV3.cell 1
          have s2 := bV3.cell 2
          have s3 := bV3.cell 3
          have s4 := bV3.cell 4
          simp only [List.getElem?_toArray, List.getElem?_cons_zero, List.getElem?_cons_succ] at s0 s1 s2 s3 s4
          have hown3 := ownsRow_ext HOW.out hx13
          have HOW3 := Lib.hid hown3
          have hiN : ik < N := by omega
          clear hx3 hx13 bG bV bG3 bV3 hown3
          go_wp2_with fail
          go_roundw
          case rel =>
            refine ⟨ik + 1, jk + 1, qs.set ik ⟨n, side, C, .slice A1 n1 k1, .slice A2 n2 k2⟩, by go_num, by go_num, by omega, by omega, by rw [List.length_set]; exact hql, Lib.hid (fun r hr => ?_), ?_, ?_⟩
            · rcases List.mem_or_eq_of_mem_set hr with h | h
              · exact HQ.out r h
              · rw [h]; exact hXm.out
            · have h5 := row_set5 HOW3.out hql ⟨n, side, C, .slice A1 n1 k1, .slice A2 n2 k2⟩ ik hiN
              exact h5
            · have h5 := grown5 (grownBy_trans HGR.out (ext_grownBy HX3.out (some g))) (ik * 5) (ik * 5 + 1) (ik * 5 + 2) (ik * 5 + 3) (ik * 5 + 4) (.int .i64 n) (.int .i64 side) (.int .i64 C.q) (.slice A1 n1 k1) (.slice A2 n2 k2)
              exact Lib.hid h5
          case measure => simp [intOf]; omega
      · obtain rfl : jk = N := by omega
        have hltz : ¬ (jk : Int) < (jk : Int) := by omega
        obtain ⟨b', off', e', hc⟩ := Row.at (ownsRow_row hown) (show 0 < jk by omega)
        injection e' with e'
        injection e' with e1 e2
        subst e1 e2
        obtain ⟨cur, bG⟩ : ∃ cur, Blk wr g 105 cur := by
          rcases hown.2 with ⟨h, _⟩ | ⟨g', cap, cur, h, _, hh, _⟩
          · cases h
          · injection h with h
            injection h with h
            injection h with h
            subst h
            exact ⟨_, hh⟩
        obtain ⟨vs, hcl⟩ := run_clear_recs wr g (ik * 5) (jk - ik) (ct - ik) (by omega) (fun j hj => by
          have h0 := hc (ik * 5 + j) (by omega)
          rw [Nat.zero_add] at h0
          rw [h0, List.getElem?_eq_getElem (by rw [encs_len]; omega)]
          rfl) (fun j => bG.frozen j)
        have HC := Lib.hid hc
        have HOW := Lib.hid hown
        clear hc bG hown
        go_wp2
        go_ret
        have hlen : (qs.take ik).length = ik := by rw [List.length_take]; omega
        refine ⟨qs.take ik, some ⟨g, 0, none⟩, ct, by rw [hlen]; rfl, fun r hr => HQ.out r (List.mem_of_mem_take hr), ?_, ?_⟩
        · unfold Recs
          rw [hlen]
          refine ⟨some ⟨g, 0, none⟩, ct, rfl, by omega, h2, by rw [encs_len, hlen], fun hn => ⟨g, 0, rfl, fun j hj => ?_⟩⟩
          rw [encs_len, hlen] at hj
          rw [Nat.zero_add, setCells_low vs (ik * 5) wr j hj]
          have h0 := HC.out j (by omega)
          rw [Nat.zero_add] at h0
          rw [h0, ← encs_take qs ik (by omega), List.getElem?_take, if_pos hj]
        · exact grownBy_setCells vs _ _ _ HGR.out
end Go.Proofs.YtojiammendjpkaaGreat
end
section
set_option linter.unusedSimpArgs false
set_option linter.unusedVariables false
namespace Go.Proofs.YtojiammendjpkaaGreat
open Go Go.RowKit Go.Proofs Go.Maps
set_option maxHeartbeats 400000
/-- A reader that reads nothing. -/
def trivR (_ : Value) : Option (DataW Unit × List MemPlace) := some (.nil, [])
theorem recKeyed : Keyed Tryz.prog 2 := int_keyed Tryz.underlying2
theorem recZeroS (w : World) : (zeroValue 102).run Tryz.prog w = .ok (.slice none 0 0) w := by kernel_rfl
theorem row_not_map {w : World} {base : Nat} {e : TypeId} {size n : Nat} {v : Value} {xs : List Value} {b : Nat} {es : Array MapEntry} {c : Nat} (ho : w.ownsRow base e size v n xs) (hb : w.heap[b]? = some (.map es c)) : v.ownBlock = none ∨ v.ownBlock ≠ some b := by
  rcases ho.2 with ⟨rfl, _⟩ | ⟨g, cap, cur, rfl, _, hg, _⟩
  · exact .inl rfl
  · refine .inr (fun e => ?_)
    have : g = b := by simpa [Value.ownBlock] using e
    subst this
    rw [hb] at hg
    cases hg
/-- The map in block b: each list is of the call's own and holds records that are in order; no two lists lie in one block. -/
def GMap (w : World) (base b n : Nat) (ok : RecV → Prop) : Prop :=
  (∃ D : DataW Unit, w.ownsMap Tryz.prog 2 trivR b n D) ∧ ∀ es clock, w.heap[b]? = some (.map es clock) →
    (∀ x ∈ es.toList, ∃ ks : List RecV, w.ownsRow base 105 5 x.val ks.length (encs ks) ∧ (∀ r ∈ ks, ok r) ∧ ks.length ≤ n) ∧
    (∀ x ∈ es.toList, ∀ y ∈ es.toList, x.key ≠ y.key → x.val.ownBlock = none ∨ x.val.ownBlock ≠ y.val.ownBlock)
theorem GMap.made (w : World) (base : Nat) (ok : RecV → Prop) : GMap (w.alloc (.map #[] 0)) base w.heap.size 0 ok :=
  ⟨⟨_, World.ownsMap_made _ _ _ _⟩, fun es clock hb => by
    rw [(MapKept.heap_alloc w _).1] at hb
    cases hb
    exact ⟨fun x hx => by simp at hx, fun x hx => by simp at hx⟩⟩
theorem GMap.ext {w w' : World} {base b n : Nat} {ok : RecV → Prop} (h : GMap w base b n ok) (he : Ext w w') : GMap w' base b n ok := by
  obtain ⟨⟨D, hm⟩, hall⟩ := h
  have hg : w.grownBy w' none := ext_grownBy he none
  refine ⟨⟨D, hm.kept hg (by simp)⟩, fun es clock hb => ?_⟩
  rw [hg.block b hm.lt (by simp)] at hb
  obtain ⟨h1, h2⟩ := hall es clock hb
  exact ⟨fun x hx => by obtain ⟨ks, o, a, l⟩ := h1 x hx; exact ⟨ks, ownsRow_ext o he, a, l⟩, h2⟩
theorem GMap.mono {w : World} {base b n n' : Nat} {ok : RecV → Prop} (h : GMap w base b n ok) (hn : n ≤ n') : GMap w base b n' ok := by
  obtain ⟨⟨D, hm⟩, hall⟩ := h
  refine ⟨⟨D, hm.mono hn⟩, fun es clock hb => ?_⟩
  obtain ⟨h1, h2⟩ := hall es clock hb
  exact ⟨fun x hx => by obtain ⟨ks, o, a, l⟩ := h1 x hx; exact ⟨ks, o, a, Nat.le_trans l hn⟩, h2⟩
/-- No other key's list lies in v's block. -/
def Aparts (w : World) (b : Nat) (q : Int) (v : Value) : Prop := ∀ es clock, w.heap[b]? = some (.map es clock) → ∀ x ∈ es.toList, x.key ≠ .int .i64 q → x.val.ownBlock = none ∨ x.val.ownBlock ≠ v.ownBlock
theorem GMap.look {w w' : World} {base b n : Nat} {ok : RecV → Prop} (h : GMap w base b n ok) (he : Ext w w') (q : Int) (hq : (Lit.int .i64 q).wf = true) :
    ∃ v ks, (Instr.lookup 111 (.map (some b)) (.int .i64 q) false).run Tryz.prog w' = .ok v w' ∧ w.ownsRow base 105 5 v ks.length (encs ks) ∧ (∀ r ∈ ks, ok r) ∧ ks.length ≤ n ∧ Aparts w' b q v := by
  obtain ⟨⟨D, es, clock, hb, F, hs, hD⟩, hall⟩ := h
  obtain ⟨h1, h2⟩ := hall es clock hb
  have hb' : w'.heap[b]? = some (.map es clock) := ((ext_grownBy he none).block b (Array.getElem?_eq_some_iff.1 hb).1 (by simp)).trans hb
  have hkey := keyOf_int_mk (P := Tryz.prog) Tryz.underlying2 hq
  rcases Maps.fit_look false recKeyed Tryz.underlying111 (recZeroS w') hb' F hkey with ⟨hrun, _, _⟩ | ⟨e0, y, hm0, hk0, hrun, _, _, _⟩
  · exact ⟨_, [], hrun, World.ownsRow_nil _ _ _ _, fun r hr => by simp at hr, Nat.zero_le _, fun es' clock' hb' x hx hne => by
      rcases hx' : x.val.ownBlock with _ | g
      · exact .inl rfl
      · exact .inr (by simp [Value.ownBlock])⟩
  · obtain ⟨ks, o, a, l⟩ := h1 e0 hm0
    refine ⟨e0.val, ks, hrun, o, a, l, fun es' clock' hb2 x hx hne => ?_⟩
    rw [hb'] at hb2
    cases hb2
    exact h2 x hx e0 hm0 (by rw [hk0]; exact hne)
theorem GMap.put {w w1 : World} {base b n : Nat} {ok : RecV → Prop} (h : GMap w base b n ok) (q : Int) (hq : (Lit.int .i64 q).wf = true) (hn : n < maxLen) {v v' : Value} {ks ks' : List RecV} (hv : w.ownsRow base 105 5 v ks.length (encs ks)) (hsep : Aparts w b q v)
    (hg : w.grownBy w1 v.ownBlock) (hv' : w1.ownsRow base 105 5 v' ks'.length (encs ks')) (hok : ∀ r ∈ ks', ok r) (hl : ks'.length ≤ n + 1) (hloc : v'.ownBlock = v.ownBlock ∨ ∃ g, v'.ownBlock = some g ∧ w.heap.size ≤ g) :
    ∃ w2, (Instr.mapUpdate 111 (.map (some b)) (.int .i64 q) v').run Tryz.prog w1 = .ok () w2 ∧ GMap w2 base b (n + 1) ok ∧ w1.grownBy w2 (some b) ∧ w2.ownsRow base 105 5 v' ks'.length (encs ks') := by
  obtain ⟨⟨D, hm⟩, hall⟩ := h
  have hkey := keyOf_int_mk (P := Tryz.prog) Tryz.underlying2 hq
  have hnb : some b ≠ v.ownBlock := by
    obtain ⟨es, clock, hb, _⟩ := hm
    rcases row_not_map hv hb with e | e
    · rw [e]; simp
    · exact fun e' => e e'.symm
  have hm1 := hm.kept hg hnb
  obtain ⟨w2, hrun, r1, r2⟩ := hm1.update recKeyed Tryz.underlying111 hn hkey (val := v') (d := .nil) (ps := []) rfl
  obtain ⟨es, clock, hb, F, hs, _⟩ := hm1
  have hb0 : w.heap[b]? = some (.map es clock) := by rw [← hg.block b hm.lt hnb]; exact hb
  obtain ⟨es', clock', hb', hwho⟩ := stored_who recKeyed Tryz.underlying111 hb F (Nat.lt_of_le_of_lt hs hn) hkey hrun
  obtain ⟨h1, h2⟩ := hall es clock hb0
  have hsep0 := hsep es clock hb0
  have new2 : w2.ownsRow base 105 5 v' ks'.length (encs ks') := World.ownsRow.kept hv' r2 (row_not_map hv' hb)
  refine ⟨w2, hrun, ⟨⟨_, r1⟩, fun es2 clock2 hb2 => ?_⟩, r2, new2⟩
  rw [hb'] at hb2
  cases hb2
  refine ⟨fun x hx => ?_, fun x hx y hy hxy => ?_⟩
  · rcases hwho x hx with ⟨hx0, hne⟩ | ⟨_, hv0⟩
    · obtain ⟨ks0, o, a, l⟩ := h1 x hx0
      have o1 := World.ownsRow.kept o hg (hsep0 x hx0 hne)
      exact ⟨ks0, World.ownsRow.kept o1 r2 (row_not_map o1 hb), a, by omega⟩
    · rw [hv0]
      exact ⟨ks', new2, hok, hl⟩
  · have old : ∀ z, z ∈ es.toList → z.key ≠ .int .i64 q → z.val.ownBlock = none ∨ z.val.ownBlock ≠ v'.ownBlock := fun z hz hne => by
      rcases hloc with e | ⟨g, e, hge⟩
      · rw [e]; exact hsep0 z hz hne
      · obtain ⟨ks0, o, _, _⟩ := h1 z hz
        rw [e]
        cases hz' : z.val.ownBlock with
        | none => exact .inl rfl
        | some k =>
          refine .inr (fun e' => ?_)
          have := (o.lt k hz').2
          injection e' with e'
          omega
    rcases hwho x hx with ⟨hx0, hne⟩ | ⟨hk0, hv0⟩
    · rcases hwho y hy with ⟨hy0, _⟩ | ⟨_, hvy⟩
      · exact h2 x hx0 y hy0 hxy
      · rw [hvy]
        exact old x hx0 hne
    · rcases hwho y hy with ⟨hy0, hney⟩ | ⟨hky, _⟩
      · rw [hv0]
        rcases old y hy0 hney with e | e
        · rw [e]
          cases v'.ownBlock with
          | none => exact .inl rfl
          | some k => exact .inr (by simp)
        · exact .inr (fun e' => e e'.symm)
      · exact absurd (hk0.trans hky.symm) hxy
end Go.Proofs.YtojiammendjpkaaGreat
end
section
set_option linter.unusedSimpArgs false
set_option linter.unusedVariables false
namespace Go.Proofs.YtojiammendjpkaaGreat
open Go Go.RowKit Go.Proofs
set_option maxHeartbeats 400000
/-- What the search of a bouncer returns. -/
def FbRes (w : World) (m : MachD) (e : Ending) (w' : World) : Prop :=
  Ext w w' ∧ ((∃ code : Int, (code = 3 ∨ code = 5 ∨ code = 6) ∧ e = .returned (.tuple #[.agg #[.int .i64 0, .slice none 0 0, .slice none 0 0], .int .i64 code])) ∨
    ∃ (n0 n : Nat) (f : FoD) (cs : List Int) (ws : List (List Int)) (nv pv : Value), e = .returned (.tuple #[.agg #[.int .i64 6, nv, pv], .int .i64 0]) ∧ BncOk m n0 n f cs ws ∧ 1 ≤ n0 ∧ Ints w' nv ((n0 : Int) :: (n : Int) :: f.hd :: f.at_ :: cs) ∧ Lists w' pv ws)
/-- What a proof that was tried says. -/
def BpOk (B : Nat) (m : MachD) (n0 : Nat) (b : Bool) (k : Int) (u v : Value) (w : World) : Prop :=
  b = true → ∃ (n : Nat) (f : FoD) (cs : List Int) (ws : List (List Int)), k = 6 ∧ BncOk m n0 n f cs ws ∧ OwnInts B w u ((n0 : Int) :: (n : Int) :: f.hd :: f.at_ :: cs) ∧ OwnLists B w v ws
theorem BpOk.ext {B : Nat} {m : MachD} {n0 : Nat} {b : Bool} {k : Int} {u v : Value} {w w' : World} (h : BpOk B m n0 b k u v w) (he : Ext w w') : BpOk B m n0 b k u v w' := fun hb => by
  obtain ⟨n, f, cs, ws, h1, h2, h3, h4⟩ := h hb
  exact ⟨n, f, cs, ws, h1, h2, ownsRow_ext h3 he, h4.ext he⟩
theorem BpOk.base {B B' : Nat} {m : MachD} {n0 : Nat} {b : Bool} {k : Int} {u v : Value} {w : World} (h : BpOk B m n0 b k u v w) (hB : B' ≤ B) : BpOk B' m n0 b k u v w := fun hb => by
  obtain ⟨n, f, cs, ws, h1, h2, h3, h4⟩ := h hb
  exact ⟨n, f, cs, ws, h1, h2, ownsRow_base h3 hB, h4.base hB⟩
theorem OwnLists.low3 {B gO : Nat} {w : World} {v : Value} {xss : List (List Int)} (h : OwnLists B w v xss) (hg : gO < B) (a b c : Value) : OwnLists B (((w.setCell ⟨gO, 0, none⟩ a).setCell ⟨gO, 1, none⟩ b).setCell ⟨gO, 2, none⟩ c) v xss := by
  obtain ⟨vs, x, y⟩ := h
  exact ⟨vs, Go.Proofs.YtojiammendjpkaaGreat.low3 x hg a b c, fun i hi => by obtain ⟨u, e, o⟩ := y i hi; exact ⟨u, e, Go.Proofs.YtojiammendjpkaaGreat.low3 o hg a b c⟩⟩
theorem BpOk.low {B g : Nat} {m : MachD} {n0 : Nat} {b : Bool} {k : Int} {u v : Value} {w : World} (h : BpOk B m n0 b k u v w) (hg : g < B) (x y z : Value) : BpOk B m n0 b k u v (((w.setCell ⟨g, 0, none⟩ x).setCell ⟨g, 1, none⟩ y).setCell ⟨g, 2, none⟩ z) := fun hb => by
  obtain ⟨n, f, cs, ws, h1, h2, h3, h4⟩ := h hb
  exact ⟨n, f, cs, ws, h1, h2, Go.Proofs.YtojiammendjpkaaGreat.low3 h3 hg x y z, h4.low3 hg x y z⟩
/-- A proof that was tried, behind a pointer. -/
def BpAt (w : World) (m : MachD) (n0 : Nat) (u1 u2 : Value) (wx : World) : Prop :=
  ∃ (gP : Nat) (b : Bool) (k : Int) (A1 : Option Addr) (n1 c1 : Nat) (A2 : Option Addr) (n2 c2 : Nat), u1 = .pointer (some ⟨gP, 0, none⟩) ∧ u2 = .bool b ∧ Hid (Ext w wx ∧ Blk wx gP 34 #[.int .i64 k, .slice A1 n1 c1, .slice A2 n2 c2] ∧
    BpOk w.heap.size m n0 b k (.slice A1 n1 c1) (.slice A2 n2 c2) wx)
theorem BtRes.form {w w' : World} {m : MachD} {n0 : Nat} {e : Ending} (h : BtRes w m n0 e w') :
    Ext w w' ∧ ∃ (b : Bool) (k : Int) (A1 : Option Addr) (n1 c1 : Nat) (A2 : Option Addr) (n2 c2 : Nat), e = .returned (.tuple #[.agg #[.int .i64 k, .slice A1 n1 c1, .slice A2 n2 c2], .bool b]) ∧
      BpOk w.heap.size m n0 b k (.slice A1 n1 c1) (.slice A2 n2 c2) w' := by
  obtain ⟨hx, rfl | ⟨n, f, cs, ws, nv, pv, rfl, h1, h2, h3⟩⟩ := h
  · exact ⟨hx, false, 0, none, 0, 0, none, 0, 0, rfl, fun h => by cases h⟩
  · obtain ⟨A1, c1, rfl, _, _⟩ := id h2.ints.form
    obtain ⟨A2, c2, rfl, _, _⟩ := id h3.lists.form
    exact ⟨hx, true, 6, A1, _, c1, A2, _, c2, rfl, fun _ => ⟨n, f, cs, ws, rfl, h1, h2, h3⟩⟩
set_option maxRecDepth 20000 in
set_option maxHeartbeats 8000000 in
theorem FindBouncer_c (w : World) (m : MachD) (mv : Value) (N : Nat) (hr : Rules w mv m.rules) (hm : machOk m = true) (h1 : 1 ≤ N) (hN : N ≤ 4000) :
    Calls Tryz.prog 18 #[.agg #[.int .i64 m.sy, .int .i64 m.st, mv], .int .i64 N] w (FbRes w m) := by
  obtain ⟨i0, hii, hz0, hz1, hz2⟩ := info_parts recInfo
  obtain ⟨Am, cm, rfl, _, _⟩ := id hr.form
  obtain ⟨W, hW⟩ : ∃ W, W = (w.alloc (.cells #[.int .i64 m.sy, .int .i64 m.st, .slice Am m.rules.length cm] 26)).alloc (.cells #[.int .i64 0, .slice none 0 0, .slice none 0 0] 34) := ⟨_, rfl⟩
  have hX : Ext w W := by rw [hW]; exact (Ext.alloc _ _).trans (Ext.alloc _ _)
  obtain ⟨gm, hgm⟩ : ∃ g, w.heap.size = g := ⟨_, rfl⟩
  have bM : Blk W gm 26 #[.int .i64 m.sy, .int .i64 m.st, .slice Am m.rules.length cm] := by rw [hW]; exact (Blk.new _ _ _ _ hgm).alloc _
  obtain ⟨g, hg⟩ : ∃ g, g = gm + 1 := ⟨_, rfl⟩
  have bR : Blk W g 34 #[.int .i64 0, .slice none 0 0, .slice none 0 0] := by rw [hW, hg]; exact Blk.new _ _ _ _ (by simp [hgm])
  have HG : Hid (w.heap.size ≤ g) := Lib.hid (by omega)
  have HM := Lib.hid hm
  have HR := Lib.hid (hr.ext hX)
  have HX := Lib.hid hX
  clear hm hr hX
  go_enter Tryz.func18, Tryz.ntmps18
  go_wp2_with fail
  rw [← hW, ← hg]
  clear hW hg hgm
  refine (budgeted_c _ m N W ⟨_, rfl, HR.out⟩).mono ?_
  rintro e w1 ⟨rfl, hx1⟩
  have hbc : budC m N = 0 := by
    unfold budC
    rw [HM.out]
    have : inB (N : Int) 1 20000 = true := by simp [inB]; omega
    rw [this]
    rfl
  rw [hbc]
  have m0 := (bM.ext hx1).cell 0
  have m1 := (bM.ext hx1).cell 1
  have m2 := (bM.ext hx1).cell 2
  simp only [List.getElem?_toArray, List.getElem?_cons_zero, List.getElem?_cons_succ] at m0 m1 m2
  clear hbc
  go_wp2_with fail
  refine (tracked_c w1 m _ N (HR.out.ext hx1) HM.out (by omega)).mono ?_
  rintro e w2 ⟨x, i, rs, lo, hi, pv, qv, hT, hRS, hx2, hrl, hcase⟩
  have hgW := (bR.ext hx1).lt
  have hgmW := (bM.ext hx1).lt
  have bR2 := (bR.ext hx1).ext hx2
  have bM2 := (bM.ext hx1).ext hx2
  have HX2 := Lib.hid (And.intro ((HX.out.trans hx1).trans hx2) (And.intro hx2 (HX.out.trans hx1)))
  clear m0 m1 m2 bR bM
  obtain ⟨hruns, hiN, hl, code, he, hcode⟩ : RunsTo m blankC i ∧ i ≤ N ∧ ∃ (hl : Bool) (code : Int), e = .returned (.tuple #[.pointer (some ⟨x, 0, none⟩), .bool hl, .int .i64 code]) ∧ (code = 0 ∨ code = 5) := by
    rcases hcase with ⟨hE, rfl⟩ | ⟨hF, rfl⟩
    · exact ⟨hE.runs, hE.le, _, 0, rfl, .inl rfl⟩
    · exact ⟨by simpa using hF.runs, by have := hF.le; omega, false, 5, rfl, .inr rfl⟩
  subst he
  have HRUN := Lib.hid hruns
  have HT := Lib.hid hT
  have HRS := Lib.hid hRS
  clear hcase hruns hRS
  cases hl with
  | true =>
    have r0 := bR2.cell
    have f0 := bR2.frozen
    have HB := Lib.hid bR2
    clear bR2 hT bM2
    go_wp2
    exact bodyPost_ret (v := .tuple #[.agg #[.int .i64 0, .slice none 0 0, .slice none 0 0], .int .i64 3]) (by
      have e0 := (((HB.out.set_ 0 (.int .i64 0)).set_ 1 (.slice none 0 0)).set_ 2 (.slice none 0 0)).cell
      simp [results, Tryz.results18, go_sem, e0]) rfl ⟨((HX2.out.1.setCell HG.out _).setCell HG.out _).setCell HG.out _, .inl ⟨3, .inl rfl, rfl⟩⟩
  | false =>
    have hrow : w2.ownsRow w1.heap.size 105 5 qv rs.length (encs rs) := hT.rec_
    have hfl : ∀ r ∈ rs, Flat r.lv ∧ Flat r.rv := fun r hr => ⟨(hT.conf r hr).1.flat, (hT.conf r hr).2.flat⟩
    obtain ⟨Aq, cq, rfl, hcq, _, _⟩ := (ownsRow_row hrow).form
    have x1 := hT.blk.cell 1
    simp only [List.getElem?_toArray, List.getElem?_cons_zero, List.getElem?_cons_succ] at x1
    have DF := DeleteFunc_c w1.heap.size _ rs w2 hrow hfl
    have HROW := Lib.hid hrow
    clear hT hrow hfl
    go_wp2_with fail
    refine DF.mono ?_
    rintro e w3 ⟨qs, A, c, rfl, hqs, hrec, hg3⟩
    clear DF x1
    have hlow : ∀ k, (Value.slice Aq rs.length cq).ownBlock = some k → w1.heap.size ≤ k := fun k hk => (HROW.out.lt k hk).1
    have hx3 : Ext w w3 := HX2.out.1.grown hg3 (fun k hk => Nat.le_trans HX2.out.2.2.size (hlow k hk))
    have hx13 : Ext w1 w3 := HX2.out.2.1.grown hg3 hlow
    have bR3 : Blk w3 g 34 #[.int .i64 0, .slice none 0 0, .slice none 0 0] := (hg3.block g bR2.lt (fun e => by have := hlow g e.symm; omega)).trans bR2
    have bM3 : Blk w3 gm 26 #[.int .i64 m.sy, .int .i64 m.st, .slice Am m.rules.length cm] := (hg3.block gm bM2.lt (fun e => by have := hlow gm e.symm; omega)).trans bM2
    have HOK : Hid (∀ r ∈ rs, RecG m w3 r) := Lib.hid fun r hr => by
      obtain ⟨o1, o2⟩ := HT.out.conf r hr
      have p1 : OwnInts _ _ _ _ := World.ownsRow.kept o1 hg3 (own_ne o1 HROW.out (by decide))
      have p2 : OwnInts _ _ _ _ := World.ownsRow.kept o2 hg3 (own_ne o2 HROW.out (by decide))
      obtain ⟨e1, e2, e3, _⟩ := HRS.out.each r hr
      exact ⟨e1, ⟨fun j hj => HRUN.out.no j (by omega), fun j hj => HRUN.out.fit j (by omega)⟩, e3, by omega, p1.ints, p2.ints, p1.flat, p2.flat⟩
    have HQS := Lib.hid hqs
    have HB3 := Lib.hid (And.intro bR3 (And.intro bM3 hx3))
    have HRW := Lib.hid (HR.out.ext (hx1.trans hx13))
    obtain ⟨K, hK⟩ : ∃ K, min 30 qs.length = K := ⟨_, rfl⟩
    have hK1 : K ≤ qs.length := by omega
    have hK2 : K ≤ 30 := by omega
    obtain ⟨ls, hls⟩ : ∃ l, qs.take K = l := ⟨_, rfl⟩
    have hll : ls.length = K := by rw [← hls, List.length_take]; omega
    have HREC : Hid (Recs w3 (.slice A ls.length c) ls) := Lib.hid (by have := hrec.take K hK1; rw [hls] at this; rw [hll]; exact this)
    have HLS : Hid (∀ r ∈ ls, RecG m w3 r) := Lib.hid (fun r hr => HOK.out r (hqs r (by rw [← hls] at hr; exact List.mem_of_mem_take hr)))
    have HLL := Lib.hid hll
    have hKc : K ≤ c := by have := hrec.form; obtain ⟨_, _, e, h, _⟩ := this; injection e with _ _ e3; omega
    have hmin : min (30 : Int) (qs.length : Int) = (K : Int) := by omega
    have hmm := @run_makeMap Tryz.prog
    have HC := Lib.hid hcode
    obtain ⟨B, hB⟩ : ∃ B, w3.heap.size = B := ⟨_, rfl⟩
    obtain ⟨w4, hw4⟩ : ∃ W, W = w3.alloc (.map #[] 0) := ⟨_, rfl⟩
    have HX4 : Hid (Ext w3 w4) := Lib.hid (by rw [hw4]; exact Ext.alloc _ _)
    have HG4 : Hid (GMap w4 B B 0 (RecG m w3)) := Lib.hid (by rw [hw4, ← hB]; exact GMap.made _ _ _)
    have HBB := Lib.hid hB
    have hgB : g < B := by rw [← hB]; exact bR3.lt
    clear hg3 hlow hx3 hx13 bR3 bM3 bR2 bM2 hqs hrec hcode hK hls hll
    go_wp2_with fail
    try rw [← hw4]
    try rw [hB]
    clear hw4 hB hmm hmin
    go_loopw [49] (fun iv wr => ∃ k : Nat, k ≤ K ∧ iv = .int .i64 (k : Int) ∧ Hid (Ext w3 wr) ∧ Hid (GMap wr B B k (RecG m w3))) (fun iv _ => K - (intOf iv).toNat)
    case atStart => exact ⟨0, Nat.zero_le _, rfl, HX4, HG4⟩
    case round =>
      obtain ⟨k, hk, rfl, HXR, HGR⟩ := hrel
      by_cases hlt : k < K
      · have hd : decide ((k : Int) < (K : Int)) = true := decide_eq_true (by omega)
        have hkl : k < ls.length := by have := HLL.out; omega
        obtain ⟨b, off, rfl, hc⟩ := (HREC.out.ext HXR.out).at hkl
        obtain ⟨c0, c1, c2, c3, c4⟩ := hc k hkl
        have hXG := HLS.out ls[k] (List.getElem_mem _)
        generalize ls[k] = X at *
        have HXG := Lib.hid hXG
        obtain ⟨n, side, C, lv, rv⟩ := X
        have f1 : Flat lv := hXG.fl
        have f2 : Flat rv := hXG.fr
        have hq : 0 ≤ C.q ∧ C.q < m.st := ⟨(hXG.good HM.out).q0, (hXG.good HM.out).q1⟩
        simp only at c0 c1 c2 c3 c4
        obtain ⟨A1, n1, k1, rfl⟩ := flat_form f1
        obtain ⟨A2, n2, k2, rfl⟩ := flat_form f2
        obtain ⟨V, hV⟩ : ∃ V, V = wr.alloc (.cells #[.int .i64 n, .int .i64 side, .int .i64 C.q, .slice A1 n1 k1, .slice A2 n2 k2] 105) := ⟨_, rfl⟩
        obtain ⟨gv, hgv⟩ : ∃ g, wr.heap.size = g := ⟨_, rfl⟩
        have hxV : Ext wr V := by rw [hV]; exact Ext.alloc _ _
        have bV : Blk V gv 105 #[.int .i64 n, .int .i64 side, .int .i64 C.q, .slice A1 n1 k1, .slice A2 n2 k2] := by rw [hV]; exact Blk.new _ _ _ _ hgv
        have s0 := bV.cell 0
        have s1 := bV.cell 1
        have s2 := bV.cell 2
        have s3 := bV.cell 3
        have s4 := bV.cell 4
        simp only [List.getElem?_toArray, List.getElem?_cons_zero, List.getElem?_cons_succ] at s0 s1 s2 s3 s4
        have hqw : (Lit.int .i64 C.q).wf = true := by
          have := machOk_bounds HM.out
          simp [Lit.wf, IntKind.min, IntKind.max, IntKind.signed, IntKind.bits]
          omega
        obtain ⟨v0, ks, hrun, hown, hoks, hkn, hsep⟩ := HGR.out.look hxV C.q hqw
        obtain ⟨A0, cc, rfl, hcc1, hcc2, _⟩ := (ownsRow_row hown).form
        have hownA := ownsRow_ext hown (hxV.trans (Ext.alloc V (.cells #[.int .i64 n, .int .i64 side, .int .i64 C.q, .slice A1 n1 k1, .slice A2 n2 k2] 105)))
        have hown0 := ownsRow_ext hown hxV
        have hlowB : ∀ j, (Value.slice A0 ks.length cc).ownBlock = some j → B ≤ j ∧ j < gv := fun j hj => by have := hown.lt j hj; omega
        have HV := Lib.hid (And.intro hxV (And.intro bV (And.intro hown0 (And.intro hoks (And.intro hkn (And.intro hsep (And.intro hlowB hq)))))))
        have HWF := Lib.hid hqw
        have hks : ks.length ≤ 30 := by omega
        have hBV : B ≤ V.heap.size := by have := HBB.out; have := HXR.out.size; have := hxV.size; omega
        have hVs : V.heap.size = gv + 1 := by rw [hV]; simp [hgv]
        have HVS := Lib.hid hVs
        have hBgv : B < gv := by
          obtain ⟨⟨D, hmm⟩, _⟩ := HGR.out
          have := hmm.lt
          omega
        clear hc hXG bV hown hown0 hoks hkn hsep hlowB hq f1 f2 hqw hVs hxV
        go_upto_region 13 with fail
        try rw [← hV]
        try rw [hgv]
        clear hV hgv c0 c1 c2 c3 c4
        go_wp2_with (at_builtin; refine wpList_append_own_at _ rfl _ _ 102 rfl B 105 i0 (.agg #[.int .i64 0, .int .i64 0, .int .i64 0, .slice none 0 0, .slice none 0 0]) 5 72 Tryz.underlying102 hii hz0 hz1 hz2 rfl (by decide) _ _ (encs ks) rfl hownA ⟨V.heap.size, 0, none⟩ 1 1 [.int .i64 n, .int .i64 side, .int .i64 C.q, .slice A1 n1 k1, .slice A2 n2 k2] rfl rfl (World.news_of_block (heap_alloc_new V _)) ?d2 ?d3 ?d4 ?d5 ?_)
        case d2 => intro u hu; simp at hu; rcases hu with rfl | rfl | rfl | rfl | rfl <;> rfl
        case d3 => unfold maxLen; omega
        case d4 => omega
        case d5 => simp; omega
        intro v' w9 hown9 hg9 _ hloc
        obtain ⟨hxV, bV, hown0, hoks, hkn, hsep, hlowB, hq⟩ := HV.out
        obtain ⟨L9, hL9⟩ : ∃ L, ks ++ [(⟨n, side, C, .slice A1 n1 k1, .slice A2 n2 k2⟩ : RecV)] = L := ⟨_, rfl⟩
        have e9 : encs L9 = encs ks ++ [.int .i64 n, .int .i64 side, .int .i64 C.q, .slice A1 n1 k1, .slice A2 n2 k2] := by rw [← hL9]; simp [encs, encC]
        have l9 : L9.length = ks.length + 1 := by rw [← hL9]; simp
        have own9 : w9.ownsRow B 105 5 v' L9.length (encs L9) := by rw [e9, l9]; exact hown9
        have hgV9 := grownBy_trans (ext_grownBy (Ext.alloc V (.cells #[.int .i64 n, .int .i64 side, .int .i64 C.q, .slice A1 n1 k1, .slice A2 n2 k2] 105)) _) hg9
        have hok9 : ∀ r ∈ L9, RecG m w3 r := fun r hr => by
          rw [← hL9] at hr
          rcases List.mem_append.1 hr with h | h
          · exact hoks r h
          · rw [List.mem_singleton.1 h]; exact HXG.out
        obtain ⟨w10, hrun10, GM10, hg10, own10⟩ := (HGR.out.ext hxV).put C.q HWF.out (by unfold maxLen; omega) hown0 hsep hgV9 own9 hok9 (by omega) (hloc.imp id (fun e => ⟨_, e, by simp⟩))
        have bV9 : Blk w9 gv 105 #[.int .i64 n, .int .i64 side, .int .i64 C.q, .slice A1 n1 k1, .slice A2 n2 k2] := (hgV9.block gv bV.lt (fun e => by have := hlowB gv e.symm; omega)).trans bV
        have bV10 : Blk w10 gv 105 #[.int .i64 n, .int .i64 side, .int .i64 C.q, .slice A1 n1 k1, .slice A2 n2 k2] := (hg10.block gv bV9.lt (fun e => by injection e with e; omega)).trans bV9
        have HX10 : Hid (Ext w3 w10) := Lib.hid (((HXR.out.trans hxV).grown hgV9 (fun j hj => by have := (hlowB j hj).1; have := HBB.out; omega)).grown hg10 (fun j hj => by injection hj with hj; have := HBB.out; omega))
        have t2 := bV9.cell 2
        simp only [List.getElem?_toArray, List.getElem?_cons_zero, List.getElem?_cons_succ] at t2
        obtain ⟨A9, c9, rfl, hc9, hc99, _⟩ := (ownsRow_row own10).form
        have H10 := Lib.hid (And.intro GM10 (And.intro bV10 (And.intro own10 hok9)))
        have HL9 := Lib.hid (And.intro hL9 l9)
        have hl9 : L9.length ≤ 31 := by omega
        have hl91 : 1 ≤ L9.length := by omega
        have hlk : L9.length ≤ ks.length + 1 ∧ ks.length + 1 ≤ L9.length := by omega
        have hwl : (L9.length : Int) - 1 = (ks.length : Int) := by omega
        have hwl2 : IntKind.i64.wrap ((L9.length : Int) - 1) = (ks.length : Int) := by rw [hwl]; exact IntWalk.i64_in _ (by omega)
        clear hown9 hg9 hloc hxV bV hown0 hoks hkn hsep hlowB hq hL9 e9 l9 own9 hgV9 hok9 GM10 hg10 own10 bV9 bV10 hownA hrun s0 s1 s2 s3 s4 hks
        go_wp2_with fail
        try rw [hwl]
        clear hwl hwl2
        generalize ks.length = P at *
        go_loopw [16] (fun s wr2 => ∃ gap : Nat, 1 ≤ gap ∧ gap ≤ 40 ∧ s = .int .i64 (gap : Int) ∧ Hid (Ext w10 wr2)) (fun s _ => 41 - (intOf s).toNat)
        case atStart => exact ⟨1, Nat.le_refl _, by omega, rfl, Lib.hid (Ext.refl _)⟩
        case round =>
          clear t2
          obtain ⟨gap, hg1, hg40, rfl, HXI⟩ := hrel
          have hw2 : IntKind.i64.wrap (2 * (gap : Int)) = ((2 * gap : Nat) : Int) := by rw [show 2 * (gap : Int) = ((2 * gap : Nat) : Int) by omega]; exact IntWalk.i64_in _ (by omega)
          by_cases hgl : 2 * gap ≤ P
          · have hd2 : decide (((2 * gap : Nat) : Int) ≤ (P : Int)) = true := decide_eq_true (by omega)
            go_upto_region 19 with fail
            go_cut [17, 18] (fun u1 u2 wx => BpAt wr m n u1 u2 wx)
            case first =>
              have hE := HX10.out.trans HXI.out
              have bM := HB3.out.2.1.ext hE
              have m0 := bM.cell 0
              have m1 := bM.cell 1
              have m2 := bM.cell 2
              have bV := H10.out.2.1.ext HXI.out
              have s0 := bV.cell 0
              have s1 := bV.cell 1
              have s2 := bV.cell 2
              have s3 := bV.cell 3
              have s4 := bV.cell 4
              simp only [List.getElem?_toArray, List.getElem?_cons_zero, List.getElem?_cons_succ] at m0 m1 m2 s0 s1 s2 s3 s4
              obtain ⟨b9, off9, rfl, hc9'⟩ := ((show Recs w10 (.slice A9 L9.length c9) L9 from ownsRow_row H10.out.2.2.1).ext HXI.out).at (k := 0) (by omega)
              obtain ⟨i1, hi1⟩ : ∃ i, P - 2 * gap = i := ⟨_, rfl⟩
              obtain ⟨i2, hi2⟩ : ∃ i, P - gap = i := ⟨_, rfl⟩
              have hwa : IntKind.i64.wrap ((P : Int) - 2 * (gap : Int)) = (i1 : Int) := by rw [show (P : Int) - 2 * (gap : Int) = (i1 : Int) by omega]; exact IntWalk.i64_in _ (by omega)
              have hwb : IntKind.i64.wrap ((P : Int) - (gap : Int)) = (i2 : Int) := by rw [show (P : Int) - (gap : Int) = (i2 : Int) by omega]; exact IntWalk.i64_in _ (by omega)
              have hl1 : i1 < L9.length := by omega
              have hl2 : i2 < L9.length := by omega
              obtain ⟨c0, c1, c2, c3, c4⟩ := hc9' i1 hl1
              obtain ⟨r0, r1, r2, r3, r4⟩ := hc9' i2 hl2
              have G1 := H10.out.2.2.2 L9[i1] (List.getElem_mem _)
              have G2 := H10.out.2.2.2 L9[i2] (List.getElem_mem _)
              have BC : ∀ x, Ext wr x → Calls Tryz.prog 65 #[.agg #[.int .i64 m.sy, .int .i64 m.st, .slice Am m.rules.length cm], recVal L9[i1], recVal L9[i2], recVal ⟨n, side, C, .slice A1 n1 k1, .slice A2 n2 k2⟩] x (fun e w' => Ext x w' ∧ ∃ (b : Bool) (k : Int) (A1 : Option Addr) (n1 c1 : Nat) (A2 : Option Addr) (n2 c2 : Nat), e = .returned (.tuple #[.agg #[.int .i64 k, .slice A1 n1 c1, .slice A2 n2 c2], .bool b]) ∧
                  BpOk x.heap.size m n b k (.slice A1 n1 c1) (.slice A2 n2 c2) w') :=
                fun x hx => (bounceTo_c m _ L9[i1] L9[i2] ⟨n, side, C, .slice A1 n1 k1, .slice A2 n2 k2⟩ x (HRW.out.ext (hE.trans hx)) HM.out (G1.ext (hE.trans hx)) (G2.ext (hE.trans hx)) (HXG.out.ext (hE.trans hx))).mono fun e w' h => h.form
              have g1l : Flat L9[i1].lv := G1.fl
              have g1r : Flat L9[i1].rv := G1.fr
              have g2l : Flat L9[i2].lv := G2.fl
              have g2r : Flat L9[i2].rv := G2.fr
              clear G1 G2 hc9' bM bV
              generalize L9[i1] = X1 at *
              generalize L9[i2] = X2 at *
              obtain ⟨na, sa, Ca, la, ra⟩ := X1
              obtain ⟨nb, sb, Cb, lb, rb⟩ := X2
              simp only [recVal] at *
              obtain ⟨Q1, q1, p1, rfl⟩ := flat_form g1l
              obtain ⟨Q2, q2, p2, rfl⟩ := flat_form g1r
              obtain ⟨Q3, q3, p3, rfl⟩ := flat_form g2l
              obtain ⟨Q4, q4, p4, rfl⟩ := flat_form g2r
              refine wp_region_ordT 21 (readsT [0, 1, 2, 3, 4, 5, 6, 7, 8, 9, 10, 11, 12, 13, 14] (.fork 15 (readsT [16, 17, 18] (.stir 19 (.stir 20 .done))) 19 (.stir 15 (readsT [16, 17, 18] (.stir 20 .done))))) (by kernel_rfl) (by kernel_rfl) (fun _ _ _ _ _ h => h) ?_
              simp only [readsT]
              iterate 15 (refine wpOrdT_read (v := ?_) (by rfl) (Or.inl ⟨by rfl, fun x hx => ?_⟩) ?_; rotate_left; (· have m0 := hx.cell m0; have m1 := hx.cell m1; have m2 := hx.cell m2; have s0 := hx.cell s0; have s1 := hx.cell s1; have s2 := hx.cell s2; have s3 := hx.cell s3; have s4 := hx.cell s4; have c0 := hx.cell c0; have c1 := hx.cell c1; have c2 := hx.cell c2; have c3 := hx.cell c3; have c4 := hx.cell c4; have r0 := hx.cell r0; have r1 := hx.cell r1; have r2 := hx.cell r2; have r3 := hx.cell r3; have r4 := hx.cell r4; go_simp; try with_reducible rfl); try simp only [Act.put, List.setIfInBounds_toArray, List.set_cons_zero, List.set_cons_succ])
              have hxr : Ext wr wr.drew := Ext.drew wr
              generalize wr.drew = w0 at *
              have xw0 : Ext w0 w0 := Ext.refl w0
              refine wpOrdT_forks (by rfl) (by rfl) (fun K hK => ?_) (fun K hK => ?_)
              · go_simp
                go_at_call 65
                refine (BC w0 (hxr.trans xw0)).mono ?_
                rintro e w5 ⟨h5, bb, kd, D1, e1, d1, D2, e2, d2, rfl, hgood⟩
                have x5 : Ext w0 w5 := xw0.trans h5
                refine hK (Ext w0) _ _ (fun _ h => h) x5 ?_
                clear hK K
                try simp only [Act.put, List.setIfInBounds_toArray, List.set_cons_zero, List.set_cons_succ]
                iterate 3 (refine wpOrdT_read (v := ?_) (by rfl) (Or.inl ⟨by rfl, fun x hx => ?_⟩) ?_; rotate_left; (· go_simp; try with_reducible rfl); try simp only [Act.put, List.setIfInBounds_toArray, List.set_cons_zero, List.set_cons_succ])
                refine wpOrdT_keep (by rfl) (fun K hK => ?_)
                go_simp
                have bA : Blk (w5.alloc (.cells #[.int .i64 0, .slice none 0 0, .slice none 0 0] 34)) w5.heap.size 34 #[.int .i64 0, .slice none 0 0, .slice none 0 0] := Blk.new _ _ _ _ rfl
                have hA : Ext w5 (w5.alloc (.cells #[.int .i64 0, .slice none 0 0, .slice none 0 0] 34)) := Ext.alloc _ _
                have xA : Ext w0 (w5.alloc (.cells #[.int .i64 0, .slice none 0 0, .slice none 0 0] 34)) := x5.trans hA
                have hsA : (w5.alloc (.cells #[.int .i64 0, .slice none 0 0, .slice none 0 0] 34)).heap.size = w5.heap.size + 1 := by simp
                refine hK _ _ xA ?_
                clear hK K
                try simp only [Act.put, List.setIfInBounds_toArray, List.set_cons_zero, List.set_cons_succ]
                generalize w5.alloc (.cells #[.int .i64 0, .slice none 0 0, .slice none 0 0] 34) = wA at *
                obtain ⟨gF, hgF⟩ : ∃ g, w5.heap.size = g := ⟨_, rfl⟩
                have nA : w0.heap.size ≤ gF := by rw [← hgF]; exact x5.size
                rw [hgF] at bA hsA
                try rw [hgF]
                have y0 := bA.cell 0
                have z0 := bA.frozen 0
                have y1 := bA.cell 1
                have z1 := bA.frozen 1
                have y2 := bA.cell 2
                have z2 := bA.frozen 2
                simp only [List.getElem?_toArray, List.getElem?_cons_zero, List.getElem?_cons_succ] at y0 y1 y2
                have HA := Lib.hid (And.intro bA (And.intro xA (show ∀ a b c, BpOk wr.heap.size m n bb kd (.slice D1 e1 d1) (.slice D2 e2 d2) (((wA.setCell ⟨gF, 0, none⟩ a).setCell ⟨gF, 1, none⟩ b).setCell ⟨gF, 2, none⟩ c) from fun a b c => (hgood.base hxr.size).ext (((hA.setCell (by rw [hgF]; exact Nat.le_refl _) a).setCell (by rw [hgF]; exact Nat.le_refl _) b).setCell (by rw [hgF]; exact Nat.le_refl _) c))))
                have hw0 : wr.heap.size ≤ w0.heap.size := hxr.size
                clear bA hgood
                refine wpOrdT_keep (by rfl) (fun K hK => ?_)
                go_simp
                refine hK _ _ (((HA.out.2.1.setCell nA _).setCell nA _).setCell nA _) ?_
                clear hK K
                try simp only [Act.put, List.setIfInBounds_toArray, List.set_cons_zero, List.set_cons_succ]
                refine wpOrdT_done ?_
                try simp only [List.drop_succ_cons, List.drop_zero]
                go_wp2_with fail
                go_meet
                have nA' : wr.heap.size ≤ gF := Nat.le_trans hw0 nA
                exact ⟨_, bb, kd, D1, e1, d1, D2, e2, d2, rfl, rfl, Lib.hid ⟨(((hxr.trans HA.out.2.1).setCell nA' _).setCell nA' _).setCell nA' _, ((HA.out.1.set_ 0 _).set_ 1 _).set_ 2 _, HA.out.2.2 _ _ _⟩⟩
              · go_simp
                have bA : Blk (w0.alloc (.cells #[.int .i64 0, .slice none 0 0, .slice none 0 0] 34)) w0.heap.size 34 #[.int .i64 0, .slice none 0 0, .slice none 0 0] := Blk.new _ _ _ _ rfl
                have hA : Ext w0 (w0.alloc (.cells #[.int .i64 0, .slice none 0 0, .slice none 0 0] 34)) := Ext.alloc _ _
                have xA : Ext w0 (w0.alloc (.cells #[.int .i64 0, .slice none 0 0, .slice none 0 0] 34)) := xw0.trans hA
                have hsA : (w0.alloc (.cells #[.int .i64 0, .slice none 0 0, .slice none 0 0] 34)).heap.size = w0.heap.size + 1 := by simp
                refine hK (Ext w0) _ _ (fun _ h => h) xA ?_
                clear hK K
                try simp only [Act.put, List.setIfInBounds_toArray, List.set_cons_zero, List.set_cons_succ]
                generalize w0.alloc (.cells #[.int .i64 0, .slice none 0 0, .slice none 0 0] 34) = wA at *
                obtain ⟨gF, hgF⟩ : ∃ g, w0.heap.size = g := ⟨_, rfl⟩
                have nA : w0.heap.size ≤ gF := by rw [← hgF]; exact xw0.size
                rw [hgF] at bA hsA
                try rw [hgF]
                refine wpOrdT_keep (by rfl) (fun K hK => ?_)
                go_simp
                go_at_call 65
                refine (BC wA (hxr.trans xA)).mono ?_
                rintro e w5 ⟨h5, bb, kd, D1, e1, d1, D2, e2, d2, rfl, hgood⟩
                have x5 : Ext w0 w5 := xA.trans h5
                refine hK _ _ x5 ?_
                clear hK K
                try simp only [Act.put, List.setIfInBounds_toArray, List.set_cons_zero, List.set_cons_succ]
                replace bA := bA.ext h5
                iterate 3 (refine wpOrdT_read (v := ?_) (by rfl) (Or.inl ⟨by rfl, fun x hx => ?_⟩) ?_; rotate_left; (· go_simp; try with_reducible rfl); try simp only [Act.put, List.setIfInBounds_toArray, List.set_cons_zero, List.set_cons_succ])
                have y0 := bA.cell 0
                have z0 := bA.frozen 0
                have y1 := bA.cell 1
                have z1 := bA.frozen 1
                have y2 := bA.cell 2
                have z2 := bA.frozen 2
                simp only [List.getElem?_toArray, List.getElem?_cons_zero, List.getElem?_cons_succ] at y0 y1 y2
                have HA := Lib.hid (And.intro bA (And.intro x5 (show ∀ a b c, BpOk wr.heap.size m n bb kd (.slice D1 e1 d1) (.slice D2 e2 d2) (((w5.setCell ⟨gF, 0, none⟩ a).setCell ⟨gF, 1, none⟩ b).setCell ⟨gF, 2, none⟩ c) from fun a b c => (hgood.low (by omega) a b c).base (Nat.le_trans hxr.size xA.size))))
                have hw0 : wr.heap.size ≤ w0.heap.size := hxr.size
                clear bA hgood
                refine wpOrdT_keep (by rfl) (fun K hK => ?_)
                go_simp
                refine hK _ _ (((HA.out.2.1.setCell nA _).setCell nA _).setCell nA _) ?_
                clear hK K
                try simp only [Act.put, List.setIfInBounds_toArray, List.set_cons_zero, List.set_cons_succ]
                refine wpOrdT_done ?_
                try simp only [List.drop_succ_cons, List.drop_zero]
                go_wp2_with fail
                go_meet
                have nA' : wr.heap.size ≤ gF := Nat.le_trans hw0 nA
                exact ⟨_, bb, kd, D1, e1, d1, D2, e2, d2, rfl, rfl, Lib.hid ⟨(((hxr.trans HA.out.2.1).setCell nA' _).setCell nA' _).setCell nA' _, ((HA.out.1.set_ 0 _).set_ 1 _).set_ 2 _, HA.out.2.2 _ _ _⟩⟩
            case rest =>
              obtain ⟨gP, bb, kd, D1, e1, d1, D2, e2, d2, rfl, rfl, HT⟩ := hcut
              obtain ⟨xT, bP, hgood⟩ := HT.out
              cases bb with
              | true =>
                obtain ⟨n', f, cs, ws, rfl, hO, oN, oL⟩ := hgood rfl
                have y0 := bP.cell 0
                have y1 := bP.cell 1
                have y2 := bP.cell 2
                simp only [List.getElem?_toArray, List.getElem?_cons_zero, List.getElem?_cons_succ] at y0 y1 y2
                have hE := (HX10.out.trans HXI.out).trans xT
                have bR := HB3.out.1.ext hE
                have p0 := bR.cell 0
                have p1 := bR.cell 1
                have p2 := bR.cell 2
                have z0 := bR.frozen 0
                have z1 := bR.frozen 1
                have z2 := bR.frozen 2
                simp only [List.getElem?_toArray, List.getElem?_cons_zero, List.getElem?_cons_succ] at p0 p1 p2
                have hsz : B ≤ wr.heap.size := by have := HBB.out; have := (HX10.out.trans HXI.out).size; omega
                have HF := Lib.hid (And.intro hO (And.intro oN (And.intro oL (And.intro hE hsz))))
                clear hO oN oL hE bR bP hgood xT hsz
                go_wp2
                refine bodyPost_ret (v := .tuple #[.agg #[.int .i64 6, .slice D1 e1 d1, .slice D2 e2 d2], .int .i64 0]) (by simp [results, Tryz.results18, go_sem, p0, p1, p2]) rfl ?_
                obtain ⟨hO, oN, oL, hE, hsz⟩ := HF.out
                refine ⟨(((HB3.out.2.2.trans hE).setCell HG.out _).setCell HG.out _).setCell HG.out _, .inr ⟨n, n', f, cs, ws, _, _, rfl, hO, HXG.out.pos, ?_, ?_⟩⟩
                · have o2 : OwnInts _ _ _ _ := low3 (gO := g) oN (by omega) (.int .i64 6) (.slice D1 e1 d1) (.slice D2 e2 d2)
                  exact o2.ints
                · exact (oL.low3 (by omega) _ _ _).lists
              | false =>
                have HXT := Lib.hid (HXI.out.trans xT)
                have hwg : IntKind.i64.wrap ((gap : Int) + 1) = ((gap + 1 : Nat) : Int) := by rw [show (gap : Int) + 1 = ((gap + 1 : Nat) : Int) by omega]; exact IntWalk.i64_in _ (by omega)
                clear xT bP hgood
                go_wp2
                go_roundw
                case rel => exact ⟨gap + 1, by omega, by omega, by go_num, HXT⟩
                case measure => simp [intOf]; omega
          · have hd2 : decide (((2 * gap : Nat) : Int) ≤ (P : Int)) = false := decide_eq_false (by omega)
            have hd3 : ¬ (2 * (gap : Int) ≤ (P : Int)) := by omega
            have hwk : IntKind.i64.wrap ((k : Int) + 1) = ((k + 1 : Nat) : Int) := by rw [show (k : Int) + 1 = ((k + 1 : Nat) : Int) by omega]; exact IntWalk.i64_in _ (by omega)
            go_wp2
            go_roundw
            case rel => exact ⟨k + 1, by omega, by go_num, Lib.hid (HX10.out.trans HXI.out), Lib.hid (H10.out.1.ext HXI.out)⟩
            case measure => simp [intOf]; omega
      · obtain rfl : k = K := by omega
        have hd : decide ((k : Int) < (k : Int)) = false := by simp
        have hE := HXR.out
        have bR := HB3.out.1.ext hE
        have p0 := bR.cell 0
        have p1 := bR.cell 1
        have p2 := bR.cell 2
        have z0 := bR.frozen 0
        have z1 := bR.frozen 1
        have z2 := bR.frozen 2
        simp only [List.getElem?_toArray, List.getElem?_cons_zero, List.getElem?_cons_succ] at p0 p1 p2
        have HF := Lib.hid (And.intro bR hE)
        clear bR hE
        rcases HC.out with rfl | rfl
        · go_wp2
          exact bodyPost_ret (v := .tuple #[.agg #[.int .i64 0, .slice none 0 0, .slice none 0 0], .int .i64 6]) (by simp [results, Tryz.results18, go_sem, p0, p1, p2]) rfl ⟨(((HB3.out.2.2.trans HF.out.2).setCell HG.out _).setCell HG.out _).setCell HG.out _, .inl ⟨6, .inr (.inr rfl), rfl⟩⟩
        · go_wp2
          exact bodyPost_ret (v := .tuple #[.agg #[.int .i64 0, .slice none 0 0, .slice none 0 0], .int .i64 5]) (by simp [results, Tryz.results18, go_sem, p0, p1, p2]) rfl ⟨(((HB3.out.2.2.trans HF.out.2).setCell HG.out _).setCell HG.out _).setCell HG.out _, .inl ⟨5, .inr (.inl rfl), rfl⟩⟩
end Go.Proofs.YtojiammendjpkaaGreat
end
