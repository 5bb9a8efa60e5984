/- Contract: the configuration of a formula tape.
Contract: the configuration of a formula tape, with the checks of its arguments.
Contracts: two formula tapes of one shape; how a formula tape has grown against itself. -/
import Derived.Test.YtojiammendjpkaaGreatB20
section
set_option linter.unusedSimpArgs false
set_option linter.unusedVariables false
namespace Go.Proofs.YtojiammendjpkaaGreat
open Go Go.RowKit Go.Proofs
set_option maxHeartbeats 400000
theorem roomy_c (q : Int) (A B : Option Addr) (n c k d : Nat) (w : World) :
    Calls Tryz.prog 135 #[.agg #[.int .i64 q, .slice A n c, .slice B k d]] w fun e w' => e = .returned (.bool (decide (n ≤ 200) && decide (k ≤ 200))) ∧ Ext w w' := by
  obtain ⟨V, hV⟩ : ∃ V, V = w.alloc (.cells #[.int .i64 q, .slice A n c, .slice B k d] 29) := ⟨_, rfl⟩
  have hX : Ext w V := by rw [hV]; exact Ext.alloc _ _
  obtain ⟨g, hg⟩ : ∃ g, w.heap.size = g := ⟨_, rfl⟩
  have b : Blk V g 29 #[.int .i64 q, .slice A n c, .slice B k d] := by rw [hV]; exact Blk.new _ _ _ _ hg
  have c1 : V.cell? ⟨g, 1, none⟩ = some (.slice A n c) := b.cell 1
  have c2 : V.cell? ⟨g, 2, none⟩ = some (.slice B k d) := b.cell 2
  have HX := Lib.hid hX
  clear hX b
  by_cases h1 : n ≤ 200
  · have e1 : decide ((n : Int) ≤ 200) = true := decide_eq_true (by omega)
    rw [decide_eq_true h1]
    clear h1
    obtain ⟨bk, hbk⟩ : ∃ b, decide ((k : Int) ≤ 200) = b := ⟨_, rfl⟩
    rw [show decide (k ≤ 200) = bk by rw [← hbk]; congr 1; exact propext ⟨fun h => by omega, fun h => by omega⟩]
    go_enter Tryz.func135, Tryz.ntmps135
    go_wp2_with fail
    try rw [← hV]
    try rw [hg]
    clear hV hg
    go_wp2
    go_ret
    exact ⟨by first | rfl | (rw [hbk]; rfl) | simp [hbk], HX.out⟩
  · have e1 : decide ((n : Int) ≤ 200) = false := decide_eq_false (by omega)
    rw [decide_eq_false h1]
    clear h1
    go_enter Tryz.func135, Tryz.ntmps135
    go_wp2_with fail
    try rw [← hV]
    try rw [hg]
    clear hV hg
    go_wp2
    go_ret
    exact ⟨by first | rfl | simp, HX.out⟩
theorem trimO_c (base : Nat) (v : Value) (zs : List Int) (w : World) (h : OwnInts base w v zs) (hn : zs.length ≤ 1048576) :
    Calls Tryz.prog 134 #[v] w fun e w' => ∃ u, e = .returned u ∧ OwnInts base w' u (trim zs) ∧ Ext w w' := by
  refine (trimmed_c v zs w h.ints hn).mono ?_
  rintro e w' ⟨⟨A, c, rfl, rfl⟩, rfl⟩
  exact ⟨_, rfl, own_trim h, Ext.refl _⟩
theorem cloneO_c (v : Value) (zs : List Int) (w : World) (h : Ints w v zs) (hf : Flat v) (h1 : zs.length ≤ 1048576) :
    Calls Tryz.prog 92 #[v] w fun e w' => ∃ u, e = .returned u ∧ OwnInts w.heap.size w' u zs ∧ Ext w w' := by
  refine (CloneF_c v zs w h hf h1).mono ?_
  rintro e w' ⟨u, rfl, o, _, hx⟩
  exact ⟨u, rfl, o, hx⟩
theorem Flat.flatS {v : Value} (h : Flat v) : FlatS v := h
def roomR (r : ConfD) : ConfD × Int := if (decide (r.l.length ≤ 200) && decide (r.r.length ≤ 200)) = true then (r, 0) else (blankC, 5)
def atZ (f : FoD) (es : List Nat) (kh k : Nat) : Int := if kh < k then ((celF f.ws f.rs es kh).length : Int) + f.at_ else 0
theorem own_emp {w : World} {B g : Nat} (h : w.heap[g]? = some (.cells #[] 2 (0, 0))) (hb : B ≤ g) : OwnInts B w (.slice (some ⟨g, 0, none⟩) 0 0) [] :=
  ⟨rfl, .inr ⟨g, 0, #[], rfl, hb, by simpa using h, Nat.le_refl _, by unfold maxLen; omega, rfl, rfl⟩⟩
set_option maxRecDepth 20000 in
set_option maxHeartbeats 8000000 in
theorem formulaAt_c (m : MachD) (rv0 v wv rv ov cv : Value) (f : FoD) (cs : List Int) (w : World) (h : FoV w v f wv rv ov) (hc : Ints w cv cs) (hok : foOk m f = true) (hs : ShapeF f cs) (hp : ∀ k, k < f.rs.length → 1 ≤ cs.getD k 0 + f.os.getD k 0 ∧ cs.getD k 0 + f.os.getD k 0 ≤ 4000) (hcb : ∀ k, 0 ≤ cs.getD k 0 ∧ cs.getD k 0 ≤ 2000) :
    Calls Tryz.prog 75 #[.agg #[.int .i64 m.sy, .int .i64 m.st, rv0], v, cv] w (SpecRes w (roomR (foCfg f.q (tapeO f cs) (headO f cs)))) := by
  obtain ⟨hr3, hws, hos, hwl, hrl, hol, hatk⟩ := foOk_parts hok
  have hel : (esF cs f.os).length = f.rs.length := by rw [esF_length _ _ (by rw [hs.cn, hs.os]), hs.os]
  obtain ⟨kh, hkh⟩ : ∃ k : Nat, f.hd = k := Int.eq_ofNat_of_zero_le hs.h0
  have hkn : kh ≤ f.rs.length := by have := hs.h1; omega
  have hne : ∀ r ∈ f.rs, r ≠ [] := fun r hr => List.length_pos_iff.1 (hrl r hr).1
  have HH := Lib.hid (head_ok hs hatk hne (fun k hk => (hp k hk).1))
  have hee : ∀ k, k < f.rs.length → 1 ≤ (esF cs f.os).getD k 0 ∧ (esF cs f.os).getD k 0 * (f.rs.getD k []).length ≤ 100000 ∧ (cs.getD k 0 + f.os.getD k 0 = (((esF cs f.os).getD k 0 : Nat) : Int)) := fun k hk => by
    have a := hp k hk
    have b : (f.rs.getD k []).length ≤ 20 := by rw [getD_get hk]; exact (hrl _ (List.getElem_mem _)).2
    rw [esF_getD _ _ _ (by rw [hs.cn, hs.os])]
    refine ⟨by omega, ?_, by omega⟩
    have := Nat.mul_le_mul (show (cs.getD k 0 + f.os.getD k 0).toNat ≤ 4000 by omega) b
    omega
  have hsm : ∀ k, k ≤ f.rs.length + 1 → (celF f.ws f.rs (esF cs f.os) k).length ≤ 404000 := fun k hk => by
    have := celF_small hs.ws hel (fun x hx => by have := hwl x hx; omega) (fun k hk => (hee k hk).2.1) k hk
    have : k * 101000 ≤ 4 * 101000 := Nat.mul_le_mul_right _ (by omega)
    omega
  have hat2 : -1 ≤ f.at_ ∧ f.at_ ≤ 100 := by
    have := atOk_iff hatk
    have : (f.ws.getD f.hd.toNat []).length ≤ 100 := by rw [getD_get (show f.hd.toNat < f.ws.length by have := hs.ws; omega)]; exact hwl _ (List.getElem_mem _)
    omega
  have HT : Hid (tapeO f cs = celF f.ws f.rs (esF cs f.os) (f.rs.length + 1)) := Lib.hid (tape_cel _ _ _)
  have HHD : Hid (headO f cs = atZ f (esF cs f.os) kh (f.rs.length + 1)) := Lib.hid (by unfold headO atZ; rw [hkh, Int.toNat_natCast, hoff_cel hkn, if_pos (by omega)])
  obtain ⟨es, hes⟩ : ∃ es, esF cs f.os = es := ⟨_, rfl⟩
  rw [hes] at hee hsm HT HHD hel
  have HEL := Lib.hid hel
  have HEE := Lib.hid hee
  have HSM := Lib.hid hsm
  have HS := Lib.hid hs
  have HWS := Lib.hid hws
  have HOS := Lib.hid hos
  have HCB := Lib.hid hcb
  have HOL := Lib.hid hol
  have HNE := Lib.hid hne
  have HWL := Lib.hid hwl
  have hwn : f.ws.length ≤ 4 := by omega
  clear hes hel hee hsm hok hp hne hatk hws hos hrl hcb hol hwl
  obtain ⟨V, hV⟩ : ∃ V, V = ((w.alloc (.cells #[.int .i64 m.sy, .int .i64 m.st, rv0] 26)).alloc (.cells #[.int .i64 f.q, .int .i64 f.hd, .int .i64 f.at_, wv, rv, ov] 49)).alloc (.cells #[.int .i64 0, .slice none 0 0, .slice none 0 0] 29) := ⟨_, rfl⟩
  have hX : Ext w V := by rw [hV]; exact ((Ext.alloc _ _).trans (Ext.alloc _ _)).trans (Ext.alloc _ _)
  obtain ⟨g, hg⟩ : ∃ g, w.heap.size = g := ⟨_, rfl⟩
  have bf : Blk V (g + 1) 49 #[.int .i64 f.q, .int .i64 f.hd, .int .i64 f.at_, wv, rv, ov] := by rw [hV]; exact (Blk.new _ _ _ _ (by simp [hg])).alloc _
  have bo : Blk V (g + 1 + 1) 29 #[.int .i64 0, .slice none 0 0, .slice none 0 0] := by rw [hV]; exact Blk.new _ _ _ _ (by simp [hg])
  obtain ⟨rfl, h1, h2, h3, h4⟩ := h
  have h1 := h1.ext hX
  have h2 := h2.ext hX
  have h3 := h3.ext hX
  have hc := hc.ext hX
  obtain ⟨A, cA, rfl, _, _⟩ := h1.form
  obtain ⟨B, cB, rfl, _, _⟩ := h2.form
  obtain ⟨C, cC, rfl, _, _⟩ := h3.form
  obtain ⟨D, cD, rfl, _, _⟩ := hc.form
  have f0 := bf.cell 0
  have f1 := bf.cell 1
  have f2 := bf.cell 2
  have f3 := bf.cell 3
  have f4 := bf.cell 4
  have f5 := bf.cell 5
  simp only [List.getElem?_toArray, List.getElem?_cons_zero, List.getElem?_cons_succ] at f0 f1 f2 f3 f4 f5
  rw [hkh] at f1
  have HKH := Lib.hid hkh
  obtain ⟨V1, hV1⟩ : ∃ V1, V1 = V.alloc (.cells #[] 2) := ⟨_, rfl⟩
  have eV1 : Ext V V1 := by rw [hV1]; exact Ext.alloc _ _
  have hge3 : V.heap.size = g + 1 + 1 + 1 := by rw [hV]; simp [hg]
  obtain ⟨ge, hge⟩ : ∃ ge, V.heap.size = ge := ⟨_, rfl⟩
  rw [hge] at hge3
  have hgew : w.heap.size ≤ ge := by rw [← hge]; exact hX.size
  have hS0 : OwnInts ge V1 (.slice (some ⟨ge, 0, none⟩) 0 0) (celF f.ws f.rs es 0) := by
    rw [celF_zero]
    have be : Blk V1 ge 2 #[] := by rw [hV1]; exact Blk.new _ _ _ _ hge
    exact own_emp be (Nat.le_refl _)
  have HGE := Lib.hid hge
  have hG := hg
  have HG := Lib.hid hg
  have HX := Lib.hid hX
  have H1 := Lib.hid h1
  have H2 := Lib.hid h2
  have H3 := Lib.hid h3
  have HC := Lib.hid hc
  have HBO := Lib.hid bo
  have HS0 := Lib.hid hS0
  have HK := Lib.hid hkn
  clear hkh bf bo hX h1 h2 h3 hc hS0 hs
  go_enter Tryz.func75, Tryz.ntmps75
  go_wp2_with fail
  try rw [← hV]
  try rw [hg]
  go_wp2_with fail
  try rw [← hV1]
  try rw [hge]
  try rw [← hge3]
  clear hV hV1 hg hge hG hge3
  have f3' := eV1.cell f3
  go_wp2_with fail
  go_loopw [8, 9, 17] (fun a b c wr => ∃ (k : Nat) (z : Int), k ≤ f.ws.length ∧ c = .int .i64 (k : Int) ∧ b = .int .i64 z ∧ Hid (z = atZ f es kh k) ∧ Hid (Ext V wr) ∧ Hid (OwnInts ge wr a (celF f.ws f.rs es k))) (fun _ _ c _ => f.ws.length - (intOf c).toNat)
  case atStart => exact ⟨0, 0, Nat.zero_le _, rfl, rfl, Lib.hid rfl, Lib.hid eV1, HS0⟩
  case round =>
    rename_i a8 b9 c17
    clear HS0 eV1
    obtain ⟨k, z, hk, rfl, rfl, HZ, HXR, HO⟩ := hrel
    by_cases hlt : k < f.ws.length
    · have hdl : decide ((k : Int) < (f.ws.length : Int)) = true := decide_eq_true (by omega)
      have hxr := HXR.out
      obtain ⟨b, off, u, hA, c0, hu, hfl⟩ := Lists.at (H1.out.ext hxr) hlt
      subst hA
      obtain ⟨x, hx⟩ : ∃ x, f.ws[k] = x := ⟨_, rfl⟩
      rw [hx] at hu
      have hgx : f.ws.getD k [] = x := by rw [getD_get hlt, hx]
      have hxl : x.length ≤ 100 := by rw [← hx]; exact HWL.out _ (List.getElem_mem _)
      have f1 := hxr.cell f1
      have f2 := hxr.cell f2
      have f4' := hxr.cell f4
      obtain ⟨L, hL⟩ : ∃ L, celF f.ws f.rs es k = L := ⟨_, rfl⟩
      have hLl : L.length ≤ 404000 := by rw [← hL]; exact HSM.out k (by have := HWS.out; omega)
      have ho := HO.out
      rw [hL] at ho
      obtain ⟨A8, c8, rfl, _, _⟩ := ho.ints.form
      have hw1 : IntKind.i64.wrap ((L.length : Int) + f.at_) = (L.length : Int) + f.at_ := IntWalk.i64_in _ (by omega)
      have HL := Lib.hid hL
      have HGX := Lib.hid hgx
      clear hx hL hgx
      go_upto_if 25 with fail
      go_cut [9] (fun b wx => b = .int .i64 (atZ f es kh (k + 1)) ∧ wr = wx)
      case first =>
        by_cases e : k = kh
        · have e1 : ((k : Int) == (kh : Int)) = true := by simp [e]
          have e2 : (k : Int) = (kh : Int) := by omega
          have HE := Lib.hid e
          clear e
          go_wp2_with fail
          go_meet
          refine ⟨?_, rfl⟩
          unfold atZ
          rw [if_pos (by have := HE.out; omega), ← HE.out, HL.out]
        · have e1 : ((k : Int) == (kh : Int)) = false := beq_eq_false_iff_ne.2 (by omega)
          have e2 : ¬ (k : Int) = (kh : Int) := by omega
          have HE := Lib.hid e
          clear e
          go_wp2_with fail
          go_meet
          refine ⟨?_, rfl⟩
          rw [HZ.out]
          unfold atZ
          congr 2
          have := HE.out
          exact propext ⟨fun h => by omega, fun h => by omega⟩
      case rest =>
        obtain ⟨rfl, hwc⟩ := hcut
        subst hwc
        clear HZ hw1
        obtain ⟨v7, w7, hr7, ho7, hg7⟩ := run_append_ints wr ge _ u L x ho hu hfl (by omega) (by rw [← HGE.out]; exact hxr.size)
        have hx7 : Ext V w7 := hxr.grown hg7 (fun q hq => by
          have := (World.ownsRow.lt ho q hq).1
          rw [HGE.out]; exact this)
        obtain ⟨Ax, cX, rfl, _, _⟩ := hu.form
        obtain ⟨A7, c7, rfl, _, _⟩ := id ho7.ints.form
        have HO7 := Lib.hid ho7
        clear ho7 hg7 ho hu hfl
        clear f1 f2 f4'
        have f4' := hx7.cell f4
        have f5' := hx7.cell f5
        by_cases hlr : k < f.rs.length
        · have hdr : decide ((k : Int) < (f.rs.length : Int)) = true := decide_eq_true (by omega)
          go_wp2_with (at_builtin; refine Lib.wpList_append_run_sl wr rfl _ _ 27 rfl _ _ rfl rfl hr7 ?_)
          clear hr7 c0 hxr
          obtain ⟨b2, off2, u2, hB, c2, hu2, hfl2⟩ := Lists.at (H2.out.ext hx7) hlr
          subst hB
          obtain ⟨r, hr⟩ : ∃ r, f.rs[k] = r := ⟨_, rfl⟩
          rw [hr] at hu2
          have hgr : f.rs.getD k [] = r := by rw [getD_get hlr, hr]
          have hko : k < f.os.length := by rw [HOS.out]; exact hlr
          have hkc : k < cs.length := by rw [HS.out.cn]; exact hlr
          obtain ⟨b3, off3, hC3, c3⟩ := Ints.at (H3.out.ext hx7) hko
          subst hC3
          obtain ⟨b4, off4, hD4, c4⟩ := Ints.at (HC.out.ext hx7) hkc
          subst hD4
          have c3 := c3 k hko
          have c4 := c4 k hkc
          obtain ⟨ee, hee⟩ : ∃ e, es.getD k 0 = e := ⟨_, rfl⟩
          obtain ⟨q1, q2, q3⟩ := HEE.out k hlr
          rw [hgr, hee] at q2
          rw [hee, getD_get hkc, getD_get hko] at q3
          rw [hee] at q1
          obtain ⟨zc, hzc⟩ : ∃ z, cs[k] = z := ⟨_, rfl⟩
          obtain ⟨zo, hzo⟩ : ∃ z, f.os[k] = z := ⟨_, rfl⟩
          rw [hzc] at c4 q3
          rw [hzo] at c3 q3
          have hrne : r ≠ [] := by rw [← hr]; exact HNE.out _ (List.getElem_mem _)
          have hr1 : 1 ≤ r.length := List.length_pos_iff.2 hrne
          obtain ⟨Ar, cR, rfl, hcr1, hcr2⟩ := hu2.form
          obtain ⟨b5, off5, hE5, _⟩ := hu2.at (show 0 < r.length by omega)
          subst hE5
          have hwz : IntKind.i64.wrap (zc + zo) = (ee : Int) := by
            rw [q3]
            exact IntWalk.i64_in _ (by
              have := Nat.le_mul_of_pos_right ee hr1
              omega)
          have RC := RepeatG_c b5 off5 cR ee r w7.drew (hu2.ext (Ext.drew _)) hr1 q1 q2
          have d4 : w7.drew.cell? ⟨g + 1, 4, none⟩ = some (.slice (some ⟨b2, off2, none⟩) f.rs.length cB) := f4'
          have d5 : w7.drew.cell? ⟨g + 1, 5, none⟩ = some (.slice (some ⟨b3, off3, none⟩) f.os.length cC) := f5'
          have d2 : w7.drew.cell? ⟨b2, off2 + k, none⟩ = some (.slice (some ⟨b5, off5, none⟩) r.length cR) := c2
          have d3 : w7.drew.cell? ⟨b3, off3 + k, none⟩ = some (.int .i64 zo) := c3
          have d6 : w7.drew.cell? ⟨b4, off4 + k, none⟩ = some (.int .i64 zc) := c4
          have HHR := Lib.hid hgr
          have HHE := Lib.hid hee
          have HQ2 := Lib.hid q2
          clear hr hgr hee hzc hzo q3 hrne hu2 hfl2 c2 c3 c4 f4' f5' q2
          refine wp_region_ordT 17 (readsT [0, 1, 2, 3, 4, 5, 6, 7, 8, 9, 10, 11, 12, 13, 14, 15] (.stir 16 .done)) (by kernel_rfl) (by kernel_rfl) (fun _ _ _ _ _ h => h) ?_
          simp only [readsT]
          iterate 16 (refine wpOrdT_read (v := ?_) (by rfl) (Or.inl ⟨by rfl, fun x hx => ?_⟩) ?_; rotate_left; (· have y4 := Ext.cell hx d4; have y5 := Ext.cell hx d5; have y2 := Ext.cell hx d2; have y3 := Ext.cell hx d3; have y6 := Ext.cell hx d6; go_simp; try first | with_reducible rfl | (rw [if_pos (by omega)]; try with_reducible rfl)); try simp only [Act.put, List.setIfInBounds_toArray, List.set_cons_zero, List.set_cons_succ])
          try rw [hwz]
          refine wpOrdT_keep (by rfl) (fun K hK => ?_)
          go_simp
          try rw [hwz]
          go_at_call 95
          refine RC.mono ?_
          rintro e w8 ⟨u8, rfl, o8, hx8⟩
          refine hK _ _ hx8 ?_
          clear hK K RC
          refine wpOrdT_done ?_
          try simp only [List.drop_succ_cons, List.drop_zero]
          have hx8' := hx7.trans ((Ext.drew w7).trans hx8)
          have ho7 := HO7.out.ext ((Ext.drew w7).trans hx8)
          obtain ⟨v9, w9, hr9, ho9, hg9⟩ := run_append_ints w8 ge _ u8 (L ++ x) (repL r ee) ho7 o8.ints o8.flatS (by rw [repL_length, List.length_append]; have := HQ2.out; omega) (by rw [← HGE.out]; exact hx8'.size)
          have hx9 : Ext V w9 := hx8'.grown hg9 (fun q hq => by
            have := (World.ownsRow.lt ho7 q hq).1
            rw [HGE.out]; exact this)
          have hcel : celF f.ws f.rs es (k + 1) = L ++ x ++ repL r ee := by
            rw [celF_step HS.out.ws HEL.out hlr, HL.out, HGX.out, HHR.out, HHE.out]
          rw [← hcel] at ho9
          obtain ⟨Au, cu8, rfl, _, _⟩ := id o8.ints.form
          rw [List.length_append] at hr9
          have HO9 := Lib.hid ho9
          have HX9 := Lib.hid hx9
          clear ho9 hx9 hg9 ho7 o8 hcel hx8 hx8' d2 d3 d4 d5 d6 hx7
          go_wp2_with (at_builtin; refine Lib.wpList_append_run_sl w8 rfl _ _ 27 rfl _ _ rfl rfl hr9 ?_)
          clear hr9
          go_wp2
          go_roundw
          case rel => exact ⟨k + 1, _, by omega, by go_num, rfl, Lib.hid rfl, HX9, HO9⟩
          case measure => simp [intOf]; omega
        · have hdr : decide ((k : Int) < (f.rs.length : Int)) = false := decide_eq_false (by omega)
          have hke : k = f.rs.length := by have := HWS.out; omega
          have hcel : Hid (celF f.ws f.rs es (k + 1) = L ++ x) := Lib.hid (by
            rw [hke, celF_last HS.out.ws HEL.out, ← hke, HL.out, HGX.out])
          have HHK := Lib.hid hke
          clear hke
          have HX7 := Lib.hid hx7
          clear hx7
          go_wp2_with (at_builtin; refine Lib.wpList_append_run_sl wr rfl _ _ 27 rfl _ _ rfl rfl hr7 ?_)
          go_roundw
          case rel => exact ⟨k + 1, _, by omega, by go_num, rfl, Lib.hid rfl, HX7, by unfold Hid; rw [hcel.out, ← List.length_append]; exact HO7.out⟩
          case measure => simp [intOf]; omega
    · have hdl : decide ((k : Int) < (f.ws.length : Int)) = false := decide_eq_false (by omega)
      have hke : k = f.rs.length + 1 := by have := HWS.out; omega
      obtain ⟨L, hL⟩ : ∃ L, celF f.ws f.rs es k = L := ⟨_, rfl⟩
      have hLl : L.length ≤ 404000 := by rw [← hL]; exact HSM.out k (by omega)
      have ho := HO.out
      rw [hL] at ho
      rw [← hke, hL] at HT
      have hhz : headO f cs = z := by rw [HHD.out, ← hke, HZ.out]
      obtain ⟨hz0, hz1⟩ := HH.out
      rw [hhz] at hz0 hz1
      rw [HT.out] at hz1
      obtain ⟨n, hn⟩ : ∃ n : Nat, z = n := Int.eq_ofNat_of_zero_le hz0
      subst hn
      have hnl : n ≤ L.length := by omega
      have hnz : decide ((n : Int) < 0) = false := decide_eq_false (by omega)
      have hLn : L ≠ [] := by
        intro e0
        have a := (HEE.out 0 (by have := HS.out.r1; omega)).1
        have b := celF_mono HS.out.ws HEL.out (f.rs.length) 1 (by omega)
        rw [show 1 + f.rs.length = k by omega, hL, e0, celF_step HS.out.ws HEL.out (k := 0) (by have := HS.out.r1; omega), List.length_append, repL_length] at b
        have c : 1 ≤ (f.rs.getD 0 []).length := by
          rw [getD_get (show 0 < f.rs.length by have := HS.out.r1; omega)]
          exact List.length_pos_iff.2 (HNE.out _ (List.getElem_mem _))
        have := Nat.mul_pos a c
        simp only [List.length_nil] at b
        omega
      obtain ⟨gL, cL, rfl⟩ := own_some ho (List.length_pos_iff.2 hLn)
      have hCF : Hid (foCfg f.q (tapeO f cs) (headO f cs) = ⟨f.q, trim (L.take n).reverse, trim (L.drop n)⟩) := Lib.hid (by
        rw [hhz, HT.out]
        unfold foCfg
        rw [if_neg (by omega), Int.toNat_natCast])
      have hxr := HXR.out
      have e0 : Ext wr wr.drew := Ext.drew _
      have hiL := ho.ints.ext e0
      have hcl : L.length ≤ cL ∧ cL ≤ 9223372036854775807 := by
        obtain ⟨A', c', hq, h1, h2⟩ := hiL.form
        injection hq with q1 q2 q3
        subst q3
        exact ⟨h1, h2⟩
      obtain ⟨hcL1, hcL2⟩ := hcl
      have hlt4 : Ints wr.drew (.slice (some ⟨gL, 0, none⟩) n cL) (L.take n) := Ints.take hiL n hnl
      have hld4 : Ints wr.drew (.slice (some ⟨gL, 0 + n, none⟩) (L.length - n) (cL - n)) (L.drop n) := Ints.drop hiL n hnl
      rw [Nat.zero_add] at hld4
      replace hld4 : Ints wr.drew (.slice (if cL = n then some ⟨gL, 0, none⟩ else some ⟨gL, n, none⟩) (L.length - n) (cL - n)) (L.drop n) := by
        split
        · rename_i e
          have e2 : L.length - n = 0 := by omega
          have e3 : L.drop n = [] := List.drop_eq_nil_of_le (by omega)
          rw [e2, e3]
          exact ⟨some ⟨gL, 0, none⟩, cL - n, rfl, Nat.zero_le _, by omega, rfl, fun h => by simp at h⟩
        · exact hld4
      have d0 := e0.cell (hxr.cell f0)
      have HLN := Lib.hid hLn
      have HHZ := Lib.hid hhz
      have HKE := Lib.hid hke
      have HLL := Lib.hid hL
      clear hke hL hhz hLn HT HHD HZ HO HH f1 f2 f3 f4 f5
      have hl1 : (L.take n).reverse.length ≤ 1048576 := by simp; omega
      have hl2 : (L.drop n).length ≤ 1048576 := by simp; omega
      have hfl1 : Flat (.slice (some ⟨gL, 0, none⟩) n cL) := .inr ⟨_, _, _, _, rfl⟩
      have hfl2 : Flat (.slice (if cL = n then some ⟨gL, 0, none⟩ else some ⟨gL, n, none⟩) (L.length - n) (cL - n)) := by split <;> exact .inr ⟨_, _, _, _, rfl⟩
      have HF := Lib.hid (And.intro hfl1 hfl2)
      have HL12 := Lib.hid (And.intro hl1 hl2)
      clear hfl1 hfl2 hl1 hl2
      have hwn0 : (n : Int).toNat = n := Int.toNat_natCast n
      go_upto_region 13 with fail
      go_cut [12] (fun s12 wx => CutK wr f.q (trim (L.take n).reverse) (trim (L.drop n)) s12 wx)
      case first =>
        refine wp_region_ordT 14 (readsT [0, 1, 2, 3, 4, 7, 8, 9] (.fork 5 (.fork 6 (.fork 10 (.fork 11 (readsT [12] (.stir 13 .done)) 13 (.stir 11 (readsT [12] .done))) 13 (.stir 10 (.stir 11 (readsT [12] .done)))) 13 (.stir 6 (.stir 10 (.stir 11 (readsT [12] .done))))) 13 (.stir 5 (.stir 6 (.stir 10 (.stir 11 (readsT [12] .done))))))) (by kernel_rfl) (by kernel_rfl) (fun _ _ _ _ _ h => h) ?_
        simp only [readsT]
        have hs0 := e0.size
        generalize wr.drew = X at *
        have hE : Ext X X := Ext.refl _
        iterate 8 (refine wpOrdT_read (v := ?_) (by rfl) (Or.inl ⟨by rfl, fun x hx => ?_⟩) ?_; rotate_left; (· have a0 := hx.cell d0; go_simp; try first | with_reducible rfl | (rw [if_pos (by omega)]; try with_reducible rfl) | (rw [hwn0, if_pos (by omega)]; try with_reducible rfl)); try simp only [Act.put, List.setIfInBounds_toArray, List.set_cons_zero, List.set_cons_succ])
        generalize (if cL = n then (some ⟨gL, 0, none⟩ : Option Addr) else some ⟨gL, n, none⟩) = pd at *
        refine wpOrdT_forks (by rfl) (by rfl) (fun K hK => ?_) (fun K hK => ?_)
        · go_simp
          go_at_call 102
          refine (reversed_c _ (L.take n) X (hlt4.ext hE) HF.out.1 (by simp; omega)).mono ?_
          rintro e w5 ⟨u5, rfl, o5, hxw5⟩
          replace hE := hE.trans hxw5
          have hsw5 := hxw5.size
          refine hK (Ext X) _ _ (fun _ h => h) hE ?_
          clear hK K
          refine wpOrdT_forks (by rfl) (by rfl) (fun K hK => ?_) (fun K hK => ?_)
          · go_simp
            go_at_call 134
            refine (trimO_c _ u5 _ w5 o5 HL12.out.1).mono ?_
            rintro e w6 ⟨u6, rfl, o6, hxw6⟩
            replace hE := hE.trans hxw6
            replace o5 := OwnInts.ext o5 hxw6
            have hsw6 := hxw6.size
            refine hK (Ext X) _ _ (fun _ h => h) hE ?_
            clear hK K
            refine wpOrdT_forks (by rfl) (by rfl) (fun K hK => ?_) (fun K hK => ?_)
            · go_simp
              go_at_call 92
              refine (cloneO_c _ (L.drop n) w6 (hld4.ext hE) HF.out.2 HL12.out.2).mono ?_
              rintro e w7 ⟨u7, rfl, o7, hxw7⟩
              replace hE := hE.trans hxw7
              replace o5 := OwnInts.ext o5 hxw7
              replace o6 := OwnInts.ext o6 hxw7
              have hsw7 := hxw7.size
              refine hK (Ext X) _ _ (fun _ h => h) hE ?_
              clear hK K
              refine wpOrdT_forks (by rfl) (by rfl) (fun K hK => ?_) (fun K hK => ?_)
              · go_simp
                go_at_call 134
                refine (trimO_c _ u7 _ w7 o7 HL12.out.2).mono ?_
                rintro e w8 ⟨u8, rfl, o8, hxw8⟩
                replace hE := hE.trans hxw8
                replace o5 := OwnInts.ext o5 hxw8
                replace o6 := OwnInts.ext o6 hxw8
                replace o7 := OwnInts.ext o7 hxw8
                have hsw8 := hxw8.size
                refine hK (Ext X) _ _ (fun _ h => h) hE ?_
                clear hK K
                obtain ⟨A6, k6, rfl, _, _⟩ := id o6.ints.form
                obtain ⟨A8, k8, rfl, _, _⟩ := id o8.ints.form
                iterate 1 (refine wpOrdT_read (v := ?_) (by rfl) (Or.inl ⟨by rfl, fun x hx => ?_⟩) ?_; rotate_left; (· go_simp; try with_reducible rfl); try simp only [Act.put, List.setIfInBounds_toArray, List.set_cons_zero, List.set_cons_succ])
                refine wpOrdT_keep (by rfl) (fun K hK => ?_)
                go_simp
                refine hK _ _ (hE.trans (Ext.alloc _ _)) ?_
                clear hK K
                refine wpOrdT_done ?_
                try simp only [List.drop_succ_cons, List.drop_zero]
                go_wp2_with fail
                go_meet
                exact CutK.late (e0.trans hE) o6 o8 (by omega) (by omega)
              · go_simp
                refine hK (Ext X) _ _ (fun _ h => h) (hE.trans (Ext.alloc _ _)) ?_
                clear hK K
                obtain ⟨gA, hgA⟩ : ∃ z, w7.heap.size = z := ⟨_, rfl⟩
                obtain ⟨wA, hwA⟩ : ∃ z, z = w7.alloc (.cells #[.int .i64 0, .slice none 0 0, .slice none 0 0] 29) := ⟨_, rfl⟩
                have hxA : Ext w7 wA := by rw [hwA]; exact Ext.alloc _ _
                have bZ : Blk wA gA 29 #[.int .i64 0, .slice none 0 0, .slice none 0 0] := by rw [hwA]; exact Blk.new _ _ _ _ hgA
                have hsA := hxA.size
                rw [← hwA]
                try rw [hgA]
                clear hwA
                replace hE := hE.trans hxA
                replace o5 := OwnInts.ext o5 hxA
                replace o6 := OwnInts.ext o6 hxA
                replace o7 := OwnInts.ext o7 hxA
                refine wpOrdT_keep (by rfl) (fun K hK => ?_)
                go_simp
                go_at_call 134
                refine (trimO_c _ u7 _ wA o7 HL12.out.2).mono ?_
                rintro e w8 ⟨u8, rfl, o8, hxw8⟩
                replace hE := hE.trans hxw8
                replace o5 := OwnInts.ext o5 hxw8
                replace o6 := OwnInts.ext o6 hxw8
                replace o7 := OwnInts.ext o7 hxw8
                have hsw8 := hxw8.size
                replace bZ := bZ.ext hxw8
                refine hK _ _ hE ?_
                clear hK K
                obtain ⟨A6, k6, rfl, _, _⟩ := id o6.ints.form
                obtain ⟨A8, k8, rfl, _, _⟩ := id o8.ints.form
                iterate 1 (refine wpOrdT_read (v := ?_) (by rfl) (Or.inl ⟨by rfl, fun x hx => ?_⟩) ?_; rotate_left; (· go_simp; try with_reducible rfl); try simp only [Act.put, List.setIfInBounds_toArray, List.set_cons_zero, List.set_cons_succ])
                refine wpOrdT_done ?_
                try simp only [List.drop_succ_cons, List.drop_zero]
                have z0 := bZ.cell
                have z1 := bZ.frozen
                go_wp2_with fail
                go_meet
                exact CutK.early (e0.trans hE) o6 o8 (by omega) (by omega) bZ (by omega)
            · go_simp
              refine hK (Ext X) _ _ (fun _ h => h) (hE.trans (Ext.alloc _ _)) ?_
              clear hK K
              obtain ⟨gA, hgA⟩ : ∃ z, w6.heap.size = z := ⟨_, rfl⟩
              obtain ⟨wA, hwA⟩ : ∃ z, z = w6.alloc (.cells #[.int .i64 0, .slice none 0 0, .slice none 0 0] 29) := ⟨_, rfl⟩
              have hxA : Ext w6 wA := by rw [hwA]; exact Ext.alloc _ _
              have bZ : Blk wA gA 29 #[.int .i64 0, .slice none 0 0, .slice none 0 0] := by rw [hwA]; exact Blk.new _ _ _ _ hgA
              have hsA := hxA.size
              rw [← hwA]
              try rw [hgA]
              clear hwA
              replace hE := hE.trans hxA
              replace o5 := OwnInts.ext o5 hxA
              replace o6 := OwnInts.ext o6 hxA
              refine wpOrdT_keep (by rfl) (fun K hK => ?_)
              go_simp
              go_at_call 92
              refine (cloneO_c _ (L.drop n) wA (hld4.ext hE) HF.out.2 HL12.out.2).mono ?_
              rintro e w7 ⟨u7, rfl, o7, hxw7⟩
              replace hE := hE.trans hxw7
              replace o5 := OwnInts.ext o5 hxw7
              replace o6 := OwnInts.ext o6 hxw7
              have hsw7 := hxw7.size
              replace bZ := bZ.ext hxw7
              refine hK _ _ hE ?_
              clear hK K
              refine wpOrdT_keep (by rfl) (fun K hK => ?_)
              go_simp
              go_at_call 134
              refine (trimO_c _ u7 _ w7 o7 HL12.out.2).mono ?_
              rintro e w8 ⟨u8, rfl, o8, hxw8⟩
              replace hE := hE.trans hxw8
              replace o5 := OwnInts.ext o5 hxw8
              replace o6 := OwnInts.ext o6 hxw8
              replace o7 := OwnInts.ext o7 hxw8
              have hsw8 := hxw8.size
              replace bZ := bZ.ext hxw8
              refine hK _ _ hE ?_
              clear hK K
              obtain ⟨A6, k6, rfl, _, _⟩ := id o6.ints.form
              obtain ⟨A8, k8, rfl, _, _⟩ := id o8.ints.form
              iterate 1 (refine wpOrdT_read (v := ?_) (by rfl) (Or.inl ⟨by rfl, fun x hx => ?_⟩) ?_; rotate_left; (· go_simp; try with_reducible rfl); try simp only [Act.put, List.setIfInBounds_toArray, List.set_cons_zero, List.set_cons_succ])
              refine wpOrdT_done ?_
              try simp only [List.drop_succ_cons, List.drop_zero]
              have z0 := bZ.cell
              have z1 := bZ.frozen
              go_wp2_with fail
              go_meet
              exact CutK.early (e0.trans hE) o6 o8 (by omega) (by omega) bZ (by omega)
          · go_simp
            refine hK (Ext X) _ _ (fun _ h => h) (hE.trans (Ext.alloc _ _)) ?_
            clear hK K
            obtain ⟨gA, hgA⟩ : ∃ z, w5.heap.size = z := ⟨_, rfl⟩
            obtain ⟨wA, hwA⟩ : ∃ z, z = w5.alloc (.cells #[.int .i64 0, .slice none 0 0, .slice none 0 0] 29) := ⟨_, rfl⟩
            have hxA : Ext w5 wA := by rw [hwA]; exact Ext.alloc _ _
            have bZ : Blk wA gA 29 #[.int .i64 0, .slice none 0 0, .slice none 0 0] := by rw [hwA]; exact Blk.new _ _ _ _ hgA
            have hsA := hxA.size
            rw [← hwA]
            try rw [hgA]
            clear hwA
            replace hE := hE.trans hxA
            replace o5 := OwnInts.ext o5 hxA
            refine wpOrdT_keep (by rfl) (fun K hK => ?_)
            go_simp
            go_at_call 134
            refine (trimO_c _ u5 _ wA o5 HL12.out.1).mono ?_
            rintro e w6 ⟨u6, rfl, o6, hxw6⟩
            replace hE := hE.trans hxw6
            replace o5 := OwnInts.ext o5 hxw6
            have hsw6 := hxw6.size
            replace bZ := bZ.ext hxw6
            refine hK _ _ hE ?_
            clear hK K
            refine wpOrdT_keep (by rfl) (fun K hK => ?_)
            go_simp
            go_at_call 92
            refine (cloneO_c _ (L.drop n) w6 (hld4.ext hE) HF.out.2 HL12.out.2).mono ?_
            rintro e w7 ⟨u7, rfl, o7, hxw7⟩
            replace hE := hE.trans hxw7
            replace o5 := OwnInts.ext o5 hxw7
            replace o6 := OwnInts.ext o6 hxw7
            have hsw7 := hxw7.size
            replace bZ := bZ.ext hxw7
            refine hK _ _ hE ?_
            clear hK K
            refine wpOrdT_keep (by rfl) (fun K hK => ?_)
            go_simp
            go_at_call 134
            refine (trimO_c _ u7 _ w7 o7 HL12.out.2).mono ?_
            rintro e w8 ⟨u8, rfl, o8, hxw8⟩
            replace hE := hE.trans hxw8
            replace o5 := OwnInts.ext o5 hxw8
            replace o6 := OwnInts.ext o6 hxw8
            replace o7 := OwnInts.ext o7 hxw8
            have hsw8 := hxw8.size
            replace bZ := bZ.ext hxw8
            refine hK _ _ hE ?_
            clear hK K
            obtain ⟨A6, k6, rfl, _, _⟩ := id o6.ints.form
            obtain ⟨A8, k8, rfl, _, _⟩ := id o8.ints.form
            iterate 1 (refine wpOrdT_read (v := ?_) (by rfl) (Or.inl ⟨by rfl, fun x hx => ?_⟩) ?_; rotate_left; (· go_simp; try with_reducible rfl); try simp only [Act.put, List.setIfInBounds_toArray, List.set_cons_zero, List.set_cons_succ])
            refine wpOrdT_done ?_
            try simp only [List.drop_succ_cons, List.drop_zero]
            have z0 := bZ.cell
            have z1 := bZ.frozen
            go_wp2_with fail
            go_meet
            exact CutK.early (e0.trans hE) o6 o8 (by omega) (by omega) bZ (by omega)
        · go_simp
          refine hK (Ext X) _ _ (fun _ h => h) (hE.trans (Ext.alloc _ _)) ?_
          clear hK K
          obtain ⟨gA, hgA⟩ : ∃ z, X.heap.size = z := ⟨_, rfl⟩
          obtain ⟨wA, hwA⟩ : ∃ z, z = X.alloc (.cells #[.int .i64 0, .slice none 0 0, .slice none 0 0] 29) := ⟨_, rfl⟩
          have hxA : Ext X wA := by rw [hwA]; exact Ext.alloc _ _
          have bZ : Blk wA gA 29 #[.int .i64 0, .slice none 0 0, .slice none 0 0] := by rw [hwA]; exact Blk.new _ _ _ _ hgA
          have hsA := hxA.size
          rw [← hwA]
          try rw [hgA]
          clear hwA
          replace hE := hE.trans hxA
          refine wpOrdT_keep (by rfl) (fun K hK => ?_)
          go_simp
          go_at_call 102
          refine (reversed_c _ (L.take n) wA (hlt4.ext hE) HF.out.1 (by simp; omega)).mono ?_
          rintro e w5 ⟨u5, rfl, o5, hxw5⟩
          replace hE := hE.trans hxw5
          have hsw5 := hxw5.size
          replace bZ := bZ.ext hxw5
          refine hK _ _ hE ?_
          clear hK K
          refine wpOrdT_keep (by rfl) (fun K hK => ?_)
          go_simp
          go_at_call 134
          refine (trimO_c _ u5 _ w5 o5 HL12.out.1).mono ?_
          rintro e w6 ⟨u6, rfl, o6, hxw6⟩
          replace hE := hE.trans hxw6
          replace o5 := OwnInts.ext o5 hxw6
          have hsw6 := hxw6.size
          replace bZ := bZ.ext hxw6
          refine hK _ _ hE ?_
          clear hK K
          refine wpOrdT_keep (by rfl) (fun K hK => ?_)
          go_simp
          go_at_call 92
          refine (cloneO_c _ (L.drop n) w6 (hld4.ext hE) HF.out.2 HL12.out.2).mono ?_
          rintro e w7 ⟨u7, rfl, o7, hxw7⟩
          replace hE := hE.trans hxw7
          replace o5 := OwnInts.ext o5 hxw7
          replace o6 := OwnInts.ext o6 hxw7
          have hsw7 := hxw7.size
          replace bZ := bZ.ext hxw7
          refine hK _ _ hE ?_
          clear hK K
          refine wpOrdT_keep (by rfl) (fun K hK => ?_)
          go_simp
          go_at_call 134
          refine (trimO_c _ u7 _ w7 o7 HL12.out.2).mono ?_
          rintro e w8 ⟨u8, rfl, o8, hxw8⟩
          replace hE := hE.trans hxw8
          replace o5 := OwnInts.ext o5 hxw8
          replace o6 := OwnInts.ext o6 hxw8
          replace o7 := OwnInts.ext o7 hxw8
          have hsw8 := hxw8.size
          replace bZ := bZ.ext hxw8
          refine hK _ _ hE ?_
          clear hK K
          obtain ⟨A6, k6, rfl, _, _⟩ := id o6.ints.form
          obtain ⟨A8, k8, rfl, _, _⟩ := id o8.ints.form
          iterate 1 (refine wpOrdT_read (v := ?_) (by rfl) (Or.inl ⟨by rfl, fun x hx => ?_⟩) ?_; rotate_left; (· go_simp; try with_reducible rfl); try simp only [Act.put, List.setIfInBounds_toArray, List.set_cons_zero, List.set_cons_succ])
          refine wpOrdT_done ?_
          try simp only [List.drop_succ_cons, List.drop_zero]
          have z0 := bZ.cell
          have z1 := bZ.frozen
          go_wp2_with fail
          go_meet
          exact CutK.early (e0.trans hE) o6 o8 (by omega) (by omega) bZ (by omega)
      case rest =>
        rename World => wS
        obtain ⟨g1, lv, rvv, bl, br, rfl, bC, hxS, hg1, oL, oR, hbl, hbr⟩ := hcut
        obtain ⟨AL, kL, rfl, _, _⟩ := id oL.ints.form
        obtain ⟨AR, kR, rfl, _, _⟩ := id oR.ints.form
        have k0 := bC.cell 0
        have k1 := bC.cell 1
        have k2 := bC.cell 2
        simp only [List.getElem?_toArray, List.getElem?_cons_zero, List.getElem?_cons_succ] at k0 k1 k2
        have RM := roomy_c f.q AL AR (trim (L.take n).reverse).length kL (trim (L.drop n)).length kR wS
        obtain ⟨bb, hbb⟩ : ∃ b, (decide ((trim (L.take n).reverse).length ≤ 200) && decide ((trim (L.drop n)).length ≤ 200)) = b := ⟨_, rfl⟩
        rw [hbb] at RM
        have hRR : Hid (roomR (foCfg f.q (tapeO f cs) (headO f cs)) = if bb = true then (⟨f.q, trim (L.take n).reverse, trim (L.drop n)⟩, 0) else (blankC, 5)) := Lib.hid (by
          rw [hCF.out]
          unfold roomR
          rw [hbb])
        have HB := Lib.hid hbb
        clear hbb hld4 hlt4 hiL d0
        go_wp2_with fail
        refine RM.mono ?_
        rintro e w9 ⟨rfl, hx9⟩
        have k0 := hx9.cell k0
        have k1 := hx9.cell k1
        have k2 := hx9.cell k2
        have hXo : Ext w w9 := HX.out.trans (hxr.trans (hxS.trans hx9))
        have bo9 := HBO.out.ext (hxr.trans (hxS.trans hx9))
        have ob := bo9.cell
        have of_ := bo9.frozen
        have hgo : w.heap.size ≤ g + 1 + 1 := by rw [HG.out]; omega
        have oL9 := oL.ext hx9
        have oR9 := oR.ext hx9
        have HOL9 := Lib.hid oL9
        have HOR9 := Lib.hid oR9
        have HXO := Lib.hid hXo
        clear oL oR oL9 oR9 hXo RM
        cases bb with
        | true =>
          have HRR := hRR.out
          rw [if_pos rfl] at HRR
          go_wp2
          exact bodyPost_ret (v := .tuple #[.agg #[.int .i64 f.q, .slice AL (trim (L.take n).reverse).length kL, .slice AR (trim (L.drop n)).length kR], .int .i64 0]) (by simp [results, Tryz.results75, go_sem, ob]) rfl
            (by rw [HRR]; exact SpecRes.done (r := (⟨f.q, trim (L.take n).reverse, trim (L.drop n)⟩, 0)) (base := 0) hgo HXO.out (ownsRow_base HOL9.out (Nat.zero_le _)) (ownsRow_base HOR9.out (Nat.zero_le _)) (fun p hp e => blk_ne_row bo9 HOL9.out (by decide) (by rw [e] at hp; exact hp.symm)) (fun p hp e => blk_ne_row bo9 HOR9.out (by decide) (by rw [e] at hp; exact hp.symm)) _ _ _)
        | false =>
          have HRR := hRR.out
          rw [if_neg (by simp)] at HRR
          go_wp2
          exact bodyPost_ret (v := .tuple #[.agg #[.int .i64 0, .slice none 0 0, .slice none 0 0], .int .i64 5]) (by simp [results, Tryz.results75, go_sem, ob]) rfl (by rw [HRR]; exact SpecRes.none hgo HXO.out _ _ _)
end Go.Proofs.YtojiammendjpkaaGreat
end
section
set_option linter.unusedSimpArgs false
set_option linter.unusedVariables false
namespace Go.Proofs.YtojiammendjpkaaGreat
open Go Go.RowKit Go.Proofs
set_option maxHeartbeats 400000
theorem spec_back {w V w1 : World} {r : ConfD × Int} {lv rv : Value} {b base : Nat} (hV : Ext w V) (hb : w.heap.size ≤ b) (hx : Ext V w1) (h1 : OwnInts base w1 lv r.1.l) (h2 : OwnInts base w1 rv r.1.r) {cs : Array Value} (hB : Blk w1 b 29 cs) (x y z : Value) :
    SpecRes w r (.returned (.tuple #[.agg #[.int .i64 r.1.q, lv, rv], .int .i64 r.2])) (((w1.setCell ⟨b, 0, none⟩ x).setCell ⟨b, 1, none⟩ y).setCell ⟨b, 2, none⟩ z) :=
  SpecRes.done hb (hV.trans hx) h1 h2 (fun p hp e => blk_ne_row hB h1 (by decide) (by rw [e] at hp; exact hp.symm)) (fun p hp e => blk_ne_row hB h2 (by decide) (by rw [e] at hp; exact hp.symm)) x y z
set_option maxRecDepth 20000 in
set_option maxHeartbeats 8000000 in
theorem FormulaAt_c (m : MachD) (mv wv rv ov cv : Value) (f : FoD) (cs : List Int) (w : World) (h : FoV w (.agg #[.int .i64 f.q, .int .i64 f.hd, .int .i64 f.at_, wv, rv, ov]) f wv rv ov) (hc : Ints w cv cs) (hm : machOk m = true) (hrm : Rules w mv m.rules) (hok : foOk m f = true) (hs : ShapeF f cs) (hp : ∀ k, k < f.rs.length → 1 ≤ cs.getD k 0 + f.os.getD k 0) (hcb : ∀ z ∈ cs, 0 ≤ z ∧ z ≤ 64) :
    Calls Tryz.prog 24 #[.agg #[.int .i64 m.sy, .int .i64 m.st, mv], .agg #[.int .i64 f.q, .int .i64 f.hd, .int .i64 f.at_, wv, rv, ov], cv] w (SpecRes w (roomR (foCfg f.q (tapeO f cs) (headO f cs)))) := by
  obtain ⟨hr3, hws, hos, hwl, hrl, hol, hatk⟩ := foOk_parts hok
  have hcb2 : ∀ k, 0 ≤ cs.getD k 0 ∧ cs.getD k 0 ≤ 2000 := fun k => by
    rw [List.getD_eq_getElem?_getD]
    cases e : cs[k]? with
    | none => exact ⟨Int.le_refl _, by decide⟩
    | some x => have := hcb x (List.mem_of_getElem? e); exact ⟨this.1, by show x ≤ 2000; omega⟩
  have hp2 : ∀ k, k < f.rs.length → 1 ≤ cs.getD k 0 + f.os.getD k 0 ∧ cs.getD k 0 + f.os.getD k 0 ≤ 4000 := fun k hk => by
    have a := hp k hk
    have b := hcb2 k
    have c : f.os.getD k 0 ≤ 1000 := by rw [getD_get (show k < f.os.length by omega)]; exact (hol _ (List.getElem_mem _)).2
    omega
  have hall : (cs.all fun z => inB z 0 64) = true := List.all_eq_true.2 (fun z hz => inB_iff.2 (hcb z hz))
  have FA := fun w' (hx : Ext w w') => formulaAt_c m mv _ wv rv ov cv f cs w' (h.ext hx) (hc.ext hx) hok hs hp2 hcb2
  have VF := fun w' (hx : Ext w w') => ValidFormula_c m _ _ wv rv ov f w' ⟨_, rfl, hrm.ext hx⟩ (h.ext hx) (by omega) hm
  rw [hok] at VF
  obtain ⟨rr, hrr⟩ : ∃ r, roomR (foCfg f.q (tapeO f cs) (headO f cs)) = r := ⟨_, rfl⟩
  rw [hrr] at FA ⊢
  have h1 := h.ws
  have h2 := h.rs
  have h3 := h.os
  obtain ⟨A, cA, rfl, _, _⟩ := h1.form
  obtain ⟨B, cB, rfl, _, _⟩ := h2.form
  obtain ⟨C, cC, rfl, _, _⟩ := h3.form
  obtain ⟨D, cD, rfl, _, _⟩ := hc.form
  obtain ⟨Am, cm, rfl, _, _⟩ := hrm.form
  obtain ⟨V, hV⟩ : ∃ V, V = ((w.alloc (.cells #[.int .i64 m.sy, .int .i64 m.st, .slice Am m.rules.length cm] 26)).alloc (.cells #[.int .i64 f.q, .int .i64 f.hd, .int .i64 f.at_, .slice A f.ws.length cA, .slice B f.rs.length cB, .slice C f.os.length cC] 49)).alloc (.cells #[.int .i64 0, .slice none 0 0, .slice none 0 0] 29) := ⟨_, rfl⟩
  have hX : Ext w V := by rw [hV]; exact ((Ext.alloc _ _).trans (Ext.alloc _ _)).trans (Ext.alloc _ _)
  obtain ⟨g, hg⟩ : ∃ g, w.heap.size = g := ⟨_, rfl⟩
  have bM : Blk V g 26 #[.int .i64 m.sy, .int .i64 m.st, .slice Am m.rules.length cm] := by rw [hV]; exact ((Blk.new _ _ _ _ hg).alloc _).alloc _
  have bf : Blk V (g + 1) 49 #[.int .i64 f.q, .int .i64 f.hd, .int .i64 f.at_, .slice A f.ws.length cA, .slice B f.rs.length cB, .slice C f.os.length cC] := by rw [hV]; exact (Blk.new _ _ _ _ (by simp [hg])).alloc _
  have bo : Blk V (g + 1 + 1) 29 #[.int .i64 0, .slice none 0 0, .slice none 0 0] := by rw [hV]; exact Blk.new _ _ _ _ (by simp [hg])
  have VF0 := VF V hX
  have HFA := Lib.hid FA
  have HX := Lib.hid hX
  have HBF := Lib.hid bf
  have HBM := Lib.hid bM
  have HBO := Lib.hid bo
  have HG := Lib.hid hg
  have HC := Lib.hid hc
  have H3 := Lib.hid h3
  have HP := Lib.hid hp
  have HS := Lib.hid hs
  have HOL := Lib.hid hol
  have HCB := Lib.hid hcb
  have HAL := Lib.hid hall
  have hR1 : 1 ≤ f.rs.length := hr3.1
  have HOS := Lib.hid hos
  have m0 := bM.cell 0
  have m1 := bM.cell 1
  have m2 := bM.cell 2
  have f0 := bf.cell 0
  have f1 := bf.cell 1
  have f2 := bf.cell 2
  have f3 := bf.cell 3
  have f4 := bf.cell 4
  have f5 := bf.cell 5
  simp only [List.getElem?_toArray, List.getElem?_cons_zero, List.getElem?_cons_succ] at m0 m1 m2 f0 f1 f2 f3 f4 f5
  clear h h1 h2 h3 hc hrm hs hp hcb hcb2 hp2 hall FA VF hX bM bf bo hwl hrl hol hatk hws hok hrr hos
  go_enter Tryz.func24, Tryz.ntmps24
  go_wp2_with fail
  try rw [← hV]
  try rw [hg]
  clear hV hg
  refine VF0.mono ?_
  rintro e w1 ⟨rfl, hx1⟩
  clear VF0
  have hX1 : Ext w w1 := HX.out.trans hx1
  have m0 := hx1.cell m0
  have m1 := hx1.cell m1
  have m2 := hx1.cell m2
  have f0 := hx1.cell f0
  have f1 := hx1.cell f1
  have f2 := hx1.cell f2
  have f3 := hx1.cell f3
  have f4 := hx1.cell f4
  have f5 := hx1.cell f5
  have AW := allWithin_c (.slice D cs.length cD) cs 0 64 w1 (HC.out.ext hX1)
  rw [HAL.out] at AW
  have hcn : cs.length = f.rs.length := HS.out.cn
  have hne : ((cs.length : Int) != (f.rs.length : Int)) = false := by simp [hcn]
  have hne2 : (cs.length : Int) = (f.rs.length : Int) := by omega
  have HX1 := Lib.hid hX1
  have HCN := Lib.hid hcn
  clear hcn hX1
  go_wp2_with fail
  refine AW.mono ?_
  rintro e w2 ⟨rfl, rfl⟩
  clear AW hne hne2
  go_wp2_with fail
  go_loopw [29] (fun u wr => ∃ k : Nat, k ≤ cs.length ∧ u = .int .i64 (k : Int) ∧ w1 = wr) (fun u _ => cs.length - (intOf u).toNat)
  case atStart => exact ⟨0, Nat.zero_le _, rfl, rfl⟩
  case round =>
    obtain ⟨k, hk, rfl, rfl⟩ := hrel
    by_cases hlt : k < cs.length
    · have hdl : decide ((k : Int) < (cs.length : Int)) = true := decide_eq_true (by omega)
      have hko : k < f.os.length := by rw [HOS.out, ← HCN.out]; exact hlt
      obtain ⟨b4, off4, hD4, c4⟩ := Ints.at (HC.out.ext HX1.out) hlt
      subst hD4
      obtain ⟨b3, off3, hC3, c3⟩ := Ints.at (H3.out.ext HX1.out) hko
      subst hC3
      replace c4 := c4 k hlt
      replace c3 := c3 k hko
      have hpk := HP.out k (by rw [← HCN.out]; exact hlt)
      rw [getD_get hlt, getD_get hko] at hpk
      have hc64 := HCB.out _ (List.getElem_mem hlt)
      have ho64 := HOL.out _ (List.getElem_mem hko)
      obtain ⟨zc, hzc⟩ : ∃ z, cs[k] = z := ⟨_, rfl⟩
      obtain ⟨zo, hzo⟩ : ∃ z, f.os[k] = z := ⟨_, rfl⟩
      rw [hzc] at c4 hpk hc64
      rw [hzo] at c3 hpk ho64
      clear hzc hzo
      have hwz : IntKind.i64.wrap (zc + zo) = zc + zo := IntWalk.i64_in _ (by omega)
      have hng : ¬ zc + zo < 0 := by omega
      have hng2 : decide (zc + zo < 0) = false := decide_eq_false hng
      go_wp2
      go_roundw
      case rel => exact ⟨k + 1, by omega, by go_num, by first | rfl | trivial⟩
      case measure => simp [intOf]; omega
    · have hdl : decide ((k : Int) < (cs.length : Int)) = false := decide_eq_false (by omega)
      have FA1 := HFA.out w1 HX1.out
      go_wp2_with fail
      refine FA1.mono ?_
      rintro e w3 ⟨⟨lv, rvv, base, rfl, o1, o2⟩, hx3⟩
      have bo3 := HBO.out.ext (hx1.trans hx3)
      have ob := bo3.cell
      have of_ := bo3.frozen
      have hgo : w.heap.size ≤ g + 1 + 1 := by rw [HG.out]; omega
      have hX3 := HX1.out
      obtain ⟨A1, c1, rfl, _, _⟩ := id o1.ints.form
      obtain ⟨A2, c2, rfl, _, _⟩ := id o2.ints.form
      have HO1 := Lib.hid o1
      have HO2 := Lib.hid o2
      clear o1 o2 FA1
      go_wp2
      exact bodyPost_ret (v := .tuple #[.agg #[.int .i64 rr.1.q, .slice A1 rr.1.l.length c1, .slice A2 rr.1.r.length c2], .int .i64 rr.2]) (by simp [results, Tryz.results24, go_sem, ob]) rfl (spec_back hX3 hgo hx3 HO1.out HO2.out bo3 _ _ _)
end Go.Proofs.YtojiammendjpkaaGreat
end
section
set_option linter.unusedSimpArgs false
set_option linter.unusedVariables false
namespace Go.Proofs.YtojiammendjpkaaGreat
open Go Go.RowKit Go.Proofs
set_option maxHeartbeats 400000
abbrev QCalF (f : FuncId) (args : Array Value) (W : World) (v : Value) : Prop := ∀ (d : Nat) (os : Array Obj), Calls Tryz.prog f args (Sort.grow (redrawn W d) os) fun e w'' => e = .returned v ∧ ∃ p : Regrown, w'' = Sort.grow (redrawn W p.d) p.os
end Go.Proofs.YtojiammendjpkaaGreat
end
