/- Plain words and contracts on configurations that calls have made.
Contracts: the code for arguments, the text of a configuration of the program, and the text for which a folded configuration stands. -/
import Derived.Test.YtjcfmlecfjmcgaaGreatDoorS19
import Derived.Test.YtjcfmlecfjmcgaaGreatDoorS37
import Derived.Test.YtjcfmlecfjmcgaaGreatDoorS21
import Derived.Test.YtjcfmlecfjmcgaaGreatDoorS33
import Derived.Test.YtjcfmlecfjmcgaaGreatDoorS36
import Derived.Test.YtjcfmlecfjmcgaaGreatDoorS30
import Derived.Test.YtjcfmlecfjmcgaaGreatDoorS26
import Derived.Test.YtjcfmlecfjmcgaaGreatDoorS25
import Derived.Test.YtjcfmlecfjmcgaaGreatDoorS07
import Derived.Test.YtjcfmlecfjmcgaaGreatDoorS22
section
set_option linter.unusedSimpArgs false
set_option linter.unusedVariables false
namespace Go.Proofs.YtjcfmlecfjmcgaaGreatDoor
open Go Go.RowKit Go.Proofs
set_option maxHeartbeats 400000
theorem unfD_len (q : Int) (D : List Int) (k : Nat) : (unfD q D k).1.l.length ≤ 200 ∧ (unfD q D k).1.r.length ≤ 200 := by
  unfold unfD
  split
  · rename_i h
    simp only [Bool.and_eq_true, decide_eq_true_eq] at h
    exact ⟨by simp only; omega, by simp only; omega⟩
  · simp [blankC]
theorem decAll_len (m : MachD) (c : ConfD) : (decAll m c).1.l.length ≤ 200 ∧ (decAll m c).1.r.length ≤ 200 := by
  have hb : ∀ k : Int, ((blankC, k) : ConfD × Int).1.l.length ≤ 200 ∧ ((blankC, k) : ConfD × Int).1.r.length ≤ 200 := fun k => by simp [blankC]
  unfold decAll decP
  repeat' split
  all_goals first | exact unfD_len _ _ _ | exact hb _
theorem ToConf (w : World) (q : Int) (lv rv : Value) (c : ConfD) (h1 : Ints w lv c.l) (h2 : Ints w rv c.r) : Conf w (.agg #[.int .i64 c.q, lv, rv]) c := ⟨_, _, rfl, h1, h2⟩
/-- A configuration that a call has made. -/
def MadeConf (base : Nat) (w : World) (v : Value) (c : ConfD) : Prop := ∃ lv rv, v = .agg #[.int .i64 c.q, lv, rv] ∧ OwnInts base w lv c.l ∧ OwnInts base w rv c.r ∧ (∀ g, lv.ownBlock = some g → rv.ownBlock ≠ some g)
theorem toConfigM_c (v : Value) (p : ConfD) (w : World) (h : Conf w v p) (hn : p.l.length + p.r.length ≤ 1048576) :
    Calls Tryz.prog 8 #[v] w fun e w' => ∃ u, e = .returned u ∧ MadeConf w.heap.size w' u p ∧ Ext w w' := by
  refine (toConfig_c v p w h hn).mono ?_
  rintro e w' ⟨nv, wv, rfl, h1, h2, h3, h4⟩
  exact ⟨_, rfl, ⟨_, _, rfl, h1, h2, h3⟩, h4⟩
theorem MadeConf.ext {base : Nat} {w w' : World} {u : Value} {c : ConfD} (h : MadeConf base w u c) (he : Ext w w') : MadeConf base w' u c := by
  obtain ⟨lv, rv, e, h1, h2, h3⟩ := h
  exact ⟨lv, rv, e, h1.ext he, h2.ext he, h3⟩
theorem MadeConf.conf {base : Nat} {w : World} {u : Value} {c : ConfD} (h : MadeConf base w u c) : Conf w u c := by
  obtain ⟨lv, rv, e, h1, h2, h3⟩ := h
  exact ⟨lv, rv, e, h1.ints, h2.ints⟩
theorem Ext.set3 {w0 wC : World} {g : Nat} (hx : Ext w0 wC) (hg : w0.heap.size ≤ g) (x y z : Value) : Ext w0 (((wC.setCell ⟨g, 0, none⟩ x).setCell ⟨g, 1, none⟩ y).setCell ⟨g, 2, none⟩ z) :=
  ((hx.setCell hg _).setCell hg _).setCell hg _
end Go.Proofs.YtjcfmlecfjmcgaaGreatDoor
end
section
set_option linter.unusedSimpArgs false
set_option linter.unusedVariables false
namespace Go.Proofs.YtjcfmlecfjmcgaaGreatDoor
open Go Go.RowKit Go.Proofs
set_option maxHeartbeats 400000
def codeT (a b : Bool) : Int := if a then (if b then 0 else 2) else 1
theorem textsCode_c (a : Bool) (n : Int) (w : World) :
    Calls Tryz.prog 27 #[.bool a, .int .i64 n] w fun e w' => e = .returned (.int .i64 (codeT a (inB n 0 599))) ∧ w = w' := by
  have hW := within_c n 0 599 w
  generalize inB n 0 599 = b at *
  obtain ⟨k, hk⟩ : ∃ k, codeT a b = k := ⟨_, rfl⟩
  rw [hk]
  have HK := Lib.hid hk
  clear hk
  cases a with
  | false =>
    go_enter Tryz.func27, Tryz.ntmps27
    go_wp2
    go_ret
    exact ⟨by rw [← HK.out]; rfl, rfl⟩
  | true =>
    cases b with
    | false =>
      go_enter Tryz.func27, Tryz.ntmps27
      go_wp2_with fail
      refine hW.mono ?_
      rintro e w' ⟨rfl, rfl⟩
      go_wp2
      go_ret
      exact ⟨by rw [← HK.out]; rfl, rfl⟩
    | true =>
      go_enter Tryz.func27, Tryz.ntmps27
      go_wp2_with fail
      refine hW.mono ?_
      rintro e w' ⟨rfl, rfl⟩
      go_wp2
      go_ret
      exact ⟨by rw [← HK.out]; rfl, rfl⟩
/-- What a configuration must be for its text. -/
structure CDig (c : ConfD) : Prop where
  q0 : 0 ≤ c.q
  q9 : c.q ≤ 999
  l1 : c.l.length ≤ 200
  l2 : ∀ z ∈ c.l, 0 ≤ z ∧ z ≤ 9
  r1 : c.r.length ≤ 200
  r2 : ∀ z ∈ c.r, 0 ≤ z ∧ z ≤ 9
theorem CDig.of {m : MachD} {c : ConfD} (hm : machOk m = true) (hc : confB m c = true) : CDig c := by
  obtain ⟨⟨q0, q9⟩, ⟨l1, l2⟩, ⟨r1, r2⟩⟩ := conf_digs hm hc
  exact ⟨q0, q9, l1, l2, r1, r2⟩
set_option maxRecDepth 20000 in
set_option maxHeartbeats 4000000 in
theorem configText0_c (lv qv : Value) (c : ConfD) (w : World) (hl : Ints w lv c.l) (hq : Ints w qv c.r) (hc : CDig c) (hfl : Flat lv) (hT : Tab w) :
    Calls Tryz.prog 33 #[.agg #[.int .i64 c.q, lv, qv], .int .i64 0] w fun e w' => e = .returned (.string (bsS (confT c))) ∧ Ext w w' := by
  obtain ⟨Al, cl, rfl, _, _⟩ := hl.form
  obtain ⟨Aq, cq, rfl, _, _⟩ := hq.form
  obtain ⟨q0, q9, l1, l2, r1, r2⟩ := hc
  obtain ⟨W, hW⟩ : ∃ W, w.alloc (.cells #[.int .i64 c.q, .slice Al c.l.length cl, .slice Aq c.r.length cq] 37) = W := ⟨_, rfl⟩
  have hX : Ext w W := by rw [← hW]; exact Ext.alloc _ _
  have bC : Blk W w.heap.size 37 #[.int .i64 c.q, .slice Al c.l.length cl, .slice Aq c.r.length cq] := by rw [← hW]; exact Blk.new _ _ _ _ rfl
  have b0 := bC.cell 0
  have b1 := bC.cell 1
  have b2 := bC.cell 2
  simp only [List.getElem?_toArray, List.getElem?_cons_zero, List.getElem?_cons_succ] at b0 b1 b2
  have hXd := hX.trans (Ext.drew W)
  have b0 := (Ext.drew W).cell b0
  have b1 := (Ext.drew W).cell b1
  have b2 := (Ext.drew W).cell b2
  have hrv := reversed_c _ c.l W.drew (hl.ext hXd) hfl (by omega)
  have hsL : (bsS (digB c.l.reverse)).size ≤ 200 := by rw [bs_size]; simp [digB]; omega
  have hsR : (bsS (digB c.r)).size ≤ 200 := by rw [bs_size]; simp [digB]; omega
  have hsQ := itoaS_size (n := c.q) q0 (by omega)
  have hA := confT_app c
  have hdL : ∀ (v : Value) (w : World), Ints w v c.l.reverse → Calls Tryz.prog 66 #[v] w fun e w' => e = .returned (.string (bsS (digB c.l.reverse))) ∧ Ext w w' := fun v w h => digitsText_c v _ w h (fun z hz => l2 z (List.mem_reverse.1 hz)) (by simp; omega)
  have hdR : ∀ (v : Value) (w : World), Ints w v c.r → Calls Tryz.prog 66 #[v] w fun e w' => e = .returned (.string (bsS (digB c.r))) ∧ Ext w w' := fun v w h => digitsText_c v _ w h r2 (by omega)
  generalize bsS (digB c.l.reverse) = sL at *
  generalize bsS (digB c.r) = sR at *
  have HA := Lib.hid hA
  clear hA
  have n1 : ¬ 9223372036854775807 < sL.size + 1 := by omega
  have n2 : ¬ 9223372036854775807 < sL.size + 1 + (itoaS c.q).size := by omega
  have n3 : ¬ 9223372036854775807 < sL.size + 1 + (itoaS c.q).size + 1 := by omega
  have n4 : ¬ 9223372036854775807 < sL.size + 1 + (itoaS c.q).size + 1 + sR.size := by omega
  go_enter Tryz.func33, Tryz.ntmps33
  go_wp2_with fail
  try rw [hW]
  clear hW
  refine wp_region_ordT 14 (readsT [0, 1, 5, 6, 10, 11] (.stir 2 (.stir 3 (readsT [4] (.stir 7 (readsT [8, 9] (.stir 12 (readsT [13] .done)))))))) (by kernel_rfl) (by kernel_rfl) (fun _ _ _ _ _ h => h) ?_
  simp only [readsT]
  iterate 6 (refine wpOrdT_read (v := ?_) (by rfl) (Or.inl ⟨by rfl, fun x hx => ?_⟩) ?_; rotate_left; (· have a1 := hx.cell b0; have a2 := hx.cell b1; have a3 := hx.cell b2; go_simp; try with_reducible rfl); try simp only [Act.put, List.setIfInBounds_toArray, List.set_cons_zero, List.set_cons_succ])
  refine wpOrdT_keep (by rfl) (fun K hK => ?_)
  go_simp
  refine hrv.mono ?_
  rintro e w2 ⟨u, rfl, ho, hx2⟩
  obtain ⟨Au, cu, rfl, _, _⟩ := ho.ints.form
  rw [List.length_reverse] at *
  refine hK _ _ hx2 ?_
  clear hK K
  refine wpOrdT_keep (by rfl) (fun K hK => ?_)
  go_simp
  refine (hdL _ w2 (by simpa using ho.ints)).mono ?_
  rintro e w3 ⟨rfl, hx3⟩
  refine hK _ _ (hx2.trans hx3) ?_
  clear hK K
  refine wpOrdT_read (v := ?_) (by rfl) (Or.inl ⟨by rfl, fun x hx => ?_⟩) ?_
  rotate_left
  · go_simp; try with_reducible rfl
  try simp only [Act.put, List.setIfInBounds_toArray, List.set_cons_zero, List.set_cons_succ]
  refine wpOrdT_keep (by rfl) (fun K hK => ?_)
  go_simp
  refine (Decimal_c c.q w3 (by omega) (by omega) ((hT.ext hXd).ext (hx2.trans hx3))).mono ?_
  rintro e w4 ⟨rfl, hx4⟩
  refine hK _ _ ((hx2.trans hx3).trans hx4) ?_
  clear hK K
  refine wpOrdT_read (v := ?_) (by rfl) (Or.inl ⟨by rfl, fun x hx => ?_⟩) ?_
  rotate_left
  · go_simp; try with_reducible rfl
  try simp only [Act.put, List.setIfInBounds_toArray, List.set_cons_zero, List.set_cons_succ]
  refine wpOrdT_read (v := ?_) (by rfl) (Or.inl ⟨by rfl, fun x hx => ?_⟩) ?_
  rotate_left
  · go_simp; try with_reducible rfl
  try simp only [Act.put, List.setIfInBounds_toArray, List.set_cons_zero, List.set_cons_succ]
  refine wpOrdT_keep (by rfl) (fun K hK => ?_)
  go_simp
  refine (hdR _ w4 (hq.ext (hXd.trans ((hx2.trans hx3).trans hx4)))).mono ?_
  rintro e w5 ⟨rfl, hx5⟩
  refine hK _ _ (((hx2.trans hx3).trans hx4).trans hx5) ?_
  clear hK K
  refine wpOrdT_read (v := ?_) (by rfl) (Or.inl ⟨by rfl, fun x hx => ?_⟩) ?_
  rotate_left
  · go_simp; try with_reducible rfl
  try simp only [Act.put, List.setIfInBounds_toArray, List.set_cons_zero, List.set_cons_succ]
  refine wpOrdT_done ?_
  try simp only [List.drop_succ_cons, List.drop_zero]
  go_wp2
  go_ret
  exact ⟨by rw [← HA.out]; rfl, hXd.trans (((hx2.trans hx3).trans hx4).trans hx5)⟩
theorem configText1_c (lv qv : Value) (c : ConfD) (k : Int) (w : World) (hl : Ints w lv c.l) (hq : Ints w qv c.r) (hk : k ≠ 0) :
    Calls Tryz.prog 33 #[.agg #[.int .i64 c.q, lv, qv], .int .i64 k] w fun e w' => e = .returned (.string (bsS [])) ∧ Ext w w' := by
  obtain ⟨Al, cl, rfl, _, _⟩ := hl.form
  obtain ⟨Aq, cq, rfl, _, _⟩ := hq.form
  have hb : (k != 0) = true := by simp [hk]
  clear hk
  go_enter Tryz.func33, Tryz.ntmps33
  go_wp2
  go_ret
  exact ⟨rfl, Ext.alloc _ _⟩
theorem fnL_in {D : List Int} {p : Int} {B : Int} (hB : 0 ≤ B) (h : ∀ z ∈ D, 0 ≤ z ∧ z ≤ B) (f : Nat → Int) (n : Nat) : ∀ z ∈ trim (fnL (fun k => symZ D (f k)) n), 0 ≤ z ∧ z ≤ B := fun z hz =>
  fnL_all (f := fun k => symZ D (f k)) (n := n) (p := fun z => 0 ≤ z ∧ z ≤ B) (fun k => by
    unfold symZ
    rw [List.getD_eq_getElem?_getD]
    by_cases hl : idxZ (f k) - 1 < D.length
    · rw [List.getElem?_eq_getElem hl]; exact h _ (List.getElem_mem hl)
    · rw [List.getElem?_eq_none (by omega)]; exact ⟨Int.le_refl _, hB⟩) z (trim_mem hz)
/-- The configuration for which one stands can be shown. -/
theorem decP_dig {sy st : Int} {p : FP} {c : ConfD} (hp : POk st p) (hst : st ≤ 1000) (h1 : ∀ z ∈ c.l, 0 ≤ z ∧ z ≤ sy) (h2 : ∀ z ∈ c.r, 0 ≤ z ∧ z ≤ sy) (hs : 0 ≤ sy) (hs9 : sy ≤ 9) (hk : (decP sy p c).2 = 0) : CDig (decP sy p c).1 := by
  obtain ⟨_, _, q0, q1, _⟩ := hp
  have hD : ∀ z ∈ backD c, 0 ≤ z ∧ z ≤ sy := fun z hz => (back_mem.1 hz).elim (fun h => h1 z (List.dropLast_subset _ h)) (h2 z)
  have key : ∀ q D k, (0 ≤ q ∧ q < st) → (∀ z ∈ D, 0 ≤ z ∧ z ≤ sy) → (unfD q D k).2 = 0 → CDig (unfD q D k).1 := by
    intro q D k hq hD h
    have hln := unfD_len q D k
    unfold unfD at h hln ⊢
    split at h
    · rename_i h0
      rw [if_pos h0] at hln ⊢
      have a := fnL_in (p := 0) hs hD (fun i : Nat => plZ k - 1 - i) (D.length + 2)
      have b := fnL_in (p := 0) hs hD (fun i : Nat => plZ k + i) (D.length + 2)
      exact ⟨hq.1, by show q ≤ 999; omega, hln.1, fun z hz => by have := a z hz; omega, hln.2, fun z hz => by have := b z hz; omega⟩
    · simp at h
  rw [decP_alt] at hk ⊢
  split at hk
  · rename_i hf
    rw [if_pos hf]
    split at hk
    · rename_i hg
      rw [if_pos hg]
      refine key _ _ _ ?_ hD hk
      unfold stF at hf ⊢
      split
      · exact ⟨q0, q1⟩
      · split
        · exact ⟨q0, q1⟩
        · rename_i h3 h4; rw [if_neg h3, if_neg h4] at hf; simp at hf
    · simp at hk
  · simp at hk
/-- What the closure of FoldTexts needs of its variables. -/
structure FtEnv (w : World) (bv bp : Nat) (m : MachD) (s : List FP × List RuleD) : Prop where
  mac : ∃ rv, Blk w bv 35 #[.int .i64 m.sy, .int .i64 m.st, rv]
  ptr : ∃ bx base rv pv bm, Blk w bp 68 #[.pointer (some ⟨bx, 0, none⟩)] ∧ PlSt base w bx (m.sy + 1) s.1.length s.2 s.1 rv pv bm
theorem FtEnv.ext {w w' : World} {bv bp : Nat} {m : MachD} {s : List FP × List RuleD} (h : FtEnv w bv bp m s) (he : Ext w w') : FtEnv w' bv bp m s := by
  obtain ⟨⟨rv, h1⟩, bx, base, r2, pv, bm, h2, h3⟩ := h
  exact ⟨⟨rv, h1.ext he⟩, bx, base, r2, pv, bm, h2.ext he, h3.ext he⟩
theorem decAll_at {m : MachD} (hm : machOk m = true) {s : List FP × List RuleD} (hs : foldOf m = some s) {c : ConfD} (hc : confB (foldM m s) c = true) : decAll m c = decP m.sy (s.1.getD c.q.toNat ⟨0, 0, 0⟩) c := by
  unfold decAll
  rw [if_pos hm, hs]
  show (if confB (foldM m s) c then _ else _) = _
  rw [if_pos hc]
set_option maxRecDepth 20000 in
set_option maxHeartbeats 1000000 in
theorem foldText_c (bv bp : Nat) (m : MachD) (s : List FP × List RuleD) (c : ConfD) (lv qv : Value) (w : World) (hm : machOk m = true) (hs : foldOf m = some s) (hE : FtEnv w bv bp m s) (hc : confB (foldM m s) c = true) (hl : Ints w lv c.l) (hq : Ints w qv c.r) (fl : Flat lv) (fr : Flat qv) (hT : Tab w) :
    Calls Tryz.prog 32 #[.agg #[.int .i64 c.q, lv, qv], .pointer (some ⟨bv, 0, none⟩), .pointer (some ⟨bp, 0, none⟩)] w fun e w' => e = .returned (.string (bsS (txtF m c))) ∧ Ext w w' := by
  obtain ⟨Al, cl, rfl, _, _⟩ := hl.form
  obtain ⟨Aq, cq, rfl, _, _⟩ := hq.form
  obtain ⟨s1, s2, s3, s4, hrl⟩ := machOk_all hm
  have hd := decAll_at hm hs hc
  obtain ⟨⟨q0, q1⟩, ⟨b1, b2⟩, ⟨b3, b4⟩⟩ := conf_all hc
  obtain ⟨i, hi⟩ : ∃ i : Nat, c.q = i := ⟨c.q.toNat, by omega⟩
  have hil : i < s.1.length := by omega
  have hgd : s.1.getD c.q.toNat ⟨0, 0, 0⟩ = s.1[i] := by rw [hi, Int.toNat_natCast, List.getD_eq_getElem?_getD, List.getElem?_eq_getElem hil]; rfl
  rw [hgd] at hd
  have hdg := decP_dig (p := s.1[i]) (c := c) ((fold_ok hm hs).2 _ (List.getElem_mem hil)) s4 (fun z hz => by have := b2 z hz; omega) (fun z hz => by have := b4 z hz; omega) (sy := m.sy) (by omega) (by omega)
  have HTX : Hid (txtF m c = if (decP m.sy s.1[i] c).2 = 0 then confT (decP m.sy s.1[i] c).1 else []) := by unfold Hid txtF; rw [hd]
  obtain ⟨W, hW⟩ : ∃ W, w.alloc (.cells #[.int .i64 c.q, .slice Al c.l.length cl, .slice Aq c.r.length cq] 37) = W := ⟨_, rfl⟩
  have hX : Ext w W := by rw [← hW]; exact Ext.alloc _ _
  have bC : Blk W w.heap.size 37 #[.int .i64 c.q, .slice Al c.l.length cl, .slice Aq c.r.length cq] := by rw [← hW]; exact Blk.new _ _ _ _ rfl
  obtain ⟨⟨rv, bM⟩, bx, base, r2, pv, bm, bP, hst⟩ := hE.ext hX
  have hD := decodeFold_c base W m.sy m.st rv bx (m.sy + 1) s.1.length s.2 s.1 r2 pv bm c _ _ i s.1[i] hst hi (List.getElem?_eq_getElem hil) (hl.ext hX) (hq.ext hX) fl fr b1 b3 (fun z hz => by have := b2 z hz; omega) (fun z hz => by have := b4 z hz; omega) (by omega) (by omega)
  obtain ⟨R, hR⟩ : ∃ R, decP m.sy s.1[i] c = R := ⟨_, rfl⟩
  rw [hR] at hD HTX hdg
  rw [HTX.out]
  have HD := Lib.hid hD
  have HDG := Lib.hid hdg
  have HTW := Lib.hid (hT.ext hX)
  clear hD hdg hR hd hgd hi b2 b4 HTX hrl hst hl hq hE hT
  have m0 := bM.cell 0
  have m1 := bM.cell 1
  have m2 := bM.cell 2
  have p0 := bP.cell 0
  have c0 := bC.cell 0
  have c1 := bC.cell 1
  have c2 := bC.cell 2
  simp only [List.getElem?_toArray, List.getElem?_cons_zero, List.getElem?_cons_succ] at m0 m1 m2 p0 c0 c1 c2
  go_enter Tryz.func32, Tryz.ntmps32
  go_wp2_with fail
  try rw [hW]
  refine HD.out.mono ?_
  rintro e w1 ⟨l1, r1, rfl, o1, o2, _, hx1⟩
  obtain ⟨⟨q, L, R2⟩, k⟩ := R
  simp only at o1 o2 HDG
  by_cases hk : k = 0
  · subst hk
    have hcd := HDG.out rfl
    go_wp2_with fail
    refine (configText0_c l1 r1 ⟨q, L, R2⟩ w1 o1.ints o2.ints hcd o1.flat (HTW.out.ext hx1)).mono ?_
    rintro e w2 ⟨rfl, hx2⟩
    go_wp2
    go_ret
    exact ⟨by simp, (hX.trans hx1).trans hx2⟩
  · go_wp2_with fail
    refine (configText1_c l1 r1 ⟨q, L, R2⟩ k w1 o1.ints o2.ints hk).mono ?_
    rintro e w2 ⟨rfl, hx2⟩
    go_wp2
    go_ret
    exact ⟨by simp [hk], (hX.trans hx1).trans hx2⟩
end Go.Proofs.YtjcfmlecfjmcgaaGreatDoor
end
