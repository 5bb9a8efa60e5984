/- Contracts: sets of items: whether a list is in a set.
Contracts: the set of some lists.
Contracts: whether all of some lists are in a set. Written by mkctl.py. -/
import Derived.Test.YtapjofbjedpmgaaGreatC28
import Derived.Test.YtapjofbjedpmgaaGreatC17
import Derived.Test.YtapjofbjedpmgaaGreatC18
section
set_option linter.unusedSimpArgs false
set_option linter.unusedVariables false
namespace Go.Proofs.YtapjofbjedpmgaaGreat
open Go Go.RowKit Go.Proofs Go.Maps
set_option maxHeartbeats 400000
/-- The map in block b: T at each item, and no other keys. -/
def TblK (w : World) (b n : Nat) (T : List Int → Bool) : Prop :=
  ∃ D : DataW Unit, w.ownsMap Tryz.prog 108 (plainElem Tryz.prog 4) b n D ∧ (∀ ys l, keyOf Tryz.prog 108 (enI ys) = some l → D.atKey l (.lit (.bool false)) = .lit (.bool (T ys))) ∧
    ∀ l, Maps.has D l = true → ∃ ys, ys.length = 10 ∧ (∀ z ∈ ys, smallQ z) ∧ keyOf Tryz.prog 108 (enI ys) = some l ∧ T ys = true
theorem TblK.tbl {w : World} {b n : Nat} {T : List Int → Bool} (h : TblK w b n T) : TblB Tryz.prog 108 4 enI w b n T := by
  obtain ⟨D, h1, h2, _⟩ := h
  exact ⟨D, h1, h2⟩
theorem TblK.made (w : World) : TblK (w.alloc (.map #[] 0)) w.heap.size 0 (fun _ => false) :=
  ⟨_, World.ownsMap_made _ _ _ _, fun _ _ _ => rfl, fun l h => by cases h⟩
theorem TblK.kept {w w' : World} {b n : Nat} {T : List Int → Bool} {row : Option Nat} (h : TblK w b n T) (hg : w.grownBy w' row) (hne : some b ≠ row) : TblK w' b n T := by
  obtain ⟨D, h1, h2⟩ := h
  exact ⟨D, h1.kept hg hne, h2⟩
theorem TblK.ext {w w' : World} {b n : Nat} {T : List Int → Bool} (h : TblK w b n T) (he : Ext w w') : TblK w' b n T := h.kept (ext_grownBy he none) (by simp)
theorem TblK.mono {w : World} {b n n' : Nat} {T : List Int → Bool} (h : TblK w b n T) (hn : n ≤ n') : TblK w b n' T := by
  obtain ⟨D, h1, h2⟩ := h
  exact ⟨D, h1.mono hn, h2⟩
theorem TblK.lt {w : World} {b n : Nat} {T : List Int → Bool} (h : TblK w b n T) : b < w.heap.size := by
  obtain ⟨D, h1, _⟩ := h
  exact h1.lt
set_option maxRecDepth 20000 in
theorem TblK.put {w : World} {b n : Nat} {T : List Int → Bool} (h : TblK w b n T) (hn : n < maxLen) {xs : List Int} (hl : xs.length ≤ 10) (hs : ∀ z ∈ xs, smallQ z) :
    ∃ w', (Instr.mapUpdate 104 (.map (some b)) (itemV xs) (.bool true)).run Tryz.prog w = .ok () w' ∧ TblK w' b (n + 1) (fun ys => decide (ys = padI xs) || T ys) ∧ w.grownBy w' (some b) := by
  obtain ⟨D, h1, h2, h3⟩ := h
  obtain ⟨l, hk⟩ := itKey _ (padI_len hl) (padI_small hs)
  obtain ⟨w', hrun, r1, r2⟩ := h1.update itTy.keyed itTy.und hn hk (plainElem_bool itTy.el true)
  refine ⟨w', hrun, ⟨_, r1, fun ys ly hy => ?_, fun l' hl' => ?_⟩, r2⟩
  · by_cases e : ys = padI xs
    · subst e
      rw [hk] at hy
      injection hy with hy
      subst hy
      rw [atKey_put_same h1.isMap (itTy.keyed.key hk)]
      simp
    · have hne : ly ≠ l := fun e' => e (enI_inj _ _ (itTy.keyed.inj hy (e' ▸ hk)))
      rw [atKey_put_other hne]
      simp only [e, decide_false, Bool.false_or]
      exact h2 ys ly hy
  · by_cases e : l' = l
    · subst e
      exact ⟨padI xs, padI_len hl, padI_small hs, hk, by simp⟩
    · rw [has_put_other e] at hl'
      obtain ⟨ys, a, b', c, d⟩ := h3 l' hl'
      exact ⟨ys, a, b', c, by show (decide (ys = padI xs) || T ys) = true; rw [d]; simp⟩
/-- A set of items behind a pointer. -/
structure SetAt (w : World) (g mb n len : Nat) (T : List Int → Bool) : Prop where
  blk : Blk w g 106 #[.map (some mb), .int .i64 (len : Int)]
  tab : TblK w mb n T
theorem SetAt.ext {w w' : World} {g mb n len : Nat} {T : List Int → Bool} (h : SetAt w g mb n len T) (he : Ext w w') : SetAt w' g mb n len T := ⟨h.blk.ext he, h.tab.ext he⟩
theorem SetAt.look {w : World} {g mb n len : Nat} {T : List Int → Bool} (h : SetAt w g mb n len T) {xs : List Int} (hl : xs.length ≤ 10) (hs : ∀ z ∈ xs, smallQ z) :
    (Instr.lookup 104 (.map (some mb)) (itemV xs) false).run Tryz.prog w = .ok (.bool (T (padI xs))) w := by
  rw [itemV_enI]
  exact h.tab.tbl.lookup itTy _ (itKey _ (padI_len hl) (padI_small hs))
set_option maxRecDepth 20000 in
set_option maxHeartbeats 4000000 in
theorem has_c (g mb n len b off c : Nat) (T : List Int → Bool) (xs : List Int) (w : World) (hS : SetAt w g mb n len T) (h : Ints w (.slice (some ⟨b, off, none⟩) xs.length c) xs) (hl : xs.length ≤ 10) (h0 : 1 ≤ xs.length) (hs : ∀ z ∈ xs, smallQ z) :
    Calls Tryz.prog 29 #[.pointer (some ⟨g, 0, none⟩), .slice (some ⟨b, off, none⟩) xs.length c] w fun e w' => e = .returned (.bool (T (padI xs))) ∧ Ext w w' := by
  have q0 := hS.blk.cell 0
  simp only [List.getElem?_toArray, List.getElem?_cons_zero] at q0
  have H := Lib.hid (And.intro hS (And.intro h (And.intro hl (And.intro h0 hs))))
  clear hS h hl h0 hs
  go_enter Tryz.func29, Tryz.ntmps29
  go_upto_region 1 with fail
  refine wp_region_ordT 6 (readsT [0, 1, 2, 3, 4] (.stir 5 .done)) (by kernel_rfl) (by kernel_rfl) (fun _ _ _ _ _ h => h) ?_
  simp only [readsT]
  iterate 5 (refine wpOrdT_read (v := ?_) (by rfl) (Or.inl ⟨by rfl, fun x hx => ?_⟩) ?_; rotate_left; (· have q0 := hx.cell q0; go_simp; try with_reducible rfl); try simp only [Act.put, List.setIfInBounds_toArray, List.set_cons_zero, List.set_cons_succ])
  have hx0 : Ext w w.drew := Ext.drew w
  generalize w.drew = w0 at *
  refine wpOrdT_keep (by rfl) (fun K hK => ?_)
  go_simp
  go_at_call 66
  refine (itemOf_c b off c xs w0 (H.out.2.1.ext hx0) H.out.2.2.1 H.out.2.2.2.1).mono ?_
  rintro e w1 ⟨rfl, hx1⟩
  refine hK _ _ hx1 ?_
  clear hK K
  try simp only [Act.put, List.setIfInBounds_toArray, List.set_cons_zero, List.set_cons_succ]
  refine wpOrdT_done ?_
  try simp only [List.drop_succ_cons, List.drop_zero]
  have hlk := (H.out.1.ext (hx0.trans hx1)).look H.out.2.2.1 H.out.2.2.2.2
  have HX := Lib.hid (hx0.trans hx1)
  obtain ⟨y, hy⟩ : ∃ y, T (padI xs) = y := ⟨_, rfl⟩
  rw [hy] at hlk
  have HY := Lib.hid hy
  clear hy
  generalize itemV xs = iv at *
  clear hx0 hx1 q0
  go_wp2
  go_ret
  exact ⟨by rw [HY.out]; rfl, HX.out⟩
end Go.Proofs.YtapjofbjedpmgaaGreat
end
section
set_option linter.unusedSimpArgs false
set_option linter.unusedVariables false
namespace Go.Proofs.YtapjofbjedpmgaaGreat
open Go Go.RowKit Go.Proofs Go.Maps
set_option maxHeartbeats 400000
/-- The set of some lists. -/
def anyT (xss : List (List Int)) (ys : List Int) : Bool := xss.any (fun xs => decide (ys = padI xs))
theorem anyT_snoc (xss : List (List Int)) (x : List Int) : anyT (xss ++ [x]) = fun ys => decide (ys = padI x) || anyT xss ys := by
  funext ys
  unfold anyT
  rw [List.any_append, Bool.or_comm]
  simp
theorem ints_at {w : World} {v : Value} {xs : List Int} (h : Ints w v xs) (h0 : 1 ≤ xs.length) : ∃ b off c, v = .slice (some ⟨b, off, none⟩) xs.length c := by
  obtain ⟨A, c, rfl, _, _⟩ := id h.form
  obtain ⟨b, off, rfl, _⟩ := h.at (k := 0) (by omega)
  exact ⟨_, _, _, rfl⟩
set_option maxRecDepth 200000 in
set_option maxHeartbeats 8000000 in
theorem setOf_c (len : Nat) (v : Value) (xss : List (List Int)) (w : World) (h : Lists w v xss) (hx : xss.length ≤ 100000) (hz : ∀ x ∈ xss, 1 ≤ x.length ∧ x.length ≤ 10 ∧ ∀ z ∈ x, smallQ z) :
    Calls Tryz.prog 28 #[.int .i64 (len : Int), v] w fun e w' => ∃ g mb, e = .returned (.pointer (some ⟨g, 0, none⟩)) ∧ SetAt w' g mb xss.length len (anyT xss) ∧ w.heap.size ≤ g ∧ w.heap.size ≤ mb ∧ g ≠ mb ∧ Ext w w' := by
  have hmm := @run_makeMap Tryz.prog
  obtain ⟨A, c, rfl, _, _⟩ := id h.form
  have H := Lib.hid h
  obtain ⟨W, hW⟩ : ∃ W, W = (w.alloc (.map #[] 0)).alloc (.cells #[.map (some w.heap.size), .int .i64 (len : Int)] 106) := ⟨_, rfl⟩
  have hX : Ext w W := by rw [hW]; exact (Ext.alloc _ _).trans (Ext.alloc _ _)
  have hS : SetAt W (w.heap.size + 1) w.heap.size 0 len (anyT []) := by
    rw [hW]
    have hb : Blk ((w.alloc (.map #[] 0)).alloc (.cells #[.map (some w.heap.size), .int .i64 (len : Int)] 106)) (w.alloc (.map #[] 0)).heap.size 106 #[.map (some w.heap.size), .int .i64 (len : Int)] := Blk.new _ _ _ _ rfl
    simp only [World.size_alloc] at hb
    exact ⟨hb, (TblK.made w).ext (Ext.alloc _ _)⟩
  clear h
  go_enter Tryz.func28, Tryz.ntmps28
  go_wp2
  try rw [← hW]
  obtain ⟨mb, hmb⟩ : ∃ g, w.heap.size = g := ⟨_, rfl⟩
  rw [hmb] at hS
  try rw [hmb]
  have HM := Lib.hid hmb
  clear hW hmb hmm
  go_loopw [14] (fun i wr => ∃ k : Nat, k ≤ xss.length ∧ i = .int .i64 (k : Int) ∧ SetAt wr (mb + 1) mb k len (anyT (xss.take k)) ∧ Ext w wr) (fun i _ => xss.length - (intOf i).toNat)
  case atStart => exact ⟨0, Nat.zero_le _, rfl, hS, hX⟩
  case round =>
    clear hS hX
    obtain ⟨k, hk, rfl, hS, hx'⟩ := hrel
    by_cases hlt : k < xss.length
    · have hd : decide ((k : Int) < (xss.length : Int)) = true := decide_eq_true (by omega)
      obtain ⟨b, off, u, rfl, c0, hu, hf⟩ := Lists.at (H.out.ext hx') hlt
      obtain ⟨hz1, hz2, hz3⟩ := hz _ (List.getElem_mem hlt)
      have HT : Hid (xss.take (k + 1) = xss.take k ++ [xss[k]]) := Lib.hid (List.take_succ_eq_append_getElem hlt)
      obtain ⟨x, hxk⟩ : ∃ x, xss[k] = x := ⟨_, rfl⟩
      rw [hxk] at HT hu hz1 hz2 hz3
      have hwk : IntKind.i64.wrap ((k : Int) + 1) = ((k + 1 : Nat) : Int) := by rw [show (k : Int) + 1 = ((k + 1 : Nat) : Int) by omega]; exact IntWalk.i64_in _ (by omega)
      have hc1 : (k : Int) < (xss.length : Int) := by omega
      obtain ⟨bu, ou, cu, rfl⟩ := ints_at hu hz1
      have s0 := hS.blk.cell 0
      simp only [List.getElem?_toArray, List.getElem?_cons_zero] at s0
      have HS := Lib.hid hS
      have HU := Lib.hid (And.intro hu (And.intro hz1 (And.intro hz2 hz3)))
      have HX := Lib.hid hx'
      clear hS hu hz1 hz2 hz3 hx' hxk hf
      obtain ⟨nx, hnx⟩ : ∃ n, x.length = n := ⟨_, rfl⟩
      rw [hnx] at c0
      have HNX := Lib.hid hnx
      clear hnx
      go_upto_region 5 with fail
      refine wp_region_ordT 6 (readsT [0, 1, 2, 3, 4] (.stir 5 .done)) (by kernel_rfl) (by kernel_rfl) (fun _ _ _ _ _ h => h) ?_
      simp only [readsT]
      iterate 5 (refine wpOrdT_read (v := ?_) (by rfl) (Or.inl ⟨by rfl, fun x hx => ?_⟩) ?_; rotate_left; (· have s0 := hx.cell s0; go_simp; try with_reducible rfl); try simp only [Act.put, List.setIfInBounds_toArray, List.set_cons_zero, List.set_cons_succ])
      have hx0 : Ext wr wr.drew := Ext.drew wr
      generalize wr.drew = w0 at *
      refine wpOrdT_keep (by rfl) (fun K hK => ?_)
      go_simp
      go_at_call 66
      have JC := itemOf_c bu ou cu x w0 (HU.out.1.ext hx0) HU.out.2.2.1 HU.out.2.1
      rw [HNX.out] at JC
      refine JC.mono ?_
      rintro e w1 ⟨rfl, hx1⟩
      refine hK _ _ hx1 ?_
      clear hK K JC
      try simp only [Act.put, List.setIfInBounds_toArray, List.set_cons_zero, List.set_cons_succ]
      refine wpOrdT_done ?_
      try simp only [List.drop_succ_cons, List.drop_zero]
      have hx01 := hx0.trans hx1
      have hS1 := HS.out.ext hx01
      obtain ⟨w2, hup, hT2, hg2⟩ := hS1.tab.put (by unfold maxLen; omega) HU.out.2.2.1 HU.out.2.2.2
      have hB2 := hS1.blk.kept hg2 (by simp)
      have HX2 : Hid (Ext w w2) := Lib.hid ((HX.out.trans hx01).grown hg2 (fun j hj => by injection hj with hj; have := HM.out; omega))
      have HS2 : Hid (SetAt w2 (mb + 1) mb (k + 1) len (anyT (xss.take (k + 1)))) := Lib.hid (by rw [HT.out, anyT_snoc]; exact ⟨hB2, hT2⟩)
      clear hx0 hx1 hx01 hS1 hT2 hg2 hB2 s0
      generalize itemV x = iv at *
      go_wp2
      go_roundw
      case rel => exact ⟨k + 1, by omega, by go_num, HS2.out, HX2.out⟩
      case measure => simp [intOf]; omega
    · have hd : decide ((k : Int) < (xss.length : Int)) = false := decide_eq_false (by omega)
      have hkk : k = xss.length := by omega
      rw [List.take_of_length_le (by omega)] at hS
      have HS := Lib.hid (hkk ▸ hS)
      clear hS
      go_wp2
      go_ret
      exact ⟨_, _, rfl, HS.out, by have := HM.out; omega, by have := HM.out; omega, by omega, hx'⟩
end Go.Proofs.YtapjofbjedpmgaaGreat
end
section
set_option linter.unusedSimpArgs false
set_option linter.unusedVariables false
namespace Go.Proofs.YtapjofbjedpmgaaGreat
open Go Go.RowKit Go.Proofs
set_option maxHeartbeats 400000
/-- What is asked of the closure. -/
def AnsC2 (w : World) (gp : Nat) (p : List Int → Bool) (xss : List (List Int)) : Prop := ∀ (W : World) (u : Value) (x : List Int), Ext w W → Ints W u x → Flat u → x ∈ xss → Calls Tryz.prog 69 (#[u] ++ #[.pointer (some ⟨gp, 0, none⟩)]) W fun e W' => e = .returned (.bool (p x)) ∧ Ext W W'
theorem indexC2_c (gp : Nat) (v : Value) (xss : List (List Int)) (p : List Int → Bool) (w : World) (hu : Lists w v xss) (hp : AnsC2 w gp p xss) :
    Calls Tryz.prog 98 #[v, .func (.func 69) #[] #[.pointer (some ⟨gp, 0, none⟩)]] w fun e w' => (∃ k : Int, e = .returned (.int .i64 k) ∧ decide (0 ≤ k) = xss.any p) ∧ Ext w w' := by
  obtain ⟨A, c, rfl, _, _⟩ := id hu.form
  go_enter Tryz.func98, Tryz.ntmps98
  go_wp2
  go_loopw [8] (fun i wr => ∃ k : Nat, k ≤ xss.length ∧ i = .int .i64 k ∧ Ext w wr ∧ Hid (∀ j, (h : j < xss.length) → j < k → p xss[j] = false)) (fun i _ => xss.length - (intOf i).toNat)
  case atStart => exact ⟨0, Nat.zero_le _, rfl, Ext.refl _, Lib.hid (fun j _ h => by omega)⟩
  case round =>
    obtain ⟨k, hk, rfl, hx, HA⟩ := hrel
    by_cases hlt : k < xss.length
    · obtain ⟨b', off, u, rfl, c0, i0, f0⟩ := (hu.ext hx).at hlt
      have CL := hp wr u xss[k] hx i0 f0 (List.getElem_mem _)
      obtain ⟨A1, d1, rfl, _, _⟩ := id i0.form
      obtain ⟨y, hy⟩ : ∃ y, p xss[k] = y := ⟨_, rfl⟩
      rw [hy] at CL
      have HY := Lib.hid hy
      have hlk : (k : Int) < (xss.length : Int) := by omega
      generalize xss[k].length = n1 at *
      clear hy i0 f0
      simp only [List.push_toArray, List.append_toArray, List.cons_append, List.nil_append] at CL
      go_wp2_with fail
      refine CL.mono ?_
      rintro e w2 ⟨rfl, hx2⟩
      have HX := Lib.hid (hx.trans hx2)
      clear CL hx2
      cases y with
      | true =>
        go_wp2
        go_ret
        exact ⟨⟨k, rfl, by rw [List.any_eq_true.2 ⟨xss[k], List.getElem_mem _, HY.out⟩]; simp⟩, HX.out⟩
      | false =>
        go_wp2
        go_roundw
        case rel => exact ⟨k + 1, by omega, by go_num, HX.out, Lib.hid (fun j h1 h2 => by
          by_cases e : j = k
          · subst e; exact HY.out
          · exact HA.out j h1 (by omega))⟩
        case measure => simp [intOf]; omega
    · go_wp2
      go_ret
      refine ⟨⟨-1, rfl, ?_⟩, hx⟩
      have e : xss.any p = false := by
        rw [List.any_eq_false]
        intro x hx'
        obtain ⟨j, hj, rfl⟩ := List.getElem_of_mem hx'
        rw [HA.out j hj (by omega)]
        decide
      rw [e]
      decide
theorem containsC2_c (gp : Nat) (v : Value) (xss : List (List Int)) (p : List Int → Bool) (w : World) (hu : Lists w v xss) (hp : AnsC2 w gp p xss) :
    Calls Tryz.prog 63 #[v, .func (.func 69) #[] #[.pointer (some ⟨gp, 0, none⟩)]] w fun e w' => e = .returned (.bool (xss.any p)) ∧ Ext w w' := by
  go_enter Tryz.func63, Tryz.ntmps63
  go_wp2_with fail
  refine (indexC2_c gp v xss p _ hu hp).mono ?_
  rintro e w2 ⟨⟨k, rfl, hk⟩, hx2⟩
  have HK := Lib.hid hk
  clear hk
  go_wp2
  go_ret
  exact ⟨by simp [← HK.out], hx2⟩
/-- What the set's block in the closure's box says. -/
theorem contains1_c (gp g mb n len : Nat) (T : List Int → Bool) (u : Value) (x : List Int) (w : World) (hb : Blk w gp 61 #[.pointer (some ⟨g, 0, none⟩)]) (hS : SetAt w g mb n len T) (h : Ints w u x) (h0 : 1 ≤ x.length) (hl : x.length ≤ 10) (hs : ∀ z ∈ x, smallQ z) :
    Calls Tryz.prog 69 #[u, .pointer (some ⟨gp, 0, none⟩)] w fun e w' => e = .returned (.bool (!T (padI x))) ∧ Ext w w' := by
  obtain ⟨b, off, c, rfl⟩ := ints_at h h0
  have HC := has_c g mb n len b off c T x w hS h hl h0 hs
  obtain ⟨y, hy⟩ : ∃ y, T (padI x) = y := ⟨_, rfl⟩
  rw [hy] at HC
  have HY := Lib.hid hy
  have b0 := hb.cell 0
  simp only [List.getElem?_toArray, List.getElem?_cons_zero] at b0
  clear hy hb hS h
  go_enter Tryz.func69, Tryz.ntmps69
  go_wp2_with fail
  refine HC.mono ?_
  rintro e w2 ⟨rfl, hx2⟩
  clear HC
  go_wp2
  go_ret
  exact ⟨by rw [HY.out]; rfl, hx2⟩
theorem contains_c (g mb n len : Nat) (T : List Int → Bool) (v : Value) (xss : List (List Int)) (w : World) (hS : SetAt w g mb n len T) (h : Lists w v xss) (hz : ∀ x ∈ xss, 1 ≤ x.length ∧ x.length ≤ 10 ∧ ∀ z ∈ x, smallQ z) :
    Calls Tryz.prog 31 #[.pointer (some ⟨g, 0, none⟩), v] w fun e w' => e = .returned (.bool (xss.all fun x => T (padI x))) ∧ Ext w w' := by
  obtain ⟨gp, hg⟩ : ∃ g, w.heap.size = g := ⟨_, rfl⟩
  obtain ⟨W, hW⟩ : ∃ W, W = w.alloc (.cells #[.pointer (some ⟨g, 0, none⟩)] 61) := ⟨_, rfl⟩
  have hX : Ext w W := by rw [hW]; exact Ext.alloc _ _
  have b1 : Blk W gp 61 #[.pointer (some ⟨g, 0, none⟩)] := by rw [hW]; exact Blk.new _ _ _ _ hg
  obtain ⟨A, c, rfl, _, _⟩ := id h.form
  have CC := containsC2_c gp _ xss (fun x => !T (padI x)) W (h.ext hX) (fun W' u x hx hi hf hm => contains1_c gp g mb n len T u x W' (b1.ext hx) (hS.ext (hX.trans hx)) hi (hz x hm).1 (hz x hm).2.1 (hz x hm).2.2)
  have HX := Lib.hid hX
  clear b1 hX h hS
  go_enter Tryz.func31, Tryz.ntmps31
  go_wp2_with fail
  try rw [← hW]
  try rw [hg]
  clear hW hg
  refine CC.mono ?_
  rintro e w2 ⟨rfl, hx2⟩
  obtain ⟨y, hy⟩ : ∃ y, (xss.any fun x => !T (padI x)) = y := ⟨_, rfl⟩
  rw [hy]
  have HY : Hid ((!y) = xss.all fun x => T (padI x)) := Lib.hid (by rw [← hy, List.not_any_eq_all_not]; simp)
  clear hy CC
  go_wp2
  go_ret
  exact ⟨by rw [← HY.out]; rfl, HX.out.trans hx2⟩
end Go.Proofs.YtapjofbjedpmgaaGreat
end
