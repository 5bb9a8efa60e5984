/- Contract of the laws' marks in lists of lists, with what stays as it was.
Contracts of the laws' copies of lists of lists and of proofs. Lists are short.
Contracts of the laws' marks on lists of texts, and of their comparing. The marks are below a million. -/
import Derived.Test.YtfghojbbofobeaaGreatDoorW45
import Derived.Test.YtfghojbbofobeaaGreatDoorW44
import Derived.Test.YtfghojbbofobeaaGreatDoorW43
import Derived.Test.YtfghojbbofobeaaGreatDoorW02
import Derived.Test.YtfghojbbofobeaaGreatDoorW13
section
set_option linter.unusedVariables false
set_option linter.unusedSimpArgs false
namespace Go.Proofs.YtfghojbbofobeaaGreatDoor
open Go Go.RowKit Go.Proofs
set_option maxHeartbeats 400000
set_option maxRecDepth 20000 in
set_option maxHeartbeats 2000000 in
theorem markInt64SST_c (base : Nat) (v : Value) (xss : List (List Int)) (k : Int) (w0 w : World) (h : OwnIntRows base w0 v xss) (hk : ∀ g, base ≤ g → g < w0.heap.size → w.heap[g]? = w0.heap[g]?) (hb : base ≤ w.heap.size) (h0 : 0 ≤ k) (h1 : k + tot xss ≤ 4611686018427387904) :
    Calls Tryz.prog 14 #[v, .int .i64 k] w fun e w' => e = .returned (.int .i64 (k + tot xss)) ∧ Below base w w' ∧ TopF w0.heap.size w w' := by
  obtain ⟨vs, o1, o2, o3⟩ := h
  have hlo : ∀ (i : Nat) (u : Value) (g : Nat), i < xss.length → vs[i]? = some u → u.ownBlock = some g → g < w0.heap.size := fun i u g hi hu hg => by
    obtain ⟨u', e, o⟩ := o2 i hi
    rw [hu] at e
    injection e with e
    subst e
    exact (o.lt g hg).2
  have oM : ∀ i, (h : i < xss.length) → ∃ u zs, vs[i]? = some u ∧ OwnInts base w u zs ∧ zs.length = xss[i].length := fun i hi => by
    obtain ⟨u, e, o⟩ := o2 i hi
    exact ⟨u, _, e, own_same o (fun g hg => hk g (o.lt g hg).1 (o.lt g hg).2), rfl⟩
  have o1 := own_same o1 (fun g hg => hk g (o1.lt g hg).1 (o1.lt g hg).2)
  clear o2 hk
  generalize w0.heap.size = T at *
  obtain ⟨A, c, rfl, _, _, _⟩ := (ownsRow_row o1).form
  go_enter Tryz.func14, Tryz.ntmps14
  go_wp2
  go_loopw [1, 5] (fun q i wr => ∃ j : Nat, j ≤ xss.length ∧ i = .int .i64 j ∧ q = .int .i64 (k + (tot (xss.take j) : Nat)) ∧ Below base w wr ∧ TopF T w wr ∧ wr.ownsRow base 44 1 (.slice A xss.length c) xss.length vs ∧ Hid (∀ i, (h : i < xss.length) → ∃ u zs, vs[i]? = some u ∧ OwnInts base wr u zs ∧ zs.length = xss[i].length)) (fun _ i _ => xss.length - (intOf i).toNat)
  case atStart => exact ⟨0, Nat.zero_le _, rfl, by simp [tot], Below.refl _ _, TopF.refl _ _, o1, oM⟩
  case round =>
    clear o1 oM
    obtain ⟨j, hj, rfl, rfl, hB, hT, ho, hM⟩ := hrel
    by_cases hlt : j < xss.length
    · have HT := Lib.hid (tot_take_succ xss j hlt)
      have ht1 := tot_take_le xss (j + 1)
      rw [HT.out] at ht1
      have hbs : base ≤ wr.heap.size := Nat.le_trans hb hB.size
      obtain ⟨g, rfl, hbg, hgl⟩ := own_at ho (by omega)
      obtain ⟨u, zs, hu, hru, hzl⟩ := hM.out j hlt
      have q0 := (ho.cellAt j (by have := ho.1; omega)).trans hu
      obtain ⟨A1, c1, rfl, _, _⟩ := hru.ints.form
      have MK := markInt64S_c base _ zs (k + (tot (xss.take j) : Nat)) wr hru (by omega) (by omega)
      have HZL := Lib.hid hzl
      clear hzl
      go_wp2_with fail
      refine MK.mono ?_
      rintro e w2 ⟨rfl, hr2, hg2⟩
      have b2 := Lib.hid (hB.grown hg2 hbs (fun q hq => (hru.lt q hq).1))
      have t2 := Lib.hid (hT.grown hB.size hg2 (fun q hq => hlo j _ q hlt hu hq))
      have s2 := Lib.hid (World.ownsRow.kept ho hg2 (own_ne ho hru (by decide)))
      have m2 : Hid (∀ i, (h : i < xss.length) → ∃ u zs, vs[i]? = some u ∧ OwnInts base w2 u zs ∧ zs.length = xss[i].length) := Lib.hid fun i hi => by
        by_cases e : i = j
        · subst e
          exact ⟨_, _, hu, hr2, by simp [HZL.out]⟩
        · obtain ⟨u', zs', e', o', l'⟩ := hM.out i hi
          refine ⟨u', zs', e', World.ownsRow.kept o' hg2 ?_, l'⟩
          cases hb : u'.ownBlock with
          | none => exact .inl rfl
          | some q => exact .inr fun he => e (o3 i j u' _ q e' hu hb he.symm)
      clear q0 MK hB hT ho hM hru hr2 hg2
      go_wp2_with fail
      go_roundw
      case rel => exact ⟨j + 1, by omega, by go_num, by rw [HT.out, HZL.out]; congr 1; omega, b2.out, t2.out, s2.out, m2.out⟩
      case measure => simp [intOf]; omega
    · have hje : j = xss.length := by omega
      subst hje
      go_wp2
      go_ret
      exact ⟨by simp [List.take_of_length_le (Nat.le_refl _)], hB, hT⟩
end Go.Proofs.YtfghojbbofobeaaGreatDoor
end
section
namespace Go.Proofs.YtfghojbbofobeaaGreatDoor
open Go Go.RowKit Go.Proofs
set_option maxHeartbeats 400000
theorem rowInfo' : (Tryz.prog.info? 44).map (fun i => (i.zero, i.size, i.bytes)) = some (some (.slice none 0 0), 1, 24) := by kernel_rfl
/-- The first k rows are copied. -/
def RowsTo (b : Nat) (w : World) (xss : List (List Int)) (k : Nat) (vs : List Value) : Prop :=
  (∀ i, (h : i < xss.length) → i < k → ∃ u, vs[i]? = some u ∧ OwnInts b w u xss[i]) ∧
    ∀ (i j : Nat) (u u' : Value) (g : Nat), i < k → j < k → vs[i]? = some u → vs[j]? = some u' → u.ownBlock = some g → u'.ownBlock = some g → i = j
theorem RowsTo.ext {b : Nat} {w w' : World} {xss : List (List Int)} {k : Nat} {vs : List Value} (h : RowsTo b w xss k vs) (he : Ext w w') : RowsTo b w' xss k vs :=
  ⟨fun i hi hk => by obtain ⟨u, e, hu⟩ := h.1 i hi hk; exact ⟨u, e, hu.ext he⟩, h.2⟩
theorem far_of_ne {w : World} {base base' : Nat} {e e' : TypeId} {size size' : Nat} {v v' : Value} {n n' : Nat} {xs xs' : List Value} (h : w.ownsRow base e size v n xs) (h' : w.ownsRow base' e' size' v' n' xs') (hne : e ≠ e') {g : Nat} (hg : v'.ownBlock = some g) : ∀ k, v.ownBlock = some k → k ≠ g := by
  intro k hk he
  rcases own_ne h h' hne with c | c
  · rw [c] at hk; cases hk
  · exact c (by rw [hk, hg, he])
theorem RowsTo.step {g c0 : Nat} {w w2 : World} {xss : List (List Int)} {k n : Nat} {vs : List Value} {u : Value} (h : RowsTo g w xss k vs) (hx : Ext w w2) (ho : w2.ownsRow g 44 1 (.slice (some ⟨g, 0, none⟩) n c0) n vs) (hk : k < xss.length) (hn : k < vs.length)
    (hu : OwnInts w.heap.size w2 u xss[k]) (hb : g ≤ w.heap.size) : RowsTo g (w2.setCell ⟨g, k, none⟩ u) xss (k + 1) (vs.set k u) := by
  have keep : ∀ {b : Nat} {v : Value} {zs : List Int}, OwnInts b w2 v zs → OwnInts b (w2.setCell ⟨g, k, none⟩ u) v zs := fun hv => ownsRow_far (p := ⟨g, k, none⟩) hv (far_of_ne hv ho (by decide) rfl) u
  refine ⟨fun i hi hik => ?_, fun i j x x' b hi hj hxi hxj hb1 hb2 => ?_⟩
  · by_cases c : i = k
    · subst c
      exact ⟨u, List.getElem?_set_self hn, keep (ownsRow_base hu hb)⟩
    · obtain ⟨x, e, hx'⟩ := h.1 i hi (by omega)
      exact ⟨x, by rw [List.getElem?_set_ne (Ne.symm c)]; exact e, keep (hx'.ext hx)⟩
  · have old : ∀ (i : Nat) (x : Value), i < k → vs[i]? = some x → x.ownBlock = some b → b < w.heap.size := fun i x hi hx1 hb1 => by
      obtain ⟨x', e, hx'⟩ := h.1 i (by omega) hi
      rw [hx1] at e
      injection e with e
      subst e
      exact (hx'.lt b hb1).2
    have new : u.ownBlock = some b → w.heap.size ≤ b := fun hb1 => (hu.lt b hb1).1
    by_cases ci : i = k <;> by_cases cj : j = k
    · omega
    · subst ci
      rw [List.getElem?_set_self hn] at hxi
      injection hxi with hxi
      subst hxi
      rw [List.getElem?_set_ne (Ne.symm cj)] at hxj
      have := old j x' (by omega) hxj hb2
      have := new hb1
      omega
    · subst cj
      rw [List.getElem?_set_self hn] at hxj
      injection hxj with hxj
      subst hxj
      rw [List.getElem?_set_ne (Ne.symm ci)] at hxi
      have := old i x (by omega) hxi hb1
      have := new hb2
      omega
    · rw [List.getElem?_set_ne (Ne.symm ci)] at hxi
      rw [List.getElem?_set_ne (Ne.symm cj)] at hxj
      exact h.2 i j x x' b (by omega) (by omega) hxi hxj hb1 hb2
theorem toInt64SS_c (v : Value) (xss : List (List Int)) (w : World) (h : IntRows w v xss) (hn : xss.length + tot xss ≤ 1048576) :
    Calls Tryz.prog 8 #[v] w fun e w' => ∃ u, e = .returned u ∧ OwnIntRows w.heap.size w' u xss ∧ Ext w w' := by
  obtain ⟨A, c, rfl, h2, h3⟩ := h.form
  obtain ⟨i0, hi, hz0, hz1, hz2⟩ := info_parts rowInfo'
  go_enter Tryz.func8, Tryz.ntmps8
  go_wp2_with (at_make; refine wpList_make_full _ rfl _ _ 25 rfl w.heap.size 44 i0 _ 1 Tryz.underlying25 hi hz0 hz1 .i64 .i64 _ _ xss.length rfl rfl rfl rfl ?c1 ?c2 ?c3 ?_)
  case c1 => rw [hz2]; omega
  case c2 => unfold maxLen; omega
  case c3 => exact Nat.le_refl _
  intro w1 hown hgr
  have hx1 : Ext w w1 := (Ext.refl _).grown hgr (by simp)
  obtain ⟨cs, hown⟩ : ∃ cs, w1.ownsRow w.heap.size 44 1 (.slice (some ⟨w.heap.size, 0, none⟩) xss.length xss.length) xss.length cs := ⟨_, hown⟩
  clear hgr hi hz0 hz1 hz2
  have hsz : w.heap.size < w1.heap.size := (hown.lt _ rfl).2
  generalize hg : w.heap.size = g at *
  have HG := Lib.hid hg
  clear hg
  go_wp2
  go_loopw [4] (fun i wr => ∃ k : Nat, k ≤ xss.length ∧ i = .int .i64 k ∧ Ext w wr ∧ ∃ vs, wr.ownsRow g 44 1 (.slice (some ⟨g, 0, none⟩) xss.length xss.length) xss.length vs ∧ RowsTo g wr xss k vs) (fun i _ => xss.length - (intOf i).toNat)
  case atStart => exact ⟨0, Nat.zero_le _, rfl, hx1, cs, hown, fun i _ hk => by omega, fun i j u u' b hi => by omega⟩
  case round =>
    obtain ⟨k, hk, rfl, hx, vs, ho, hf⟩ := hrel
    by_cases hlt : k < xss.length
    · obtain ⟨b, off, rfl, hc⟩ := h.at hlt
      obtain ⟨A1, d1, c0, r0⟩ := hc k hlt
      have d0 := hx.cell c0
      have r0 := r0.ext hx
      have hb : w.heap.size ≤ g := Nat.le_of_eq HG.out
      have hyl : xss[k].length ≤ 1048576 := by
        have := tot_take_succ xss k hlt
        have := tot_take_le xss (k + 1)
        omega
      have HF : Hid (∀ (w2 : World) (u : Value), Ext wr w2 → OwnInts wr.heap.size w2 u xss[k] → RowsTo g (w2.setCell ⟨g, k, none⟩ u) xss (k + 1) (vs.set k u)) := fun w2 u hx2 hu =>
        hf.step hx2 (ownsRow_ext ho hx2) hlt (by have := ho.1; omega) hu (by have := (ho.lt g rfl).2; omega)
      clear hc c0
      generalize xss[k] = y at *
      go_wp2_with fail
      refine (toInt64S_c _ y _ r0 hyl).mono ?_
      rintro e w2 ⟨u, rfl, hu, hx2⟩
      have ho2 := ownsRow_ext ho hx2
      have hl := ho.1
      have q0 := ho2.cellAt k (by omega)
      rw [List.getElem?_eq_getElem (by omega)] at q0
      have f0 := ho2.frozenAt k
      obtain ⟨A2, c2, rfl, _, _⟩ := hu.ints.form
      clear d0
      go_wp2
      go_roundw
      case rel => exact ⟨k + 1, by omega, by go_num, (hx.trans hx2).setCell hb _, _, (ho2.stored k _).1, HF.out _ _ hx2 hu⟩
      case measure => simp [intOf]; omega
    · go_wp2
      go_ret
      refine ⟨_, rfl, ?_, hx⟩
      have hl := ho.1
      rw [HG.out]
      refine ⟨vs, ho, fun i hi => hf.1 i hi (by omega), fun i j u u' b hi hj => ?_⟩
      have a1 := (List.getElem?_eq_some_iff.1 hi).1
      have a2 := (List.getElem?_eq_some_iff.1 hj).1
      exact hf.2 i j u u' b (by omega) (by omega) hi hj
theorem ownsRow_low {w : World} {base : Nat} {e : TypeId} {size : Nat} {v : Value} {n : Nat} {xs : List Value} (h : w.ownsRow base e size v n xs) {p : Addr} (hp : p.block < base) (u : Value) : (w.setCell p u).ownsRow base e size v n xs :=
  ownsRow_far h (fun k hk => by have := (h.lt k hk).1; omega) u
theorem OwnIntRows.low {w : World} {base : Nat} {v : Value} {xss : List (List Int)} (h : OwnIntRows base w v xss) {p : Addr} (hp : p.block < base) (u : Value) : OwnIntRows base (w.setCell p u) v xss := by
  obtain ⟨vs, h1, h2, h3⟩ := h
  exact ⟨vs, ownsRow_low h1 hp u, fun i hi => by obtain ⟨x, e, hx⟩ := h2 i hi; exact ⟨x, e, ownsRow_low hx hp u⟩, h3⟩
theorem OwnIntRows.base {w : World} {base base' : Nat} {v : Value} {xss : List (List Int)} (h : OwnIntRows base w v xss) (hb : base' ≤ base) : OwnIntRows base' w v xss := by
  obtain ⟨vs, h1, h2, h3⟩ := h
  exact ⟨vs, ownsRow_base h1 hb, fun i hi => by obtain ⟨x, e, hx⟩ := h2 i hi; exact ⟨x, e, ownsRow_base hx hb⟩, h3⟩
/-- A proof. -/
structure ProofD where
  k : Int
  ns : List Int
  ws : List (List Int)
deriving DecidableEq
def Prf (w : World) (v : Value) (p : ProofD) : Prop := ∃ nv wv, v = .agg #[.int .i64 p.k, nv, wv] ∧ Ints w nv p.ns ∧ IntRows w wv p.ws
theorem Prf.ext {w w' : World} {v : Value} {p : ProofD} (h : Prf w v p) (he : Ext w w') : Prf w' v p := by
  obtain ⟨nv, wv, hv, h1, h2⟩ := h; exact ⟨nv, wv, hv, h1.ext he, h2.ext he⟩
end Go.Proofs.YtfghojbbofobeaaGreatDoor
end
section
set_option linter.unusedSimpArgs false
set_option linter.unusedVariables false
namespace Go.Proofs.YtfghojbbofobeaaGreatDoor
open Go Go.RowKit Go.Proofs
set_option maxHeartbeats 400000
theorem Ext.grow {w w' : World} (h : Ext w w') (row : Option Nat) : w.grownBy w' row := ⟨Below.os h, Below.tape h, Below.output h, Ext.size h, fun q hq _ => Below.block h q hq⟩
theorem svBs_get (L : List (List UInt8)) (k : Nat) (h : k < L.length) : (svB L)[k]? = some (.string (bsS L[k])) := by simp [svB, h]
theorem svBs_app (a b : List (List UInt8)) : svB (a ++ b) = svB a ++ svB b := by simp [svB]
/-- The mark with a number. -/
def mkB (n : Int) : List UInt8 := 109 :: dgs n.toNat
/-- The marks from a number on. -/
def mkL (k : Int) (n : Nat) : List (List UInt8) := (List.range n).map fun i => mkB (k + (i : Nat))
theorem mkL_length (k : Int) (n : Nat) : (mkL k n).length = n := by simp [mkL]
theorem mkL_succ (k : Int) (i : Nat) : mkL k (i + 1) = mkL k i ++ [mkB (k + (i : Nat))] := by simp [mkL, List.range_succ]
theorem mkL_get (k : Int) (n i : Nat) (h : i < n) : (mkL k n)[i]'(by rw [mkL_length]; exact h) = mkB (k + (i : Nat)) := by simp [mkL]
set_option maxRecDepth 20000 in
set_option maxHeartbeats 1000000 in
theorem markText_c (n : Int) (w : World) (n0 : 1 ≤ n) (n1 : n ≤ 1000000) :
    Calls Tryz.prog 43 #[.int .i64 n] w fun e w' => e = .returned (.string (bsS (mkB n))) ∧ Ext w w' := by
  obtain ⟨N, rfl⟩ : ∃ N : Nat, n = (N : Int) := ⟨n.toNat, by omega⟩
  have HLN := Lib.hid (dgs_len N (by omega))
  have HN1 : Hid (N ≤ 1000000) := by unfold Hid; omega
  have hle : ¬ (N : Int) ≤ 0 := by omega
  have HE : Hid (bsS (mkB (N : Int)) = ⟨#[109]⟩ ++ bsS (dgs N)) := by
    unfold Hid mkB
    rw [Int.toNat_natCast]
    exact (bs_app [109] (dgs N)).symm
  rw [HE.out]
  go_enter Tryz.func43, Tryz.ntmps43
  go_wp2
  go_loopw [0, 3] (fun i tv wr => ∃ (k : Nat) (D : List UInt8), i = .int .i64 (k : Int) ∧ k ≤ N ∧ tv = .string (bsS D) ∧ dgs N = dgs k ++ D ∧ Ext w wr) (fun i _ _ => (intOf i).toNat)
  case atStart => exact ⟨N, [], rfl, Nat.le_refl _, rfl, by simp, Ext.refl _⟩
  case round =>
    obtain ⟨k, D, rfl, hk, rfl, hD, hX⟩ := hrel
    have HD := Lib.hid hD
    have hDl : D.length ≤ 18 := by
      have h1 := HLN.out
      rw [HD.out, List.length_append] at h1
      omega
    clear hD
    have hsz : (bsS D).size = D.length := bs_size D
    by_cases hk0 : k = 0
    · subst hk0
      have HDD : Hid (dgs N = D) := by unfold Hid; rw [HD.out]; simp [dgs]
      have HF : Hid (bsS D = bsS (dgs N)) := by unfold Hid; rw [HDD.out]
      rw [show ((0 : Nat) : Int) = 0 from rfl]
      obtain ⟨s, hs⟩ : ∃ s, bsS D = s := ⟨_, rfl⟩
      rw [hs] at HF
      rw [hs] at hsz ⊢
      clear hs
      have n2 : ¬ 9223372036854775807 < 1 + s.size := by omega
      go_wp2
      go_ret
      exact ⟨by rw [← HF.out]; rfl, hX⟩
    · have hgt : (0 : Int) < (k : Int) := by omega
      have hq : (k : Int).tdiv 10 = ((k / 10 : Nat) : Int) := by rw [Int.tdiv_eq_ediv_of_nonneg (by omega)]; omega
      have hm : (k : Int).tmod 10 = ((k % 10 : Nat) : Int) := by rw [Int.tmod_eq_emod_of_nonneg (by omega)]; omega
      have hqw : IntKind.i64.wrap ((k : Int).tdiv 10) = ((k / 10 : Nat) : Int) := by rw [hq]; exact IntWalk.i64_in _ (by have := HN1.out; omega)
      have HST := Lib.hid (dgs_step hk0)
      have hdd : UInt8.ofNat (48 + k % 10) = digU ((k % 10 : Nat) : Int) := by unfold digU; rw [Int.toNat_natCast]
      rw [hdd] at HST
      clear hdd
      obtain ⟨d, hd⟩ : ∃ d, k % 10 = d := ⟨_, rfl⟩
      have hd9 : d ≤ 9 := by omega
      rw [hd] at hm HST
      have hwz := dig_fact (z := (d : Int)) (by omega) (by omega)
      obtain ⟨q, hqq⟩ : ∃ q, k / 10 = q := ⟨_, rfl⟩
      have HQ := Lib.hid hqq
      rw [hqq] at hq hqw HST
      have hqk : q < k := by omega
      have HQ64 : Hid (wrap64 (q : Int) = (q : Int)) := Lib.hid (wrap_nat (Nat.le_trans (Nat.le_trans (Nat.le_of_lt hqk) hk) HN1.out))
      have hro : (wr.alloc (.cells #[.int .u8 ((digU (d : Int)).toNat : Int)] 5)).ownsRow wr.heap.size 5 1 (.slice (some ⟨wr.heap.size, 0, none⟩) 1 1) 1 (ubs [digU (d : Int)]) :=
        ownsRow_blk 1 1 (Blk.new _ _ _ _ rfl) (Nat.le_refl _) rfl (by omega)
      have hcv : (convert 136 9 (.slice (some ⟨wr.heap.size, 0, none⟩) 1 1)).run Tryz.prog (wr.alloc (.cells #[.int .u8 ((digU (d : Int)).toNat : Int)] 5)) = .ok (.string (bsS [digU (d : Int)])) (wr.alloc (.cells #[.int .u8 ((digU (d : Int)).toNat : Int)] 5)) :=
        ubs_conv hro rfl (by omega)
      clear hro
      have HS : Hid (bsS [digU (d : Int)] ++ bsS D = bsS (digU (d : Int) :: D)) := bs_app [digU (d : Int)] D
      have hs1 : (bsS [digU (d : Int)]).size = 1 := bs_size _
      have HR : Hid (dgs N = dgs q ++ (digU (d : Int) :: D)) := by unfold Hid; rw [HD.out, HST.out]; simp
      clear hd hqq
      generalize (digU (d : Int)).toNat = dn at *
      generalize bsS [digU (d : Int)] = s1 at *
      generalize bsS D = s at *
      have n2 : ¬ 9223372036854775807 < s1.size + s.size := by omega
      go_wp2
      go_roundw
      case rel => exact ⟨q, _, rfl, by omega, by rw [HS.out], HR.out, hX.trans (Ext.alloc _ _)⟩
      case measure => simp only [intOf]; omega
set_option maxRecDepth 20000 in
theorem markStringS_c (base : Nat) (v : Value) (L : List (List UInt8)) (k : Int) (w : World) (h : w.ownsRow base 9 1 v L.length (svB L)) (h0 : 1 ≤ k) (h1 : k + L.length ≤ 1000000) :
    Calls Tryz.prog 15 #[v, .int .i64 k] w fun e w' => e = .returned (.int .i64 (k + L.length)) ∧ w'.ownsRow base 9 1 v L.length (svB (mkL k L.length)) ∧ w.grownBy w' v.ownBlock := by
  obtain ⟨A, c, rfl, h2, h2', _⟩ := (ownsRow_row h).form
  go_enter Tryz.func15, Tryz.ntmps15
  go_wp2
  go_loopw [1, 5] (fun q i wr => ∃ j : Nat, j ≤ L.length ∧ i = .int .i64 j ∧ q = .int .i64 (k + j) ∧ w.grownBy wr (Value.slice A L.length c).ownBlock ∧ ∃ xs, wr.ownsRow base 9 1 (.slice A L.length c) L.length xs ∧ xs.take j = svB (mkL k j)) (fun _ i _ => L.length - (intOf i).toNat)
  case atStart => exact ⟨0, Nat.zero_le _, rfl, by simp, World.grownBy.refl _ _, _, h, by simp [mkL, svB]⟩
  case round =>
    obtain ⟨j, hj, rfl, rfl, hg, xs, ho, hm⟩ := hrel
    have hl := ho.1
    have HM := Lib.hid hm
    clear hm
    by_cases hlt : j < L.length
    · obtain ⟨g, rfl, hb, hgl⟩ := own_at ho (by omega)
      have HL := Lib.hid hl
      have hl' : Hid (j < xs.length) := Lib.hid (by omega)
      clear hl
      go_wp2_with fail
      refine (markText_c (k + j) wr (by omega) (by omega)).mono ?_
      rintro e w3 ⟨rfl, hx3⟩
      have ho3 := ownsRow_ext ho hx3
      have q0 := ho3.cellAt j (by have := hl'.out; omega)
      rw [List.getElem?_eq_getElem hl'.out] at q0
      have f0 := ho3.frozenAt j
      obtain ⟨s, hs⟩ : ∃ s, bsS (mkB (k + j)) = s := ⟨_, rfl⟩
      have HS := Lib.hid hs
      rw [hs]
      clear hs
      go_wp2
      obtain ⟨s1, s2⟩ := ho3.stored j (.string s)
      go_roundw
      case rel => exact ⟨j + 1, by omega, by go_num, by simp; omega, grownBy_trans (grownBy_trans hg (Ext.grow hx3 _)) s2, _, s1, by rw [take_set_snoc _ _ _ hl'.out, HM.out, mkL_succ, svBs_app, ← HS.out]; rfl⟩
      case measure => simp [intOf]; omega
    · have hje : j = L.length := by omega
      subst hje
      go_wp2
      go_ret
      refine ⟨rfl, ?_, hg⟩
      have e : xs = svB (mkL k L.length) := by rw [← HM.out, List.take_of_length_le (by omega)]
      rw [← e]
      exact ho
set_option maxRecDepth 20000 in
theorem heldStringS_c (v : Value) (k : Int) (n : Nat) (w : World) (h : Row w 1 v n (svB (mkL k n))) (h0 : 1 ≤ k) (h1 : k + n ≤ 1000000) :
    Calls Tryz.prog 16 #[v, .int .i64 k] w fun e w' => e = .returned (.int .i64 (k + n)) ∧ Ext w w' := by
  obtain ⟨A, c, rfl, h2, h2', _⟩ := h.form
  go_enter Tryz.func16, Tryz.ntmps16
  go_wp2
  go_loopw [1, 5] (fun q i wr => ∃ j : Nat, j ≤ n ∧ i = .int .i64 j ∧ q = .int .i64 (k + j) ∧ Ext w wr) (fun _ i _ => n - (intOf i).toNat)
  case atStart => exact ⟨0, Nat.zero_le _, rfl, by simp, Ext.refl _⟩
  case round =>
    obtain ⟨j, hj, rfl, rfl, hX⟩ := hrel
    by_cases hlt : j < n
    · obtain ⟨b, off, rfl, hc⟩ := h.at hlt
      have c0 := hc j (by omega)
      rw [svBs_get _ _ (by rw [mkL_length]; exact hlt), mkL_get _ _ _ hlt] at c0
      have HT := fun W => markText_c (k + j) W (by omega) (by omega)
      generalize bsS (mkB (k + j)) = s at *
      have hne : (s.toList != s.toList) = false := by simp
      have d0 := cellR (hX.cell c0)
      clear hc c0
      go_wp2_with fail
      refine wp_region_ext (by kernel_rfl) (by kernel_rfl) ?_
      repeat (go_big_quiet_step ((go_at_call 43; exact Calls.extR (HT _))))
      refine wpQuiet_nil ?_
      intro w2 hx2
      go_wp2
      go_roundw
      case rel => exact ⟨j + 1, by omega, by go_num, by simp; omega, hX.trans hx2⟩
      case measure => simp [intOf]; omega
    · have hje : j = n := by omega
      subst hje
      go_wp2
      go_ret
      exact ⟨rfl, hX⟩
set_option maxRecDepth 20000 in
theorem eqStringS_c (w : World) (u v : Value) (L : List (List UInt8)) (ha : Row w 1 u L.length (svB L)) (hb : Row w 1 v L.length (svB L)) :
    Calls Tryz.prog 10 #[u, v] w fun e w' => e = .returned (.bool true) ∧ Ext w w' := by
  obtain ⟨A, ca, rfl, h1, h1', _⟩ := ha.form
  obtain ⟨B, cb, rfl, h2, h2', _⟩ := hb.form
  have hl1 : ((L.length : Int) != (L.length : Int)) = false := by simp
  go_enter Tryz.func10, Tryz.ntmps10
  go_wp2
  go_loopw [5] (fun i wr => ∃ k : Nat, k ≤ L.length ∧ i = .int .i64 k ∧ Ext w wr) (fun i _ => L.length - (intOf i).toNat)
  case atStart => exact ⟨0, Nat.zero_le _, rfl, Ext.refl _⟩
  case round =>
    obtain ⟨k, hk, rfl, hx⟩ := hrel
    by_cases hlt : k < L.length
    · obtain ⟨b, off, rfl, hc⟩ := ha.at hlt
      obtain ⟨b', off', rfl, hc'⟩ := hb.at (k := k) hlt
      have c0 := hx.cell ((hc k (by omega)).trans (svBs_get L k hlt))
      have c0' := hx.cell ((hc' k (by omega)).trans (svBs_get L k hlt))
      clear hc hc' ha hb
      generalize bsS L[k] = s at *
      have hne : (s.toList != s.toList) = false := by simp
      go_wp2
      go_quiet (fail)
      go_wp2
      go_roundw
      case rel => exact ⟨k + 1, by omega, by go_num, hx.trans (Ext.drewN _ _)⟩
      case measure => simp [intOf]; omega
    · go_wp2
      go_ret
      exact ⟨rfl, hx⟩
end Go.Proofs.YtfghojbbofobeaaGreatDoor
end
