/- A region that draws its order, within a round of a range over a function: walked along a tree, as elsewhere. No condition.
Contract: the lists of a set in their order.
Contract: a round of the search for a proof by contexts. Written by mkcxc.py. -/
import Derived.Test.YtapjofbjedpmgaaGreatC07
import Derived.OrdersIn
import Derived.RangeFuncCalls
import Derived.AtR
import Derived.Test.YtapjofbjedpmgaaGreatC42
import Derived.Test.YtapjofbjedpmgaaGreatC39
import Derived.Test.YtapjofbjedpmgaaGreatC33
import Derived.Test.YtapjofbjedpmgaaGreatC28
section
set_option linter.unusedSimpArgs false
set_option linter.unusedVariables false
namespace Go.Proofs.YtapjofbjedpmgaaGreat
open Go Go.RowKit
theorem opIn_round {l n : Nat} {P : Program} {o : Oper} {a : Act} {w : World} {K : Act → World → Prop} {Q : Exit → Act → World → Prop} (ho : ∀ c, o.op ≠ .defer c) (h : o.wp P a w K Q) : o.wpIn (Fence.wide.inRound l) n P a w K Q := by
  refine ⟨fun _ _ => trivial, ?_⟩
  rw [Oper.semAt_eq _ _ _ ho]
  unfold Oper.wp at h
  have hd : ¬ ((Fence.wide.inRound l).depth.isSome = true) := by simp [Fence.wide]
  generalize (execOp a.eval o).run P w = r at h
  cases r with
  | ok x w' =>
    cases x with
    | value v => exact h
    | skip => exact h
    | defer d => exact h
    | enter f args => exact ⟨fun e => absurd e hd, CallsIn.inRound l (callsIn_wide.2 h)⟩
    | row row args => exact ⟨fun e => absurd e hd, fun c cs _ => let ⟨v, w', r, s⟩ := h c cs; ⟨v, w', r, stepsIn_wide.2 s⟩⟩
    | _ => exact h.elim
  | halt x w' => cases x <;> first | exact h | exact h.elim
def noDefer (o : Oper) : Bool := match o.op with | .defer _ => false | _ => true
theorem noDefer_spec {o : Oper} (h : noDefer o = true) : ∀ c, o.op ≠ .defer c := by
  intro c e
  unfold noDefer at h
  rw [e] at h
  cases h
theorem anyIn_round {l n : Nat} {P : Program} {md : Region.Mode} {ops : Array Oper} {Q : Exit → Act → World → Prop} (hq : ¬ LetsOut Q) (hd : ∀ (i : Nat) o, ops[i]? = some o → noDefer o = true) :
    ∀ (fuel : Nat) (listed : Array Bool) (a : Act) (w : World), wpAny P md ops Q fuel listed a w → wpAnyIn (Fence.wide.inRound l) n P md ops Q fuel listed a w := by
  intro fuel
  induction fuel with
  | zero => intro listed a w h; exact h
  | succ fuel ih =>
    intro listed a w h
    refine ⟨h.1, fun i hi => ?_⟩
    have h2 := h.2 i hi
    unfold wpOp at h2
    unfold wpOpIn
    cases ho : ops[i]? with
    | none => rw [ho] at h2; exact ih _ _ _ h2
    | some o =>
      rw [ho] at h2
      dsimp only at h2 ⊢
      split
      · rename_i hw
        rw [if_pos hw] at h2
        rcases h2 with h2 | ⟨_, h2⟩
        · exact opIn_round (noDefer_spec (hd i o ho)) (Oper.wp_mono (fun a w => ih _ a w) h2)
        · exact absurd h2 hq
      · rename_i hw
        rw [if_neg hw] at h2
        exact ⟨fun _ _ => trivial, ih _ _ _ h2⟩
variable {P : Program} {Q : Exit → Act → World → Prop}
/-- As wp_region_ordT, within a round. -/
theorem wpIn_region_ordT {m k : Nat} {id : Nat} {a : Act} {w : World} {l : List Oper} (n : Nat) (tr : OrdT) (hm : P.follows .mixedOrders = true) (hB : ordTreeB .any l.toArray n tr = true) (hD : l.all noDefer = true) (hq : ¬ LetsOut Q)
    (hQ : ∀ c t t' d w, Q (.panic c) ⟨t, d⟩ w → Q (.panic c) ⟨t', d⟩ w)
    (h : wpOrdT P l.toArray Q l (fun a' w' => wpList P l.toArray Q (l.drop n) a' w') tr (Ext w.drew) a w.drew) : (Code.region id l.toArray true).wpIn (Fence.wide.inRound m) k P Q a w := by
  simp only [ordTreeB, Bool.and_eq_true, decide_eq_true_eq] at hB
  obtain ⟨⟨⟨⟨hsel, hn⟩, hs⟩, hc⟩, hord⟩ := hB
  have hn' : n < l.length := by simpa using hn
  have hdl : (l.drop n).length = l.toArray.size - n := by simp
  have inv0 : HeadInv .any l.toArray n (Array.replicate l.toArray.size false) :=
    ⟨by simp, fun j oj _ hl => (by rw [getD_replicate_false] at hl; cases hl), fun t _ ht => _root_.Go.getD_in (by simpa using ht) (getD_replicate_false _ _)⟩
  have H := wpAnyN_ordT (md := .any) (g := l.toArray.size - n) (Lq := fun a' w' => wpList P l.toArray Q (l.drop n) a' w') rfl hsel hQ hs hc hn n tr (Ext w.drew) _ a w.drew inv0 hord (Ext.refl _) h
  refine wpIn_region_any hm (anyIn_round hq (fun i o ho => ?_) _ _ _ _ ?_)
  · have : o ∈ l := by simpa using Array.mem_of_getElem? ho
    exact List.all_eq_true.1 hD o this
  · have := wpAny_of_N (Q := Q) (g := l.toArray.size - n) (fun listed a' w' hL => by
      have := wpAny_of_seq (md := .any) (Q' := Q) (l.drop n) n listed a' w' (fun j => by simp [List.getElem?_drop]) (by rw [hdl]; exact hL.1) hL.2
      rwa [hdl] at this) _ _ _ _ _ H
    rw [show n + (l.toArray.size - n) = l.toArray.size by simp; omega] at this
    exact this
end Go.Proofs.YtapjofbjedpmgaaGreat
end
section
set_option linter.unusedSimpArgs false
set_option linter.unusedVariables false
namespace Go.Proofs.YtapjofbjedpmgaaGreat
open Go Go.RowKit Go.Proofs Go.Shelf Go.Maps Go.Sort
attribute [local go_sem] Oper.semAt_some
set_option maxHeartbeats 400000
/-- An item that a set has. -/
abbrev ItL (L : List (List Int)) : Type := {ys : List Int // anyT L ys = true}
def pref (len : Nat) {L : List (List Int)} (xs : List (ItL L)) : List (List Int) := xs.map fun ys => ys.1.take len
theorem pref_snoc (len : Nat) {L : List (List Int)} (xs : List (ItL L)) (x : ItL L) : pref len (xs ++ [x]) = pref len xs ++ [x.1.take len] := by simp [pref]
/-- What holds between two rounds. -/
structure ISo (w1 : World) (h len : Nat) (L : List (List Int)) (xs : List (ItL L)) (W : World) : Prop where
  own : ∃ lv, Blk W (h + 1) 32 #[lv] ∧ OwnLists h W lv (pref len xs)
  ext : Ext w1 W
  sz : h + 1 + 1 + 1 ≤ W.heap.size
theorem ISo.turn {w1 : World} {h len : Nat} {L : List (List Int)} {xs : List (ItL L)} {W W' : World} (k : ISo w1 h len L xs W) {row : Option Nat} (hg : W.grownBy W' row) (hr : ∀ r, row = some r → w1.heap.size ≤ r ∧ ∃ o : Obj, W.heap[r]? = some o ∧ o.isCells = false) : ISo w1 h len L xs W' := by
  obtain ⟨lv, hb, vs, ho, hi⟩ := k.own
  refine ⟨⟨lv, hb.kept hg (fun e => not_cells (o := .cells #[] 0) hb (hr _ e.symm).2), vs, own_same ho (fun g hgl => hg.block g (ho.lt g hgl).2 (fun e => own_not_cells ho hgl (hr g e.symm).2)), fun i hlt => ?_⟩, k.ext.grown hg (fun r e => (hr r e).1), by have := k.sz; have := hg.size; omega⟩
  obtain ⟨u, a, b⟩ := hi i hlt
  exact ⟨u, a, own_same b (fun g hgl => hg.block g (b.lt g hgl).2 (fun e => own_not_cells b hgl (hr g e.symm).2))⟩
theorem ISo.ext' {w1 : World} {h len : Nat} {L : List (List Int)} {xs : List (ItL L)} {W W' : World} (k : ISo w1 h len L xs W) (he : Ext W W') : ISo w1 h len L xs W' := by
  obtain ⟨lv, hb, ho⟩ := k.own
  exact ⟨⟨lv, hb.ext he, ho.ext he⟩, k.ext.trans he, by have := k.sz; have := he.size; omega⟩
theorem keepsWalks_turn (W : World) (l : Nat) (o o' : Obj) (h : W.heap[l]? = some o) (hw : o.isWalk = false) : KeepsWalks W (W.putObj l o') := KeepsWalks.putObj o' h hw
theorem KeepsWalks.of_ext {W W' : World} (h : Ext W W') : KeepsWalks W W' := ⟨h.size, fun k o hk _ => (Below.block h k (Array.getElem?_eq_some_iff.1 hk).1).trans hk⟩
set_option maxRecDepth 100000 in
set_option maxHeartbeats 4000000 in
theorem sorted_c (g mb n len : Nat) (L : List (List Int)) (w : World) (hS : SetAt w g mb n len (anyT L)) (hL : GoodL len L) (h0 : 0 < L.length) (hb : L.length ≤ 100000) (hl1 : 1 ≤ len) (hl : len ≤ 10) :
    Calls Tryz.prog 38 #[.pointer (some ⟨g, 0, none⟩)] w fun e w' => ∃ u S, e = .returned u ∧ SortOf L S ∧ OwnLists w.heap.size w' u S ∧ Ext w w' := by
  obtain ⟨h, hh⟩ : ∃ h, w.heap.size + 1 = h := ⟨_, rfl⟩
  obtain ⟨w1, hw1⟩ : ∃ w1, w.alloc (.cells #[.pointer (some ⟨g, 0, none⟩)] 61) = w1 := ⟨_, rfl⟩
  obtain ⟨W2, hW2⟩ : ∃ W2, (w1.alloc (.cells #[] 27)).alloc (.cells #[.slice (some ⟨h, 0, none⟩) 0 0] 32) = W2 := ⟨_, rfl⟩
  have hX1 : Ext w w1 := by rw [← hw1]; exact Ext.alloc _ _
  have hX2 : Ext w1 W2 := by rw [← hW2]; exact (Ext.alloc _ _).trans (Ext.alloc _ _)
  have hz1 : w1.heap.size = h := by rw [← hw1]; simp [hh]
  have hz2 : W2.heap.size = h + 1 + 1 := by rw [← hW2]; simp [hz1]
  have bP : Blk w1 w.heap.size 61 #[.pointer (some ⟨g, 0, none⟩)] := by rw [← hw1]; exact Blk.new _ _ _ _ rfl
  have bL : Blk W2 (h + 1) 32 #[.slice (some ⟨h, 0, none⟩) 0 0] := by rw [← hW2]; exact Blk.new _ _ _ _ (by simp [hz1])
  have o2 : OwnLists h W2 (.slice (some ⟨h, 0, none⟩) 0 0) [] := by
    rw [← hW2]
    refine OwnLists.ext (w := w1.alloc (.cells #[] 27)) ⟨[], ⟨by simp, .inr ⟨h, 0, #[], rfl, Nat.le_refl _, by rw [← hz1]; exact heap_alloc_new w1 _, by simp, by unfold maxLen; omega, rfl, by simp⟩⟩, fun i hi => by simp at hi⟩ (Ext.alloc _ _)
  have s0 := ((hS.ext (hX1.trans hX2)).blk).cell 0
  have s1 := ((hS.ext (hX1.trans hX2)).blk).cell 1
  have p0 := (bP.ext hX2).cell 0
  simp only [List.getElem?_toArray, List.getElem?_cons_zero, List.getElem?_cons_succ] at s0 s1 p0
  have hKc := Keys_c mb W2
  rw [hz2] at hKc
  refine (callsIn_wide (n := 8)).1 ?_
  refine callsIn_of_wp_marks Tryz.func38 rfl trivial ?_ rfl
  simp only [Tryz.ntmps38, List.size_toArray, List.length_cons, List.length_nil, Nat.reduceAdd, Nat.reduceSub, Array.replicate_succ, Array.replicate_zero, List.push_toArray, List.append_toArray, List.nil_append, List.cons_append]
  gi_wp2_with fail
  try rw [hw1]
  try rw [hh]
  try rw [hW2]
  refine ⟨trivial, (callsIn_wide.2 hKc).mono ?_⟩
  rintro e W3 ⟨rfl, hW3⟩
  have hX3 : Ext W2 W3 := by rw [hW3]; exact Ext.alloc _ _
  have hz3 : W3.heap.size = h + 1 + 1 + 1 := by rw [hW3]; simp [hz2]
  have bK3 : Blk W3 (h + 1 + 1) 104 #[.map (some mb)] := by rw [hW3]; exact Blk.new _ _ _ _ hz2
  have hS3 := hS.ext ((hX1.trans hX2).trans hX3)
  have hI0 : ISo w1 h len L [] W3 := ⟨⟨_, bL.ext hX3, o2.ext hX3⟩, hX2.trans hX3, by omega⟩
  have hKy : ∀ ys, anyT L ys = true → ∃ l, keyOf Tryz.prog 108 (enI ys) = some l := fun ys hy => anyT_key hL hl hy
  have hNl : ∀ l : List (List Int), l.Nodup → (∀ y ∈ l, anyT L y = true) → l.length ≤ L.length := fun l hn hy => by
    have := nodup_len (L := L.map padI) hn (fun x hx => by obtain ⟨y, a, b⟩ := anyT_iff.1 (hy x hx); rw [b]; exact List.mem_map.2 ⟨y, a, rfl⟩)
    simpa using this
  have h10 : ∀ ys, anyT L ys = true → ys.length = 10 := fun ys hy => by
    obtain ⟨x, a, rfl⟩ := anyT_iff.1 hy
    exact padI_len (by rw [hL.len x a]; exact hl)
  have HP := Lib.hid (And.intro bP (And.intro (hS.ext hX1) (And.intro h10 (And.intro hX1 hX2))))
  have HWL : Hid (w1.heap.size = h) := Lib.hid hz1
  clear hKc hW3 hW2 s0 s1 p0 bL o2 bP hS hw1 h10 hX1 hX2 hz1 hz2
  gi_wp2_with fail
  have h8 : 1 ≤ 8 := by omega
  refine wpIn_rangeFunc_ownH rfl h8 (gf := 104) (lb := #[.pointer (some ⟨h + 1 + 1, 0, none⟩)]) rfl trivial (enters_of Tryz.func104 (by kernel_rfl) rfl)
    (keys1_w (8 - 1) (by omega) W3 (h + 1 + 1) mb n L.length (anyT L) hS3.tab bK3 hKy hNl) (fun h k => KeepsWalks.trans h k) (fun W l o o' hl h1 h2 h3 => keepsWalks_turn W l o o' h1 h3) (Below.refl _ _) (fun _ => rfl)
    (ISo w1 h len L) (fun _ _ _ => False) (fun s W W' row k hg hr => k.turn hg (fun r e => ⟨by have := (hr r e).1; have := HWL.out; omega, (hr r e).2⟩)) (fun _ _ _ _ _ k _ _ => k) hI0
    (fun x a' W => ∃ gx, a' = { tmps := #[.pointer (some ⟨g, 0, none⟩), .pointer (some ⟨w.heap.size, 0, none⟩), .slice none 0 0, .pointer (some ⟨h + 1, 0, none⟩), .pointer (some ⟨gx, 0, none⟩), .slice (some ⟨h, 0, none⟩) 0 0, .pointer (some ⟨g, 0, none⟩), .pointer (some ⟨g, 0, none⟩), .pointer (some ⟨g, 0, none⟩), .map (some mb), .func (.func 104) #[] #[.pointer (some ⟨h + 1 + 1, 0, none⟩)], enI x.1, undef, undef, undef, undef, undef, undef, undef, undef, undef, undef, undef, undef], defers := [] } ∧ Blk W gx 108 (ivs x.1).toArray ∧ h + 1 + 1 + 1 ≤ gx)
    (fun x a' s W W' row hA hg hr => by obtain ⟨gx, e, hb, hl⟩ := hA; exact ⟨gx, e, hb.kept hg (fun e => not_cells (o := .cells #[] 0) hb (hr _ e.symm).2), hl⟩)
    ?assign ?body ?done ?stop
  case assign =>
    rintro l pre ⟨ys, hys⟩ W K hI hK
    obtain ⟨a0, a1, a2, a3, a4, a5, a6, a7, a8, a9, rfl⟩ := ten_form (HP.out.2.2.1 ys hys)
    have hsz := hI.sz
    have he : enI [a0, a1, a2, a3, a4, a5, a6, a7, a8, a9] = .agg #[.int .i64 a0, .int .i64 a1, .int .i64 a2, .int .i64 a3, .int .i64 a4, .int .i64 a5, .int .i64 a6, .int .i64 a7, .int .i64 a8, .int .i64 a9] := rfl
    have hb : Blk (W.alloc (.cells #[.int .i64 a0, .int .i64 a1, .int .i64 a2, .int .i64 a3, .int .i64 a4, .int .i64 a5, .int .i64 a6, .int .i64 a7, .int .i64 a8, .int .i64 a9] 108)) W.heap.size 108 (ivs [a0, a1, a2, a3, a4, a5, a6, a7, a8, a9]).toArray := Blk.new _ _ _ _ rfl
    have hx : Ext W (W.alloc (.cells #[.int .i64 a0, .int .i64 a1, .int .i64 a2, .int .i64 a3, .int .i64 a4, .int .i64 a5, .int .i64 a6, .int .i64 a7, .int .i64 a8, .int .i64 a9] 108)) := Ext.alloc _ _
    have HA := Lib.hid (And.intro hb (And.intro hx hsz))
    clear hb hx hsz
    rw [he]
    gi_wp2
    exact hK _ _ ((show KeepsOthers W _ from KeepsOthers.alloc _ _).from _) (KeepsWalks.alloc _ _) (hI.ext' HA.out.2.1) ⟨W.heap.size, rfl, HA.out.1, HA.out.2.2⟩
  case body =>
    obtain ⟨r0i, hri, rz0, rz1, rz2⟩ := info_parts rowInfo
    rintro l pre ⟨ys, hys⟩ a' W' hlw hloop hI ⟨gx, rfl, hbx, hgx⟩ hlen
    have hys10 := HP.out.2.2.1 ys hys
    obtain ⟨lv, hbL, vs, hoL, hiL⟩ := hI.own
    have hpl : (pref len pre).length = pre.length := by simp [pref]
    have hP3 := HP.out.1.ext hI.ext
    have hS1 := (HP.out.2.1.ext hI.ext).blk
    have s1 := hS1.cell 1
    have p0 := hP3.cell 0
    have l0 := hbL.cell 0
    simp only [List.getElem?_toArray, List.getElem?_cons_zero, List.getElem?_cons_succ] at s1 p0 l0
    obtain ⟨xp, hxp⟩ : ∃ xp, ys.take len = xp := ⟨_, rfl⟩
    have hxl : xp.length = len := by rw [← hxp, List.length_take]; omega
    have hIx : Ints W' (.slice (some ⟨gx, 0, none⟩) xp.length 10) xp := by
      refine ⟨_, _, rfl, by omega, by omega, by simp [ivs], fun _ => ⟨gx, 0, rfl, fun j hj => ?_⟩⟩
      have hj' : j < xp.length := by simpa [ivs] using hj
      have := hbx.cell j
      rw [Nat.zero_add]
      simp only at this
      rw [this, ivs_get xp j hj', List.getElem?_toArray, ivs_get ys j (by omega)]
      simp only [← hxp, List.getElem_take]
    obtain ⟨Av, cv, rfl, hcv1, hcv2, _⟩ := (ownsRow_row hoL).form
    have HPX : Hid (pref len (pre ++ [⟨ys, hys⟩]) = pref len pre ++ [xp]) := Lib.hid (by rw [pref_snoc]; simp only [hxp])
    obtain ⟨P, hPd⟩ : ∃ P, pref len pre = P := ⟨_, rfl⟩
    have hiP : ∀ i, (hi : i < P.length) → ∃ u, vs[i]? = some u ∧ OwnInts h W' u P[i] := by subst hPd; exact hiL
    clear hiL
    rw [hPd] at HPX hoL hpl hcv1 l0 hbL
    have hPl : P.length ≤ 100000 := by omega
    have HX := Lib.hid (And.intro hbL (And.intro hoL (And.intro hiP (And.intro hI (And.intro hIx (And.intro hgx hlw))))))
    have HLEN := Lib.hid (And.intro hpl hxl)
    rw [hxl] at hIx
    clear hbL hoL hiP hI hS1 hP3 hIx hloop hgx hlw hbx hPd hxp hpl hlen hys10 hxl
    gi_wp2_with fail
    refine wpIn_region_ordT 8 (readsT [0, 1, 2, 3, 4, 5] (.stir 6 (.stir 7 .done))) (by kernel_rfl) (by kernel_rfl) (by kernel_rfl) (by rintro ⟨_, _, hh⟩; exact hh) (fun _ _ _ _ _ h => h) ?_
    simp only [readsT]
    iterate 5 (refine wpOrdT_read (v := ?_) (by rfl) (Or.inl ⟨by rfl, fun x hx => ?_⟩) ?_; rotate_left; (· have a1 := hx.cell ((Ext.drew W').cell s1); have a2 := hx.cell ((Ext.drew W').cell p0); have a3 := hx.cell ((Ext.drew W').cell l0); go_simp; try with_reducible rfl); try simp only [Act.put, List.setIfInBounds_toArray, List.set_cons_zero, List.set_cons_succ])
    refine wpOrdT_read (v := .slice (some ⟨gx, 0, none⟩) len 10) (by rfl) (Or.inl ⟨by rfl, fun x hx => ?_⟩) ?_
    · go_simp
      have hal : Tryz.prog.arrayLen 108 = 10 := by simp [Program.arrayLen, Tryz.underlying108]
      rw [run_sliceAt_array_h x 108 ⟨gx, 0, none⟩ (by simp [Program.arrayLen, Program.elem, Tryz.underlying108]) .i64 (len : Int) (by omega) (by rw [hal]; omega)]
      go_simp
      try simp [slicedAt, hal, sliced]
      try omega
    try simp only [Act.put, List.setIfInBounds_toArray, List.set_cons_zero, List.set_cons_succ]
    have hxd : Ext W' W'.drew := Ext.drew W'
    generalize W'.drew = w0 at *
    refine wpOrdT_keep (by rfl) (fun K hK => ?_)
    go_simp
    go_at_call 68
    have hIx := (HX.out.2.2.2.2.1.ext hxd)
    rw [HLEN.out.2] at hIx
    refine (CloneF_c _ xp w0 hIx (.inr ⟨_, _, _, _, rfl⟩) (by have := HLEN.out.2; omega)).mono ?_
    rintro e w2 ⟨u, rfl, ou, _, hx2⟩
    refine hK _ _ hx2 ?_
    clear hK K hIx
    obtain ⟨Au, cu, rfl, _, _, _⟩ := (ownsRow_row ou).form
    refine wpOrdT_keep (by rfl) (fun K hK => ?_)
    go_simp
    refine hK _ _ (hx2.trans (Ext.alloc _ _)) ?_
    clear hK K
    refine wpOrdT_done ?_
    try simp only [List.drop_succ_cons, List.drop_zero]
    have hX2 := hxd.trans hx2
    have e1 := Ext.alloc w2 (.cells #[.slice Au xp.length cu] 27)
    have hsz0 := HX.out.2.2.2.1.sz
    have hgw : h ≤ w0.heap.size := by have := hxd.size; omega
    have hgw2 : h ≤ w2.heap.size := by have := hx2.size; omega
    have q1 := ownsRow_ext HX.out.2.1 (hX2.trans e1)
    have q2 : ∀ i, (hi : i < P.length) → ∃ u, vs[i]? = some u ∧ OwnInts h (w2.alloc (.cells #[.slice Au xp.length cu] 27)) u P[i] := fun i hi => by obtain ⟨u, a, b⟩ := HX.out.2.2.1 i hi; exact ⟨u, a, ownsRow_ext b (hX2.trans e1)⟩
    have oz2 : OwnInts h (w2.alloc (.cells #[.slice Au xp.length cu] 27)) (.slice Au xp.length cu) xp := ownsRow_base (ownsRow_ext ou e1) hgw
    have HOZ := Lib.hid oz2
    have HQ2 := Lib.hid q2
    have HE := Lib.hid (And.intro (hX2.trans e1) q1)
    have hszb : h ≤ (w2.alloc (.cells #[.slice Au xp.length cu] 27)).heap.size := by have := e1.size; omega
    clear oz2 q2 ou s1 p0 l0 e1
    generalize xp.length = nx at *
    go_wp2_with (at_builtin; refine wpList_append_own_at _ rfl _ _ 32 rfl h 27 r0i (.slice none 0 0) 1 24 Tryz.underlying32 hri rz0 rz1 rz2 rfl (by decide) _ _ _ rfl q1 ⟨w2.heap.size, 0, none⟩ 1 1 [.slice Au nx cu] rfl rfl (cell_one_new _ _ _) ?c2 ?c3 ?c4 ?c5 ?_)
    case c2 => intro u hu; simp at hu; subst hu; rfl
    case c3 => unfold maxLen; omega
    case c4 => omega
    case c5 => exact hszb
    intro v' w4 hown4 hg4 _ hloc
    have HS : Hid (OwnLists h w4 v' (pref len (pre ++ [⟨ys, hys⟩]))) := Lib.hid (by rw [HPX.out]; exact OwnLists.snoc q1 HQ2.out HOZ.out hown4 hg4)
    obtain ⟨Aw, cw, rfl, _, _, _⟩ := (ownsRow_row hown4).form
    have hXa := HE.out.1
    have bL4 := (HX.out.1.ext hXa).kept hg4 (blk_ne_row (HX.out.1.ext hXa) q1 (by decide))
    have hcellsO : ∀ (j : Nat) (o : Obj), (Value.slice Av P.length cv).ownBlock = some j → (w2.alloc (.cells #[.slice Au nx cu] 27)).heap[j]? = some o → o.isCells = true := fun j o hj hl => by
      rcases q1.2 with ⟨e, _⟩ | ⟨g', cap, cur, e, _, hg', _⟩
      · rw [e] at hj; simp [Value.ownBlock] at hj
      · rw [e] at hj
        simp [Value.ownBlock] at hj
        subst hj
        rw [hg'] at hl
        cases hl
        rfl
    have hK4 : KeepsOthers W' w4 := (show KeepsOthers W' _ from ⟨Ext.size hXa, fun k o hk ho => (Below.block hXa k (Array.getElem?_eq_some_iff.1 hk).1).trans hk⟩).trans (KeepsOthers.of_grownBy hg4 hcellsO)
    have hKw4 : KeepsWalks W' w4 := (KeepsWalks.of_ext hXa).trans (KeepsWalks.of_grownBy hg4 (fun j o hj hl => by have := hcellsO j o hj hl; cases o <;> first | rfl | cases this))
    have hE4 : Ext w1 w4 := (HX.out.2.2.2.1.ext.trans hXa).grown hg4 (fun b hb => by have := (q1.lt b hb).1; have := HWL.out; omega)
    have hsz4 : h + 1 + 1 + 1 ≤ w4.heap.size := by have := hg4.size; have := hXa.size; omega
    have HF : Hid (KeepsFrom W3.heap.size W' (w4.setCell ⟨h + 1, 0, none⟩ (.slice Aw (P.length + 1) cw)) ∧ KeepsWalks W' (w4.setCell ⟨h + 1, 0, none⟩ (.slice Aw (P.length + 1) cw)) ∧ ISo w1 h len L (pre ++ [⟨ys, hys⟩]) (w4.setCell ⟨h + 1, 0, none⟩ (.slice Aw (P.length + 1) cw))) := by
      refine ⟨(hK4.trans (KeepsOthers.setCell _ _ _)).from _, hKw4.trans (KeepsWalks.setCell _ _ _), ⟨⟨_, bL4.set_ 0 (.slice Aw (P.length + 1) cw), ?_⟩, hE4.setCell (p := ⟨h + 1, 0, none⟩) (by show w1.heap.size ≤ h + 1; have := HWL.out; omega) _, by simpa [World.setCell] using hsz4⟩⟩
      obtain ⟨vs4, a4, b4⟩ := HS.out
      exact ⟨vs4, ownsRow_far a4 (own_far_blk a4 bL4 (by decide)) _, fun i hi => by obtain ⟨u, c, d⟩ := b4 i hi; exact ⟨u, c, ownsRow_far d (own_far_blk d bL4 (by decide)) _⟩⟩
    have g0 := bL4.cell 0
    have gf := bL4.frozen 0
    simp only [List.getElem?_toArray, List.getElem?_cons_zero] at g0
    clear hown4 hg4 q1 bL4 hE4 hK4 hKw4 hcellsO hXa HS HE
    go_wp2
    exact HF.out
  case done =>
    rintro D xs W' hD hxs hI hK
    obtain ⟨lv, hbL, hoL⟩ := hI.own
    have hnd : (pref len xs).Nodup := by
      have h1 := hxs.1
      unfold pref
      have e : (xs.map fun ys => ys.1.take len) = (xs.map (·.1)).map (fun y => y.take len) := by simp
      rw [e]
      refine List.pairwise_map.2 (List.Pairwise.imp_of_mem ?_ h1)
      intro x y hx hy hne he
      obtain ⟨x', _, rfl⟩ := List.mem_map.1 hx
      obtain ⟨y', _, rfl⟩ := List.mem_map.1 hy
      obtain ⟨a, ha, ea⟩ := anyT_iff.1 x'.2
      obtain ⟨b, hb', eb⟩ := anyT_iff.1 y'.2
      rw [ea, eb, padI_take (hL.len a ha), padI_take (hL.len b hb')] at he
      rw [ea, eb, he] at hne
      exact hne rfl
    have hmem : ∀ x, x ∈ pref len xs ↔ x ∈ L := fun x => by
      unfold pref
      rw [List.mem_map]
      constructor
      · rintro ⟨y, _, rfl⟩
        obtain ⟨a, ha, ea⟩ := anyT_iff.1 y.2
        rw [ea, padI_take (hL.len a ha)]
        exact ha
      · intro hx
        have := hxs.2 (padI x) (anyT_iff.2 ⟨x, hx, rfl⟩)
        obtain ⟨y, hy, e⟩ := List.mem_map.1 this
        exact ⟨y, hy, by rw [e, padI_take (hL.len x hx)]⟩
    have hne : 0 < (pref len xs).length := by
      obtain ⟨a, ha⟩ := List.exists_mem_of_length_pos h0
      exact List.length_pos_of_mem ((hmem a).2 ha)
    have hle : (pref len xs).length ≤ 1048576 := by
      have := nodup_len hnd (fun x hx => (hmem x).1 hx)
      omega
    have SO := sortOwn_c h W' lv _ hoL hne hle
    obtain ⟨vs, hoR, _⟩ := id hoL
    obtain ⟨Av, cv, rfl, _, _, _⟩ := (ownsRow_row hoR).form
    have l0 := hbL.cell 0
    simp only [List.getElem?_toArray, List.getElem?_cons_zero] at l0
    obtain ⟨np, hnp⟩ : ∃ n, (pref len xs).length = n := ⟨_, rfl⟩
    rw [hnp] at l0 SO hoR hbL
    have HQ := Lib.hid (And.intro hnd (And.intro hmem (And.intro hoR (And.intro hbL (And.intro hI hnp)))))
    clear hnd hmem hoR hbL hoL hI hne hle hnp hxs
    gi_wp2_with fail
    refine ⟨trivial, (callsIn_wide.2 SO).mono ?_⟩
    rintro e w4 ⟨rfl, ⟨yss, hperm, hsort, hoY⟩, hg4⟩
    obtain ⟨hnd, hmem, hoR, hbL, hI, hnp⟩ := HQ.out
    have bL4 := hbL.kept hg4 (blk_ne_row hbL hoR (by decide))
    have hX1 := HP.out.2.2.2.1
    have hE4 : Ext w w4 := (hX1.trans hI.ext).grown hg4 (fun b hb => by have := (hoR.lt b hb).1; omega)
    have hKD : w4.heap[D]? = some (.deferred (some [])) := (hg4.block D (Array.getElem?_eq_some_iff.1 hK).1 (fun e => own_not_cells hoR e.symm ⟨_, hK, rfl⟩)).trans hK
    have hstrict : yss.Pairwise (fun a b => cmpL a b < 0) := by
      have hndy : yss.Nodup := (hperm.nodup_iff).2 hnd
      refine (List.pairwise_and_iff.2 ⟨hsort, hndy⟩).imp ?_
      rintro a b ⟨h1, h2⟩
      have h3 := cmpL_anti a b
      have h4 : cmpL a b ≠ 0 := fun e => h2 (cmpL_eq a b e)
      omega
    have hylen : yss.length = np := by rw [← hnp]; exact hperm.length_eq
    have HR : Hid (SortOf L yss ∧ OwnLists h w4 (.slice Av np cv) yss) := Lib.hid ⟨⟨hstrict, fun x => (hperm.mem_iff).trans (hmem x)⟩, hoY⟩
    have l0 := bL4.cell 0
    simp only [List.getElem?_toArray, List.getElem?_cons_zero] at l0
    have HD := Lib.hid (And.intro hE4 hKD)
    clear hnd hmem hoR hbL hI hnp hX1 hE4 hKD hstrict hylen bL4 hperm hsort hoY hg4 SO hK
    gi_wp2
    refine ⟨by simp, .inl ⟨_, _, rfl, run_takeDeferred HD.out.2, ?_⟩⟩
    have hgr := grownBy_putObj' w4 D (.deferred none)
    have hwD : w.heap.size ≤ D := by omega
    have hkeep : ∀ {v : Value} {e : TypeId} {sz k : Nat} {xs : List Value}, w4.ownsRow h e sz v k xs → (w4.putObj D (.deferred none)).ownsRow h e sz v k xs := fun ho => own_same ho (fun g hgl => hgr.block g (ho.lt g hgl).2 (fun e => own_not_cells ho hgl ⟨.deferred (some []), by injection e with e; rw [e]; exact HD.out.2, rfl⟩))
    obtain ⟨vs4, a4, b4⟩ := HR.out.2
    refine ⟨.slice Av np cv, by simp [results, Tryz.f38], _, _, rfl, HR.out.1, ⟨vs4, ownsRow_base (hkeep a4) (by omega), fun i hi => by obtain ⟨u, c, d⟩ := b4 i hi; exact ⟨u, c, ownsRow_base (hkeep d) (by omega)⟩⟩, HD.out.1.grown hgr (fun r e => by cases e; exact hwD)⟩
  case stop =>
    rintro D cd pre W' hD _ k hK
    exact k.elim
end Go.Proofs.YtapjofbjedpmgaaGreat
end
section
set_option linter.unusedSimpArgs false
set_option linter.unusedVariables false
namespace Go.Proofs.YtapjofbjedpmgaaGreat
open Go Go.RowKit Go.Proofs
set_option maxHeartbeats 400000
/-- The sets in a world. -/
structure RdW (w wr : World) (gx gl gr gc ml mr mc n kl kr kc : Nat) (sy st : Int) (rv : Value) (L R C : List (List Int)) : Prop where
  clo : CloAt wr gx sy st rv gl gr gc
  l : SetAt wr gl ml kl n (anyT L)
  r : SetAt wr gr mr kr n (anyT R)
  c : SetAt wr gc mc kc (2 * n + 2) (anyT C)
  mo : MapsO ml mr mc w wr
theorem RdW.ext {w wr wr' : World} {gx gl gr gc ml mr mc n kl kr kc : Nat} {sy st : Int} {rv : Value} {L R C : List (List Int)} (h : RdW w wr gx gl gr gc ml mr mc n kl kr kc sy st rv L R C) (he : Ext wr wr') : RdW w wr' gx gl gr gc ml mr mc n kl kr kc sy st rv L R C :=
  ⟨Blk.ext h.clo he, h.l.ext he, h.r.ext he, h.c.ext he, h.mo.trans (MapsO.of_ext he)⟩
/-- The three maps lie apart. -/
structure Ap3 (ml mr mc : Nat) : Prop where
  lr : ml ≠ mr
  lc : ml ≠ mc
  rc : mr ≠ mc
theorem SetAt.other {w w' : World} {g mb n len mx : Nat} {T : List Int → Bool} (h : SetAt w g mb n len T) (hg : w.grownBy w' (some mx)) (hm : ∃ es c, w.heap[mx]? = some (.map es c)) (hne : mb ≠ mx) : SetAt w' g mb n len T := by
  refine ⟨h.blk.kept hg (fun e => ?_), h.tab.kept hg (fun e => by injection e with e; exact hne e)⟩
  injection e with e
  subst e
  obtain ⟨es, c, hm⟩ := hm
  have hb := h.blk
  unfold Blk at hb
  rw [hm] at hb
  cases hb
theorem clo_kept {w w' : World} {gx gl gr gc mx : Nat} {sy st : Int} {rv : Value} (h : CloAt w gx sy st rv gl gr gc) (hg : w.grownBy w' (some mx)) (hm : ∃ es c, w.heap[mx]? = some (.map es c)) : CloAt w' gx sy st rv gl gr gc :=
  (MapsO.of_grown (ml := mx) (mr := mx) (mc := mx) (.inl rfl) hg hm).blk _ _ _ h
theorem RdW.addL {w wr w' : World} {gx gl gr gc ml mr mc n kl kr kc k' : Nat} {sy st : Int} {rv : Value} {L R C L2 : List (List Int)} (h : RdW w wr gx gl gr gc ml mr mc n kl kr kc sy st rv L R C) (ha : Ap3 ml mr mc) (hs : SetAt w' gl ml k' n (anyT L2)) (hg : wr.grownBy w' (some ml)) : RdW w w' gx gl gr gc ml mr mc n k' kr kc sy st rv L2 R C :=
  ⟨clo_kept h.clo hg h.l.tab.isMap, hs, h.r.other hg h.l.tab.isMap (Ne.symm ha.lr), h.c.other hg h.l.tab.isMap (Ne.symm ha.lc), h.mo.trans (MapsO.of_grown (.inl rfl) hg h.l.tab.isMap)⟩
theorem RdW.addR {w wr w' : World} {gx gl gr gc ml mr mc n kl kr kc k' : Nat} {sy st : Int} {rv : Value} {L R C R2 : List (List Int)} (h : RdW w wr gx gl gr gc ml mr mc n kl kr kc sy st rv L R C) (ha : Ap3 ml mr mc) (hs : SetAt w' gr mr k' n (anyT R2)) (hg : wr.grownBy w' (some mr)) : RdW w w' gx gl gr gc ml mr mc n kl k' kc sy st rv L R2 C :=
  ⟨clo_kept h.clo hg h.r.tab.isMap, h.l.other hg h.r.tab.isMap ha.lr, hs, h.c.other hg h.r.tab.isMap (Ne.symm ha.rc), h.mo.trans (MapsO.of_grown (.inr (.inl rfl)) hg h.r.tab.isMap)⟩
theorem RdW.addC {w wr w' : World} {gx gl gr gc ml mr mc n kl kr kc k' : Nat} {sy st : Int} {rv : Value} {L R C C2 : List (List Int)} (h : RdW w wr gx gl gr gc ml mr mc n kl kr kc sy st rv L R C) (ha : Ap3 ml mr mc) (hs : SetAt w' gc mc k' (2 * n + 2) (anyT C2)) (hg : wr.grownBy w' (some mc)) : RdW w w' gx gl gr gc ml mr mc n kl kr k' sy st rv L R C2 :=
  ⟨clo_kept h.clo hg h.c.tab.isMap, h.l.other hg h.c.tab.isMap ha.lc, h.r.other hg h.c.tab.isMap ha.rc, hs, h.mo.trans (MapsO.of_grown (.inr (.inr rfl)) hg h.c.tab.isMap)⟩
/-- What a round returns. -/
def RndOut (w : World) (gx gl gr gc ml mr mc n : Nat) (m : MachD) (rv : Value) (L R C : List (List Int)) (e : Ending) (w' : World) : Prop :=
  MapsO ml mr mc w w' ∧ (e = .returned (.bool false) ∨ (e = .returned (.bool true) ∧ ∃ L' R' C' S kl kr kc, SortOf C S ∧ Rds m n L R C S L' R' C' ∧ RdW w w' gx gl gr gc ml mr mc n kl kr kc m.sy m.st rv L' R' C' ∧ S.length ≤ 1000 ∧ L'.length ≤ 10000 ∧ R'.length ≤ 10000 ∧ C'.length ≤ 20000))
set_option maxRecDepth 200000 in
set_option maxHeartbeats 8000000 in
theorem round_c (gx gl gr gc ml mr mc n : Nat) (m : MachD) (rv : Value) (L R C : List (List Int)) (w : World) (h : RdW w w gx gl gr gc ml mr mc n L.length R.length C.length m.sy m.st rv L R C) (ha : Ap3 ml mr mc) (hr : Rules w rv m.rules) (hm : machOk m = true)
    (il : InL m.sy n L) (ir : InL m.sy n R) (ic : InC m.sy m.st n C) (nl : L.length ≤ 1000) (nr : R.length ≤ 1000) (nc : C.length ≤ 1000) (n0 : 0 < C.length) (hnd : C.Nodup) (hn1 : 1 ≤ n) (hn4 : n ≤ 4) :
    Calls Tryz.prog 61 #[.pointer (some ⟨gx, 0, none⟩)] w fun e w' => RndOut w gx gl gr gc ml mr mc n m rv L R C e w' := by
  obtain ⟨Am, lr0, rfl, _, _⟩ := id hr.form
  obtain ⟨⟨s1, s2, s3, s4⟩, _, _⟩ := machOk_five hm
  have gC := ic.good (by omega) (by omega)
  have SO := sorted_c gc mc C.length (2 * n + 2) C w h.c gC n0 (by omega) (by omega) (by omega)
  have x5 := Blk.cell h.clo 5
  simp only [List.getElem?_toArray, List.getElem?_cons_zero, List.getElem?_cons_succ] at x5
  have HG := Lib.hid (And.intro h (And.intro ha (And.intro hr (And.intro hm (And.intro il (And.intro ir (And.intro ic (And.intro nl (And.intro nr (And.intro nc hnd))))))))))
  clear h ha hr il ir ic nl nr nc gC n0 hnd
  go_enter Tryz.func61, Tryz.ntmps61
  go_wp2_with fail
  refine SO.mono ?_
  rintro e w1 ⟨uS, S, rfl, hSO, oS, hx1⟩
  obtain ⟨AS, cS, rfl⟩ := oS.form
  have hSl : S.length ≤ 1000 := by have := nodup_len hSO.nodup (fun x hx => (hSO.mem x).1 hx); have := HG.out.2.2.2.2.2.2.2.2.2.1; omega
  have LS := oS.lists
  have HS := Lib.hid (And.intro hSO (And.intro LS hSl))
  have HX1 := Lib.hid hx1
  have HSY : Hid (∃ Sy : Nat, m.sy = (Sy : Int) ∧ Sy ≤ 6) := Lib.hid ⟨m.sy.toNat, by omega, by omega⟩
  clear SO x5 oS hSO LS hx1
  go_wp2
  go_loopw [15] (fun i wr => ∃ (k : Nat), k ≤ S.length ∧ i = .int .i64 (k : Int) ∧ Hid (∃ L' R' C' kl kr kc, Rds m n L R C (S.take k) L' R' C' ∧ RdW w wr gx gl gr gc ml mr mc n kl kr kc m.sy m.st (.slice Am m.rules.length lr0) L' R' C' ∧ kl ≤ 1000 + k ∧ kr ≤ 1000 + k ∧ kc ≤ 1000 + 6 * k) ∧ Hid (MapsO ml mr mc w1 wr)) (fun i _ => S.length - (intOf i).toNat)
  case atStart =>
    refine ⟨0, Nat.zero_le _, rfl, Lib.hid ⟨L, R, C, _, _, _, Rds.start HG.out.2.2.2.2.1 HG.out.2.2.2.2.2.1 HG.out.2.2.2.2.2.2.1, HG.out.1.ext HX1.out, ?_, ?_, ?_⟩, Lib.hid (MapsO.of_ext (Ext.refl _))⟩
    · have := HG.out.2.2.2.2.2.2.2.1; omega
    · have := HG.out.2.2.2.2.2.2.2.2.1; omega
    · have := HG.out.2.2.2.2.2.2.2.2.2.1; omega
  case round =>
    obtain ⟨k, hk, rfl, HR, HM⟩ := hrel
    by_cases hlt : k < S.length
    · have hd : decide ((k : Int) < (S.length : Int)) = true := decide_eq_true (by omega)
      have hc1 : (k : Int) < (S.length : Int) := by omega
      have hwk : IntKind.i64.wrap ((k : Int) + 1) = ((k + 1 : Nat) : Int) := by rw [show (k : Int) + 1 = ((k + 1 : Nat) : Int) by omega]; exact IntWalk.i64_in _ (by omega)
      obtain ⟨L', R', C', kl, kr, kc, hRds, hRdW, b1, b2, b3⟩ := HR.out
      obtain ⟨b', off', uu, hAc, c0, iu, fu⟩ := Lists.at (HS.out.2.1.mo HM.out) hlt
      subst hAc
      have hmemS := List.getElem_mem hlt
      have hshape := HG.out.2.2.2.2.2.2.1 _ ((HS.out.1.mem _).1 hmemS)
      have HTK : Hid (S.take (k + 1) = S.take k ++ [S[k]]) := Lib.hid (List.take_succ_eq_append_getElem hlt)
      obtain ⟨x, hxk⟩ : ∃ x, S[k] = x := ⟨_, rfl⟩
      rw [hxk] at iu hshape HTK
      obtain ⟨q, xs, rfl⟩ : ∃ a t, x = a :: t := by
        cases x with
        | nil => simp at hshape
        | cons a t => exact ⟨a, t, rfl⟩
      simp only [List.getD_cons_zero, List.drop_succ_cons, List.drop_zero] at hshape
      have hxl : xs.length = 2 * n + 1 := by have := hshape.1; simp only [List.length_cons] at this; omega
      obtain ⟨bu, ou, cu, rfl⟩ := ints_at iu (by simp)
      obtain ⟨bb, oo, ee, hcell⟩ := iu.at (k := 0) (by simp)
      injection ee with ee
      injection ee with e1 e2
      subst e1 e2
      have q0 := hcell 0 (by simp)
      simp only [List.getElem_cons_zero, Nat.add_zero] at q0
      have hcu : (q :: xs).length ≤ cu := by
        obtain ⟨_, _, e, h, _⟩ := iu.form
        (injection e with _ _ e3) <;> omega
      have hdrop2 : Ints wr (.slice (some ⟨bu, ou + 1, none⟩) xs.length (cu - 1)) xs := iu.drop 1 (by simp)
      obtain ⟨nx, hnx⟩ : ∃ z, xs.length = z := ⟨_, rfl⟩
      have hql : (q :: xs).length = nx + 1 := by rw [List.length_cons, hnx]
      rw [hql] at c0 hcu
      have hcu1 : ¬ cu = 1 := by omega
      have hnx9 : nx ≤ 9 := by omega
      have HRL : Rules wr (.slice Am m.rules.length lr0) m.rules := hRdW.mo.row _ _ _ _ HG.out.2.2.1
      have LO := fun W (h : Ext wr W) => lost_c m (.slice Am m.rules.length lr0) q bu (ou + 1) (cu - 1) n xs W (Rules.ext HRL h) HG.out.2.2.2.1 hshape.2.1 (hdrop2.ext h) hshape.2.2 hxl hn4 hn1
      obtain ⟨RR, hR0⟩ : ∃ R, ruleX m q xs = R := ⟨_, rfl⟩
      rw [hR0] at LO
      rw [hnx] at LO
      obtain ⟨Y, hY⟩ : ∃ Y, lostX RR xs = Y := ⟨_, rfl⟩
      have hYl : Y.length = n := by rw [← hY]; exact lostX_len hxl
      have hxsm : ∀ z ∈ xs, smallQ z := fun z hz => by have := hshape.2.2 z hz; exact ⟨by omega, by omega⟩
      have hYs : ∀ z ∈ Y, smallQ z := by rw [← hY]; exact lostX_small hxsm
      obtain ⟨rw_, rm, rn⟩ := RR
      obtain ⟨ir0, hir⟩ : ∃ b, isR ⟨rw_, rm, rn⟩ = b := ⟨_, rfl⟩
      have HK := Lib.hid (And.intro hdrop2 (And.intro hxl (And.intro hR0 (And.intro hYl (And.intro hYs (And.intro hxsm (And.intro hnx (And.intro hY (And.intro hir hshape)))))))))
      have HW := Lib.hid (And.intro hRds (And.intro hRdW (And.intro b1 (And.intro b2 b3))))
      have m0 := Blk.cell hRdW.clo 0
      have m1 := Blk.cell hRdW.clo 1
      have m2 := Blk.cell hRdW.clo 2
      simp only [List.getElem?_toArray, List.getElem?_cons_zero, List.getElem?_cons_succ] at m0 m1 m2
      obtain ⟨lr, hlr⟩ : ∃ z, m.rules.length = z := ⟨_, rfl⟩
      rw [hlr] at LO m2
      have HLR := Lib.hid hlr
      clear hdrop2 hxl hYl hYs hxsm hnx hY hir hRds hRdW b1 b2 b3 hshape hmemS iu fu hcell hxk hql hR0 HRL hlr HR
      go_upto_region 4 with fail
      go_cut [5, 6, 7] (fun a b d wx => d = .bool ir0 ∧ ∃ g3, a = .pointer (some ⟨g3, 0, none⟩) ∧ Blk wx g3 65 #[.int .i64 rw_, .int .i64 rm, .int .i64 rn] ∧ Hid (Ext wr wx) ∧ ((ir0 = true ∧ ∃ bw ow cw2, b = .slice (some ⟨bw, ow, none⟩) n cw2 ∧ Hid (Ints wx (.slice (some ⟨bw, ow, none⟩) Y.length cw2) Y)) ∨ (ir0 = false ∧ b = .slice none 0 0)))
      case first =>
        refine wp_region_ordT 17 (readsT [0, 1, 2, 3, 4, 5, 6, 7, 8] (.fork 9 (readsT [10, 11, 12, 13] (.stir 14 (.stir 15 (readsT [16] .done)))) 14 (.stir 9 (readsT [10, 11, 12, 13] (.stir 15 (readsT [16] .done)))))) (by kernel_rfl) (by kernel_rfl) (fun _ _ _ _ _ h => h) ?_
        simp only [readsT]
        iterate 8 (refine wpOrdT_read (v := ?_) (by rfl) (Or.inl ⟨by rfl, fun x hx => ?_⟩) ?_; rotate_left; (· have hx' : Ext wr x := (Ext.drew wr).trans hx; have m0 := hx'.cell m0; have m1 := hx'.cell m1; have m2 := hx'.cell m2; have q0 := hx'.cell q0; go_simp; try with_reducible rfl); try simp only [Act.put, List.setIfInBounds_toArray, List.set_cons_zero, List.set_cons_succ])
        refine wpOrdT_read (v := .slice (some ⟨bu, ou + 1, none⟩) nx (cu - 1)) (by rfl) (Or.inl ⟨by rfl, fun x hx => ?_⟩) ?_
        · go_simp
          intro hh
          exfalso
          omega
        try simp only [Act.put, List.setIfInBounds_toArray, List.set_cons_zero, List.set_cons_succ]
        have hxd : Ext wr wr.drew := Ext.drew wr
        generalize wr.drew = w0 at *
        clear m0 m1 m2 q0 c0
        refine wpOrdT_forks (by rfl) (by rfl) (fun K hK => ?_) (fun K hK => ?_)
        · go_simp
          go_at_call 30
          with_reducible refine (LO w0 (hxd)).mono ?_
          rintro e v1 ⟨x1, u, rfl, hu, hu2⟩
          rw [HK.out.2.2.2.2.2.2.2.2.1] at hu hu2 ⊢
          have HU : Hid ((ir0 = true → OwnInts w0.heap.size v1 u Y) ∧ (ir0 = false → u = .slice none 0 0)) := Lib.hid ⟨fun h => by have := hu h; rw [HK.out.2.2.2.2.2.2.2.1] at this; exact this, hu2⟩
          obtain ⟨Au, lu, cu2, rfl⟩ : ∃ A l c, u = .slice A l c := by
            cases ir0 with
            | true => obtain ⟨A, c, e, _⟩ := (ownsRow_row (HU.out.1 rfl)).form; exact ⟨A, _, c, e⟩
            | false => exact ⟨_, _, _, HU.out.2 rfl⟩
          clear hu hu2
          refine hK _ _ _ (fun _ hx => hx) x1 ?_
          clear hK K LO
          try simp only [Act.put, List.setIfInBounds_toArray, List.set_cons_zero, List.set_cons_succ]
          iterate 4 (refine wpOrdT_read (v := ?_) (by rfl) (Or.inl ⟨by rfl, fun x hx => ?_⟩) ?_; rotate_left; (· go_simp; try with_reducible rfl); try simp only [Act.put, List.setIfInBounds_toArray, List.set_cons_zero, List.set_cons_succ])
          refine wpOrdT_keep (by rfl) (fun K hK => ?_)
          go_simp
          obtain ⟨v2, h5⟩ : ∃ W, v1.alloc (.cells #[.int .i64 0, .int .i64 0, .int .i64 0] 65) = W := ⟨_, rfl⟩
          obtain ⟨g3, hg3⟩ : ∃ q, v1.heap.size = q := ⟨_, rfl⟩
          have x2 : Ext v1 v2 := by rw [← h5]; exact Ext.alloc _ _
          have b5 : Blk v2 g3 65 #[.int .i64 0, .int .i64 0, .int .i64 0] := by rw [← h5]; exact Blk.new _ _ _ _ hg3
          rw [h5]
          try rw [hg3]
          clear h5
          refine hK _ _ (x1.trans x2) ?_
          clear hK K
          try simp only [Act.put, List.setIfInBounds_toArray, List.set_cons_zero, List.set_cons_succ]
          have sz0 := hxd.size
          have sz1 := x1.size
          have hgl : w0.heap.size ≤ g3 := by omega
          have B5 := b5
          have z0 := B5.cell 0
          have z1 := B5.cell 1
          have z2 := B5.cell 2
          have f0 := B5.frozen 0
          have f1 := B5.frozen 1
          have f2 := B5.frozen 2
          simp only [List.getElem?_toArray, List.getElem?_cons_zero, List.getElem?_cons_succ] at z0 z1 z2
          have BF : Blk (((v2.setCell ⟨g3, 0, none⟩ (.int .i64 rw_)).setCell ⟨g3, 1, none⟩ (.int .i64 rm)).setCell ⟨g3, 2, none⟩ (.int .i64 rn)) g3 65 #[.int .i64 rw_, .int .i64 rm, .int .i64 rn] := by
            have := ((B5.set_ 0 (.int .i64 rw_)).set_ 1 (.int .i64 rm)).set_ 2 (.int .i64 rn)
            simpa using this
          have EW : Ext w0 (((v2.setCell ⟨g3, 0, none⟩ (.int .i64 rw_)).setCell ⟨g3, 1, none⟩ (.int .i64 rm)).setCell ⟨g3, 2, none⟩ (.int .i64 rn)) := (((x1.trans x2).setCell (p := ⟨g3, 0, none⟩) hgl _).setCell (p := ⟨g3, 1, none⟩) hgl _).setCell (p := ⟨g3, 2, none⟩) hgl _
          have HALT : Hid ((ir0 = true ∧ ∃ bw ow cw2, (Value.slice Au lu cu2) = .slice (some ⟨bw, ow, none⟩) n cw2 ∧ Hid (Ints (((v2.setCell ⟨g3, 0, none⟩ (.int .i64 rw_)).setCell ⟨g3, 1, none⟩ (.int .i64 rm)).setCell ⟨g3, 2, none⟩ (.int .i64 rn)) (.slice (some ⟨bw, ow, none⟩) Y.length cw2) Y)) ∨ (ir0 = false ∧ (Value.slice Au lu cu2) = .slice none 0 0)) := Lib.hid (by
            cases ir0 with
            | false => exact .inr ⟨rfl, HU.out.2 rfl⟩
            | true =>
              have o : OwnInts _ v2 _ Y := (OwnInts.ext (HU.out.1 rfl) x2)
              obtain ⟨bw, ow, cw2, e⟩ := ints_at (ownsRow_row o) (by have := HK.out.2.2.2.1; omega)
              refine .inl ⟨rfl, bw, ow, cw2, by rw [e, HK.out.2.2.2.1], ?_⟩
              rw [e] at o
              exact Lib.hid (ownsRow_row (ownsRow_far (ownsRow_far (ownsRow_far o (own_far_blk o B5 (by decide)) (.int .i64 rw_)) (own_far_blk o B5 (by decide)) (.int .i64 rm)) (own_far_blk o B5 (by decide)) (.int .i64 rn))))
          have EWF := Lib.hid (hxd.trans EW)
          refine wpOrdT_keep (by rfl) (fun K hK => ?_)
          go_simp
          refine hK _ _ EW ?_
          clear hK K z0 z1 z2 f0 f1 f2
          try simp only [Act.put, List.setIfInBounds_toArray, List.set_cons_zero, List.set_cons_succ]
          refine wpOrdT_read (v := ?_) (by rfl) (Or.inl ⟨by rfl, fun x hx => ?_⟩) ?_; rotate_left
          · go_simp
            try with_reducible rfl
          try simp only [Act.put, List.setIfInBounds_toArray, List.set_cons_zero, List.set_cons_succ]
          refine wpOrdT_done ?_
          try simp only [List.drop_succ_cons, List.drop_zero]
          have HBF := Lib.hid BF
          clear BF B5 EW
          go_wp2
          go_meet
          exact ⟨rfl, g3, rfl, HBF.out, EWF, HALT.out⟩
        · go_simp
          obtain ⟨v1, h5⟩ : ∃ W, w0.alloc (.cells #[.int .i64 0, .int .i64 0, .int .i64 0] 65) = W := ⟨_, rfl⟩
          obtain ⟨g3, hg3⟩ : ∃ q, w0.heap.size = q := ⟨_, rfl⟩
          have x1 : Ext w0 v1 := by rw [← h5]; exact Ext.alloc _ _
          have b5 : Blk v1 g3 65 #[.int .i64 0, .int .i64 0, .int .i64 0] := by rw [← h5]; exact Blk.new _ _ _ _ hg3
          rw [h5]
          try rw [hg3]
          clear h5
          refine hK _ _ _ (fun _ hx => hx) x1 ?_
          clear hK K
          try simp only [Act.put, List.setIfInBounds_toArray, List.set_cons_zero, List.set_cons_succ]
          refine wpOrdT_keep (by rfl) (fun K hK => ?_)
          go_simp
          go_at_call 30
          with_reducible refine (LO v1 (hxd.trans x1)).mono ?_
          rintro e v2 ⟨x2, u, rfl, hu, hu2⟩
          rw [HK.out.2.2.2.2.2.2.2.2.1] at hu hu2 ⊢
          have HU : Hid ((ir0 = true → OwnInts v1.heap.size v2 u Y) ∧ (ir0 = false → u = .slice none 0 0)) := Lib.hid ⟨fun h => by have := hu h; rw [HK.out.2.2.2.2.2.2.2.1] at this; exact this, hu2⟩
          obtain ⟨Au, lu, cu2, rfl⟩ : ∃ A l c, u = .slice A l c := by
            cases ir0 with
            | true => obtain ⟨A, c, e, _⟩ := (ownsRow_row (HU.out.1 rfl)).form; exact ⟨A, _, c, e⟩
            | false => exact ⟨_, _, _, HU.out.2 rfl⟩
          clear hu hu2
          refine hK _ _ (x1.trans x2) ?_
          clear hK K LO
          try simp only [Act.put, List.setIfInBounds_toArray, List.set_cons_zero, List.set_cons_succ]
          iterate 4 (refine wpOrdT_read (v := ?_) (by rfl) (Or.inl ⟨by rfl, fun x hx => ?_⟩) ?_; rotate_left; (· go_simp; try with_reducible rfl); try simp only [Act.put, List.setIfInBounds_toArray, List.set_cons_zero, List.set_cons_succ])
          have sz0 := hxd.size
          have hgl : w0.heap.size ≤ g3 := by omega
          have B5 := (b5.ext x2)
          have z0 := B5.cell 0
          have z1 := B5.cell 1
          have z2 := B5.cell 2
          have f0 := B5.frozen 0
          have f1 := B5.frozen 1
          have f2 := B5.frozen 2
          simp only [List.getElem?_toArray, List.getElem?_cons_zero, List.getElem?_cons_succ] at z0 z1 z2
          have BF : Blk (((v2.setCell ⟨g3, 0, none⟩ (.int .i64 rw_)).setCell ⟨g3, 1, none⟩ (.int .i64 rm)).setCell ⟨g3, 2, none⟩ (.int .i64 rn)) g3 65 #[.int .i64 rw_, .int .i64 rm, .int .i64 rn] := by
            have := ((B5.set_ 0 (.int .i64 rw_)).set_ 1 (.int .i64 rm)).set_ 2 (.int .i64 rn)
            simpa using this
          have EW : Ext w0 (((v2.setCell ⟨g3, 0, none⟩ (.int .i64 rw_)).setCell ⟨g3, 1, none⟩ (.int .i64 rm)).setCell ⟨g3, 2, none⟩ (.int .i64 rn)) := (((x1.trans x2).setCell (p := ⟨g3, 0, none⟩) hgl _).setCell (p := ⟨g3, 1, none⟩) hgl _).setCell (p := ⟨g3, 2, none⟩) hgl _
          have HALT : Hid ((ir0 = true ∧ ∃ bw ow cw2, (Value.slice Au lu cu2) = .slice (some ⟨bw, ow, none⟩) n cw2 ∧ Hid (Ints (((v2.setCell ⟨g3, 0, none⟩ (.int .i64 rw_)).setCell ⟨g3, 1, none⟩ (.int .i64 rm)).setCell ⟨g3, 2, none⟩ (.int .i64 rn)) (.slice (some ⟨bw, ow, none⟩) Y.length cw2) Y)) ∨ (ir0 = false ∧ (Value.slice Au lu cu2) = .slice none 0 0)) := Lib.hid (by
            cases ir0 with
            | false => exact .inr ⟨rfl, HU.out.2 rfl⟩
            | true =>
              have o : OwnInts _ v2 _ Y := (HU.out.1 rfl)
              obtain ⟨bw, ow, cw2, e⟩ := ints_at (ownsRow_row o) (by have := HK.out.2.2.2.1; omega)
              refine .inl ⟨rfl, bw, ow, cw2, by rw [e, HK.out.2.2.2.1], ?_⟩
              rw [e] at o
              exact Lib.hid (ownsRow_row (ownsRow_far (ownsRow_far (ownsRow_far o (own_far_blk o B5 (by decide)) (.int .i64 rw_)) (own_far_blk o B5 (by decide)) (.int .i64 rm)) (own_far_blk o B5 (by decide)) (.int .i64 rn))))
          have EWF := Lib.hid (hxd.trans EW)
          refine wpOrdT_keep (by rfl) (fun K hK => ?_)
          go_simp
          refine hK _ _ EW ?_
          clear hK K z0 z1 z2 f0 f1 f2
          try simp only [Act.put, List.setIfInBounds_toArray, List.set_cons_zero, List.set_cons_succ]
          refine wpOrdT_read (v := ?_) (by rfl) (Or.inl ⟨by rfl, fun x hx => ?_⟩) ?_; rotate_left
          · go_simp
            try with_reducible rfl
          try simp only [Act.put, List.setIfInBounds_toArray, List.set_cons_zero, List.set_cons_succ]
          refine wpOrdT_done ?_
          try simp only [List.drop_succ_cons, List.drop_zero]
          have HBF := Lib.hid BF
          clear BF B5 EW
          go_wp2
          go_meet
          exact ⟨rfl, g3, rfl, HBF.out, EWF, HALT.out⟩
      case rest =>
        obtain ⟨rfl, g3, rfl, b3, HXC, halt⟩ := hcut
        cases ir0 with
        | false =>
          have HMF : Hid (MapsO ml mr mc w wc) := Lib.hid ((MapsO.of_ext HX1.out).trans (HM.out.trans (MapsO.of_ext HXC.out)))
          clear LO b3 m0 m1 m2 q0 c0 halt
          go_wp2
          go_ret
          exact ⟨HMF.out, .inl rfl⟩
        | true =>
          rcases halt with ⟨_, bw, ow, cw2, rfl, HIY⟩ | ⟨h, _⟩
          · obtain ⟨L', R', C', hRds, hRdW, b1, b2, b4⟩ : ∃ L'' R'' C'', Rds m n L R C (S.take k) L'' R'' C'' ∧ RdW w wr gx gl gr gc ml mr mc n kl kr kc m.sy m.st (.slice Am m.rules.length lr0) L'' R'' C'' ∧ kl ≤ 1000 + k ∧ kr ≤ 1000 + k ∧ kc ≤ 1000 + 6 * k := ⟨_, _, _, HW.out.1, HW.out.2.1, HW.out.2.2.1, HW.out.2.2.2.1, HW.out.2.2.2.2⟩
            have hRc := hRdW.ext HXC.out
            have x3 := Blk.cell hRc.clo 3
            have x4 := Blk.cell hRc.clo 4
            have r1 := b3.cell 1
            simp only [List.getElem?_toArray, List.getElem?_cons_zero, List.getElem?_cons_succ] at x3 x4 r1
            have HB3 := Lib.hid b3
            have HRc := Lib.hid (And.intro hRds (And.intro hRc (And.intro b1 (And.intro b2 b4))))
            have hrm : rm = 1 ∨ rm = -1 := by
              have := ruleX_ok HG.out.2.2.2.1 (q := q) (xs := xs) (by rw [HK.out.2.2.1]; exact HK.out.2.2.2.2.2.2.2.2.1)
              rw [HK.out.2.2.1] at this
              exact this.2.2.1
            have HRM := Lib.hid hrm
            obtain ⟨gd, hgd⟩ : ∃ g, (if rm = 1 then gl else gr) = g := ⟨_, rfl⟩
            have HGD := Lib.hid hgd
            clear LO b3 m0 m1 m2 q0 c0 hRds hRc hRdW b1 b2 b4 hrm hgd HW
            go_upto_if 41 with fail
            go_cut [8] (fun u wx => u = .pointer (some ⟨gd, 0, none⟩) ∧ wc = wx)
            case first =>
              by_cases h1 : rm = 1
              · have hg1 : gd = gl := by rw [← HGD.out, if_pos h1]
                subst hg1
                subst h1
                go_wp2_with fail
                go_meet
                exact ⟨rfl, rfl⟩
              · have hg1 : gd = gr := by rw [← HGD.out, if_neg h1]
                subst hg1
                have h1b : (rm == 1) = false := by simp [h1]
                go_wp2_with fail
                go_meet
                exact ⟨rfl, rfl⟩
            case rest =>
              obtain ⟨rfl, hww⟩ := hcut
              subst hww
              clear x3 x4 r1
              obtain ⟨gb, hgb⟩ : ∃ z, wc.heap.size = z := ⟨_, rfl⟩
              obtain ⟨V, hV⟩ : ∃ V, wc.alloc (.cells #[.slice (some ⟨bw, ow, none⟩) n cw2] 27) = V := ⟨_, rfl⟩
              have hxv : Ext wc V := by rw [← hV]; exact Ext.alloc _ _
              have bV : Blk V gb 27 #[.slice (some ⟨bw, ow, none⟩) n cw2] := by rw [← hV]; exact Blk.new _ _ _ _ hgb
              have hLY : Lists V (.slice (some ⟨gb, 0, none⟩) 1 1) [Y] := by
                refine ⟨[.slice (some ⟨bw, ow, none⟩) n cw2], ⟨_, _, rfl, Nat.le_refl _, by omega, rfl, fun _ => ⟨gb, 0, rfl, fun j hj => ?_⟩⟩, fun i hi => ?_⟩
                · have : j = 0 := by simp at hj; omega
                  subst this
                  have := bV.cell 0
                  simpa using this
                · have : i = 0 := by simp at hi; omega
                  subst this
                  refine ⟨_, rfl, ?_, .inr ⟨_, _, _, _, rfl⟩⟩
                  have := HIY.out.ext hxv
                  rw [HK.out.2.2.2.1] at this
                  exact this
              have hYg : ∀ x ∈ [Y], 1 ≤ x.length ∧ x.length ≤ 10 ∧ ∀ z ∈ x, smallQ z := fun x hx => by
                rw [List.mem_singleton.1 hx]
                exact ⟨by rw [HK.out.2.2.2.1]; omega, by rw [HK.out.2.2.2.1]; omega, HK.out.2.2.2.2.1⟩
              have hRV := HRc.out.2.1.ext hxv
              have ADD : Calls Tryz.prog 50 #[.pointer (some ⟨gd, 0, none⟩), .slice (some ⟨gb, 0, none⟩) 1 1] V fun e w' => e = .returned (.tuple #[]) ∧ ∃ L2 R2 kl2 kr2, L2 = (if rm = 1 then [Y] ++ L' else L') ∧ R2 = (if rm = 1 then R' else [Y] ++ R') ∧ RdW w w' gx gl gr gc ml mr mc n kl2 kr2 kc m.sy m.st (.slice Am m.rules.length lr0) L2 R2 C' ∧ kl2 ≤ 1001 + k ∧ kr2 ≤ 1001 + k ∧ MapsO ml mr mc V w' := by
                rcases HRM.out with h1 | h1
                · have hg1 : gd = gl := by rw [← HGD.out, if_pos h1]
                  rw [hg1]
                  refine (add_c gl ml kl n (anyT L') _ [Y] V hRV.l hLY (by have := HRc.out.2.2.1; simp only [List.length_cons, List.length_nil]; omega) hYg).mono ?_
                  rintro e w' ⟨rfl, hs, hg⟩
                  have hs2 : SetAt w' gl ml (kl + 1) n (anyT ([Y] ++ L')) := by rw [anyT_append]; exact hs
                  exact ⟨rfl, [Y] ++ L', R', kl + 1, kr, by rw [if_pos h1], by rw [if_pos h1], hRV.addL HG.out.2.1 hs2 hg, by have := HRc.out.2.2.1; omega, by have := HRc.out.2.2.2.1; omega, MapsO.of_grown (.inl rfl) hg hRV.l.tab.isMap⟩
                · have h2 : ¬ rm = 1 := by omega
                  have hg1 : gd = gr := by rw [← HGD.out, if_neg h2]
                  rw [hg1]
                  refine (add_c gr mr kr n (anyT R') _ [Y] V hRV.r hLY (by have := HRc.out.2.2.2.1; simp only [List.length_cons, List.length_nil]; omega) hYg).mono ?_
                  rintro e w' ⟨rfl, hs, hg⟩
                  have hs2 : SetAt w' gr mr (kr + 1) n (anyT ([Y] ++ R')) := by rw [anyT_append]; exact hs
                  exact ⟨rfl, L', [Y] ++ R', kl, kr + 1, by rw [if_neg h2], by rw [if_neg h2], hRV.addR HG.out.2.1 hs2 hg, by have := HRc.out.2.2.1; omega, by have := HRc.out.2.2.2.1; omega, MapsO.of_grown (.inr (.inl rfl)) hg hRV.r.tab.isMap⟩
              have HV := Lib.hid hxv
              clear hLY hYg hRV hxv bV
              go_upto_region 10 with fail
              go_wp2_with fail
              try rw [hV]
              try rw [hgb]
              clear hV hgb
              refine ADD.mono ?_
              rintro e w2 ⟨rfl, L2, R2, kl2, kr2, hL2, hR2, hW2, c1, c2, hmo⟩
              clear ADD
              have b3 := hmo.blk _ _ _ (HB3.out.ext HV.out)
              have m0 := Blk.cell hW2.clo 0
              have m1 := Blk.cell hW2.clo 1
              have m2 := Blk.cell hW2.clo 2
              have x3 := Blk.cell hW2.clo 3
              have x4 := Blk.cell hW2.clo 4
              have x5 := Blk.cell hW2.clo 5
              have r0 := b3.cell 0
              have r1 := b3.cell 1
              have r2 := b3.cell 2
              simp only [List.getElem?_toArray, List.getElem?_cons_zero, List.getElem?_cons_succ] at m0 m1 m2 x3 x4 x5 r0 r1 r2
              have iX : Ints w2 (.slice (some ⟨bu, ou + 1, none⟩) xs.length (cu - 1)) xs := hmo.row _ _ _ _ ((HK.out.1.ext HXC.out).ext HV.out)
              obtain ⟨Sy, hS1, hS2⟩ := HSY.out
              have FO := fun W (h : Ext w2 W) => following_c Sy m.st Am m.rules.length lr0 ⟨rw_, rm, rn⟩ gl ml _ gr mr _ bu (ou + 1) (cu - 1) n (anyT L2) (anyT R2) xs W hS2 (hW2.l.ext h) (hW2.r.ext h) (iX.ext h) HK.out.2.1 hn1 hn4 HK.out.2.2.2.2.2.1
              rw [HLR.out] at FO m2
              rw [← hS1, HK.out.2.2.2.2.2.2.1] at FO
              dsimp only at FO
              have hRo := ruleX_ok HG.out.2.2.2.1 (q := q) (xs := xs) (by rw [HK.out.2.2.1]; exact HK.out.2.2.2.2.2.2.2.2.1)
              rw [HK.out.2.2.1] at hRo
              simp only at hRo
              have hFl := followX_len ⟨rw_, rm, rn⟩ xs n (anyT L2) (anyT R2) Sy
              have hFm : ∀ y ∈ followX ⟨rw_, rm, rn⟩ xs n (anyT L2) (anyT R2) Sy, y.length = 2 * n + 1 ∧ ∀ z ∈ y, smallQ z := fun y hy => by
                obtain ⟨kk, hk1, _, rfl⟩ := mem_followX.1 hy
                exact ⟨nextX_len HK.out.2.1 hn1, nextX_small HK.out.2.2.2.2.2.1 (by omega) ⟨by simp only; omega, by simp only; omega⟩⟩
              have hSn : m.sy.toNat = Sy := by omega
              obtain ⟨F0, hF0⟩ : ∃ F, followX ⟨rw_, rm, rn⟩ xs n (anyT L2) (anyT R2) Sy = F := ⟨_, rfl⟩
              rw [hF0] at FO hFl hFm
              obtain ⟨F, hF⟩ : ∃ F, (F0.map fun x => rn :: x) = F := ⟨_, rfl⟩
              have hST : Rds m n L R C (S.take k ++ [q :: xs]) L2 R2 (F ++ C') := Rds.step HRc.out.1 HG.out.2.2.2.1 hn1 HK.out.2.2.2.2.2.2.2.2.2 HK.out.2.2.1 HK.out.2.2.2.2.2.2.2.2.1 (by rw [hL2, HK.out.2.2.2.2.2.2.2.1]) (by rw [hR2, HK.out.2.2.2.2.2.2.2.1]) (by rw [hSn, hF0]; exact hF.symm)
              have hFlen : F.length ≤ 6 := by rw [← hF, List.length_map]; omega
              have hFg : ∀ y ∈ F, 1 ≤ y.length ∧ y.length ≤ 10 ∧ ∀ z ∈ y, smallQ z := fun y hy => by
                rw [← hF] at hy
                obtain ⟨z, hz, rfl⟩ := List.mem_map.1 hy
                have h1 := hFm z hz
                refine ⟨by simp, by rw [List.length_cons]; omega, fun a ha => ?_⟩
                rcases List.mem_cons.1 ha with rfl | ha
                · exact ⟨by omega, by omega⟩
                · exact h1.2 a ha
              have HF := Lib.hid (And.intro hFl (And.intro hFm (And.intro hF (And.intro hST (And.intro hFlen hFg)))))
              have H2 := Lib.hid (And.intro hW2 (And.intro c1 (And.intro c2 (hmo : MapsO ml mr mc V w2))))
              clear hFl hFm hF hST hFlen hFg hW2 c1 c2 hmo b3 iX hS1 hL2 hR2 hSn hRo hF0
              go_upto_region 11 with fail
              refine wp_region_ordT 23 (readsT [0, 1, 2, 3, 4, 5, 6, 7, 8, 9, 10, 11, 12, 13, 14, 15, 16, 17, 18, 19, 20] (.stir 21 (.stir 22 .done))) (by kernel_rfl) (by kernel_rfl) (fun _ _ _ _ _ h => h) ?_
              simp only [readsT]
              iterate 12 (refine wpOrdT_read (v := ?_) (by rfl) (Or.inl ⟨by rfl, fun x hx => ?_⟩) ?_; rotate_left; (· have hx' : Ext w2 x := (Ext.drew w2).trans hx; have m0 := hx'.cell m0; have m1 := hx'.cell m1; have m2 := hx'.cell m2; have x5 := hx'.cell x5; have r0 := hx'.cell r0; have r1 := hx'.cell r1; have r2 := hx'.cell r2; go_simp; try with_reducible rfl); try simp only [Act.put, List.setIfInBounds_toArray, List.set_cons_zero, List.set_cons_succ])
              refine wpOrdT_read (v := .slice (some ⟨bu, ou + 1, none⟩) nx (cu - 1)) (by rfl) (Or.inl ⟨by rfl, fun x hx => ?_⟩) ?_
              · go_simp
                intro hh
                exfalso
                omega
              try simp only [Act.put, List.setIfInBounds_toArray, List.set_cons_zero, List.set_cons_succ]
              iterate 8 (refine wpOrdT_read (v := ?_) (by rfl) (Or.inl ⟨by rfl, fun x hx => ?_⟩) ?_; rotate_left; (· have hx' : Ext w2 x := (Ext.drew w2).trans hx; have x3 := hx'.cell x3; have x4 := hx'.cell x4; go_simp; try with_reducible rfl); try simp only [Act.put, List.setIfInBounds_toArray, List.set_cons_zero, List.set_cons_succ])
              have hxd : Ext w2 w2.drew := Ext.drew w2
              generalize w2.drew = w0 at *
              refine wpOrdT_keep (by rfl) (fun K hK => ?_)
              go_simp
              go_at_call 33
              with_reducible refine (FO w0 hxd).mono ?_
              rintro e v1 ⟨uF, rfl, oF, x1⟩
              obtain ⟨AF, cF, rfl⟩ := oF.form
              refine hK _ _ x1 ?_
              clear hK K FO m0 m1 m2 x3 x4 x5 r0 r1 r2
              try simp only [Act.put, List.setIfInBounds_toArray, List.set_cons_zero, List.set_cons_succ]
              refine wpOrdT_keep (by rfl) (fun K hK => ?_)
              go_simp
              go_at_call 32
              have SA := statedAll_c rn (.slice AF F0.length cF) F0 v1 oF.lists (by have := HF.out.1; omega) (fun y hy => by have := (HF.out.2.1 y hy).1; omega)
              rw [HF.out.2.2.1] at SA
              with_reducible refine SA.mono ?_
              rintro e v2 ⟨uG, rfl, oG, x2⟩
              obtain ⟨AG, cG, rfl⟩ := oG.form
              refine hK _ _ (x1.trans x2) ?_
              clear hK K SA
              try simp only [Act.put, List.setIfInBounds_toArray, List.set_cons_zero, List.set_cons_succ]
              refine wpOrdT_done ?_
              try simp only [List.drop_succ_cons, List.drop_zero]
              have eV2 := hxd.trans (x1.trans x2)
              have hW3 := H2.out.1.ext eV2
              have AD := add_c gc mc kc (2 * n + 2) (anyT C') (.slice AG F.length cG) F v2 hW3.c oG.lists (by have := HRc.out.2.2.2.2; have := HF.out.2.2.2.2.1; omega) HF.out.2.2.2.2.2
              have HW3 := Lib.hid (And.intro hW3 eV2)
              have HFL := Lib.hid HF.out.2.2.2.2.1
              clear hW3 eV2 oG oF x1 x2 hxd
              obtain ⟨nF, hnF⟩ : ∃ z, F.length = z := ⟨_, rfl⟩
              rw [hnF] at AD HFL ⊢
              clear hnF
              go_wp2_with fail
              refine AD.mono ?_
              rintro e w5 ⟨rfl, hs5, hg5⟩
              have hs6 : SetAt w5 gc mc (kc + nF) (2 * n + 2) (anyT (F ++ C')) := by rw [anyT_append]; exact hs5
              have hW5 := HW3.out.1.addC HG.out.2.1 hs6 hg5
              have hM5 : MapsO ml mr mc w1 w5 := (HM.out.trans (MapsO.of_ext (HXC.out.trans HV.out))).trans ((H2.out.2.2.2.trans (MapsO.of_ext HW3.out.2)).trans (MapsO.of_grown (.inr (.inr rfl)) hg5 HW3.out.1.c.tab.isMap))
              have HREL : Hid (∃ L' R' C' kl kr kc, Rds m n L R C (S.take (k + 1)) L' R' C' ∧ RdW w w5 gx gl gr gc ml mr mc n kl kr kc m.sy m.st (.slice Am m.rules.length lr0) L' R' C' ∧ kl ≤ 1000 + (k + 1) ∧ kr ≤ 1000 + (k + 1) ∧ kc ≤ 1000 + 6 * (k + 1)) := Lib.hid ⟨L2, R2, F ++ C', kl2, kr2, kc + nF, by rw [HTK.out]; exact HF.out.2.2.2.1, hW5, by have := H2.out.2.1; omega, by have := H2.out.2.2.1; omega, by have := HRc.out.2.2.2.2; have := HFL.out; omega⟩
              have HM5 := Lib.hid hM5
              clear AD hs5 hg5 hs6 hW5 hM5
              go_wp2
              go_roundw
              case rel => exact ⟨k + 1, by omega, by go_num, HREL, HM5⟩
              case measure => simp [intOf]; omega
          · cases h
    · have hd : decide ((k : Int) < (S.length : Int)) = false := decide_eq_false (by omega)
      have hc1 : ¬ (k : Int) < (S.length : Int) := by omega
      have hkS : k = S.length := by omega
      have HOUT : Hid (RndOut w gx gl gr gc ml mr mc n m (.slice Am m.rules.length lr0) L R C (.returned (.bool true)) wr) := Lib.hid (by
        obtain ⟨L', R', C', kl, kr, kc, hRds, hRdW, b1, b2, b3⟩ := HR.out
        rw [List.take_of_length_le (by omega)] at hRds
        have h1 := hRds.nl
        have h2 := hRds.nr
        have h3 := hRds.nc
        have h4 := HG.out.2.2.2.2.2.2.2.1
        have h5 := HG.out.2.2.2.2.2.2.2.2.1
        have h6 := HG.out.2.2.2.2.2.2.2.2.2.1
        have h7 := HS.out.2.2
        exact ⟨hRdW.mo, .inr ⟨rfl, L', R', C', S, kl, kr, kc, HS.out.1, hRds, hRdW, h7, by omega, by omega, by omega⟩⟩)
      clear HR HM
      go_wp2
      go_ret
      exact HOUT.out
end Go.Proofs.YtapjofbjedpmgaaGreat
end
