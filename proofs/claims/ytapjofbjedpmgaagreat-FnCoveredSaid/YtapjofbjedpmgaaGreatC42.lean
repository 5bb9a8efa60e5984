/- Contract: how many items the sets of a proof that is being found have.
Plain: what a round of the search for a proof by contexts makes of its sets; worlds in which maps alone are turned.
Contracts: the library's iterator over the keys of a set of items. -/
import Derived.Test.YtapjofbjedpmgaaGreatC39
import Derived.Test.YtapjofbjedpmgaaGreatC41
import Derived.Test.YtapjofbjedpmgaaGreatC37
import Derived.Test.YtapjofbjedpmgaaGreatC07
import Derived.Test.YtapjofbjedpmgaaGreatC10
import Derived.RangeFuncNested
import Derived.RangeFuncBound
import Derived.RangeFuncCalls
import Derived.RangeFuncLeaves
import Derived.Sort.MapsRangeIn
import Derived.Shelf.Abstract
import Derived.Shelf.RegionOpen
import Derived.WalkKit
import Derived.OwnWalkIn
import Derived.TacticsInMore
import Derived.LoopNIn
import Derived.LoopIn
section
set_option linter.unusedSimpArgs false
set_option linter.unusedVariables false
namespace Go.Proofs.YtapjofbjedpmgaaGreat
open Go Go.RowKit Go.Proofs
set_option maxHeartbeats 400000
/-- A set with the lists L (repeated or not). -/
structure SetL (w : World) (g mb len : Nat) (L S : List (List Int)) : Prop where
  at_ : SetAt w g mb S.length len (anyT L)
  good : GoodL len L
  sort : SortOf L S
theorem SetL.ext {w w' : World} {g mb len : Nat} {L S : List (List Int)} (h : SetL w g mb len L S) (he : Ext w w') : SetL w' g mb len L S := ⟨h.at_.ext he, h.good, h.sort⟩
def CloAt (w : World) (gx : Nat) (sy st : Int) (rv : Value) (gl gr gc : Nat) : Prop := Blk w gx 98 #[.int .i64 sy, .int .i64 st, rv, .pointer (some ⟨gl, 0, none⟩), .pointer (some ⟨gr, 0, none⟩), .pointer (some ⟨gc, 0, none⟩)]
set_option maxRecDepth 20000 in
set_option maxHeartbeats 4000000 in
theorem count_c (gx gl gr gc ml mr mc n k : Nat) (sy st : Int) (rv : Value) (L R C SL SR SC : List (List Int)) (w : World) (hx : CloAt w gx sy st rv gl gr gc) (hL : SetL w gl ml n L SL) (hR : SetL w gr mr n R SR) (hC : SetL w gc mc k C SC) (hn : n ≤ 10) (hk : k ≤ 10)
    (h1 : SL.length ≤ 100000) (h2 : SR.length ≤ 100000) (h3 : SC.length ≤ 100000) :
    Calls Tryz.prog 60 #[.pointer (some ⟨gx, 0, none⟩)] w fun e w' => e = .returned (.int .i64 ((SL.length + SR.length + SC.length : Nat) : Int)) ∧ Ext w w' := by
  have x3 := hx.cell 3
  have x4 := hx.cell 4
  have x5 := hx.cell 5
  have sl := hL.at_.blk.cell 0
  have sr := hR.at_.blk.cell 0
  have sc := hC.at_.blk.cell 0
  simp only [List.getElem?_toArray, List.getElem?_cons_zero, List.getElem?_cons_succ] at x3 x4 x5 sl sr sc
  have hw1 : IntKind.i64.wrap ((SL.length : Int) + (SR.length : Int)) = ((SL.length + SR.length : Nat) : Int) := by rw [show (SL.length : Int) + (SR.length : Int) = ((SL.length + SR.length : Nat) : Int) by omega]; exact IntWalk.i64_in _ (by omega)
  have hw2 : IntKind.i64.wrap (((SL.length + SR.length : Nat) : Int) + (SC.length : Int)) = ((SL.length + SR.length + SC.length : Nat) : Int) := by rw [show ((SL.length + SR.length : Nat) : Int) + (SC.length : Int) = ((SL.length + SR.length + SC.length : Nat) : Int) by omega]; exact IntWalk.i64_in _ (by omega)
  have yl : ∀ x, Ext w x → (Builtin.len_ #[104] 3 #[.map (some ml)]).run Tryz.prog x = .ok (.int .i64 (SL.length : Int)) x := fun x hx => ((hL.at_.tab.ext hx).size hL.good hn hL.sort.nodup hL.sort.mem _).1
  have yr : ∀ x, Ext w x → (Builtin.len_ #[104] 3 #[.map (some mr)]).run Tryz.prog x = .ok (.int .i64 (SR.length : Int)) x := fun x hx => ((hR.at_.tab.ext hx).size hR.good hn hR.sort.nodup hR.sort.mem _).1
  have yc : ∀ x, Ext w x → (Builtin.len_ #[104] 3 #[.map (some mc)]).run Tryz.prog x = .ok (.int .i64 (SC.length : Int)) x := fun x hx => ((hC.at_.tab.ext hx).size hC.good hk hC.sort.nodup hC.sort.mem _).1
  obtain ⟨a, ha⟩ : ∃ a, SL.length = a := ⟨_, rfl⟩
  obtain ⟨b, hb⟩ : ∃ a, SR.length = a := ⟨_, rfl⟩
  obtain ⟨c, hc⟩ : ∃ a, SC.length = a := ⟨_, rfl⟩
  rw [ha] at yl hw1 hw2 ⊢
  rw [hb] at yr hw1 hw2 ⊢
  rw [hc] at yc hw2 ⊢
  obtain ⟨t1, ht1⟩ : ∃ t : Int, ((a + b : Nat) : Int) = t := ⟨_, rfl⟩
  obtain ⟨t2, ht2⟩ : ∃ t : Int, ((a + b + c : Nat) : Int) = t := ⟨_, rfl⟩
  rw [ht1] at hw1 hw2
  rw [ht2] at hw2 ⊢
  clear hx hL hR hC ha hb hc ht1 ht2 h1 h2 h3
  go_enter Tryz.func60, Tryz.ntmps60
  go_upto_region 1 with fail
  refine wp_region_ordT 26 (readsT [0, 1, 2, 3, 4, 5, 6, 7, 8, 9, 10, 11, 12, 13, 14, 15, 16, 17, 18, 19, 20, 21, 22, 23, 24, 25] .done) (by kernel_rfl) (by kernel_rfl) (fun _ _ _ _ _ h => h) ?_
  simp only [readsT]
  iterate 26 (refine wpOrdT_read (v := ?_) (by rfl) (Or.inl ⟨by rfl, fun x hx => ?_⟩) ?_; rotate_left; (· have hx' := (Ext.drew w).trans hx; have x3 := hx'.cell x3; have x4 := hx'.cell x4; have x5 := hx'.cell x5; have sl := hx'.cell sl; have sr := hx'.cell sr; have sc := hx'.cell sc; have zl := yl x hx'; have zr := yr x hx'; have zc := yc x hx'; go_simp; try first | with_reducible rfl | (rw [hw1]; try with_reducible rfl) | (rw [hw2]; try with_reducible rfl)); try simp only [Act.put, List.setIfInBounds_toArray, List.set_cons_zero, List.set_cons_succ])
  refine wpOrdT_done ?_
  try simp only [List.drop_succ_cons, List.drop_zero]
  clear x3 x4 x5 sl sr sc yl yr yc hw1 hw2
  go_wp2
  go_ret
  exact ⟨rfl, Ext.drew w⟩
end Go.Proofs.YtapjofbjedpmgaaGreat
end
section
set_option linter.unusedSimpArgs false
set_option linter.unusedVariables false
namespace Go.Proofs.YtapjofbjedpmgaaGreat
open Go Go.RowKit Go.Proofs
theorem side_all {P : Int → Prop} {r : RuleD} {w : List Int} {n k : Nat} (h : ∀ z ∈ w, P z) (hk : P (k : Int)) : ∀ z ∈ sideX r w n k, P z := fun z hz => by
  unfold sideX sideR sideL at hz
  split at hz
  · rcases List.mem_append.1 hz with hz | hz
    · exact h z (List.mem_of_mem_drop hz)
    · rw [List.mem_singleton.1 hz]; exact hk
  · rcases List.mem_append.1 hz with hz | hz
    · exact h z (List.mem_of_mem_take (List.mem_of_mem_drop hz))
    · rw [List.mem_singleton.1 hz]; exact hk
theorem next_all {P : Int → Prop} {r : RuleD} {w : List Int} {n k : Nat} (h : ∀ z ∈ w, P z) (hk : P (k : Int)) (h0 : P 0) (hr : P r.w) : ∀ z ∈ nextX r w n k, P z := fun z hz => by
  have hg : ∀ i, P (w.getD i 0) := fun i => by
    rw [List.getD_eq_getElem?_getD]
    rcases e : w[i]? with _ | y
    · exact h0
    · exact h y (List.mem_of_getElem? e)
  unfold nextX nextR nextL at hz
  split at hz
  · rename_i hm
    rcases List.mem_cons.1 hz with rfl | hz
    · exact hr
    · rcases List.mem_append.1 hz with hz | hz
      · exact h z (List.mem_of_mem_take hz)
      · rcases List.mem_cons.1 hz with rfl | hz
        · exact hg _
        · have := side_all (r := r) (n := n) (k := k) h hk z
          unfold sideX at this
          rw [if_pos hm] at this
          exact this hz
  · rename_i hm
    rcases List.mem_append.1 hz with hz | hz
    · have := side_all (r := r) (n := n) (k := k) h hk z
      unfold sideX at this
      rw [if_neg hm] at this
      exact this hz
    · rcases List.mem_cons.1 hz with rfl | hz
      · exact hg _
      · rcases List.mem_cons.1 hz with rfl | hz
        · exact hr
        · exact h z (List.mem_of_mem_drop (List.mem_of_mem_take hz))
def InL (sy : Int) (n : Nat) (L : List (List Int)) : Prop := ∀ x ∈ L, x.length = n ∧ ∀ z ∈ x, 0 ≤ z ∧ z < sy
def InC (sy st : Int) (n : Nat) (C : List (List Int)) : Prop := ∀ x ∈ C, x.length = 2 * n + 2 ∧ (0 ≤ x.getD 0 0 ∧ x.getD 0 0 < st) ∧ ∀ z ∈ x.drop 1, 0 ≤ z ∧ z < sy
theorem InL.good {sy : Int} {n : Nat} {L : List (List Int)} (h : InL sy n L) (hs : sy ≤ 1000) : GoodL n L := ⟨fun x hx => (h x hx).1, fun x hx z hz => by have := (h x hx).2 z hz; exact ⟨by omega, by omega⟩⟩
theorem InC.good {sy st : Int} {n : Nat} {C : List (List Int)} (h : InC sy st n C) (hs : sy ≤ 1000) (ht : st ≤ 1000) : GoodL (2 * n + 2) C := ⟨fun x hx => (h x hx).1, fun x hx z hz => by
  obtain ⟨_, h1, h2⟩ := h x hx
  cases x with
  | nil => cases hz
  | cons a t =>
    rcases List.mem_cons.1 hz with rfl | hz
    · simp at h1; exact ⟨by omega, by omega⟩
    · have := h2 z hz; exact ⟨by omega, by omega⟩⟩
/-- What a round has made of the sets, once the contexts D are treated. -/
structure Rds (m : MachD) (n : Nat) (L R C D L' R' C' : List (List Int)) : Prop where
  sl : ∀ x ∈ L, x ∈ L'
  sr : ∀ x ∈ R, x ∈ R'
  sc : ∀ x ∈ C, x ∈ C'
  il : InL m.sy n L'
  ir : InL m.sy n R'
  ic : InC m.sy m.st n C'
  cl : ∀ w ∈ D, isR (ruleX m (w.getD 0 0) (w.drop 1)) = true ∧ lostX (ruleX m (w.getD 0 0) (w.drop 1)) (w.drop 1) ∈ (if (ruleX m (w.getD 0 0) (w.drop 1)).m = 1 then L' else R') ∧ ∀ y ∈ followX (ruleX m (w.getD 0 0) (w.drop 1)) (w.drop 1) n (anyT L) (anyT R) m.sy.toNat, ((ruleX m (w.getD 0 0) (w.drop 1)).n :: y) ∈ C'
  nl : L'.length ≤ L.length + D.length
  nr : R'.length ≤ R.length + D.length
  nc : C'.length ≤ C.length + 6 * D.length
theorem Rds.start {m : MachD} {n : Nat} {L R C : List (List Int)} (hl : InL m.sy n L) (hr : InL m.sy n R) (hc : InC m.sy m.st n C) : Rds m n L R C [] L R C :=
  ⟨fun _ h => h, fun _ h => h, fun _ h => h, hl, hr, hc, fun w h => by simp at h, by simp, by simp, by simp⟩
theorem anyT_mono {L L' : List (List Int)} (h : ∀ x ∈ L, x ∈ L') : ∀ y, anyT L y = true → anyT L' y = true := fun y hy => by
  obtain ⟨x, a, b⟩ := anyT_iff.1 hy
  exact anyT_iff.2 ⟨x, h x a, b⟩
/-- One context more. -/
theorem Rds.step {m : MachD} {n : Nat} {L R C D L' R' C' L2 R2 F : List (List Int)} {q : Int} {xs : List Int} {r : RuleD} (h : Rds m n L R C D L' R' C') (hm : machOk m = true) (hn : 1 ≤ n) (hq : (q :: xs).length = 2 * n + 2 ∧ (0 ≤ q ∧ q < m.st) ∧ ∀ z ∈ xs, 0 ≤ z ∧ z < m.sy)
    (hr : ruleX m q xs = r) (hR : isR r = true) (hL2 : L2 = if r.m = 1 then [lostX r xs] ++ L' else L') (hR2 : R2 = if r.m = 1 then R' else [lostX r xs] ++ R') (hF : F = (followX r xs n (anyT L2) (anyT R2) m.sy.toNat).map fun y => r.n :: y) :
    Rds m n L R C (D ++ [q :: xs]) L2 R2 (F ++ C') := by
  obtain ⟨⟨s1, s2, s3, s4⟩, _, _⟩ := machOk_five hm
  have hro := ruleX_ok hm (q := q) (xs := xs) (by rw [hr]; exact hR)
  rw [hr] at hro
  have hxl : xs.length = 2 * n + 1 := by have := hq.1; simp only [List.length_cons] at this; omega
  have sl2 : ∀ x ∈ L', x ∈ L2 := fun x hx => by rw [hL2]; split; exact List.mem_append_right _ hx; exact hx
  have sr2 : ∀ x ∈ R', x ∈ R2 := fun x hx => by rw [hR2]; split; exact hx; exact List.mem_append_right _ hx
  have hlost : (lostX r xs).length = n ∧ ∀ z ∈ lostX r xs, 0 ≤ z ∧ z < m.sy := ⟨lostX_len hxl, fun z hz => by
    unfold lostX at hz
    split at hz
    · exact hq.2.2 z (List.mem_of_mem_take hz)
    · exact hq.2.2 z (List.mem_of_mem_drop hz)⟩
  have hFC : ∀ x ∈ F, x.length = 2 * n + 2 ∧ (0 ≤ x.getD 0 0 ∧ x.getD 0 0 < m.st) ∧ ∀ z ∈ x.drop 1, 0 ≤ z ∧ z < m.sy := fun x hx => by
    rw [hF] at hx
    obtain ⟨y, hy, rfl⟩ := List.mem_map.1 hx
    obtain ⟨k, hk, _, rfl⟩ := mem_followX.1 hy
    refine ⟨by rw [List.length_cons, nextX_len hxl hn], ⟨hro.2.2.2.1, hro.2.2.2.2⟩, fun z hz => ?_⟩
    exact next_all (P := fun z => 0 ≤ z ∧ z < m.sy) hq.2.2 ⟨by omega, by omega⟩ ⟨by omega, by omega⟩ ⟨hro.1, hro.2.1⟩ z hz
  refine ⟨fun x hx => sl2 x (h.sl x hx), fun x hx => sr2 x (h.sr x hx), fun x hx => List.mem_append_right _ (h.sc x hx), ?_, ?_, ?_, ?_, ?_, ?_, ?_⟩
  · intro x hx
    rw [hL2] at hx
    split at hx
    · rcases List.mem_append.1 hx with hx | hx
      · rw [List.mem_singleton.1 hx]; exact hlost
      · exact h.il x hx
    · exact h.il x hx
  · intro x hx
    rw [hR2] at hx
    split at hx
    · exact h.ir x hx
    · rcases List.mem_append.1 hx with hx | hx
      · rw [List.mem_singleton.1 hx]; exact hlost
      · exact h.ir x hx
  · intro x hx
    rcases List.mem_append.1 hx with hx | hx
    · exact hFC x hx
    · exact h.ic x hx
  · intro w hw
    rcases List.mem_append.1 hw with hw | hw
    · obtain ⟨a, b, c⟩ := h.cl w hw
      refine ⟨a, ?_, fun y hy => List.mem_append_right _ (c y hy)⟩
      split at b
      · rename_i e; rw [if_pos e]; exact sl2 _ b
      · rename_i e; rw [if_neg e]; exact sr2 _ b
    · rw [List.mem_singleton.1 hw]
      simp only [List.getD_cons_zero, List.drop_succ_cons, List.drop_zero, hr]
      refine ⟨hR, ?_, fun y hy => List.mem_append_left _ ?_⟩
      · by_cases e : r.m = 1
        · rw [if_pos e, hL2, if_pos e]; simp
        · rw [if_neg e, hR2, if_neg e]; simp
      · rw [hF]
        exact List.mem_map.2 ⟨y, followX_mono (anyT_mono fun x hx => sl2 x (h.sl x hx)) (anyT_mono fun x hx => sr2 x (h.sr x hx)) hy, rfl⟩
  · rw [hL2, List.length_append, List.length_singleton]
    have := h.nl
    split <;> simp <;> omega
  · rw [hR2, List.length_append, List.length_singleton]
    have := h.nr
    split <;> simp <;> omega
  · rw [List.length_append, List.length_append, List.length_singleton, hF, List.length_map]
    have h1 := followX_len r xs n (anyT L2) (anyT R2) m.sy.toNat
    have := h.nc
    omega
/-- Between two worlds three maps alone are turned. -/
structure MapsO (ml mr mc : Nat) (w w' : World) : Prop where
  ext : ∀ w0, Ext w0 w → w0.heap.size ≤ ml → w0.heap.size ≤ mr → w0.heap.size ≤ mc → Ext w0 w'
  blk : ∀ g t cs, Blk w g t cs → Blk w' g t cs
  row : ∀ sz v n xs, Row w sz v n xs → Row w' sz v n xs
  size : w.heap.size ≤ w'.heap.size
theorem MapsO.of_ext {ml mr mc : Nat} {w w' : World} (h : Ext w w') : MapsO ml mr mc w w' := ⟨fun _ h0 _ _ _ => h0.trans h, fun _ _ _ hb => hb.ext h, fun _ _ _ _ hr => hr.ext h, h.size⟩
theorem MapsO.trans {ml mr mc : Nat} {a b c : World} (h : MapsO ml mr mc a b) (k : MapsO ml mr mc b c) : MapsO ml mr mc a c :=
  ⟨fun w0 h0 x y z => k.ext w0 (h.ext w0 h0 x y z) x y z, fun g t cs hb => k.blk g t cs (h.blk g t cs hb), fun sz v n xs hr => k.row sz v n xs (h.row sz v n xs hr), Nat.le_trans h.size k.size⟩
theorem MapsO.of_grown {ml mr mc mb : Nat} {w w' : World} (hb : mb = ml ∨ mb = mr ∨ mb = mc) (hg : w.grownBy w' (some mb)) (hm : ∃ es c, w.heap[mb]? = some (.map es c)) : MapsO ml mr mc w w' := by
  refine ⟨fun w0 h0 x y z => h0.grown hg (fun j hj => by injection hj with hj; subst hj; omega), fun g t cs h => h.kept hg (fun e => ?_), fun sz v n xs h => Row.mapKept h hg hm, hg.size⟩
  injection e with e
  subst e
  obtain ⟨es, c, hm⟩ := hm
  unfold Blk at h
  rw [hm] at h
  cases h
theorem Lists.mo {ml mr mc : Nat} {w w' : World} {v : Value} {xss : List (List Int)} (h : Lists w v xss) (hm : MapsO ml mr mc w w') : Lists w' v xss := by
  obtain ⟨vs, a, b⟩ := h
  exact ⟨vs, hm.row _ _ _ _ a, fun i hi => by obtain ⟨u, c, d, e⟩ := b i hi; exact ⟨u, c, hm.row _ _ _ _ d, e⟩⟩
end Go.Proofs.YtapjofbjedpmgaaGreat
end
section
set_option linter.unusedSimpArgs false
set_option linter.unusedVariables false
namespace Go.Proofs.YtapjofbjedpmgaaGreat
open Go Go.RowKit Go.Proofs Go.Shelf Go.Maps Go.Sort
attribute [local go_sem] Oper.semAt_some
set_option maxHeartbeats 400000
/-- The keys that have come: no one twice, and they are those that are no longer to come. -/
def ColK {H : Type} (D : DataW H) (left : Lit → Bool) (ss : List (List Int)) : Prop :=
  ss.Nodup ∧ (∀ ys ∈ ss, ∃ l, keyOf Tryz.prog 108 (enI ys) = some l ∧ left l = false) ∧ ∀ l, Maps.has D l = true → left l = false → ∃ ys ∈ ss, keyOf Tryz.prog 108 (enI ys) = some l
theorem ColK.start {H : Type} (D : DataW H) : ColK D (Maps.has D) [] := ⟨List.nodup_nil, fun ys h => by simp at h, fun l h1 h2 => by rw [h1] at h2; cases h2⟩
theorem ColK.step {H : Type} {D : DataW H} {left : Lit → Bool} {ss : List (List Int)} (h : ColK D left ss) {ys : List Int} {kl : Lit} (hk : keyOf Tryz.prog 108 (enI ys) = some kl) (hlk : left kl = true) :
    ColK D (fun z => left z && !z.sameKey kl) (ss ++ [ys]) := by
  have hnew : ys ∉ ss := fun hx => by
    obtain ⟨l, h1, h2⟩ := h.2.1 _ hx
    rw [hk] at h1
    injection h1 with h1
    rw [h1, h2] at hlk
    cases hlk
  have hself : kl.sameKey kl = true := WideAt.sameKey_self (itTy.keyed.key hk)
  refine ⟨List.nodup_append.2 ⟨h.1, by simp, fun a ha b hb => by rw [List.mem_singleton] at hb; subst hb; exact fun e => hnew (e ▸ ha)⟩, fun y hy => ?_, fun l h1 h2 => ?_⟩
  · rcases List.mem_append.1 hy with hy | hy
    · obtain ⟨l, a, b⟩ := h.2.1 _ hy
      exact ⟨l, a, by simp [b]⟩
    · rw [List.mem_singleton] at hy
      subst hy
      exact ⟨kl, hk, by simp [hself]⟩
  · by_cases e : left l = false
    · obtain ⟨y, a, b⟩ := h.2.2 l h1 e
      exact ⟨y, List.mem_append_left _ a, b⟩
    · have e2 : left l = true := by simpa using e
      simp only [e2, Bool.true_and, Bool.not_eq_false'] at h2
      rw [WideAt.sameKey_eq h2]
      exact ⟨ys, by simp, hk⟩
/-- All that the iterator hands on. -/
def SK (T : List Int → Bool) (xs : List {ys : List Int // T ys = true}) : Prop := (xs.map (·.1)).Nodup ∧ ∀ ys, T ys = true → ys ∈ xs.map (·.1)
theorem Keys_c (mb : Nat) (w : World) :
    Calls Tryz.prog 75 #[.map (some mb)] w fun e w' => e = .returned (.func (.func 104) #[] #[.pointer (some ⟨w.heap.size, 0, none⟩)]) ∧ w' = w.alloc (.cells #[.map (some mb)] 104) := by
  go_enter Tryz.func75, Tryz.ntmps75
  go_wp2
  go_ret
  exact ⟨rfl, rfl⟩
set_option maxRecDepth 100000 in
set_option maxHeartbeats 4000000 in
theorem keys1_w (n : Nat) (hn : 4 ≤ n) (w : World) (Bm b nn B : Nat) (T : List Int → Bool) (hT : TblK w b nn T) (hm : Blk w Bm 104 #[.map (some b)])
    (hk : ∀ ys, T ys = true → ∃ l, keyOf Tryz.prog 108 (enI ys) = some l) (hB : ∀ l : List (List Int), l.Nodup → (∀ y ∈ l, T y = true) → l.length ≤ B) :
    SeqStopsK Fence.wide n Tryz.prog 104 #[.pointer (some ⟨Bm, 0, none⟩)] (fun x : {ys : List Int // T ys = true} => #[enI x.1]) KeepsWalks (SK T) (fun _ => True) B w := fun l J Jx W hb hJ hJx hY h0 => by
  have hn1 : 1 ≤ n := by omega
  obtain ⟨D, hown0, hD2, hD3⟩ := hT
  have hown : W.ownsMap Tryz.prog 108 (plainElem Tryz.prog 4) b nn D := by
    have hbl := hown0.lt
    obtain ⟨es, clock, hb', Ft, hs, hD⟩ := hown0
    exact ⟨es, clock, (hb.block b hbl).trans hb', Ft, hs, hD⟩
  have m0 : W.cell? ⟨Bm, 0, none⟩ = some (.map (some b)) := by
    have := Blk.cell ((hb.block _ hm.lt).trans hm : Blk W Bm 104 #[.map (some b)]) 0
    simpa using this
  have hfin : ∀ (left : Lit → Bool) (xs : List {ys : List Int // T ys = true}), ColK D left (xs.map (·.1)) → (∀ kl, left kl = false) → SK T xs := fun left xs hC hl => by
    refine ⟨hC.1, fun ys hys => ?_⟩
    obtain ⟨kl, hkl⟩ := hk ys hys
    have hhas : Maps.has D kl = true := by
      have e := hD2 ys kl hkl
      rw [hys] at e
      cases hh : Maps.has D kl with
      | true => rfl
      | false => rw [atKey_of_not_has hh] at e; cases e
    obtain ⟨y, a, c⟩ := hC.2.2 kl hhas (hl kl)
    have := enI_inj _ _ (itTy.keyed.inj hkl c)
    rw [this]
    exact a
  clear hown0 hb hm
  have HF := Lib.hid hfin
  have HD := Lib.hid (And.intro hD3 hB)
  clear hfin hD2 hD3 hk hB
  refine callsIn_of_wp Tryz.func104 rfl trivial ?_ rfl
  simp only [Tryz.ntmps104, List.size_toArray, List.length_cons, List.length_nil, Nat.reduceAdd, Nat.reduceSub, Array.replicate_succ, Array.replicate_zero, List.push_toArray, List.append_toArray, List.nil_append, List.cons_append]
  gi_wp2_with (first
    | (gi_at_range; refine wpListIn_range_own _ rfl _ 104 rfl 108 4 itTy.keyed itTy.und _ b nn _ rfl hown ?_; intro w0 hrg0 hg0 hs0)
    | gi_in)
  gi_loopw [3] (fun _ wr => ∃ (left : Lit → Bool) (cnt : Nat) (xs : List {ys : List Int // T ys = true}), wr.ranges Tryz.prog 108 (plainElem Tryz.prog 4) b W.heap.size nn D left cnt ∧ Hid (ColK D left (xs.map (·.1))) ∧ Hid (J xs wr))
    (fun _ wr => wr.rangeLeft b W.heap.size)
  case atStart =>
    exact ⟨_, _, [], hrg0, Lib.hid (ColK.start D), Lib.hid (hJ [] W w0 none h0 hg0 (fun r e => by cases e))⟩
  case round =>
    obtain ⟨left, cnt, xs, hrg, HC, HJ⟩ := hrel
    gi_wp2_with (first
      | (gi_at_next; refine wpListIn_next_ranges _ rfl _ rfl 108 itTy.keyed (plainElem Tryz.prog 4) (id : Value → Value) (id : Value → Value) (fun key kl hk => ⟨key, rfl⟩) (fun v _ _ => ⟨v, rfl⟩) b W.heap.size nn _ _ _ rfl hrg ?_ ?_)
      | gi_in)
    · intro hc0 hl0
      gi_wp2
      refine bodyPost_end (results_none rfl _ _ _) rfl ?_
      exact ⟨⟨_, rfl⟩, .inl ⟨xs, HF.out left xs HC.out hl0, HJ.out⟩⟩
    · intro x c kl yd yp w2 cnt2 hkey hlk hv hat hrg2 hlt hg2 hs2 hen
      obtain ⟨ys, hl10, hsm, hky, hTy⟩ := HD.out.1 kl (has_true_of_atKey hat)
      obtain rfl : x = enI ys := itTy.keyed.inj hkey hky
      have hJ2 : J xs w2 := hJ xs wr w2 (some W.heap.size) HJ.out hg2 (fun r e => by cases e; exact ⟨Nat.le_refl _, hrg.iter_walk⟩)
      have hC2 := HC.out.step hky hlk
      have hlen : xs.length < B := by
        have := HD.out.2 _ hC2.1 (fun y hy => by
          rcases List.mem_append.1 hy with hy | hy
          · obtain ⟨z, _, rfl⟩ := List.mem_map.1 hy; exact z.2
          · rw [List.mem_singleton] at hy; rw [hy]; exact hTy)
        simp at this
        omega
      obtain ⟨V, hV⟩ : ∃ V, w2.alloc (.cells (ivs ys).toArray 108) = V := ⟨_, rfl⟩
      have hJ3 : J xs V := by rw [← hV]; exact hJ xs w2 _ none hJ2 (World.grownBy_alloc _ _ _) (fun r e => by cases e)
      have hrg3 : V.ranges Tryz.prog 108 (plainElem Tryz.prog 4) b W.heap.size nn D (fun z => left z && !z.sameKey kl) cnt2 := by rw [← hV]; exact hrg2.of_walks (KeepsWalks.alloc _ _)
      have hbV : Blk V w2.heap.size 108 (ivs ys).toArray := by rw [← hV]; exact Blk.new _ _ _ _ rfl
      obtain ⟨fn, tmps, assign, body, hy, hR⟩ := hY xs ⟨ys, hTy⟩ V hJ3 hlen
      have HXS : Hid ((xs ++ [⟨ys, hTy⟩] : List {ys : List Int // T ys = true}).map (·.1) = xs.map (·.1) ++ [ys]) := Lib.hid (by simp)
      obtain ⟨a0, a1, a2, a3, a4, a5, a6, a7, a8, a9, e10⟩ := ten_form hl10
      have he : enI ys = .agg #[.int .i64 a0, .int .i64 a1, .int .i64 a2, .int .i64 a3, .int .i64 a4, .int .i64 a5, .int .i64 a6, .int .i64 a7, .int .i64 a8, .int .i64 a9] := by rw [e10]; rfl
      have he2 : (ivs ys).toArray = #[.int .i64 a0, .int .i64 a1, .int .i64 a2, .int .i64 a3, .int .i64 a4, .int .i64 a5, .int .i64 a6, .int .i64 a7, .int .i64 a8, .int .i64 a9] := by rw [e10]; rfl
      dsimp only at hy
      rw [he] at hy hen
      rw [he2] at hV hbV
      have y0 := hbV.cell 0
      have y1 := hbV.cell 1
      have y2 := hbV.cell 2
      have y3 := hbV.cell 3
      have y4 := hbV.cell 4
      have y5 := hbV.cell 5
      have y6 := hbV.cell 6
      have y7 := hbV.cell 7
      have y8 := hbV.cell 8
      have y9 := hbV.cell 9
      simp only [List.getElem?_toArray, List.getElem?_cons_zero, List.getElem?_cons_succ] at y0 y1 y2 y3 y4 y5 y6 y7 y8 y9
      have HM := Lib.hid (And.intro hC2 (And.intro hrg3 hlt))
      have HRG := Lib.hid (hrg.left_eq)
      clear hs2 hkey hky hat hv hrg2 hg2 hsm hl10 hJ2 hJ3 hC2 hrg3 hlt hbV e10 he he2
      gi_wp2_with fail
      refine hR.mono ?_
      rintro e W3 (⟨rfl, hJ4, hk4⟩ | ⟨rfl, hJx4⟩)
      · have hrg4 := HM.out.2.1.of_walks hk4
        have HJ4 := Lib.hid hJ4
        clear hR hy hJ4 hk4 y0 y1 y2 y3 y4 y5 y6 y7 y8 y9 hen
        gi_wp2
        go_roundw
        case rel => exact ⟨_, cnt2, xs ++ [⟨ys, hTy⟩], hrg4, Lib.hid (by rw [HXS.out]; exact HM.out.1), HJ4⟩
        case measure => rw [hrg4.left_eq, HRG.out]; exact HM.out.2.2
      · clear hR hy y0 y1 y2 y3 y4 y5 y6 y7 y8 y9 hen
        gi_wp2
        refine bodyPost_ret (results_none rfl _ _ _) rfl ?_
        exact ⟨⟨_, rfl⟩, .inr ⟨_, trivial, hJx4⟩⟩
end Go.Proofs.YtapjofbjedpmgaaGreat
end
