/- Contracts of the program's actions of the machine on one half of the tape, continued. The place and the symbol are the machine's.
A made map to numbers, as a function on what its keys stand for: what a look-up answers and what a store leaves. No condition. -/
import Derived.Test.YtjcfmlecfjmcgaaGreatDoorS12
import Derived.Test.YtjcfmlecfjmcgaaGreatDoorS01
import Derived.Maps.Own
import Derived.Maps.OwnSet
import Derived.Maps.Keyed
import Derived.Maps.Views
import Derived.DeepKeys4
section
set_option linter.unusedSimpArgs false
set_option linter.unusedVariables false
namespace Go.Proofs.YtjcfmlecfjmcgaaGreatDoor
open Go Go.RowKit Go.Proofs
set_option maxHeartbeats 4000000
set_option maxRecDepth 20000 in
theorem foldKeep_c (mv k h v : Int) (p : FP) (bv bp : Nat) (w : World) (hv : w.cell? ⟨bv, 0, none⟩ = some (.int .i64 v)) (hp : w.cell? ⟨bp, 1, none⟩ = some (.int .i64 p.q)) :
    Calls Tryz.prog 95 #[.int .i64 mv, .int .i64 k, .int .i64 h, .pointer (some ⟨bv, 0, none⟩), .pointer (some ⟨bp, 0, none⟩)] w fun e w' => e = .returned (ActV (keepD v p mv k h)) ∧ Ext w w' := by
  have hx := Ext.alloc w (.cells #[.int .i64 0, .int .i64 0, .int .i64 0, .int .i64 0, .int .i64 0, .bool false] 105)
  have hv := hx.cell hv
  have hp := hx.cell hp
  go_enter Tryz.func95, Tryz.ntmps95
  go_wp2
  refine bodyPost_ret (v := ActV (keepD v p mv k h)) (by simp [results, Tryz.results95, go_sem, ActV, keepD]) rfl ?_
  have hw1 : w.heap.size ≤ w.heap.size := Nat.le_refl _
  exact ⟨rfl, by repeat (first | with_reducible exact Ext.alloc _ _ | refine Ext.setCell ?_ hw1 _)⟩
structure FoldArgs (m : MachD) (p : FP) (v : Int) : Prop where
  ok : machOk m = true
  p : POk m.st p
  v0 : 0 ≤ v
  v1 : v ≤ m.sy
set_option maxRecDepth 20000 in
theorem foldAction_c (mv : Value) (m : MachD) (p : FP) (v : Int) (w : World) (hm : Mach w mv m) (ha : FoldArgs m p v) :
    Calls Tryz.prog 62 #[mv, p.v, .int .i64 v] w fun e w' => e = .returned (ActV (actF m p v)) ∧ Ext w w' := by
  obtain ⟨rv, rfl, hr⟩ := hm
  obtain ⟨A, c, rfl, h5, h5'⟩ := hr.form
  obtain ⟨s1, s2, s3, s4, hl⟩ := machOk_all ha.ok
  have hp := ha.p
  obtain ⟨v0, v1⟩ : 0 ≤ v ∧ v ≤ m.sy := ⟨ha.v0, ha.v1⟩
  obtain ⟨k, q, h⟩ := p
  have q0 := hp.q0
  have q1 := hp.q1
  simp only at q0 q1
  have hl6 : m.rules.length ≤ 6000 := by have := (mul_bounds s1 s2 s3 s4).2; omega
  have HIX : Hid (v ≠ m.sy → ∃ j : Nat, q * m.sy + v = j ∧ j < m.rules.length) := by
    unfold Hid
    intro hne
    exact ruleIx s1 s2 hl q0 q1 v0 (by omega)
  obtain ⟨W, hW⟩ : ∃ W, W = (((w.alloc (.cells #[.int .i64 m.sy, .int .i64 m.st, .slice A m.rules.length c] 35)).alloc (.cells #[.int .i64 k, .int .i64 q, .int .i64 h] 102)).alloc (.cells #[.int .i64 v] 2)).alloc (.cells #[.int .i64 0, .int .i64 0, .int .i64 0, .int .i64 0, .int .i64 0, .bool false] 105) := ⟨_, rfl⟩
  have hXW : Ext w W := by rw [hW]; exact (((Ext.alloc _ _).trans (Ext.alloc _ _)).trans (Ext.alloc _ _)).trans (Ext.alloc _ _)
  have bM : Blk W w.heap.size 35 #[.int .i64 m.sy, .int .i64 m.st, .slice A m.rules.length c] := by rw [hW]; exact ((((Blk.new _ _ _ _ rfl).alloc _).alloc _).alloc _)
  have bP : Blk W (w.heap.size + 1) 102 #[.int .i64 k, .int .i64 q, .int .i64 h] := by rw [hW]; exact (((Blk.new _ _ _ _ (by simp)).alloc _).alloc _)
  have bV : Blk W (w.heap.size + 1 + 1) 2 #[.int .i64 v] := by rw [hW]; exact ((Blk.new _ _ _ _ (by simp)).alloc _)
  have bZ : Blk W (w.heap.size + 1 + 1 + 1) 105 #[.int .i64 0, .int .i64 0, .int .i64 0, .int .i64 0, .int .i64 0, .bool false] := by rw [hW]; exact Blk.new _ _ _ _ (by simp)
  have hMr : Mach W (.agg #[.int .i64 m.sy, .int .i64 m.st, .slice A m.rules.length c]) m := ⟨_, rfl, hr.ext hXW⟩
  have hw1 : w.heap.size ≤ w.heap.size + 1 + 1 + 1 := by omega
  have p0 := bP.cell 0
  have p1 := bP.cell 1
  have p2 := bP.cell 2
  have y0 := bV.cell 0
  have m0 := bM.cell 0
  have m1 := bM.cell 1
  have m2 := bM.cell 2
  simp only [List.getElem?_toArray, List.getElem?_cons_zero, List.getElem?_cons_succ] at p0 p1 p2 y0 m0 m1 m2
  have z0 := bZ.cell
  have z1 := bZ.frozen
  simp only [FP.v]
  go_enter Tryz.func62, Tryz.ntmps62
  by_cases hne : v = m.sy
  · have hvb : (v == m.sy) = true := by simp [hne]
    rcases hp.kinds with e | e | e | e | e | e <;> simp only at e <;> subst e
    · have HE : Hid (actF m ⟨0, q, h⟩ v = noA) := by unfold Hid; simp [actF, hne]
      clear hne
      go_wp2
      refine bodyPost_ret (v := ActV noA) (by simp [results, Tryz.results62, go_sem, ActV, noA]) rfl ?_
      exact ⟨by rw [HE.out], (((Ext.alloc _ _).trans (Ext.alloc _ _)).trans (Ext.alloc _ _)).trans (Ext.alloc _ _)⟩
    · have HE : Hid (actF m ⟨1, q, h⟩ v = noA) := by unfold Hid; simp [actF, hne]
      clear hne
      go_wp2
      refine bodyPost_ret (v := ActV noA) (by simp [results, Tryz.results62, go_sem, ActV, noA]) rfl ?_
      exact ⟨by rw [HE.out], (((Ext.alloc _ _).trans (Ext.alloc _ _)).trans (Ext.alloc _ _)).trans (Ext.alloc _ _)⟩
    · have HE : Hid (actF m ⟨2, q, h⟩ v = keepD v ⟨2, q, h⟩ 1 3 0) := by unfold Hid; simp [actF, hne]
      clear hne
      go_wp2_with fail
      rw [← hW]
      clear hW
      refine (foldKeep_c (1) 3 (0) v ⟨2, q, h⟩ _ _ _ y0 p1).mono ?_
      rintro e w1 ⟨rfl, hx1⟩
      have z0 := (bZ.ext hx1).cell
      have z1 := (bZ.ext hx1).frozen
      have hX := hXW.trans hx1
      simp only [ActV, keepD]
      go_wp2
      refine bodyPost_ret (v := ActV (keepD v ⟨2, q, h⟩ (1) 3 (0))) (by simp [results, Tryz.results62, go_sem, z0, ActV, keepD, noA]) rfl ?_
      exact ⟨by rw [HE.out], by repeat (first | with_reducible exact hX | refine Ext.setCell ?_ hw1 _)⟩
    · have HE : Hid (actF m ⟨3, q, h⟩ v = noA) := by unfold Hid; simp [actF, hne]
      clear hne
      go_wp2
      refine bodyPost_ret (v := ActV noA) (by simp [results, Tryz.results62, go_sem, ActV, noA]) rfl ?_
      exact ⟨by rw [HE.out], (((Ext.alloc _ _).trans (Ext.alloc _ _)).trans (Ext.alloc _ _)).trans (Ext.alloc _ _)⟩
    · have HE : Hid (actF m ⟨4, q, h⟩ v = noA) := by unfold Hid; simp [actF, hne]
      clear hne
      go_wp2
      refine bodyPost_ret (v := ActV noA) (by simp [results, Tryz.results62, go_sem, ActV, noA]) rfl ?_
      exact ⟨by rw [HE.out], (((Ext.alloc _ _).trans (Ext.alloc _ _)).trans (Ext.alloc _ _)).trans (Ext.alloc _ _)⟩
    · have HE : Hid (actF m ⟨5, q, h⟩ v = keepD v ⟨5, q, h⟩ 1 0 0) := by unfold Hid; simp [actF, hne]
      clear hne
      go_wp2_with fail
      rw [← hW]
      clear hW
      refine (foldKeep_c (1) 0 (0) v ⟨5, q, h⟩ _ _ _ y0 p1).mono ?_
      rintro e w1 ⟨rfl, hx1⟩
      have z0 := (bZ.ext hx1).cell
      have z1 := (bZ.ext hx1).frozen
      have hX := hXW.trans hx1
      simp only [ActV, keepD]
      go_wp2
      refine bodyPost_ret (v := ActV (keepD v ⟨5, q, h⟩ (1) 0 (0))) (by simp [results, Tryz.results62, go_sem, z0, ActV, keepD, noA]) rfl ?_
      exact ⟨by rw [HE.out], by repeat (first | with_reducible exact hX | refine Ext.setCell ?_ hw1 _)⟩
  · have hvb : (v == m.sy) = false := by simp [hne]
    rcases hp.kinds with e | e | e | e | e | e <;> simp only at e <;> subst e
    · have HE : Hid (actF m ⟨0, q, h⟩ v = foldMainD m q h v) := by unfold Hid; simp [actF, hne]
      obtain ⟨j, hj1, hj2⟩ := HIX.out hne
      go_wp2_with fail
      rw [← hW]
      clear hW
      refine (foldMain_c _ m q (h) v j _ hMr hj1 hj2 hl6 s1 s2 q0 (by omega) v0 (by omega)).mono ?_
      rintro e w1 ⟨rfl, hx1⟩
      have z0 := (bZ.ext hx1).cell
      have z1 := (bZ.ext hx1).frozen
      have hX := hXW.trans hx1
      generalize foldMainD m q (h) v = a at *
      simp only [ActV]
      go_wp2
      refine bodyPost_ret (v := ActV (a)) (by simp [results, Tryz.results62, go_sem, z0, ActV, keepD, noA]) rfl ?_
      exact ⟨by rw [HE.out], by repeat (first | with_reducible exact hX | refine Ext.setCell ?_ hw1 _)⟩
    · have HE : Hid (actF m ⟨1, q, h⟩ v = keepD v ⟨1, q, h⟩ 1 0 h) := by unfold Hid; simp [actF, hne]
      go_wp2_with fail
      rw [← hW]
      clear hW
      refine (foldKeep_c (1) 0 (h) v ⟨1, q, h⟩ _ _ _ y0 p1).mono ?_
      rintro e w1 ⟨rfl, hx1⟩
      have z0 := (bZ.ext hx1).cell
      have z1 := (bZ.ext hx1).frozen
      have hX := hXW.trans hx1
      simp only [ActV, keepD]
      go_wp2
      refine bodyPost_ret (v := ActV (keepD v ⟨1, q, h⟩ (1) 0 (h))) (by simp [results, Tryz.results62, go_sem, z0, ActV, keepD, noA]) rfl ?_
      exact ⟨by rw [HE.out], by repeat (first | with_reducible exact hX | refine Ext.setCell ?_ hw1 _)⟩
    · have HE : Hid (actF m ⟨2, q, h⟩ v = keepD v ⟨2, q, h⟩ (-1) 0 0) := by unfold Hid; simp [actF, hne]
      go_wp2_with fail
      rw [← hW]
      clear hW
      refine (foldKeep_c (-1) 0 (0) v ⟨2, q, h⟩ _ _ _ y0 p1).mono ?_
      rintro e w1 ⟨rfl, hx1⟩
      have z0 := (bZ.ext hx1).cell
      have z1 := (bZ.ext hx1).frozen
      have hX := hXW.trans hx1
      simp only [ActV, keepD]
      go_wp2
      refine bodyPost_ret (v := ActV (keepD v ⟨2, q, h⟩ (-1) 0 (0))) (by simp [results, Tryz.results62, go_sem, z0, ActV, keepD, noA]) rfl ?_
      exact ⟨by rw [HE.out], by repeat (first | with_reducible exact hX | refine Ext.setCell ?_ hw1 _)⟩
    · have HE : Hid (actF m ⟨3, q, h⟩ v = keepD v ⟨3, q, h⟩ 1 0 1) := by unfold Hid; simp [actF, hne]
      go_wp2_with fail
      rw [← hW]
      clear hW
      refine (foldKeep_c (1) 0 (1) v ⟨3, q, h⟩ _ _ _ y0 p1).mono ?_
      rintro e w1 ⟨rfl, hx1⟩
      have z0 := (bZ.ext hx1).cell
      have z1 := (bZ.ext hx1).frozen
      have hX := hXW.trans hx1
      simp only [ActV, keepD]
      go_wp2
      refine bodyPost_ret (v := ActV (keepD v ⟨3, q, h⟩ (1) 0 (1))) (by simp [results, Tryz.results62, go_sem, z0, ActV, keepD, noA]) rfl ?_
      exact ⟨by rw [HE.out], by repeat (first | with_reducible exact hX | refine Ext.setCell ?_ hw1 _)⟩
    · have HE : Hid (actF m ⟨4, q, h⟩ v = keepD v ⟨4, q, h⟩ (-1) 5 0) := by unfold Hid; simp [actF, hne]
      go_wp2_with fail
      rw [← hW]
      clear hW
      refine (foldKeep_c (-1) 5 (0) v ⟨4, q, h⟩ _ _ _ y0 p1).mono ?_
      rintro e w1 ⟨rfl, hx1⟩
      have z0 := (bZ.ext hx1).cell
      have z1 := (bZ.ext hx1).frozen
      have hX := hXW.trans hx1
      simp only [ActV, keepD]
      go_wp2
      refine bodyPost_ret (v := ActV (keepD v ⟨4, q, h⟩ (-1) 5 (0))) (by simp [results, Tryz.results62, go_sem, z0, ActV, keepD, noA]) rfl ?_
      exact ⟨by rw [HE.out], by repeat (first | with_reducible exact hX | refine Ext.setCell ?_ hw1 _)⟩
    · have HE : Hid (actF m ⟨5, q, h⟩ v = foldMainD m q 1 v) := by unfold Hid; simp [actF, hne]
      obtain ⟨j, hj1, hj2⟩ := HIX.out hne
      go_wp2_with fail
      rw [← hW]
      clear hW
      refine (foldMain_c _ m q (1) v j _ hMr hj1 hj2 hl6 s1 s2 q0 (by omega) v0 (by omega)).mono ?_
      rintro e w1 ⟨rfl, hx1⟩
      have z0 := (bZ.ext hx1).cell
      have z1 := (bZ.ext hx1).frozen
      have hX := hXW.trans hx1
      generalize foldMainD m q (1) v = a at *
      simp only [ActV]
      go_wp2
      refine bodyPost_ret (v := ActV (a)) (by simp [results, Tryz.results62, go_sem, z0, ActV, keepD, noA]) rfl ?_
      exact ⟨by rw [HE.out], by repeat (first | with_reducible exact hX | refine Ext.setCell ?_ hw1 _)⟩
end Go.Proofs.YtjcfmlecfjmcgaaGreatDoor
end
section
namespace Go.Proofs.YtjcfmlecfjmcgaaGreatDoor
open Go Go.RowKit Go.Proofs Go.Maps
/-- A type of maps to numbers. -/
structure MapTy (P : Program) (t k e : TypeId) : Prop where
  keyed : Keyed P k
  und : P.underlying t = some (.map k e)
  el : P.underlying e = some (.int .i64)
  zero : ∀ w, (zeroValue e).run P w = .ok (.int .i64 0) w
section
variable {P : Program} {t k e : TypeId} {α : Type} {enc : α → Value} {w w' : World} {b n : Nat} {T T' : α → Option Int}
/-- The map in block b has T a at the key of a, in at most n entries. -/
def Tbl (P : Program) (k e : TypeId) (enc : α → Value) (w : World) (b n : Nat) (T : α → Option Int) : Prop :=
  ∃ D : DataW Unit, w.ownsMap P k (plainElem P e) b n D ∧ ∀ a l, keyOf P k (enc a) = some l → Maps.has D l = (T a).isSome ∧ D.atKey l (.lit (.int .i64 0)) = .lit (.int .i64 ((T a).getD 0))
theorem Tbl.made (P : Program) (k e : TypeId) (enc : α → Value) (w : World) : Tbl P k e enc (w.alloc (.map #[] 0)) w.heap.size 0 (fun _ => none) :=
  ⟨_, World.ownsMap_made _ _ _ _, fun _ _ _ => ⟨rfl, rfl⟩⟩
theorem Tbl.kept {row : Option Nat} (h : Tbl P k e enc w b n T) (hg : w.grownBy w' row) (hne : some b ≠ row) : Tbl P k e enc w' b n T := by
  obtain ⟨D, h1, h2⟩ := h
  exact ⟨D, h1.kept hg hne, h2⟩
theorem Tbl.ext (h : Tbl P k e enc w b n T) (he : Ext w w') : Tbl P k e enc w' b n T :=
  h.kept (row := none) ⟨he.os, he.tape, he.output, he.size, fun k hk _ => Below.block he k hk⟩ (by simp)
theorem Tbl.setCell (h : Tbl P k e enc w b n T) {a : Addr} (ha : b ≠ a.block) (u : Value) : Tbl P k e enc (w.setCell a u) b n T := by
  obtain ⟨D, h1, h2⟩ := h
  exact ⟨D, h1.setCell ha u, h2⟩
theorem Tbl.mono {n' : Nat} (h : Tbl P k e enc w b n T) (hn : n ≤ n') : Tbl P k e enc w b n' T := by
  obtain ⟨D, h1, h2⟩ := h
  exact ⟨D, h1.mono hn, h2⟩
theorem Tbl.lt (h : Tbl P k e enc w b n T) : b < w.heap.size := by
  obtain ⟨D, h1, _⟩ := h
  exact h1.lt
theorem Tbl.ne_row (h : Tbl P k e enc w b n T) {base : Nat} {e' : TypeId} {size : Nat} {v : Value} {m : Nat} {xs : List Value} (ho : w.ownsRow base e' size v m xs) : some b ≠ v.ownBlock := by
  obtain ⟨D, ⟨es, clock, hb, _⟩, _⟩ := h
  rcases ho.2 with ⟨rfl, _⟩ | ⟨g, cap, cur, rfl, _, hg, _⟩
  · simp [Value.ownBlock]
  · intro e
    have : b = g := by simpa [Value.ownBlock] using e
    subst this
    rw [hb] at hg
    cases hg
theorem Tbl.ne_blk (h : Tbl P k e enc w b n T) {g : Nat} {t' : TypeId} {cs : Array Value} (hg : Blk w g t' cs) : b ≠ g := by
  obtain ⟨D, ⟨es, clock, hb, _⟩, _⟩ := h
  rintro rfl
  unfold Blk at hg
  rw [hb] at hg
  cases hg
theorem lit_int_inj {a b : Int} (h : (DataW.lit (.int .i64 a) : DataW Unit) = .lit (.int .i64 b)) : a = b := by
  injection h with h
  injection h
theorem Tbl.lookup (h : Tbl P k e enc w b n T) (M : MapTy P t k e) (a : α) (hk : ∃ l, keyOf P k (enc a) = some l) :
    (Instr.lookup t (.map (some b)) (enc a) false).run P w = .ok (.int .i64 ((T a).getD 0)) w := by
  obtain ⟨D, h1, h2⟩ := h
  obtain ⟨l, hl⟩ := hk
  obtain ⟨c, hrun, hat, _⟩ := h1.lookup_int M.keyed M.und M.el (M.zero w) hl
  rw [(h2 a l hl).2] at hat
  rw [lit_int_inj hat]
  exact hrun
theorem Tbl.lookup2 (h : Tbl P k e enc w b n T) (M : MapTy P t k e) (a : α) (hk : ∃ l, keyOf P k (enc a) = some l) :
    (Instr.lookup t (.map (some b)) (enc a) true).run P w = .ok (.tuple #[.int .i64 ((T a).getD 0), .bool (T a).isSome]) w := by
  obtain ⟨D, h1, h2⟩ := h
  obtain ⟨l, hl⟩ := hk
  obtain ⟨v, ps, hrun, hv⟩ := h1.look_ok M.keyed M.und (M.zero w) (plainElem_int M.el (by decide)) hl
  obtain ⟨c, rfl, hc, _⟩ := plainElem_int_inv M.el hv
  have hc1 := congrArg Prod.fst hc
  simp only at hc1
  rw [(h2 a l hl).2] at hc1
  rw [(h2 a l hl).1, ← lit_int_inj hc1] at hrun
  exact hrun
theorem Tbl.update [DecidableEq α] (h : Tbl P k e enc w b n T) (M : MapTy P t k e) (hinj : ∀ x y, enc x = enc y → x = y) (hn : n < maxLen) (a : α) (hk : ∃ l, keyOf P k (enc a) = some l) (c : Int) (hc : (Lit.int .i64 c).wf = true) :
    ∃ w', (Instr.mapUpdate t (.map (some b)) (enc a) (.int .i64 c)).run P w = .ok () w' ∧ Tbl P k e enc w' b (n + 1) (fun x => if x = a then some c else T x) ∧ w.grownBy w' (some b) := by
  obtain ⟨D, h1, h2⟩ := h
  obtain ⟨l, hl⟩ := hk
  obtain ⟨w', hrun, h3, h4⟩ := h1.update M.keyed M.und hn hl (plainElem_int M.el hc)
  refine ⟨w', hrun, ⟨_, h3, fun x lx hx => ?_⟩, h4⟩
  by_cases e : x = a
  · subst e
    rw [hl] at hx
    injection hx with hx
    subst hx
    rw [has_put_same h1.isMap (M.keyed.key hl), atKey_put_same h1.isMap (M.keyed.key hl)]
    simp
  · have hne : lx ≠ l := fun e' => e (hinj _ _ (M.keyed.inj hx (e' ▸ hl)))
    rw [has_put_other hne, atKey_put_other hne]
    simp only [e, if_false]
    exact h2 x lx hx
end
end Go.Proofs.YtjcfmlecfjmcgaaGreatDoor
end
