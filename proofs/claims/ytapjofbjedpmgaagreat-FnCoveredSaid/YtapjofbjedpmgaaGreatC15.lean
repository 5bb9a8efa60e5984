/- A made map to bools, as a function on what its keys stand for: what a look-up answers and what a store leaves. No condition.
Contracts: contexts' sizes and items.
Contracts: cells of a side, and the context of a configuration. -/
import Derived.Test.YtapjofbjedpmgaaGreatC10
import Derived.Test.YtapjofbjedpmgaaGreatC14
import Derived.Test.YtapjofbjedpmgaaGreatC08
import Derived.Test.YtapjofbjedpmgaaGreatC12
section
namespace Go.Proofs.YtapjofbjedpmgaaGreat
open Go Go.RowKit Go.Proofs Go.Maps
/-- A type of maps to bools. -/
structure MapTyB (P : Program) (t k e : TypeId) : Prop where
  keyed : Keyed P k
  und : P.underlying t = some (.map k e)
  el : P.underlying e = some .bool
  zero : ∀ w, (zeroValue e).run P w = .ok (.bool false) w
theorem plainElem_boolInv {H : Type} {P : Program} {e : TypeId} (he : P.underlying e = some .bool) {v : Value} {z : DataW H × List MemPlace} (h : plainElem P e v = some z) : ∃ x, v = .bool x ∧ z = (.lit (.bool x), []) := by
  unfold plainElem at h
  rw [he] at h
  cases v <;> simp at h
  exact ⟨_, rfl, h.symm⟩
section
variable {P : Program} {t k e : TypeId} {α : Type} {enc : α → Value} {w w' : World} {b n : Nat} {T T' : α → Bool}
/-- The map in block b has T a at the key of a, in at most n entries. -/
def TblB (P : Program) (k e : TypeId) (enc : α → Value) (w : World) (b n : Nat) (T : α → Bool) : Prop :=
  ∃ D : DataW Unit, w.ownsMap P k (plainElem P e) b n D ∧ ∀ a l, keyOf P k (enc a) = some l → D.atKey l (.lit (.bool false)) = .lit (.bool (T a))
theorem TblB.made (P : Program) (k e : TypeId) (enc : α → Value) (w : World) : TblB P k e enc (w.alloc (.map #[] 0)) w.heap.size 0 (fun _ => false) :=
  ⟨_, World.ownsMap_made _ _ _ _, fun _ _ _ => rfl⟩
theorem TblB.kept {row : Option Nat} (h : TblB P k e enc w b n T) (hg : w.grownBy w' row) (hne : some b ≠ row) : TblB P k e enc w' b n T := by
  obtain ⟨D, h1, h2⟩ := h
  exact ⟨D, h1.kept hg hne, h2⟩
theorem TblB.ext (h : TblB P k e enc w b n T) (he : Ext w w') : TblB P k e enc w' b n T :=
  h.kept (row := none) ⟨he.os, he.tape, he.output, he.size, fun k hk _ => Below.block he k hk⟩ (by simp)
theorem TblB.setCell (h : TblB P k e enc w b n T) {a : Addr} (ha : b ≠ a.block) (u : Value) : TblB P k e enc (w.setCell a u) b n T := by
  obtain ⟨D, h1, h2⟩ := h
  exact ⟨D, h1.setCell ha u, h2⟩
theorem TblB.mono {n' : Nat} (h : TblB P k e enc w b n T) (hn : n ≤ n') : TblB P k e enc w b n' T := by
  obtain ⟨D, h1, h2⟩ := h
  exact ⟨D, h1.mono hn, h2⟩
theorem TblB.lt (h : TblB P k e enc w b n T) : b < w.heap.size := by
  obtain ⟨D, h1, _⟩ := h
  exact h1.lt
theorem lit_boolInj {a b : Bool} (h : (DataW.lit (.bool a) : DataW Unit) = .lit (.bool b)) : a = b := by
  injection h with h
  injection h
theorem TblB.lookup (h : TblB P k e enc w b n T) (M : MapTyB P t k e) (a : α) (hk : ∃ l, keyOf P k (enc a) = some l) :
    (Instr.lookup t (.map (some b)) (enc a) false).run P w = .ok (.bool (T a)) w := by
  obtain ⟨D, h1, h2⟩ := h
  obtain ⟨l, hl⟩ := hk
  obtain ⟨v, ps, hrun, hv⟩ := h1.lookup M.keyed M.und (M.zero w) (plainElem_bool M.el false) hl
  obtain ⟨x, hvx, hx⟩ := plainElem_boolInv M.el hv
  have hx1 := congrArg Prod.fst hx
  rw [h2 a l hl] at hx1
  rw [lit_boolInj hx1, ← hvx]
  exact hrun
theorem TblB.update [DecidableEq α] (h : TblB P k e enc w b n T) (M : MapTyB P t k e) (hinj : ∀ x y, enc x = enc y → x = y) (hn : n < maxLen) (a : α) (hk : ∃ l, keyOf P k (enc a) = some l) (c : Bool) :
    ∃ w', (Instr.mapUpdate t (.map (some b)) (enc a) (.bool c)).run P w = .ok () w' ∧ TblB P k e enc w' b (n + 1) (fun x => if x = a then c else T x) ∧ w.grownBy w' (some b) := by
  obtain ⟨D, h1, h2⟩ := h
  obtain ⟨l, hl⟩ := hk
  obtain ⟨w', hrun, h3, h4⟩ := h1.update M.keyed M.und hn hl (plainElem_bool M.el c)
  refine ⟨w', hrun, ⟨_, h3, fun x lx hx => ?_⟩, h4⟩
  by_cases e : x = a
  · subst e
    rw [hl] at hx
    injection hx with hx
    subst hx
    rw [atKey_put_same h1.isMap (M.keyed.key hl)]
    simp
  · have hne : lx ≠ l := fun e' => e (hinj _ _ (M.keyed.inj hx (e' ▸ hl)))
    rw [atKey_put_other hne]
    simp only [e, if_false]
    exact h2 x lx hx
end
end Go.Proofs.YtapjofbjedpmgaaGreat
end
section
set_option linter.unusedSimpArgs false
set_option linter.unusedVariables false
namespace Go.Proofs.YtapjofbjedpmgaaGreat
open Go Go.RowKit Go.Proofs Go.Maps
set_option maxHeartbeats 400000
theorem contextSizeOk_c (n : Int) (w : World) : Calls Tryz.prog 24 #[.int .i64 n] w fun e w' => e = .returned (.bool (inB n 1 4)) ∧ w = w' := by
  go_enter Tryz.func24, Tryz.ntmps24
  go_wp2_with fail
  refine (within_c _ _ _ _).mono ?_
  rintro e w2 ⟨rfl, rfl⟩
  go_wp2
  go_ret
  exact ⟨rfl, rfl⟩
/-- The cells of an item. -/
def padI (xs : List Int) : List Int := xs ++ List.replicate (10 - xs.length) 0
theorem padI_len {xs : List Int} (h : xs.length ≤ 10) : (padI xs).length = 10 := by
  unfold padI
  rw [List.length_append, List.length_replicate]
  omega
/-- The value of an item. -/
def itemV (xs : List Int) : Value := .agg (ivs (padI xs)).toArray
theorem ten_form {α : Type} {l : List α} (h : l.length = 10) : ∃ a0 a1 a2 a3 a4 a5 a6 a7 a8 a9, l = [a0, a1, a2, a3, a4, a5, a6, a7, a8, a9] := by
  match l, h with
  | [a0, a1, a2, a3, a4, a5, a6, a7, a8, a9], _ => exact ⟨_, _, _, _, _, _, _, _, _, _, rfl⟩
theorem padI_inj {xs ys : List Int} (hl : xs.length = ys.length) (h : padI xs = padI ys) : xs = ys := by
  unfold padI at h
  exact (List.append_inj h hl).1
set_option maxRecDepth 20000 in
set_option maxHeartbeats 4000000 in
theorem itemOf_c (b off c : Nat) (xs : List Int) (w : World) (h : Ints w (.slice (some ⟨b, off, none⟩) xs.length c) xs) (hl : xs.length ≤ 10) (h0 : 1 ≤ xs.length) :
    Calls Tryz.prog 66 #[.slice (some ⟨b, off, none⟩) xs.length c] w fun e w' => e = .returned (itemV xs) ∧ Ext w w' := by
  obtain ⟨gA, hgA⟩ : ∃ g, w.heap.size = g := ⟨_, rfl⟩
  obtain ⟨W, hW⟩ : ∃ W, W = (w.alloc (.cells #[.int .i64 0, .int .i64 0, .int .i64 0, .int .i64 0, .int .i64 0, .int .i64 0, .int .i64 0, .int .i64 0, .int .i64 0, .int .i64 0] 108)).alloc (.cells #[.int .i64 0, .int .i64 0, .int .i64 0, .int .i64 0, .int .i64 0, .int .i64 0, .int .i64 0, .int .i64 0, .int .i64 0, .int .i64 0] 108) := ⟨_, rfl⟩
  have hX : Ext w W := by rw [hW]; exact (Ext.alloc _ _).trans (Ext.alloc _ _)
  have bA : Blk W gA 108 #[.int .i64 0, .int .i64 0, .int .i64 0, .int .i64 0, .int .i64 0, .int .i64 0, .int .i64 0, .int .i64 0, .int .i64 0, .int .i64 0] := by rw [hW]; exact (Blk.new _ _ _ _ hgA).alloc _
  have bB : Blk W (gA + 1) 108 ((List.replicate 10 (.int .i64 0 : Value))).toArray := by rw [hW]; exact Blk.new _ _ _ _ (by simp [hgA])
  obtain ⟨a0, a1, a2, a3, a4, a5, a6, a7, a8, a9, hten⟩ := ten_form (padI_len hl)
  have hcs : ∀ k u, (ivs xs)[k]? = some u → W.cell? ((⟨b, off, none⟩ : Addr).add k) = some u := fun k u hk => by
    have hk' : k < xs.length := by simpa using (List.getElem?_eq_some_iff.1 hk).1
    obtain ⟨b', off', e, hc⟩ := (h.ext hX).at hk'
    injection e with e
    injection e with e1 e2
    subst e1 e2
    rw [ivs_get xs k hk'] at hk
    have : (⟨b, off, none⟩ : Addr).add k = ⟨b, off + k, none⟩ := by unfold Addr.add; split <;> simp_all
    rw [this, ← hk]
    exact hc k hk'
  have hlt2 : b < W.heap.size := by
    have := hcs 0 (.int .i64 xs[0]) (ivs_get xs 0 (by omega))
    exact World.block_lt_of_cell? W _ this
  have hsz : W.heap.size = gA + 1 + 1 := by rw [hW]; simp [hgA]
  have hgB : W.heap[gA + 1]? = some (.cells (List.replicate 10 (.int .i64 0 : Value)).toArray 108 (0, 0)) := bB
  obtain ⟨n, hn⟩ : ∃ n, xs.length = n := ⟨_, rfl⟩
  obtain ⟨N0, hN0⟩ : ∃ N, ivs xs = N := ⟨_, rfl⟩
  have hNl : N0.length = n := by rw [← hN0, ivs_length, hn]
  rw [hN0] at hcs
  have hpad : splice (List.replicate 10 (.int .i64 0 : Value)) 0 N0 = [.int .i64 a0, .int .i64 a1, .int .i64 a2, .int .i64 a3, .int .i64 a4, .int .i64 a5, .int .i64 a6, .int .i64 a7, .int .i64 a8, .int .i64 a9] := by
    rw [← hN0]
    have e : ivs (padI xs) = [.int .i64 a0, .int .i64 a1, .int .i64 a2, .int .i64 a3, .int .i64 a4, .int .i64 a5, .int .i64 a6, .int .i64 a7, .int .i64 a8, .int .i64 a9] := by rw [hten]; rfl
    rw [← e]
    unfold splice padI ivs
    rw [List.take_zero, List.nil_append, List.map_append, Nat.zero_add, List.length_map, List.drop_replicate, List.map_replicate]
  have hitem : itemV xs = .agg [.int .i64 a0, .int .i64 a1, .int .i64 a2, .int .i64 a3, .int .i64 a4, .int .i64 a5, .int .i64 a6, .int .i64 a7, .int .i64 a8, .int .i64 a9].toArray := by unfold itemV; rw [hten]; rfl
  have HI := Lib.hid (And.intro hpad (And.intro hitem (And.intro hX (And.intro bA hgA))))
  rw [hn] at h0 hl ⊢
  clear h hten hpad hitem bA
  go_enter Tryz.func66, Tryz.ntmps66
  go_upto_region 2 with fail
  try rw [← hW]
  try rw [hgA]
  clear hW hgA
  go_wp2_with (with_reducible refine wpList_copy_splice rfl _ _ 27 27 rfl 2 Tryz.underlying27 intSize' (some ⟨gA + 1, 0, none⟩) (some ⟨b, off, none⟩) 10 10 n c rfl rfl (gA + 1) 0 (List.replicate 10 (.int .i64 0 : Value)) 108 hgB N0 ?k1 ?k2 ?k3 ?k4 (gA + 1) W ?k5 ?k6 ?_)
  case k1 => rw [hNl]; exact (Nat.min_eq_left hl).symm
  case k2 =>
    intro _ k u hk
    have h9 := hcs k u hk
    have : (⟨b, off, none⟩ : Addr).add k = ⟨b, off + k, none⟩ := by unfold Addr.add; split <;> simp_all
    rw [this] at h9
    exact h9
  case k3 => rw [List.length_replicate]; omega
  case k4 =>
    intro u hu
    rw [← hN0] at hu
    simp only [ivs, List.mem_map] at hu
    obtain ⟨z, _, rfl⟩ := hu
    rfl
  case k5 => exact Below.refl _ _
  case k6 => exact Nat.le_refl _
  intro w2 hg2 hbl2
  have bB2 : Blk w2 (gA + 1) 108 #[.int .i64 a0, .int .i64 a1, .int .i64 a2, .int .i64 a3, .int .i64 a4, .int .i64 a5, .int .i64 a6, .int .i64 a7, .int .i64 a8, .int .i64 a9] := by
    have h9 : w2.heap[gA + 1]? = some (.cells (splice (List.replicate 10 (.int .i64 0 : Value)) 0 N0).toArray 108 (0, 0)) := hg2.out
    rw [HI.out.1] at h9
    exact h9
  have bA2 : Blk w2 gA 108 #[.int .i64 0, .int .i64 0, .int .i64 0, .int .i64 0, .int .i64 0, .int .i64 0, .int .i64 0, .int .i64 0, .int .i64 0, .int .i64 0] := (hbl2.block gA (by omega)).trans HI.out.2.2.2.1
  have hxw : Ext w w2 := Below.trans HI.out.2.2.1 (hbl2.mono (by have := HI.out.2.2.2.2; omega))
  have hle : w.heap.size ≤ gA := by have := HI.out.2.2.2.2; omega
  have y0 := bB2.cell 0
  have y1 := bB2.cell 1
  have y2 := bB2.cell 2
  have y3 := bB2.cell 3
  have y4 := bB2.cell 4
  have y5 := bB2.cell 5
  have y6 := bB2.cell 6
  have y7 := bB2.cell 7
  have y8 := bB2.cell 8
  have y9 := bB2.cell 9
  simp only [List.getElem?_toArray, List.getElem?_cons_zero, List.getElem?_cons_succ] at y0 y1 y2 y3 y4 y5 y6 y7 y8 y9
  have r0 := bA2.cell 0
  have z0 := bA2.frozen 0
  have r1 := bA2.cell 1
  have z1 := bA2.frozen 1
  have r2 := bA2.cell 2
  have z2 := bA2.frozen 2
  have r3 := bA2.cell 3
  have z3 := bA2.frozen 3
  have r4 := bA2.cell 4
  have z4 := bA2.frozen 4
  have r5 := bA2.cell 5
  have z5 := bA2.frozen 5
  have r6 := bA2.cell 6
  have z6 := bA2.frozen 6
  have r7 := bA2.cell 7
  have z7 := bA2.frozen 7
  have r8 := bA2.cell 8
  have z8 := bA2.frozen 8
  have r9 := bA2.cell 9
  have z9 := bA2.frozen 9
  simp only [List.getElem?_toArray, List.getElem?_cons_zero, List.getElem?_cons_succ] at r0 r1 r2 r3 r4 r5 r6 r7 r8 r9
  have HE := Lib.hid (And.intro hxw (And.intro bA2 hle))
  clear hg2 hbl2 bB2 bA2 hxw hle hgB bB hcs hX
  go_wp2
  refine bodyPost_ret (v := .agg #[.int .i64 a0, .int .i64 a1, .int .i64 a2, .int .i64 a3, .int .i64 a4, .int .i64 a5, .int .i64 a6, .int .i64 a7, .int .i64 a8, .int .i64 a9]) (by simp [results, Tryz.results66, go_sem, r0, r1, r2, r3, r4, r5, r6, r7, r8, r9]) rfl ⟨by rw [HI.out.2.1], ((((((((((HE.out.1.setCell HE.out.2.2 _).setCell HE.out.2.2 _).setCell HE.out.2.2 _).setCell HE.out.2.2 _).setCell HE.out.2.2 _).setCell HE.out.2.2 _).setCell HE.out.2.2 _).setCell HE.out.2.2 _).setCell HE.out.2.2 _).setCell HE.out.2.2 _)⟩
end Go.Proofs.YtapjofbjedpmgaaGreat
end
section
set_option linter.unusedSimpArgs false
set_option linter.unusedVariables false
namespace Go.Proofs.YtapjofbjedpmgaaGreat
open Go Go.RowKit Go.Proofs
set_option maxHeartbeats 400000
/-- The cells of a side from an index on. -/
def cellsF (zs : List Int) (f n : Nat) : List Int := (List.range n).map fun k => zs.getD (f + k) 0
theorem cellsF_len (zs : List Int) (f n : Nat) : (cellsF zs f n).length = n := by simp [cellsF]
theorem cellsF_succ (zs : List Int) (f n : Nat) : cellsF zs f (n + 1) = cellsF zs f n ++ [zs.getD (f + n) 0] := by simp [cellsF, List.range_succ]
set_option maxRecDepth 200000 in
set_option maxHeartbeats 4000000 in
theorem cellsFrom_c (v : Value) (zs : List Int) (f n : Nat) (w : World) (h : Ints w v zs) (hf : f ≤ 100000) (hn : n ≤ 100000) :
    Calls Tryz.prog 74 #[v, .int .i64 f, .int .i64 n] w fun e w' => ∃ u, e = .returned u ∧ OwnInts w.heap.size w' u (cellsF zs f n) ∧ Ext w w' := by
  obtain ⟨i0, hii, hz0, hz1, hz2⟩ := info_parts intInfo
  obtain ⟨A, c, rfl, _, _⟩ := id h.form
  obtain ⟨g0, hg0⟩ : ∃ g, w.heap.size = g := ⟨_, rfl⟩
  obtain ⟨W, hW⟩ : ∃ W, W = w.alloc (.cells #[] 2) := ⟨_, rfl⟩
  have hX : Ext w W := by rw [hW]; exact Ext.alloc _ _
  have own0 : OwnInts g0 W (.slice (some ⟨g0, 0, none⟩) 0 0) (cellsF zs f 0) := by
    rw [hW]
    exact ⟨rfl, .inr ⟨g0, 0, #[], rfl, Nat.le_refl _, Blk.new _ _ _ _ hg0, Nat.le_refl _, by unfold maxLen; omega, rfl, rfl⟩⟩
  have HX := Lib.hid (And.intro hX (And.intro h hg0))
  clear hX h
  go_enter Tryz.func74, Tryz.ntmps74
  go_wp2_with fail
  try rw [← hW]
  try rw [hg0]
  clear hW hg0
  go_loopw [7, 11] (fun v i wr => ∃ k : Nat, k ≤ n ∧ i = .int .i64 (k : Int) ∧ Hid (Ext w wr) ∧ OwnInts g0 wr v (cellsF zs f k)) (fun _ i _ => n - (intOf i).toNat)
  case atStart => exact ⟨0, Nat.zero_le _, rfl, Lib.hid HX.out.1, own0⟩
  case round =>
    clear own0
    obtain ⟨k, hk, rfl, HXR, ho⟩ := hrel
    have hck := cellsF_len zs f k
    obtain ⟨cs, hcs⟩ : ∃ cs, cellsF zs f k = cs := ⟨_, rfl⟩
    rw [hcs] at ho hck
    have HCS := Lib.hid hcs
    have hcl : cs.length ≤ 100000 := by omega
    obtain ⟨At, ct, rfl, _, _⟩ := id ho.ints.form
    have HCK := Lib.hid hck
    clear hcs hck
    by_cases hlt : k < n
    · have hd : decide ((k : Int) < (n : Int)) = true := decide_eq_true (by omega)
      obtain ⟨j, hj⟩ : ∃ j, f + k = j := ⟨_, rfl⟩
      have hw : IntKind.i64.wrap ((f : Int) + (k : Int)) = (j : Int) := by rw [show (f : Int) + (k : Int) = (j : Int) by omega]; exact IntWalk.i64_in _ (by omega)
      have hwk : IntKind.i64.wrap ((k : Int) + 1) = ((k + 1 : Nat) : Int) := by rw [show (k : Int) + 1 = ((k + 1 : Nat) : Int) by omega]; exact IntWalk.i64_in _ (by omega)
      have SA := symbolAt_c (.slice A zs.length c) zs j wr (HX.out.2.1.ext HXR.out)
      obtain ⟨z, hz⟩ : ∃ z, zs.getD j 0 = z := ⟨_, rfl⟩
      rw [hz] at SA
      have HZ : Hid (zs.getD (f + k) 0 = z) := Lib.hid (by rw [hj]; exact hz)
      clear hz hj
      go_wp2_with fail
      refine SA.mono ?_
      rintro e w2 ⟨rfl, hww⟩
      subst hww
      clear SA hw
      have ho' := ownsRow_ext ho (Ext.alloc wr (.cells #[.int .i64 z] 2))
      have hgs : g0 ≤ wr.heap.size := by have := HX.out.2.2; have := HXR.out.size; omega
      go_wp2_with (at_builtin; refine wpList_append_own_at _ rfl _ _ 27 rfl g0 2 i0 (.int .i64 0) 1 8 Tryz.underlying27 hii hz0 hz1 hz2 rfl (by decide) _ _ _ rfl ho' ⟨wr.heap.size, 0, none⟩ 1 1 [.int .i64 z] rfl rfl (cell_one_new _ _ _) ?c2 ?c3 ?c4 ?c5 ?_)
      case c2 => intro u hu; simp at hu; subst hu; rfl
      case c3 => unfold maxLen; omega
      case c4 => omega
      case c5 => simp; omega
      intro v' w5 hown' hgrow _ _
      have HO : Hid (OwnInts g0 w5 v' (cellsF zs f (k + 1))) := by
        unfold Hid OwnInts
        rw [cellsF_succ, HCS.out, HZ.out, ivs_append, List.length_append]
        exact hown'
      have HX5 : Hid (Ext w w5) := Lib.hid ((HXR.out.trans (Ext.alloc wr _)).grown hgrow (fun b hb => by have := (ho'.lt b hb).1; have := HX.out.2.2; omega))
      clear hown' hgrow ho' ho
      go_wp2
      go_roundw
      case rel => exact ⟨k + 1, by omega, by go_num, HX5, HO.out⟩
      case measure => simp [intOf]; omega
    · have hd : decide ((k : Int) < (n : Int)) = false := decide_eq_false (by omega)
      obtain rfl : k = n := by omega
      have HO := Lib.hid ho
      clear ho
      go_wp2
      go_ret
      exact ⟨_, rfl, by rw [HCS.out, HX.out.2.2]; exact HO.out, HXR.out⟩
/-- The context of a configuration. -/
def ctxF (c : ConfD) (n : Nat) : List Int := cellsF c.l 0 n ++ cellsF c.r 0 (n + 1)
end Go.Proofs.YtapjofbjedpmgaaGreat
end
