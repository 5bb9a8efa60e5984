/- Worlds that keep the blocks from one on.
Contract of the visitor of the program's search for two automata.
Contracts of the reference's drawing of words: lists of numbers out of the source of choices. -/
import Derived.Test.YtacpchapgklcgaaGreatDoorR03
import Derived.Test.YtacpchapgklcgaaGreatDoorR22
import Derived.Test.YtacpchapgklcgaaGreatDoorR23
import Derived.Test.YtacpchapgklcgaaGreatDoorR15
import Derived.Maps.AppendAt
section
set_option linter.unusedSimpArgs false
set_option linter.unusedVariables false
namespace Go.Proofs.YtacpchapgklcgaaGreatDoor
open Go Go.RowKit Go.Proofs
/-- The blocks from base on are as they were. -/
def KeepB (base : Nat) (w W : World) : Prop := w.heap.size ≤ W.heap.size ∧ ∀ k, base ≤ k → k < w.heap.size → W.heap[k]? = w.heap[k]?
theorem KeepB.refl (base : Nat) (w : World) : KeepB base w w := ⟨Nat.le_refl _, fun _ _ _ => rfl⟩
theorem KeepB.trans {base : Nat} {a b c : World} (h : KeepB base a b) (k : KeepB base b c) : KeepB base a c :=
  ⟨Nat.le_trans h.1 k.1, fun i hi hl => (k.2 i hi (by have := h.1; omega)).trans (h.2 i hi hl)⟩
theorem KeepB.of_ext {base : Nat} {w W : World} (h : Ext w W) : KeepB base w W := ⟨h.size, fun k _ hl => Below.block h k hl⟩
theorem KeepB.setCell {base : Nat} (w : World) {p : Addr} (hp : p.block < base) (v : Value) : KeepB base w (w.setCell p v) := by
  refine ⟨by simp [World.setCell], fun k hk hl => Below.heap_setCell w p v k ?_⟩
  omega
theorem KeepB.cell {base : Nat} {w W : World} (h : KeepB base w W) {p : Addr} {v : Value} (hb : base ≤ p.block) (hp : w.cell? p = some v) : W.cell? p = some v := by
  have hl := World.block_lt_of_cell? w p hp
  have e := h.2 p.block hb hl
  rw [← hp]
  unfold World.cell?
  rw [e]
theorem ownsRow_keepB {w W : World} {base : Nat} {e : TypeId} {size : Nat} {v : Value} {n : Nat} {xs : List Value} (h : w.ownsRow base e size v n xs) (hk : KeepB base w W) : W.ownsRow base e size v n xs := by
  obtain ⟨h1, h2⟩ := h
  refine ⟨h1, ?_⟩
  rcases h2 with h2 | ⟨g, cap, cur, hv, hb, hh, r⟩
  · exact .inl h2
  · exact .inr ⟨g, cap, cur, hv, hb, (hk.2 g hb (Array.getElem?_eq_some_iff.1 hh).1).trans hh, r⟩
end Go.Proofs.YtacpchapgklcgaaGreatDoor
end
section
set_option linter.unusedSimpArgs false
set_option linter.unusedVariables false
namespace Go.Proofs.YtacpchapgklcgaaGreatDoor
open Go Go.RowKit Go.Proofs
set_option maxHeartbeats 400000
/-- Nothing is found yet; so many are left. -/
structure FaS (w0 : World) (g h : Nat) (m : MachD) (mv : Value) (left : Nat) (W : World) : Prop where
  mach : Blk W g 26 #[.int .i64 m.sy, .int .i64 m.st, mv]
  prf : Blk W h 36 #[.int .i64 0, .slice none 0 0, .slice none 0 0]
  fnd : Blk W (h + 1) 4 #[.bool false]
  cnt : Blk W (h + 2) 2 #[.int .i64 left]
  res : Blk W (g + 1) 36 #[.int .i64 0, .slice none 0 0, .slice none 0 0]
  low : w0.heap.size ≤ g
  lt : g + 1 < h
  ext : Ext w0 W
/-- A proof is found. -/
def FaF (w0 : World) (g h : Nat) (m : MachD) (W : World) : Prop :=
  Ext w0 W ∧ Blk W (g + 1) 36 #[.int .i64 0, .slice none 0 0, .slice none 0 0] ∧ ∃ (L R : DfaD) (u : Value), dfaOk L m.sy = true ∧ dfaOk R m.sy = true ∧ CloYes m L R ∧ Blk W h 36 #[.int .i64 7, u, .slice none 0 0] ∧ Blk W (h + 1) 4 #[.bool true] ∧ OwnInts 0 W u (autP L R).ns
theorem FaS.ext' {w0 : World} {g h : Nat} {m : MachD} {mv : Value} {left : Nat} {W W' : World} (k : FaS w0 g h m mv left W) (he : Ext W W') : FaS w0 g h m mv left W' :=
  ⟨k.mach.ext he, k.prf.ext he, k.fnd.ext he, k.cnt.ext he, k.res.ext he, k.low, k.lt, k.ext.trans he⟩
/-- What a visit comes to. -/
def ViRes (w0 : World) (g h : Nat) (m : MachD) (mv : Value) (left : Nat) (w : World) (e : Ending) (w' : World) : Prop :=
  KeepB (h + 3) w w' ∧ ((∃ left', left = left' + 1 ∧ e = .returned (.bool true) ∧ FaS w0 g h m mv left' w') ∨ (e = .returned (.bool false) ∧ ((∃ left', left' ≤ left ∧ FaS w0 g h m mv left' w') ∨ FaF w0 g h m w')))
theorem FaS.count {w0 : World} {g h : Nat} {m : MachD} {mv : Value} {left : Nat} {W : World} (k : FaS w0 g h m mv left W) (l' : Nat) : FaS w0 g h m mv l' (W.setCell ⟨h + 2, 0, none⟩ (.int .i64 l')) := by
  have hl := k.low
  have ht := k.lt
  exact ⟨k.mach.far (p := ⟨h + 2, 0, none⟩) (by show g ≠ h + 2; omega) _, k.prf.far (p := ⟨h + 2, 0, none⟩) (by show h ≠ h + 2; omega) _, k.fnd.far (p := ⟨h + 2, 0, none⟩) (by show h + 1 ≠ h + 2; omega) _, k.cnt.set_ 0 _, k.res.far (p := ⟨h + 2, 0, none⟩) (by show g + 1 ≠ h + 2; omega) _, hl, ht,
    k.ext.setCell (p := ⟨h + 2, 0, none⟩) (by show w0.heap.size ≤ h + 2; omega) _⟩
set_option maxRecDepth 20000 in
set_option maxHeartbeats 4000000 in
theorem visit_c (w0 : World) (g h : Nat) (m : MachD) (mv : Value) (left : Nat) (L R : DfaD) (lv tv : Value) (w : World) (hS : FaS w0 g h m mv left w) (hr : Rules w0 mv m.rules) (hm : machOk m = true) (hl : left ≤ 1000)
    (hu : OwnInts (h + 3) w lv L.nx) (ht : OwnInts (h + 3) w tv R.nx) (hL : dfaOk L m.sy = true) (hR : dfaOk R m.sy = true) :
    Calls Tryz.prog 38 #[.agg #[.int .i64 L.st, lv], .agg #[.int .i64 R.st, tv], .pointer (some ⟨h + 2, 0, none⟩), .pointer (some ⟨g, 0, none⟩), .pointer (some ⟨h, 0, none⟩), .pointer (some ⟨h + 1, 0, none⟩)] w (ViRes w0 g h m mv left w) := by
  obtain ⟨Am, cm, rfl, _, _⟩ := id hr.form
  obtain ⟨Al, cl, rfl, _, _⟩ := hu.ints.form
  obtain ⟨At, ct, rfl, _, _⟩ := ht.ints.form
  obtain ⟨W, hW⟩ : ∃ W, (w.alloc (.cells #[.int .i64 L.st, .slice Al L.nx.length cl] 40)).alloc (.cells #[.int .i64 R.st, .slice At R.nx.length ct] 40) = W := ⟨_, rfl⟩
  have hX : Ext w W := by rw [← hW]; exact (Ext.alloc _ _).trans (Ext.alloc _ _)
  have bL : Blk W w.heap.size 40 #[.int .i64 L.st, .slice Al L.nx.length cl] := by rw [← hW]; exact (Blk.new _ _ _ _ rfl).alloc _
  have bR : Blk W (w.heap.size + 1) 40 #[.int .i64 R.st, .slice At R.nx.length ct] := by rw [← hW]; exact Blk.new _ _ _ _ (by simp)
  have h1 := hS.ext' hX
  have k0 := h1.cnt.cell 0
  have kf := h1.cnt.frozen 0
  simp only [List.getElem?_toArray, List.getElem?_cons_zero] at k0
  have hh3 : h + 2 < w.heap.size := hS.cnt.lt
  go_enter Tryz.func38, Tryz.ntmps38
  by_cases h0 : left = 0
  · subst h0
    simp only [Int.natCast_zero] at k0
    go_wp2_with fail
    exact bodyPost_ret (v := .bool false) (by simp [results, Tryz.results38, go_sem]) rfl ⟨KeepB.of_ext hX, .inr ⟨rfl, .inl ⟨0, Nat.le_refl _, h1⟩⟩⟩
  · obtain ⟨l', rfl⟩ : ∃ l', left = l' + 1 := ⟨left - 1, by omega⟩
    have h2 := h1.count l'
    obtain ⟨V, hV⟩ : ∃ V, W.setCell ⟨h + 2, 0, none⟩ (.int .i64 l') = V := ⟨_, rfl⟩
    rw [hV] at h2
    have bLV : Blk V w.heap.size 40 #[.int .i64 L.st, .slice Al L.nx.length cl] := by rw [← hV]; exact bL.far (p := ⟨h + 2, 0, none⟩) (by show w.heap.size ≠ h + 2; omega) _
    have bRV : Blk V (w.heap.size + 1) 40 #[.int .i64 R.st, .slice At R.nx.length ct] := by rw [← hV]; exact bR.far (p := ⟨h + 2, 0, none⟩) (by show w.heap.size + 1 ≠ h + 2; omega) _
    have hKV : KeepB (h + 3) W V := by rw [← hV]; exact KeepB.setCell _ (by show h + 2 < h + 3; omega) _
    have hKw := (KeepB.of_ext (base := h + 3) hX).trans hKV
    have huV := ownsRow_keepB hu hKw
    have htV := ownsRow_keepB ht hKw
    have a0 := h2.mach.cell 0
    have a1 := h2.mach.cell 1
    have a2 := h2.mach.cell 2
    have d0 := bLV.cell 0
    have d1 := bLV.cell 1
    have f0 := bRV.cell 0
    have f1 := bRV.cell 1
    simp only [List.getElem?_toArray, List.getElem?_cons_zero, List.getElem?_cons_succ] at a0 a1 a2 d0 d1 f0 f1
    have hX0 := h2.ext
    have HS2 := Lib.hid h2
    clear h1 h2 hS
    obtain ⟨V2, hV2⟩ : ∃ V2, V.alloc (.cells #[.int .i64 m.sy, .int .i64 m.st, .slice Am m.rules.length cm, .int .i64 L.st, .slice Al L.nx.length cl, .int .i64 R.st, .slice At R.nx.length ct] 66) = V2 := ⟨_, rfl⟩
    have bA : Blk V2 V.heap.size 66 #[.int .i64 m.sy, .int .i64 m.st, .slice Am m.rules.length cm, .int .i64 L.st, .slice Al L.nx.length cl, .int .i64 R.st, .slice At R.nx.length ct] := by rw [← hV2]; exact Blk.new _ _ _ _ rfl
    have hXV2 : Ext V V2 := by rw [← hV2]; exact Ext.alloc _ _
    have b0 := bA.cell 0
    have b1 := bA.cell 1
    have b2 := bA.cell 2
    have b3 := bA.cell 3
    have b4 := bA.cell 4
    have b5 := bA.cell 5
    have b6 := bA.cell 6
    simp only [List.getElem?_toArray, List.getElem?_cons_zero, List.getElem?_cons_succ] at b0 b1 b2 b3 b4 b5 b6
    go_wp2_with fail
    have hCl := Lib.hid hL
    refine (avoids_c _ m L R V2 ⟨_, _, _, rfl, hr.ext (hX0.trans hXV2), (OwnInts.ext huV hXV2).ints, (OwnInts.ext htV hXV2).ints⟩ hm hL hR).mono ?_
    rintro e w3 ⟨r, rfl, hrr, hx3⟩
    have hx23 := hXV2.trans hx3
    have hS3 := HS2.out.ext' hx23
    have hK3 := hKw.trans (KeepB.of_ext hx23)
    cases r
    · have k1 := hS3.fnd.cell 0
      simp only [List.getElem?_toArray, List.getElem?_cons_zero, List.getElem?_cons_succ] at k1
      have HS3 := Lib.hid hS3
      clear hrr hS3
      go_wp2_with fail
      exact bodyPost_ret (v := .bool true) (by simp [results, Tryz.results38, go_sem]) rfl ⟨hK3, .inl ⟨l', rfl, rfl, HS3.out⟩⟩
    · have HC := Lib.hid (hrr.1 rfl)
      clear hrr b0 b1 b2 b3 b4 b5 b6 a0 a1 a2 d0 d1 f0 f1
      have bA3 := bA.ext hx3
      have b0 := bA3.cell 0
      have b1 := bA3.cell 1
      have b2 := bA3.cell 2
      have b3 := bA3.cell 3
      have b4 := bA3.cell 4
      have b5 := bA3.cell 5
      have b6 := bA3.cell 6
      simp only [List.getElem?_toArray, List.getElem?_cons_zero, List.getElem?_cons_succ] at b0 b1 b2 b3 b4 b5 b6
      obtain ⟨⟨m1, m2⟩, ⟨p1, p2⟩, p3, _, _⟩ := dfaOk_parts hL
      obtain ⟨_, ⟨q1, q2⟩, q3, _, _⟩ := dfaOk_parts hR
      have e1 : L.st * m.sy ≤ 20 * 6 := Int.mul_le_mul p2 m2 (by omega) (by omega)
      have e2 : R.st * m.sy ≤ 20 * 6 := Int.mul_le_mul q2 m2 (by omega) (by omega)
      have hpf := proof_c m L R (.slice Am m.rules.length cm) _ _ w3 (ownsRow_base (OwnInts.ext huV hx23) (Nat.zero_le _)) (ownsRow_base (OwnInts.ext htV hx23) (Nat.zero_le _)) (by omega) (by omega)
      clear m1 m2 p1 p2 p3 q1 q2 q3 e1 e2
      go_wp2_with fail
      refine hpf.mono ?_
      rintro e w4 ⟨hx4, u, rfl, ho⟩
      have hS4 := hS3.ext' hx4
      have hK4 := hK3.trans (KeepB.of_ext hx4)
      obtain ⟨Au, cu, rfl, _, _⟩ := ho.ints.form
      generalize hzz : [L.st, R.st] ++ L.nx ++ R.nx = zs at *
      have HZ := Lib.hid hzz
      have g0 := hS4.prf.cell 0
      have g1 := hS4.prf.cell 1
      have g2 := hS4.prf.cell 2
      have fP := hS4.prf.frozen
      have y0 := hS4.fnd.cell 0
      have fF := hS4.fnd.frozen
      simp only [List.getElem?_toArray, List.getElem?_cons_zero, List.getElem?_cons_succ] at g0 g1 g2 y0
      have far1 := own_far_blk ho hS4.prf (by decide)
      have far2 := own_far_blk ho hS4.fnd (by decide)
      have hI := (ownsRow_far (ownsRow_far (ownsRow_far (ownsRow_far ho far1 (.int .i64 7) (p := ⟨h, 0, none⟩)) far1 (.slice Au zs.length cu) (p := ⟨h, 1, none⟩)) far1 (.slice none 0 0) (p := ⟨h, 2, none⟩)) far2 (.bool true) (p := ⟨h + 1, 0, none⟩))
      have n1 : h ≠ h + 1 := by omega
      have n2 : h + 1 ≠ h := by omega
      have bP4 := (((hS4.prf.set_ 0 (.int .i64 7)).set_ 1 (.slice Au zs.length cu)).set_ 2 (.slice none 0 0)).far (p := ⟨h + 1, 0, none⟩) n1 (.bool true)
      have bF4 := ((((hS4.fnd.far (p := ⟨h, 0, none⟩) n2 (.int .i64 7)).far (p := ⟨h, 1, none⟩) n2 (.slice Au zs.length cu)).far (p := ⟨h, 2, none⟩) n2 (.slice none 0 0))).set_ 0 (.bool true)
      have n3 : g + 1 ≠ h := by have := hS4.lt; omega
      have n4 : g + 1 ≠ h + 1 := by have := hS4.lt; omega
      have HR4 := Lib.hid ((((hS4.res.far (p := ⟨h, 0, none⟩) n3 (.int .i64 7)).far (p := ⟨h, 1, none⟩) n3 (.slice Au zs.length cu)).far (p := ⟨h, 2, none⟩) n3 (.slice none 0 0)).far (p := ⟨h + 1, 0, none⟩) n4 (.bool true))
      have hl0 : w0.heap.size ≤ h := by have := hS4.low; have := hS4.lt; omega
      have hl1 : w0.heap.size ≤ h + 1 := by omega
      have HXF := Lib.hid ((((hS4.ext.setCell (p := ⟨h, 0, none⟩) hl0 (.int .i64 7)).setCell (p := ⟨h, 1, none⟩) hl0 (.slice Au zs.length cu)).setCell (p := ⟨h, 2, none⟩) hl0 (.slice none 0 0)).setCell (p := ⟨h + 1, 0, none⟩) hl1 (.bool true))
      have l1 : h < h + 3 := by omega
      have l2 : h + 1 < h + 3 := by omega
      have HK := Lib.hid ((((hK4.trans (KeepB.setCell w4 (p := ⟨h, 0, none⟩) l1 (.int .i64 7))).trans (KeepB.setCell _ (p := ⟨h, 1, none⟩) l1 (.slice Au zs.length cu))).trans (KeepB.setCell _ (p := ⟨h, 2, none⟩) l1 (.slice none 0 0))).trans (KeepB.setCell _ (p := ⟨h + 1, 0, none⟩) l2 (.bool true)))
      have dF := bF4.cell 0
      have HP4 := Lib.hid bP4
      have HF4 := Lib.hid bF4
      have HI := Lib.hid hI
      clear hI far1 far2 ho hzz hpf bP4 bF4 hS4 hS3 hK4 hK3
      go_wp2_with fail
      refine bodyPost_ret (v := .bool false) (by simp [results, Tryz.results38, go_sem]) rfl ⟨HK.out, .inr ⟨rfl, .inr ⟨HXF.out, HR4.out, L, R, _, hL, hR, HC.out, HP4.out, HF4.out, ?_⟩⟩⟩
      show OwnInts 0 _ _ ([L.st, R.st] ++ L.nx ++ R.nx)
      rw [HZ.out]
      exact ownsRow_base HI.out (Nat.zero_le _)
end Go.Proofs.YtacpchapgklcgaaGreatDoor
end
section
set_option linter.unusedSimpArgs false
set_option linter.unusedVariables false
set_option linter.unusedSectionVars false
set_option maxHeartbeats 4000000
namespace Go.Proofs.YtacpchapgklcgaaGreatDoor
open Go Go.RowKit Go.Proofs
theorem intInfoW : (Tryz.prog.info? 2).map (fun i => (i.zero, i.size, i.bytes)) = some (some (.int .i64 0), 1, 8) := by kernel_rfl
/-- A list of numbers that is being drawn. -/
structure WrdSt (B b n d : Nat) (w : World) (u : Value) (xs : List Int) (W : World) : Prop where
  own : OwnInts w.heap.size W u xs
  src : Src B W b (n + d)
  grown : w.grownBy W (some b)
theorem WrdSt.ext {B b n d : Nat} {w : World} {u : Value} {xs : List Int} {W W' : World} (h : WrdSt B b n d w u xs W) (he : Ext W W') : WrdSt B b n d w u xs W' :=
  ⟨ownsRow_ext h.own he, h.src.ext he, grownBy_trans h.grown (ext_grownBy he _)⟩
theorem WrdSt.src' {B b n d d' : Nat} {w : World} {u : Value} {xs : List Int} {W W' : World} (h : WrdSt B b n d w u xs W) (hs : Src B W' b (n + d')) (hg : W.grownBy W' (some b)) : WrdSt B b n d' w u xs W' :=
  ⟨own_src h.src hg h.own (by decide), hs, grownBy_trans h.grown hg⟩
theorem WrdSt.snoc {B b n d : Nat} {w : World} {u v : Value} {xs ys : List Int} {W W' : World} (h : WrdSt B b n d w u xs W) (hB : B ≤ w.heap.size) (hb : b < w.heap.size)
    (ho : OwnInts w.heap.size W' v ys) (hg : W.grownBy W' u.ownBlock) : WrdSt B b n d w v ys W' :=
  ⟨ho, h.src.kept hg (fun k hk => by have := (h.own.lt k hk).1; exact ⟨by omega, by omega⟩), grownBy_step h.grown hg (fun k hk => .inl (h.own.lt k hk).1)⟩
/-- What the drawing of a word gives. -/
def WrdRes (B : Nat) (w : World) (b n c : Nat) (lo hi : Nat) (a : Int) (e : Ending) (w' : World) : Prop :=
  (∃ u xs, e = .returned u ∧ OwnInts w.heap.size w' u xs ∧ lo ≤ xs.length ∧ xs.length ≤ hi ∧ ∀ z ∈ xs, 0 ≤ z ∧ z < a) ∧ Src B w' b (n + c) ∧ w.grownBy w' (some b)
end Go.Proofs.YtacpchapgklcgaaGreatDoor
end
