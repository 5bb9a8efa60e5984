/- Contracts: equal configurations; whether a formula tape stands for a configuration.
What a bounce's numbers of steps need: a visitor's own variable is written, the formula tape stays.
Contract: for which numbers of steps a bounce is accepted, told to the visitor bounceTo (its closure). -/
import Derived.Test.YtojiammendjpkaaGreatB27
section
set_option linter.unusedSimpArgs false
set_option linter.unusedVariables false
namespace Go.Proofs.YtojiammendjpkaaGreat
open Go Go.RowKit Go.Proofs
set_option maxHeartbeats 400000
def cfgEq (c d : ConfD) : Bool := decide (c.q = d.q) && lEq c.l d.l && lEq c.r d.r
theorem cfgEq_iff {c d : ConfD} : cfgEq c d = true ↔ c = d := by
  constructor
  · intro h
    simp only [cfgEq, Bool.and_eq_true, decide_eq_true_eq] at h
    obtain ⟨⟨a, b⟩, e⟩ := h
    have b := lEq_iff b
    have e := lEq_iff e
    cases c
    cases d
    simp only at a b e
    rw [a, b, e]
  · intro h
    subst h
    simp only [cfgEq, Bool.and_eq_true, decide_eq_true_eq]
    exact ⟨⟨trivial, lEq_true rfl⟩, lEq_true rfl⟩
set_option maxRecDepth 20000 in
set_option maxHeartbeats 4000000 in
theorem sameConfig_c (w : World) (c d : ConfD) (lv rv lv2 rv2 : Value) (hl : Ints w lv c.l) (hr : Ints w rv c.r) (hl2 : Ints w lv2 d.l) (hr2 : Ints w rv2 d.r) :
    Calls Tryz.prog 161 #[.agg #[.int .i64 c.q, lv, rv], .agg #[.int .i64 d.q, lv2, rv2]] w fun e w' => e = .returned (.bool (cfgEq c d)) ∧ Ext w w' := by
  obtain ⟨A1, c1, rfl, _, _⟩ := id hl.form
  obtain ⟨A2, c2, rfl, _, _⟩ := id hr.form
  obtain ⟨A3, c3, rfl, _, _⟩ := id hl2.form
  obtain ⟨A4, c4, rfl, _, _⟩ := id hr2.form
  obtain ⟨W, hW⟩ : ∃ W, W = (w.alloc (.cells #[.int .i64 c.q, .slice A1 c.l.length c1, .slice A2 c.r.length c2] 29)).alloc (.cells #[.int .i64 d.q, .slice A3 d.l.length c3, .slice A4 d.r.length c4] 29) := ⟨_, rfl⟩
  obtain ⟨g, hg⟩ : ∃ g, w.heap.size = g := ⟨_, rfl⟩
  have hX : Ext w W := by rw [hW]; exact (Ext.alloc _ _).trans (Ext.alloc _ _)
  have b1 : Blk W g 29 #[.int .i64 c.q, .slice A1 c.l.length c1, .slice A2 c.r.length c2] := by rw [hW]; exact (Blk.new _ _ _ _ hg).alloc _
  have b2 : Blk W (g + 1) 29 #[.int .i64 d.q, .slice A3 d.l.length c3, .slice A4 d.r.length c4] := by rw [hW]; exact Blk.new _ _ _ _ (by simp [hg])
  have p0 := b1.cell 0
  have p1 := b1.cell 1
  have q0 := b2.cell 0
  have q1 := b2.cell 1
  simp only [List.getElem?_toArray, List.getElem?_cons_zero, List.getElem?_cons_succ] at p0 p1 q0 q1
  rw [hW] at p0 p1 q0 q1
  obtain ⟨el, hel⟩ : ∃ b, lEq c.l d.l = b := ⟨_, rfl⟩
  obtain ⟨er, her⟩ : ∃ b, lEq c.r d.r = b := ⟨_, rfl⟩
  have SL := slicesEqual_c W _ _ c.l d.l (hl.ext hX) (hl2.ext hX)
  rw [hel] at SL
  have HS : Hid (cfgEq c d = (decide (c.q = d.q) && el && er)) := Lib.hid (by unfold cfgEq; rw [hel, her])
  have HX := Lib.hid hX
  have HR := Lib.hid (And.intro (hr.ext hX) (And.intro (hr2.ext hX) her))
  have HB := Lib.hid (And.intro b1 b2)
  clear hl hr hl2 hr2 b1 b2 hX hel her
  by_cases c0 : c.q = d.q
  · have e0 : (c.q == d.q) = true := by simp [c0]
    have D0 := Lib.hid c0
    clear c0
    go_enter Tryz.func161, Tryz.ntmps161
    go_wp2_with fail
    try rw [← hW]
    clear hW hg p0 p1 q0 q1
    refine SL.mono ?_
    rintro e w2 ⟨rfl, hx2⟩
    cases el with
    | true =>
      have p2 := (HB.out.1.ext hx2).cell 2
      have q2 := (HB.out.2.ext hx2).cell 2
      simp only [List.getElem?_toArray, List.getElem?_cons_zero, List.getElem?_cons_succ] at p2 q2
      have SR := slicesEqual_c w2 _ _ c.r d.r (HR.out.1.ext hx2) (HR.out.2.1.ext hx2)
      rw [HR.out.2.2] at SR
      have HX2 := Lib.hid hx2
      clear SL hx2
      go_wp2_with fail
      refine SR.mono ?_
      rintro e w3 ⟨rfl, hx3⟩
      have HX3 := Lib.hid hx3
      clear SR hx3 p2 q2
      go_wp2
      go_ret
      exact ⟨by rw [HS.out]; simp [D0.out], (HX.out.trans HX2.out).trans HX3.out⟩
    | false =>
      have HX2 := Lib.hid hx2
      clear SL hx2
      go_wp2
      go_ret
      exact ⟨by rw [HS.out]; simp [D0.out], HX.out.trans HX2.out⟩
  · have e0 : (c.q == d.q) = false := by simp [c0]
    have D0 := Lib.hid c0
    clear c0 SL
    go_enter Tryz.func161, Tryz.ntmps161
    go_wp2
    try rw [← hW]
    clear hW hg p0 p1 q0 q1
    go_ret
    exact ⟨by rw [HS.out]; simp [D0.out], HX.out⟩
/-- Whether a formula tape stands for a configuration. -/
def startB (f : FoD) (cs : List Int) (c : ConfD) : Bool := (cs.all fun z => inB z 1 64) && (decide ((roomR (foCfg f.q (tapeO f cs) (headO f cs))).2 = 0) && cfgEq (roomR (foCfg f.q (tapeO f cs) (headO f cs))).1 c)
set_option maxRecDepth 20000 in
set_option maxHeartbeats 4000000 in
theorem starts_c (m : MachD) (mv wv rv ov cv lv qv : Value) (n : Int) (f : FoD) (cs : List Int) (c : ConfD) (w : World) (h : FoV w (.agg #[.int .i64 f.q, .int .i64 f.hd, .int .i64 f.at_, wv, rv, ov]) f wv rv ov) (hc : Ints w cv cs) (hl : Ints w lv c.l) (hr : Ints w qv c.r) (hok : foOk m f = true) (hcl : cs.length = f.rs.length) (hz : ∀ o ∈ f.os, 0 ≤ o) (hmv : ∃ A k, mv = .slice A m.rules.length k) :
    Calls Tryz.prog 124 #[.agg #[.int .i64 n, .int .i64 f.q, .int .i64 f.hd, .int .i64 f.at_, wv, rv, ov, cv, .int .i64 c.q, lv, qv], .agg #[.int .i64 m.sy, .int .i64 m.st, mv]] w fun e w' => e = .returned (.bool (startB f cs c)) ∧ Ext w w' := by
  obtain ⟨Am, cm, rfl⟩ := hmv
  obtain ⟨A1, c1, rfl, _, _⟩ := h.ws.form
  obtain ⟨A2, c2, rfl, _, _⟩ := h.rs.form
  obtain ⟨A3, c3, rfl, _, _⟩ := h.os.form
  obtain ⟨A4, c4, rfl, _, _⟩ := hc.form
  obtain ⟨A5, c5, rfl, _, _⟩ := hl.form
  obtain ⟨A6, c6, rfl, _, _⟩ := hr.form
  obtain ⟨W, hW⟩ : ∃ W, W = (w.alloc (.cells #[.int .i64 n, .int .i64 f.q, .int .i64 f.hd, .int .i64 f.at_, .slice A1 f.ws.length c1, .slice A2 f.rs.length c2, .slice A3 f.os.length c3, .slice A4 cs.length c4, .int .i64 c.q, .slice A5 c.l.length c5, .slice A6 c.r.length c6] 115)).alloc (.cells #[.int .i64 m.sy, .int .i64 m.st, .slice Am m.rules.length cm] 26) := ⟨_, rfl⟩
  obtain ⟨g, hg⟩ : ∃ g, w.heap.size = g := ⟨_, rfl⟩
  have hX : Ext w W := by rw [hW]; exact (Ext.alloc _ _).trans (Ext.alloc _ _)
  have bB : Blk W g 115 #[.int .i64 n, .int .i64 f.q, .int .i64 f.hd, .int .i64 f.at_, .slice A1 f.ws.length c1, .slice A2 f.rs.length c2, .slice A3 f.os.length c3, .slice A4 cs.length c4, .int .i64 c.q, .slice A5 c.l.length c5, .slice A6 c.r.length c6] := by rw [hW]; exact (Blk.new _ _ _ _ hg).alloc _
  have bM : Blk W (g + 1) 26 #[.int .i64 m.sy, .int .i64 m.st, .slice Am m.rules.length cm] := by rw [hW]; exact Blk.new _ _ _ _ (by simp [hg])
  have AW := allWithin_c _ cs 1 64 W (hc.ext hX)
  obtain ⟨ba, hba⟩ : ∃ b, (cs.all fun z => inB z 1 64) = b := ⟨_, rfl⟩
  rw [hba] at AW
  have b0 := bB.cell 0
  have b1 := bB.cell 1
  have b2 := bB.cell 2
  have b3 := bB.cell 3
  have b4 := bB.cell 4
  have b5 := bB.cell 5
  have b6 := bB.cell 6
  have b7 := bB.cell 7
  have b8 := bB.cell 8
  have b9 := bB.cell 9
  have b10 := bB.cell 10
  have m0 := bM.cell 0
  have m1 := bM.cell 1
  have m2 := bM.cell 2
  simp only [List.getElem?_toArray, List.getElem?_cons_zero, List.getElem?_cons_succ] at b0 b1 b2 b3 b4 b5 b6 b7 b8 b9 b10 m0 m1 m2
  have HX := Lib.hid hX
  have HH := Lib.hid (And.intro (h.ext hX) (And.intro (hc.ext hX) (And.intro (hl.ext hX) (And.intro (hr.ext hX) (And.intro hok (And.intro hcl hz))))))
  have HBA := Lib.hid hba
  have HBB := Lib.hid bB
  clear h hc hl hr hok hcl hz hX bB bM hba b0 b1 b2 b3 b4 b5 b6 b8 b9 b10 m0 m1 m2
  have HBM := Lib.hid (show Blk W (g + 1) 26 #[.int .i64 m.sy, .int .i64 m.st, .slice Am m.rules.length cm] by rw [hW]; exact Blk.new _ _ _ _ (by simp [hg]))
  go_enter Tryz.func124, Tryz.ntmps124
  go_wp2_with fail
  try rw [← hW]
  try rw [hg]
  clear hW hg
  refine AW.mono ?_
  rintro e w1 ⟨rfl, rfl⟩
  clear b7
  cases ba with
  | false =>
    have HNO : Hid (startB f cs c = false) := Lib.hid (by unfold startB; rw [HBA.out]; rfl)
    go_wp2
    go_ret
    exact ⟨by rw [HNO.out]; rfl, HX.out⟩
  | true =>
    have hcs : ∀ z ∈ cs, 1 ≤ z ∧ z ≤ 64 := fun z hz => by have := inB_iff.1 (List.all_eq_true.1 HBA.out z hz); omega
    obtain ⟨h1, h2, h3, h4, h5, h6, h7⟩ := HH.out
    have hgd : ∀ k, k < f.rs.length → 1 ≤ cs.getD k 0 + f.os.getD k 0 ∧ cs.getD k 0 + f.os.getD k 0 ≤ 4000 := fun k hk => by
      obtain ⟨_, _, ho, _, _, hol, _⟩ := foOk_parts h5
      rw [getD_get (show k < cs.length by omega), getD_get (show k < f.os.length by omega)]
      have a := hcs _ (List.getElem_mem (show k < cs.length by omega))
      have b := h7 _ (List.getElem_mem (show k < f.os.length by omega))
      have d := hol _ (List.getElem_mem (show k < f.os.length by omega))
      omega
    have hcb : ∀ k, 0 ≤ cs.getD k 0 ∧ cs.getD k 0 ≤ 2000 := fun k => by
      rw [List.getD_eq_getElem?_getD]
      cases e : cs[k]? with
      | none => exact ⟨Int.le_refl _, by decide⟩
      | some x => have := hcs x (List.mem_of_getElem? e); exact ⟨by show 0 ≤ x; omega, by show x ≤ 2000; omega⟩
    have hsh : ShapeF f cs := by
      obtain ⟨r, hws, hos, _⟩ := foOk_parts h5
      have hh := foOk_hd h5
      exact ⟨r.1, hws, hos, h6, hh.1, hh.2, fun k hk => by have := hgd k hk; omega⟩
    have FT := formulaAt_c m (.slice Am m.rules.length cm) _ _ _ _ _ f cs W h1 h2 h5 hsh hgd hcb
    obtain ⟨R, hR⟩ : ∃ R, roomR (foCfg f.q (tapeO f cs) (headO f cs)) = R := ⟨_, rfl⟩
    rw [hR] at FT
    have HSB : Hid (startB f cs c = (decide (R.2 = 0) && cfgEq R.1 c)) := Lib.hid (by unfold startB; rw [HBA.out, hR, Bool.true_and])
    have b1 := HBB.out.cell 1
    have b2 := HBB.out.cell 2
    have b3 := HBB.out.cell 3
    have b4 := HBB.out.cell 4
    have b5 := HBB.out.cell 5
    have b6 := HBB.out.cell 6
    have b7 := HBB.out.cell 7
    have m0 := HBM.out.cell 0
    have m1 := HBM.out.cell 1
    have m2 := HBM.out.cell 2
    simp only [List.getElem?_toArray, List.getElem?_cons_zero, List.getElem?_cons_succ] at b1 b2 b3 b4 b5 b6 b7 m0 m1 m2
    clear h1 h2 h3 h4 h5 h6 h7 hcs hgd hcb hsh hR
    go_wp2_with fail
    refine FT.mono ?_
    rintro e w2 ⟨⟨l2, r2, base, rfl, oL, oR⟩, hx2⟩
    clear FT b1 b2 b3 b4 b5 b6 b7 m0 m1 m2
    obtain ⟨A7, k7, rfl, _, _⟩ := oL.ints.form
    obtain ⟨A8, k8, rfl, _, _⟩ := oR.ints.form
    by_cases c2 : R.2 = 0
    · have e2 : (R.2 == 0) = true := by simp [c2]
      have D2 := Lib.hid c2
      clear c2
      have eA := Ext.alloc w2 (.cells #[.int .i64 R.1.q, .slice A7 R.1.l.length k7, .slice A8 R.1.r.length k8] 29)
      have bb := (HBB.out.ext hx2).ext eA
      have b8 := bb.cell 8
      have b9 := bb.cell 9
      have b10 := bb.cell 10
      simp only [List.getElem?_toArray, List.getElem?_cons_zero, List.getElem?_cons_succ] at b8 b9 b10
      have SC := sameConfig_c (w2.alloc (.cells #[.int .i64 R.1.q, .slice A7 R.1.l.length k7, .slice A8 R.1.r.length k8] 29)) R.1 c _ _ _ _ (oL.ints.ext eA) (oR.ints.ext eA) ((HH.out.2.2.1.ext hx2).ext eA) ((HH.out.2.2.2.1.ext hx2).ext eA)
      have HX2 := Lib.hid (hx2.trans eA)
      clear hx2 eA bb oL oR
      go_wp2_with fail
      refine SC.mono ?_
      rintro e w3 ⟨rfl, hx3⟩
      have HX3 := Lib.hid hx3
      clear SC b8 b9 b10 hx3
      go_wp2
      go_ret
      exact ⟨by rw [HSB.out]; simp [D2.out], (HX.out.trans HX2.out).trans HX3.out⟩
    · have e2 : (R.2 == 0) = false := by simp [c2]
      have D2 := Lib.hid c2
      have HX2 := Lib.hid (hx2.trans (Ext.alloc w2 (.cells #[.int .i64 R.1.q, .slice A7 R.1.l.length k7, .slice A8 R.1.r.length k8] 29)))
      clear c2 hx2 oL oR
      go_wp2
      go_ret
      exact ⟨by rw [HSB.out]; simp [D2.out], HX.out.trans HX2.out⟩
end Go.Proofs.YtojiammendjpkaaGreat
end
section
set_option linter.unusedSimpArgs false
set_option linter.unusedVariables false
namespace Go.Proofs.YtojiammendjpkaaGreat
open Go Go.RowKit Go.Proofs
set_option maxHeartbeats 400000
/-- Which numbers a visitor is told, that stops where it answers false. -/
def runV (go_ : Nat → Bool) : List Nat → List Nat
  | [] => []
  | n :: l => n :: (if go_ n = true then runV go_ l else [])
def accV (go_ : Nat → Bool) (m : MachD) (f : FoD) (cs : List Int) (c : ConfD) : List Nat := if startB f cs c = true then runV go_ (accR m f cs 400 1 f false) else []
section
variable {w0 : World} {K : Nat → Prop} {w W : World} {g : Nat} {f : FoD} {gw gr go cw cr co : Nat} {vw vr : List Value}
/-- A kept block that is not older is written. -/
theorem FoO.other (h : FoO w0 K w g f gw gr go cw cr co vw vr) {q : Nat} (hg : w.grownBy W (some q)) (hq : K q) (h0 : w0.heap.size ≤ q) : FoO w0 K W g f gw gr go cw cr co vw vr := by
  have nb : ∀ {k : Nat}, ¬ K k → some k ≠ some q := fun hk e => hk (by injection e with e; exact e ▸ hq)
  have hne : ∀ {v : Value}, (∀ k, v.ownBlock = some k → ¬ K k) → v.ownBlock = none ∨ v.ownBlock ≠ some q := fun {v} hv => by
    cases e : v.ownBlock with
    | none => exact .inl rfl
    | some k => exact .inr (nb (hv k e))
  have own : ∀ {b n c' : Nat}, ¬ K b → ∀ k, (.slice (some ⟨b, 0, none⟩) n c' : Value).ownBlock = some k → ¬ K k := fun {b n c'} hb k e => by
    have e2 : b = k := by simpa [Value.ownBlock] using e
    exact e2 ▸ hb
  refine ⟨h.ext0.grown hg (fun k hk => by injection hk with hk; subst hk; exact h0), fun k hk => Nat.lt_of_lt_of_le (h.kb k hk) hg.size, h.kg, h.kw, h.kr, h.ko, h.lst, (hg.block g h.blk.lt (nb h.kg)).trans h.blk,
    World.ownsRow.kept h.ow hg (hne (own h.kw)), World.ownsRow.kept h.or hg (hne (own h.kr)), World.ownsRow.kept h.oo hg (hne (own h.ko)), fun i hi => ?_, fun i hi => ?_, h.ne, h.bg, h.pw⟩
  · obtain ⟨u, a, b⟩ := h.iw i hi
    exact ⟨u, a, World.ownsRow.kept b hg (hne fun k hk => (h.lst u (List.mem_append_left _ (List.mem_of_getElem? a)) k hk).1)⟩
  · obtain ⟨u, a, b⟩ := h.ir i hi
    exact ⟨u, a, World.ownsRow.kept b hg (hne fun k hk => (h.lst u (List.mem_append_right _ (List.mem_of_getElem? a)) k hk).1)⟩
theorem FoO.rebase {w1 : World} (h : FoO w1 K w g f gw gr go cw cr co vw vr) (he : Ext w0 w) (hs : w0.heap.size ≤ w1.heap.size) : FoO w0 K w g f gw gr go cw cr co vw vr :=
  ⟨he, h.kb, h.kg, h.kw, h.kr, h.ko, h.lst, h.blk, ownsRow_base h.ow hs, ownsRow_base h.or hs, ownsRow_base h.oo hs, fun i hi => by obtain ⟨u, a, b⟩ := h.iw i hi; exact ⟨u, a, ownsRow_base b hs⟩, fun i hi => by obtain ⟨u, a, b⟩ := h.ir i hi; exact ⟨u, a, ownsRow_base b hs⟩, h.ne, by have := h.bg; omega, h.pw⟩
theorem raw_two {m : MachD} {f g : FoD} (hok : foOk m f = true) (h : rawF m f = some (2, g)) : ∃ i : Nat, i < f.rs.length ∧ (onB f).1 = i := by
  rcases onB_cases hok with ⟨h2, _⟩ | ⟨i, hi, h1, _⟩
  · unfold rawF at h
    rw [if_pos h2] at h
    split at h
    · cases h
    · injection h with h
      injection h with h _
      omega
  · exact ⟨i, hi, h1⟩
theorem accR_none {m : MachD} {f0 f : FoD} {cs : List Int} {d n : Nat} {real : Bool} (h : stepF m f = none) : accR m f0 cs (d + 1) n f real = [] := by
  conv => lhs; unfold accR
  rw [h]
theorem accR_some {m : MachD} {f0 f g : FoD} {cs : List Int} {d n : Nat} {real : Bool} {k : Int} (h : stepF m f = some (k, g)) : accR m f0 cs (d + 1) n f real = if k = 2 ∧ cs.getD (onB f).1.toNat 0 + f.os.getD (onB f).1.toNat 0 < 1 then [] else (if ((real || decide (k = 0)) && (growF m f0 g).isSome) = true then [n] else []) ++ accR m f0 cs d (n + 1) g (real || decide (k = 0)) := by
  conv => lhs; unfold accR
  rw [h]
/-- The frame of a call that writes one older variable. -/
theorem grown_of {w w2 wr w0 : World} {gv : Nat} (h0 : Ext w0 w) (h1 : Ext w0 wr) (h2 : Ext w w2) (hs : ∀ k, k < w2.heap.size → k < wr.heap.size) (hk : ∀ k, k < w2.heap.size → k ≠ gv → wr.heap[k]? = w2.heap[k]?) : w.grownBy wr (some gv) := by
  refine ⟨(Below.os h1).trans (Below.os h0).symm, (Below.tape h1).trans (Below.tape h0).symm, (Below.output h1).trans (Below.output h0).symm, ?_, fun k hl hne => ?_⟩
  · have hz := h2.size
    by_cases c : w.heap.size = 0
    · omega
    · have := hs (w.heap.size - 1) (by omega)
      omega
  · have hz := h2.size
    exact (hk k (by omega) (fun e => hne (by rw [e]))).trans (Below.block h2 k hl)
end
end Go.Proofs.YtojiammendjpkaaGreat
end
section
set_option linter.unusedSimpArgs false
set_option linter.unusedVariables false
namespace Go.Proofs.YtojiammendjpkaaGreat
open Go Go.RowKit Go.Proofs
set_option maxHeartbeats 400000
set_option maxRecDepth 20000 in
set_option maxHeartbeats 8000000 in
theorem accepted2_c (m : MachD) (mv wv rv ov cv lv qv : Value) (n : Int) (f : FoD) (cs : List Int) (c : ConfD) (w0 w : World) (h : FoV w0 (.agg #[.int .i64 f.q, .int .i64 f.hd, .int .i64 f.at_, wv, rv, ov]) f wv rv ov) (hc : Ints w0 cv cs) (hl : Ints w0 lv c.l) (hr : Ints w0 qv c.r) (hrm : Rules w0 mv m.rules) (hm : machOk m = true) (hok : foOk m f = true) (hcl : cs.length = f.rs.length) (hz : ∀ o ∈ f.os, 0 ≤ o) (hcsb0 : ∀ z ∈ cs, -1000000000000 ≤ z ∧ z ≤ 1000000000000) (hE : Ext w0 w)
    (lb : Array Value) (gv : Nat) (T : TypeId) (val : List Nat → Value) (go_ : Nat → Bool) (hgv : w0.heap.size ≤ gv) (hB : Blk w gv T #[val []])
    (hv : ∀ (pre : List Nat) (k : Nat) (W : World), w.grownBy W (some gv) → Blk W gv T #[val pre] → 1 ≤ k ∧ k ≤ 400 → Calls Tryz.prog 121 (#[.int .i64 (k : Int)] ++ lb) W fun e W' => e = .returned (.bool (go_ k)) ∧ W.grownBy W' (some gv) ∧ Blk W' gv T #[val (pre ++ [k])]) :
    Calls Tryz.prog 67 #[.agg #[.int .i64 n, .int .i64 f.q, .int .i64 f.hd, .int .i64 f.at_, wv, rv, ov, cv, .int .i64 c.q, lv, qv], .agg #[.int .i64 m.sy, .int .i64 m.st, mv], .func (.func 121) #[] lb] w fun e w' => e = .returned (.tuple #[]) ∧ w.grownBy w' (some gv) ∧ Blk w' gv T #[val (accV go_ m f cs c)] := by
  obtain ⟨Am, cm, rfl, _, _⟩ := hrm.form
  obtain ⟨A1, c1, rfl, _, _⟩ := h.ws.form
  obtain ⟨A2, c2, rfl, _, _⟩ := h.rs.form
  obtain ⟨A3, c3, rfl, _, _⟩ := h.os.form
  obtain ⟨A4, c4, rfl, _, _⟩ := hc.form
  obtain ⟨A5, c5, rfl, _, _⟩ := hl.form
  obtain ⟨A6, c6, rfl, _, _⟩ := hr.form
  obtain ⟨W, hW⟩ : ∃ W, W = (w.alloc (.cells #[.int .i64 n, .int .i64 f.q, .int .i64 f.hd, .int .i64 f.at_, .slice A1 f.ws.length c1, .slice A2 f.rs.length c2, .slice A3 f.os.length c3, .slice A4 cs.length c4, .int .i64 c.q, .slice A5 c.l.length c5, .slice A6 c.r.length c6] 115)).alloc (.cells #[.int .i64 m.sy, .int .i64 m.st, .slice Am m.rules.length cm] 26) := ⟨_, rfl⟩
  obtain ⟨gb, hg⟩ : ∃ g, w.heap.size = g := ⟨_, rfl⟩
  have hX : Ext w W := by rw [hW]; exact (Ext.alloc _ _).trans (Ext.alloc _ _)
  have bB : Blk W gb 115 #[.int .i64 n, .int .i64 f.q, .int .i64 f.hd, .int .i64 f.at_, .slice A1 f.ws.length c1, .slice A2 f.rs.length c2, .slice A3 f.os.length c3, .slice A4 cs.length c4, .int .i64 c.q, .slice A5 c.l.length c5, .slice A6 c.r.length c6] := by rw [hW]; exact (Blk.new _ _ _ _ hg).alloc _
  have bM : Blk W (gb + 1) 26 #[.int .i64 m.sy, .int .i64 m.st, .slice Am m.rules.length cm] := by rw [hW]; exact Blk.new _ _ _ _ (by simp [hg])
  have hgvb : gv < gb := by have := hB.lt; omega
  have hWs : gb + 1 < W.heap.size := bM.lt
  have hEW := hE.trans hX
  have ST := starts_c m (.slice Am m.rules.length cm) _ _ _ _ _ _ n f cs c W (h.ext hEW) (hc.ext hEW) (hl.ext hEW) (hr.ext hEW) hok hcl hz ⟨_, _, rfl⟩
  have b0 := bB.cell 0
  have b1 := bB.cell 1
  have b2 := bB.cell 2
  have b3 := bB.cell 3
  have b4 := bB.cell 4
  have b5 := bB.cell 5
  have b6 := bB.cell 6
  have b7 := bB.cell 7
  have b8 := bB.cell 8
  have b9 := bB.cell 9
  have b10 := bB.cell 10
  have m0 := bM.cell 0
  have m1 := bM.cell 1
  have m2 := bM.cell 2
  simp only [List.getElem?_toArray, List.getElem?_cons_zero, List.getElem?_cons_succ] at b0 b1 b2 b3 b4 b5 b6 b7 b8 b9 b10 m0 m1 m2
  have HH := Lib.hid (And.intro h (And.intro hc (And.intro hrm (And.intro hm (And.intro hok (And.intro hcl hz))))))
  have HE := Lib.hid (And.intro hE (And.intro hX hgv))
  have HB := Lib.hid (And.intro hB (And.intro bB bM))
  have HV := Lib.hid hv
  have HG := Lib.hid (And.intro hg (And.intro hgvb hWs))
  have HCSB := Lib.hid hcsb0
  obtain ⟨sb, hsb⟩ : ∃ b, startB f cs c = b := ⟨_, rfl⟩
  rw [hsb] at ST
  have HSB := Lib.hid hsb
  clear h hc hl hr hrm hm hok hcl hz hcsb0 hE hX hgv hB bB bM hv hgvb hWs hEW hsb
  go_enter Tryz.func67, Tryz.ntmps67
  go_wp2_with fail
  try rw [← hW]
  try rw [hg]
  clear hW hg
  refine ST.mono ?_
  rintro e w2 ⟨rfl, hx2⟩
  clear ST b0 b1 b2 b3 b4 b5 b6 b7 b8 b9 b10 m0 m1 m2
  cases sb with
  | false =>
    have HFIN : Hid (w.grownBy w2 (some gv) ∧ Blk w2 gv T #[val (accV go_ m f cs c)]) := Lib.hid ⟨ext_grownBy (HE.out.2.1.trans hx2) _, by
      unfold accV
      rw [HSB.out]
      exact (HB.out.1.ext HE.out.2.1).ext hx2⟩
    clear hx2
    go_wp2
    exact bodyPost_ret (results_none rfl _ _ _) rfl ⟨rfl, HFIN.out⟩
  | true =>
    have bb := HB.out.2.1.ext hx2
    have b1 := bb.cell 1
    have b2 := bb.cell 2
    have b3 := bb.cell 3
    have b4 := bb.cell 4
    have b5 := bb.cell 5
    have b6 := bb.cell 6
    simp only [List.getElem?_toArray, List.getElem?_cons_zero, List.getElem?_cons_succ] at b1 b2 b3 b4 b5 b6
    have hE2 : Ext w0 w2 := (HE.out.1.trans HE.out.2.1).trans hx2
    have CF := copyFormulaO_c _ _ _ _ f w2 (HH.out.1.ext hE2) (foOk_small HH.out.2.2.2.2.1)
    have HX2 := Lib.hid (And.intro hx2 hE2)
    clear bb hx2 hE2
    go_wp2_with fail
    refine CF.mono ?_
    rintro e w3 ⟨⟨gp, gw, gr, go, cw, cr, co, vw, vr, rfl, hF⟩, hx3⟩
    have hF0 : FoO w0 (fun k => k < w2.heap.size) w3 gp f gw gr go cw cr co vw vr := hF.rebase (HX2.out.2.trans hx3) HX2.out.2.size
    have HF0 := Lib.hid hF0
    have HK3 : Hid (∀ k, k < w2.heap.size → k ≠ gv → w3.heap[k]? = w2.heap[k]?) := Lib.hid (fun k hk _ => Below.block hx3 k hk)
    have HBV : Hid (Blk w3 gv T #[val []]) := Lib.hid (((HB.out.1.ext HE.out.2.1).ext HX2.out.1).ext hx3)
    have HGV2 : Hid (gv < w2.heap.size ∧ gb < w2.heap.size ∧ gb + 1 < w2.heap.size ∧ gb ≠ gv ∧ gb + 1 ≠ gv) := Lib.hid (by have := HG.out; have := HX2.out.1.size; omega)
    clear CF hF hF0 hx3 b1 b2 b3 b4 b5 b6
    go_wp2_with fail
    go_loopw [7, 8] (fun a b wr => ∃ (k : Nat) (f' : FoD) (real : Bool) (pre : List Nat) (vw' vr' : List Value), k ≤ 400 ∧ a = .bool real ∧ b = .int .i64 ((k + 1 : Nat) : Int) ∧ Hid (foOk m f' = true ∧ f'.rs.length = f.rs.length) ∧ Hid (FoO w0 (fun k => k < w2.heap.size) wr gp f' gw gr go cw cr co vw' vr') ∧ Hid (Blk wr gv T #[val pre]) ∧ Hid (∀ k, k < w2.heap.size → k ≠ gv → wr.heap[k]? = w2.heap[k]?) ∧ Hid (accV go_ m f cs c = pre ++ runV go_ (accR m f cs (400 - k) (k + 1) f' real))) (fun _ b _ => 401 - (intOf b).toNat)
    case atStart => exact ⟨0, f, false, [], vw, vr, by omega, rfl, rfl, Lib.hid ⟨HH.out.2.2.2.2.1, rfl⟩, HF0, HBV, HK3, Lib.hid (by unfold accV; rw [HSB.out]; rfl)⟩
    case round =>
      clear HF0 HBV HK3
      obtain ⟨k, f', real, pre, vw', vr', hk, rfl, rfl, HOK, HFO, HBV, HKP, HV2⟩ := hrel
      have HGR : Hid (w.grownBy wr (some gv)) := Lib.hid (grown_of HE.out.1 HFO.out.ext0 (HE.out.2.1.trans HX2.out.1) HFO.out.kb HKP.out)
      by_cases hlt : k < 400
      · have hdl : decide (((k + 1 : Nat) : Int) ≤ 400) = true := decide_eq_true (by omega)
        obtain ⟨d, hd⟩ : ∃ d, 400 - k = d + 1 := ⟨399 - k, by omega⟩
        have HVD : Hid (accV go_ m f cs c = pre ++ runV go_ (accR m f cs (d + 1) (k + 1) f' real)) := Lib.hid (by rw [← hd]; exact HV2.out)
        have HD := Lib.hid hd
        have hosl : f'.os.length = f'.rs.length := (foOk_parts HOK.out.1).2.2.1
        have hr13 := (foOk_parts HOK.out.1).1
        have CL := CloneF_c _ f'.os wr (OwnInts.ints HFO.out.oo) (OwnInts.flat HFO.out.oo) (by omega)
        have q5 : wr.cell? ⟨gp, 5, none⟩ = some (.slice (some ⟨go, 0, none⟩) f'.os.length co) := HFO.out.blk.cell 5
        have HOL := Lib.hid (And.intro hosl hr13)
        clear hd hosl hr13
        go_wp2_with fail
        refine CL.mono ?_
        rintro e w5 ⟨z, rfl, oz, _, hx5⟩
        obtain ⟨g9, c9, rfl⟩ := own_some oz (by have := HOL.out; omega)
        obtain ⟨⟨csb, b9⟩, hg9⟩ := own_blk oz
        obtain ⟨K1, hK1⟩ : ∃ K1 : Nat → Prop, K1 = fun k => k < w2.heap.size ∨ (wr.heap.size ≤ k ∧ k < w5.heap.size) := ⟨_, rfl⟩
        have h5 : FoO w0 K1 w5 gp f' gw gr go cw cr co vw' vr' := HFO.out.more hx5 (fun k hk => by rw [hK1] at hk; exact hk)
        have hk12 : ∀ k, k < w2.heap.size → K1 k := fun k hk => by rw [hK1]; exact .inl hk
        have hk9 : K1 g9 := by rw [hK1]; exact .inr ⟨hg9, b9.lt⟩
        have kp5 : ∀ k, k < w2.heap.size → k ≠ gv → w5.heap[k]? = w2.heap[k]? := fun k hk hne => (Below.block hx5 k (HFO.out.kb k hk)).trans (HKP.out k hk hne)
        have bm5 : Blk w5 (gb + 1) 26 #[.int .i64 m.sy, .int .i64 m.st, .slice Am m.rules.length cm] := (kp5 (gb + 1) HGV2.out.2.2.1 HGV2.out.2.2.2.2).trans (HB.out.2.2.ext HX2.out.1)
        have bb5 : Blk w5 gb 115 #[.int .i64 n, .int .i64 f.q, .int .i64 f.hd, .int .i64 f.at_, .slice A1 f.ws.length c1, .slice A2 f.rs.length c2, .slice A3 f.os.length c3, .slice A4 cs.length c4, .int .i64 c.q, .slice A5 c.l.length c5, .slice A6 c.r.length c6] := (kp5 gb HGV2.out.2.1 HGV2.out.2.2.2.1).trans (HB.out.2.1.ext HX2.out.1)
        have m0 := bm5.cell 0
        have m1 := bm5.cell 1
        have m2 := bm5.cell 2
        simp only [List.getElem?_toArray, List.getElem?_cons_zero, List.getElem?_cons_succ] at m0 m1 m2
        have SF := stepFo_c m (.slice Am m.rules.length cm) h5 (HH.out.2.2.1.ext h5.ext0) HH.out.2.2.2.1 HOK.out.1
        have H5 := Lib.hid (And.intro kp5 (And.intro hk12 (And.intro hk9 (And.intro b9 (And.intro oz (And.intro bm5 (And.intro bb5 (HBV.out.ext hx5))))))))
        clear CL q5 oz hx5 b9 hg9 h5 hk12 hk9 kp5 bm5 bb5 hK1 HBV
        go_wp2_with fail
        refine SF.mono ?_
        rintro e w6 ⟨hres, hkp6, hx6, hsz6⟩
        clear SF m0 m1 m2
        have HK6 := Lib.hid (And.intro hkp6 hx6)
        have HKP6 : Hid (∀ k, k < w2.heap.size → k ≠ gv → w6.heap[k]? = w2.heap[k]?) := Lib.hid (fun k hk hne => (hkp6 k (H5.out.2.1 k hk)).trans (H5.out.1 k hk hne))
        have HBV6 : Hid (Blk w6 gv T #[val pre]) := Lib.hid ((hkp6 gv (H5.out.2.1 gv HGV2.out.1)).trans H5.out.2.2.2.2.2.2.2)
        have HB6 : Hid (Blk w6 gb 115 #[.int .i64 n, .int .i64 f.q, .int .i64 f.hd, .int .i64 f.at_, .slice A1 f.ws.length c1, .slice A2 f.rs.length c2, .slice A3 f.os.length c3, .slice A4 cs.length c4, .int .i64 c.q, .slice A5 c.l.length c5, .slice A6 c.r.length c6] ∧ Blk w6 (gb + 1) 26 #[.int .i64 m.sy, .int .i64 m.st, .slice Am m.rules.length cm]) := Lib.hid ⟨(hkp6 gb (H5.out.2.1 gb HGV2.out.2.1)).trans H5.out.2.2.2.2.2.2.1, (hkp6 (gb + 1) (H5.out.2.1 _ HGV2.out.2.2.1)).trans H5.out.2.2.2.2.2.1⟩
        have HO9 : Hid (∀ j (hj : j < f'.os.length), w6.cell? ⟨g9, j, none⟩ = some (.int .i64 f'.os[j])) := Lib.hid (fun j hj => by
          have e1 : w6.cell? ⟨g9, j, none⟩ = w5.cell? ⟨g9, j, none⟩ := World.cell?_of_block (hkp6 g9 H5.out.2.2.1)
          rw [e1, own_cell H5.out.2.2.2.2.1 hj, ivs_get _ j hj])
        have HSZ6 : Hid (∀ k, k < w2.heap.size → k < w6.heap.size) := Lib.hid (fun k hk => hsz6 k (H5.out.2.1 k hk))
        clear hkp6 hx6 hsz6
        rcases hres with ⟨kd, f2, hst, rfl, vw2, vr2, hF2⟩ | ⟨hst, cc, rfl, hcc⟩
        · have hF6 : FoO w0 (fun k => k < w2.heap.size) w6 gp f2 gw gr go cw cr co vw2 vr2 := hF2.mono H5.out.2.1
          have HF6 := Lib.hid hF6
          have hkd := (raw_keep (step_raw hst).1).2.2
          have HST := Lib.hid (And.intro hst (And.intro (step_raw hst).2 (And.intro ((raw_keep (step_raw hst).1).1.trans HOK.out.2) (fun e : kd = 2 => raw_two HOK.out.1 (by rw [← e]; exact (step_raw hst).1)))))
          have HKD := Lib.hid hkd
          obtain ⟨io, hio⟩ : ∃ i, (onB f').1 = i := ⟨_, rfl⟩
          have HIO := Lib.hid hio
          rw [hio]
          obtain ⟨cb, hcb⟩ : ∃ b, decide (kd = 2 ∧ cs.getD (onB f').1.toNat 0 + f'.os.getD (onB f').1.toNat 0 < 1) = b := ⟨_, rfl⟩
          have HCB := Lib.hid hcb
          clear hst hF2 hF6 hkd hio hcb
          go_upto_region 8 with fail
          go_cut [56] (fun u wx => u = .bool cb ∧ Ext w6 wx)
          case first =>
            have b7 : w6.drew.cell? ⟨gb, 7, none⟩ = some (.slice A4 cs.length c4) := HB6.out.1.cell 7
            by_cases hk2 : kd = 2
            · obtain ⟨i, hi, hie⟩ := HST.out.2.2.2 hk2
              have hii : io = (i : Int) := by rw [← HIO.out]; exact hie
              subst hii
              have hic : i < cs.length := by have := HH.out.2.2.2.2.2.1; have := HOK.out.2; omega
              have hio2 : i < f'.os.length := by have := HOL.out; omega
              obtain ⟨b4', o4, hA4, hcc4⟩ := Ints.at (HH.out.2.1.ext HK6.out.2) hic
              have e4 := hcc4 i hic
              clear hcc4
              subst hA4
              have e9 : w6.drew.cell? ⟨g9, i, none⟩ = some (.int .i64 f'.os[i]) := HO9.out i hio2
              obtain ⟨zc, hzc⟩ : ∃ z, cs[i] = z := ⟨_, rfl⟩
              obtain ⟨zo, hzo⟩ : ∃ z, f'.os[i] = z := ⟨_, rfl⟩
              rw [hzc] at e4
              rw [hzo] at e9
              have e4d : w6.drew.cell? ⟨b4', o4 + i, none⟩ = some (.int .i64 zc) := e4
              have hcsb := HCSB.out _ (List.getElem_mem hic)
              rw [hzc] at hcsb
              have hob := (foOk_parts HOK.out.1).2.2.2.2.2.1 _ (List.getElem_mem hio2)
              rw [hzo] at hob
              have hws : IntKind.i64.wrap (zc + zo) = zc + zo := IntWalk.i64_in _ (by omega)
              have hcbv : cb = decide (zc + zo < 1) := by
                rw [← HCB.out, hie, Int.toNat_natCast, getD_get hic, getD_get hio2, hzc, hzo, hk2]
                simp
              have HCV := Lib.hid hcbv
              have hic2 : i < cs.length := hic
              have hio3 : i < f'.os.length := hio2
              subst hk2
              clear hcbv hzc hzo hi hie e4
              obtain ⟨bl, hbl⟩ : ∃ b, decide (zc + zo < 1) = b := ⟨_, rfl⟩
              refine wp_region_ordT 18 (readsT [0, 1, 2, 3, 4, 5, 6, 7, 8, 9, 10, 11, 12, 13, 14, 15, 16, 17] .done) (by kernel_rfl) (by kernel_rfl) (fun _ _ _ _ _ h => h) ?_
              simp only [readsT]
              refine wpOrdT_read (v := .int .i64 0) (by rfl) (Or.inl ⟨by rfl, fun x hx => ?_⟩) ?_; (· go_simp)
              try simp only [Act.put, List.setIfInBounds_toArray, List.set_cons_zero, List.set_cons_succ]
              iterate 2 (refine wpOrdT_read (v := .bool false) (by rfl) (Or.inl ⟨by rfl, fun x hx => ?_⟩) ?_; (· go_simp); try simp only [Act.put, List.setIfInBounds_toArray, List.set_cons_zero, List.set_cons_succ])
              refine wpOrdT_read (v := .int .i64 2) (by rfl) (Or.inl ⟨by rfl, fun x hx => ?_⟩) ?_; (· go_simp)
              try simp only [Act.put, List.setIfInBounds_toArray, List.set_cons_zero, List.set_cons_succ]
              iterate 2 (refine wpOrdT_read (v := .bool true) (by rfl) (Or.inl ⟨by rfl, fun x hx => ?_⟩) ?_; (· go_simp); try simp only [Act.put, List.setIfInBounds_toArray, List.set_cons_zero, List.set_cons_succ])
              iterate 10 (refine wpOrdT_read (v := ?_) (by rfl) (Or.inl ⟨by rfl, fun x hx => ?_⟩) ?_; rotate_left; (· have y7 := Ext.cell hx b7; have y4 := Ext.cell hx e4d; have y9 := Ext.cell hx e9; go_simp; try first | with_reducible rfl | (rw [if_pos (by omega)]; try with_reducible rfl) | (rw [hws]; try with_reducible rfl)); try simp only [Act.put, List.setIfInBounds_toArray, List.set_cons_zero, List.set_cons_succ])
              iterate 2 (refine wpOrdT_read (v := .bool bl) (by rfl) (Or.inl ⟨by rfl, fun x hx => ?_⟩) ?_; (· go_simp; try rw [hbl]); try simp only [Act.put, List.setIfInBounds_toArray, List.set_cons_zero, List.set_cons_succ])
              refine wpOrdT_done ?_
              try simp only [List.drop_succ_cons, List.drop_zero]
              have HBL := Lib.hid hbl
              clear b7 e4d e9 hws hbl hcsb hob
              go_wp2_with fail
              go_meet
              exact ⟨by rw [HCV.out, HBL.out], Ext.drew w6⟩
            · have hk2b : (kd == 2) = false := by rcases HKD.out with rfl | rfl | rfl <;> first | rfl | exact absurd rfl hk2
              have hcbv : cb = false := by rw [← HCB.out]; exact decide_eq_false (fun hh => hk2 hh.1)
              subst hcbv
              clear b7
              refine wp_region_ordT 18 (readsT [0, 1, 2, 3, 4, 5, 6, 7, 8, 9, 10, 11, 12, 13, 14, 15, 16, 17] .done) (by kernel_rfl) (by kernel_rfl) (fun _ _ _ _ _ h => h) ?_
              simp only [readsT]
              refine wpOrdT_read (v := .int .i64 0) (by rfl) (Or.inl ⟨by rfl, fun x hx => ?_⟩) ?_; (· go_simp)
              try simp only [Act.put, List.setIfInBounds_toArray, List.set_cons_zero, List.set_cons_succ]
              iterate 2 (refine wpOrdT_read (v := .bool false) (by rfl) (Or.inl ⟨by rfl, fun x hx => ?_⟩) ?_; (· go_simp); try simp only [Act.put, List.setIfInBounds_toArray, List.set_cons_zero, List.set_cons_succ])
              refine wpOrdT_read (v := .int .i64 kd) (by rfl) (Or.inl ⟨by rfl, fun x hx => ?_⟩) ?_; (· go_simp)
              try simp only [Act.put, List.setIfInBounds_toArray, List.set_cons_zero, List.set_cons_succ]
              iterate 2 (refine wpOrdT_read (v := .bool false) (by rfl) (Or.inl ⟨by rfl, fun x hx => ?_⟩) ?_; (· go_simp; try rw [hk2b]); try simp only [Act.put, List.setIfInBounds_toArray, List.set_cons_zero, List.set_cons_succ])
              iterate 11 (refine wpOrdT_read (v := undef) (by rfl) (Or.inr ⟨by rfl, by rfl⟩) ?_; try simp only [Act.put, List.setIfInBounds_toArray, List.set_cons_zero, List.set_cons_succ])
              refine wpOrdT_read (v := .bool false) (by rfl) (Or.inl ⟨by rfl, fun x hx => ?_⟩) ?_; (· go_simp)
              try simp only [Act.put, List.setIfInBounds_toArray, List.set_cons_zero, List.set_cons_succ]
              refine wpOrdT_done ?_
              try simp only [List.drop_succ_cons, List.drop_zero]
              clear hk2 hk2b
              go_wp2_with fail
              go_meet
              exact ⟨rfl, Ext.drew w6⟩
          case rest =>
            obtain ⟨rfl, hxc⟩ := hcut
            clear HO9
            have HC6 : Hid (Ext w6 wc) := Lib.hid hxc
            have HGRC : Hid (w.grownBy wc (some gv) ∧ Blk wc gv T #[val pre] ∧ FoO w0 (fun k => k < w2.heap.size) wc gp f2 gw gr go cw cr co vw2 vr2 ∧ (∀ k, k < w2.heap.size → k ≠ gv → wc.heap[k]? = w2.heap[k]?)) := Lib.hid (by
              have hF := HF6.out.ext hxc
              have hk := fun k (hk : k < w2.heap.size) (hne : k ≠ gv) => (Below.block hxc k (HF6.out.kb k hk)).trans (HKP6.out k hk hne)
              exact ⟨grown_of HE.out.1 hF.ext0 (HE.out.2.1.trans HX2.out.1) hF.kb hk, HBV6.out.ext hxc, hF, hk⟩)
            clear hxc
            cases cb with
            | true =>
              have HFIN : Hid (w.grownBy wc (some gv) ∧ Blk wc gv T #[val (accV go_ m f cs c)]) := Lib.hid ⟨HGRC.out.1, by
                rw [HVD.out, accR_some HST.out.1, if_pos (of_decide_eq_true HCB.out)]
                simp only [runV, List.append_nil]
                exact HGRC.out.2.1⟩
              go_wp2
              exact bodyPost_ret (results_none rfl _ _ _) rfl ⟨rfl, HFIN.out⟩
            | false =>
              obtain ⟨r2, hr2⟩ : ∃ r, (real || decide (kd = 0)) = r := ⟨_, rfl⟩
              have HR2 := Lib.hid hr2
              have HVE : Hid (accV go_ m f cs c = pre ++ runV go_ ((if (r2 && (growF m f f2).isSome) = true then [k + 1] else []) ++ accR m f cs d (k + 1 + 1) f2 r2)) := Lib.hid (by rw [HVD.out, accR_some HST.out.1, if_neg (of_decide_eq_false HCB.out), hr2])
              clear hr2
              go_upto_region 9 with fail
              go_cut [7] (fun u wx => u = .bool r2 ∧ wc = wx)
              case first =>
                cases real with
                | true =>
                  have HT : Hid (r2 = true) := Lib.hid (by rw [← HR2.out]; rfl)
                  go_wp2_with fail
                  go_meet
                  exact ⟨by rw [HT.out], rfl⟩
                | false =>
                  by_cases hk0 : kd = 0
                  · have hkb : (kd == 0) = true := by rw [hk0]; rfl
                    have HT : Hid (r2 = true) := Lib.hid (by rw [← HR2.out, hk0]; rfl)
                    clear hk0
                    go_wp2_with fail
                    go_meet
                    exact ⟨by rw [HT.out], rfl⟩
                  · have hkb : (kd == 0) = false := by rcases HKD.out with rfl | rfl | rfl <;> first | rfl | exact absurd rfl hk0
                    have HT : Hid (r2 = false) := Lib.hid (by rw [← HR2.out]; simp [hk0])
                    clear hk0
                    go_wp2_with fail
                    go_meet
                    exact ⟨by rw [HT.out], rfl⟩
              case rest =>
                obtain ⟨rfl, rfl⟩ := hcut
                have hw9 : IntKind.i64.wrap (((k + 1 : Nat) : Int) + 1) = ((k + 1 + 1 : Nat) : Int) := by rw [show ((k + 1 : Nat) : Int) + 1 = ((k + 1 + 1 : Nat) : Int) by omega]; exact IntWalk.i64_in _ (by omega)
                cases r2 with
                | false =>
                  have HVN : Hid (accV go_ m f cs c = pre ++ runV go_ (accR m f cs (400 - (k + 1)) (k + 1 + 1) f2 false)) := Lib.hid (by rw [HVE.out, show 400 - (k + 1) = d by have := HD.out; omega]; simp)
                  go_wp2
                  go_roundw
                  case rel => exact ⟨k + 1, f2, false, pre, vw2, vr2, by omega, rfl, by go_num, Lib.hid ⟨HST.out.2.1, HST.out.2.2.1⟩, Lib.hid HGRC.out.2.2.1, Lib.hid HGRC.out.2.1, Lib.hid HGRC.out.2.2.2, HVN⟩
                  case measure => simp [intOf]; omega
                | true =>
                  have bm := (HB6.out.2.ext HC6.out).ext (Ext.drew wc)
                  have bb := (HB6.out.1.ext HC6.out).ext (Ext.drew wc)
                  have hFd := HGRC.out.2.2.1.ext (Ext.drew wc)
                  have GR := growthG_c m (.slice Am m.rules.length cm) _ _ _ _ _ _ f f2 wc.drew (HH.out.1.ext hFd.ext0) hFd.at.val HH.out.2.2.2.2.1 HST.out.2.1 HH.out.2.2.2.1
                  have m0 := bm.cell 0
                  have m1 := bm.cell 1
                  have m2 := bm.cell 2
                  have b1 := bb.cell 1
                  have b2 := bb.cell 2
                  have b3 := bb.cell 3
                  have b4 := bb.cell 4
                  have b5 := bb.cell 5
                  have b6 := bb.cell 6
                  have ff0 := hFd.blk.cell 0
                  have ff1 := hFd.blk.cell 1
                  have ff2 := hFd.blk.cell 2
                  have ff3 := hFd.blk.cell 3
                  have ff4 := hFd.blk.cell 4
                  have ff5 := hFd.blk.cell 5
                  simp only [List.getElem?_toArray, List.getElem?_cons_zero, List.getElem?_cons_succ] at m0 m1 m2 b1 b2 b3 b4 b5 b6 ff0 ff1 ff2 ff3 ff4 ff5
                  have HFD := Lib.hid hFd
                  clear bm bb hFd
                  go_wp2_with fail
                  refine wp_region_ordT 11 (readsT [0, 1, 2, 3, 4, 5] (.stir 6 (readsT [7, 8, 9, 10] .done))) (by kernel_rfl) (by kernel_rfl) (fun _ _ _ _ _ h => h) ?_
                  simp only [readsT]
                  iterate 6 (refine wpOrdT_read (v := ?_) (by rfl) (Or.inl ⟨by rfl, fun x hx => ?_⟩) ?_; rotate_left; (· have ym0 := Ext.cell hx m0; have ym1 := Ext.cell hx m1; have ym2 := Ext.cell hx m2; have yb1 := Ext.cell hx b1; have yb2 := Ext.cell hx b2; have yb3 := Ext.cell hx b3; have yb4 := Ext.cell hx b4; have yb5 := Ext.cell hx b5; have yb6 := Ext.cell hx b6; have yf0 := Ext.cell hx ff0; have yf1 := Ext.cell hx ff1; have yf2 := Ext.cell hx ff2; have yf3 := Ext.cell hx ff3; have yf4 := Ext.cell hx ff4; have yf5 := Ext.cell hx ff5; go_simp; try with_reducible rfl); try simp only [Act.put, List.setIfInBounds_toArray, List.set_cons_zero, List.set_cons_succ])
                  refine wpOrdT_stir (by rfl) (fun K hK => ?_)
                  go_simp
                  go_at_call 72
                  refine GR.mono ?_
                  rintro e w7 ⟨hgr, hx7⟩
                  have HX7 : Hid (Ext wc w7) := Lib.hid ((Ext.drew wc).trans hx7)
                  have HG7 : Hid (w.grownBy w7 (some gv) ∧ Blk w7 gv T #[val pre] ∧ FoO w0 (fun k => k < w2.heap.size) w7 gp f2 gw gr go cw cr co vw2 vr2 ∧ (∀ k, k < w2.heap.size → k ≠ gv → w7.heap[k]? = w2.heap[k]?)) := Lib.hid (by
                    have hF := HGRC.out.2.2.1.ext HX7.out
                    have hk := fun k (hk : k < w2.heap.size) (hne : k ≠ gv) => (Below.block HX7.out k (HGRC.out.2.2.1.kb k hk)).trans (HGRC.out.2.2.2 k hk hne)
                    exact ⟨grown_of HE.out.1 hF.ext0 (HE.out.2.1.trans HX2.out.1) hF.kb hk, HGRC.out.2.1.ext HX7.out, hF, hk⟩)
                  clear GR HFD m0 m1 m2 b1 b2 b3 b4 b5 b6 ff0 ff1 ff2 ff3 ff4 ff5
                  rcases hgr with ⟨l, ul, base, hl, rfl, ol, _⟩ | ⟨hl, cg, rfl, hcg⟩
                  · refine hK _ _ hx7 ?_
                    clear hK K hx7
                    try simp only [Act.put, List.setIfInBounds_toArray, List.set_cons_zero, List.set_cons_succ]
                    iterate 4 (refine wpOrdT_read (v := ?_) (by rfl) (Or.inl ⟨by rfl, fun x hx => ?_⟩) ?_; rotate_left; (· go_simp; try with_reducible rfl); try simp only [Act.put, List.setIfInBounds_toArray, List.set_cons_zero, List.set_cons_succ])
                    refine wpOrdT_done ?_
                    try simp only [List.drop_succ_cons, List.drop_zero]
                    have VV := HV.out pre (k + 1) w7 HG7.out.1 HG7.out.2.1 ⟨by omega, by omega⟩
                    have HVF : Hid (accV go_ m f cs c = pre ++ runV go_ ((k + 1) :: accR m f cs d (k + 1 + 1) f2 true)) := Lib.hid (by rw [HVE.out, hl]; rfl)
                    clear hl ol
                    go_wp2_with fail
                    refine VV.mono ?_
                    rintro e w8 ⟨rfl, hg8, hb8⟩
                    have hF8 := HG7.out.2.2.1.other hg8 HGV2.out.1 HE.out.2.2
                    have HF8 := Lib.hid hF8
                    have HB8 := Lib.hid hb8
                    have HK8 : Hid (∀ k, k < w2.heap.size → k ≠ gv → w8.heap[k]? = w2.heap[k]?) := Lib.hid (fun k hk hne => (hg8.block k (HG7.out.2.2.1.kb k hk) (fun e => hne (by injection e))).trans (HG7.out.2.2.2 k hk hne))
                    have HG8 : Hid (w.grownBy w8 (some gv)) := Lib.hid (grownBy_trans HG7.out.1 hg8)
                    clear VV hg8 hb8 hF8
                    obtain ⟨gb_, hgb⟩ : ∃ b, go_ (k + 1) = b := ⟨_, rfl⟩
                    rw [hgb]
                    cases gb_ with
                    | false =>
                      have HFIN : Hid (w.grownBy w8 (some gv) ∧ Blk w8 gv T #[val (accV go_ m f cs c)]) := Lib.hid ⟨HG8.out, by
                        rw [HVF.out]
                        unfold runV
                        rw [if_neg (by rw [hgb]; decide)]
                        exact HB8.out⟩
                      clear hgb
                      go_wp2
                      exact bodyPost_ret (results_none rfl _ _ _) rfl ⟨rfl, HFIN.out⟩
                    | true =>
                      have HVN : Hid (accV go_ m f cs c = (pre ++ [k + 1]) ++ runV go_ (accR m f cs (400 - (k + 1)) (k + 1 + 1) f2 true)) := Lib.hid (by
                        rw [HVF.out, show 400 - (k + 1) = d by have := HD.out; omega]
                        conv => lhs; unfold runV
                        rw [if_pos hgb]
                        simp)
                      clear hgb
                      go_wp2
                      go_roundw
                      case rel => exact ⟨k + 1, f2, true, pre ++ [k + 1], vw2, vr2, by omega, rfl, by go_num, Lib.hid ⟨HST.out.2.1, HST.out.2.2.1⟩, HF8, HB8, HK8, HVN⟩
                      case measure => simp [intOf]; omega
                  · refine hK _ _ hx7 ?_
                    clear hK K hx7
                    try simp only [Act.put, List.setIfInBounds_toArray, List.set_cons_zero, List.set_cons_succ]
                    iterate 4 (refine wpOrdT_read (v := ?_) (by rfl) (Or.inl ⟨by rfl, fun x hx => ?_⟩) ?_; rotate_left; (· go_simp; try with_reducible rfl); try simp only [Act.put, List.setIfInBounds_toArray, List.set_cons_zero, List.set_cons_succ])
                    refine wpOrdT_done ?_
                    try simp only [List.drop_succ_cons, List.drop_zero]
                    have hcg0 : (cg == 0) = false := by rcases hcg with rfl | rfl <;> rfl
                    have HVN : Hid (accV go_ m f cs c = pre ++ runV go_ (accR m f cs (400 - (k + 1)) (k + 1 + 1) f2 true)) := Lib.hid (by rw [HVE.out, hl, show 400 - (k + 1) = d by have := HD.out; omega]; simp)
                    clear hl hcg
                    go_wp2
                    go_roundw
                    case rel => exact ⟨k + 1, f2, true, pre, vw2, vr2, by omega, rfl, by go_num, Lib.hid ⟨HST.out.2.1, HST.out.2.2.1⟩, Lib.hid HG7.out.2.2.1, Lib.hid HG7.out.2.1, Lib.hid HG7.out.2.2.2, HVN⟩
                    case measure => simp [intOf]; omega
        · have HNO : Hid (accV go_ m f cs c = pre) := Lib.hid (by rw [HVD.out, accR_none hst]; simp [runV])
          have hc0 : (cc != 0) = true := by rcases hcc with rfl | rfl <;> rfl
          clear hst hcc
          have HGN : Hid (w.grownBy w6 (some gv)) := Lib.hid (grown_of HE.out.1 HK6.out.2 (HE.out.2.1.trans HX2.out.1) HSZ6.out HKP6.out)
          have HFIN : Hid (w.grownBy w6.drew (some gv) ∧ Blk w6.drew gv T #[val (accV go_ m f cs c)]) := Lib.hid ⟨grownBy_trans HGN.out (ext_grownBy (Ext.drew w6) _), by rw [HNO.out]; exact HBV6.out.ext (Ext.drew w6)⟩
          go_upto_region 8 with fail
          refine wp_region_ordT 18 (readsT [0, 1, 2, 3, 4, 5, 6, 7, 8, 9, 10, 11, 12, 13, 14, 15, 16, 17] .done) (by kernel_rfl) (by kernel_rfl) (fun _ _ _ _ _ h => h) ?_
          simp only [readsT]
          refine wpOrdT_read (v := .int .i64 cc) (by rfl) (Or.inl ⟨by rfl, fun x hx => ?_⟩) ?_; (· go_simp)
          try simp only [Act.put, List.setIfInBounds_toArray, List.set_cons_zero, List.set_cons_succ]
          iterate 2 (refine wpOrdT_read (v := .bool true) (by rfl) (Or.inl ⟨by rfl, fun x hx => ?_⟩) ?_; (· go_simp; try rw [hc0]); try simp only [Act.put, List.setIfInBounds_toArray, List.set_cons_zero, List.set_cons_succ])
          iterate 15 (refine wpOrdT_read (v := undef) (by rfl) (Or.inr ⟨by rfl, by rfl⟩) ?_; try simp only [Act.put, List.setIfInBounds_toArray, List.set_cons_zero, List.set_cons_succ])
          refine wpOrdT_done ?_
          try simp only [List.drop_succ_cons, List.drop_zero]
          go_wp2
          exact bodyPost_ret (results_none rfl _ _ _) rfl ⟨rfl, HFIN.out⟩
      · have hdl : decide (((k + 1 : Nat) : Int) ≤ 400) = false := decide_eq_false (by omega)
        have HFIN : Hid (w.grownBy wr (some gv) ∧ Blk wr gv T #[val (accV go_ m f cs c)]) := Lib.hid ⟨HGR.out, by
          rw [HV2.out, show 400 - k = 0 by omega]
          simp only [accR, runV, List.append_nil]
          exact HBV.out⟩
        go_wp2
        exact bodyPost_end (results_none rfl _ _ _) rfl ⟨rfl, HFIN.out⟩
end Go.Proofs.YtojiammendjpkaaGreat
end
