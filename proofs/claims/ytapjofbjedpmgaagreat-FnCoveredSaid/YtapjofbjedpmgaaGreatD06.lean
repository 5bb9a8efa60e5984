/- Contract: the least proof by contexts of a size.
The walk of the law on proofs by contexts and the run. Written by law20.py.
A proof by contexts covers all configurations of the run, and so does the proof that is merged from it and another one: the law answers true for all arguments and leaves them as they are. No condition. -/
import Derived.Test.YtapjofbjedpmgaaGreatC01
import Derived.Test.YtapjofbjedpmgaaGreatC02
import Derived.Test.YtapjofbjedpmgaaGreatC03
import Derived.Test.YtapjofbjedpmgaaGreatC04
import Derived.Test.YtapjofbjedpmgaaGreatC05
import Derived.Test.YtapjofbjedpmgaaGreatC06
import Derived.Test.YtapjofbjedpmgaaGreatC07
import Derived.Test.YtapjofbjedpmgaaGreatC08
import Derived.Test.YtapjofbjedpmgaaGreatC09
import Derived.Test.YtapjofbjedpmgaaGreatC10
import Derived.Test.YtapjofbjedpmgaaGreatC11
import Derived.Test.YtapjofbjedpmgaaGreatC12
import Derived.Test.YtapjofbjedpmgaaGreatC13
import Derived.Test.YtapjofbjedpmgaaGreatC14
import Derived.Test.YtapjofbjedpmgaaGreatC15
import Derived.Test.YtapjofbjedpmgaaGreatC16
import Derived.Test.YtapjofbjedpmgaaGreatC17
import Derived.Test.YtapjofbjedpmgaaGreatC18
import Derived.Test.YtapjofbjedpmgaaGreatC19
import Derived.Test.YtapjofbjedpmgaaGreatC20
import Derived.Test.YtapjofbjedpmgaaGreatC21
import Derived.Test.YtapjofbjedpmgaaGreatC22
import Derived.Test.YtapjofbjedpmgaaGreatC23
import Derived.Test.YtapjofbjedpmgaaGreatC24
import Derived.Test.YtapjofbjedpmgaaGreatC25
import Derived.Test.YtapjofbjedpmgaaGreatC26
import Derived.Test.YtapjofbjedpmgaaGreatC27
import Derived.Test.YtapjofbjedpmgaaGreatC28
import Derived.Test.YtapjofbjedpmgaaGreatC29
import Derived.Test.YtapjofbjedpmgaaGreatC30
import Derived.Test.YtapjofbjedpmgaaGreatC31
import Derived.Test.YtapjofbjedpmgaaGreatC32
import Derived.Test.YtapjofbjedpmgaaGreatC33
import Derived.Test.YtapjofbjedpmgaaGreatC34
import Derived.Test.YtapjofbjedpmgaaGreatC35
import Derived.Test.YtapjofbjedpmgaaGreatC36
import Derived.Test.YtapjofbjedpmgaaGreatC37
import Derived.Test.YtapjofbjedpmgaaGreatC38
import Derived.Test.YtapjofbjedpmgaaGreatC39
import Derived.Test.YtapjofbjedpmgaaGreatC40
import Derived.Test.YtapjofbjedpmgaaGreatC41
import Derived.Test.YtapjofbjedpmgaaGreatC42
import Derived.Test.YtapjofbjedpmgaaGreatC43
import Derived.Test.YtapjofbjedpmgaaGreatC44
import Derived.Test.YtapjofbjedpmgaaGreatC45
import Derived.Test.YtapjofbjedpmgaaGreatC46
import Derived.Test.YtapjofbjedpmgaaGreatC47
import Derived.Test.YtapjofbjedpmgaaGreatC48
import Derived.Test.YtapjofbjedpmgaaGreatD01
import Derived.Test.YtapjofbjedpmgaaGreatD02
import Derived.Test.YtapjofbjedpmgaaGreatD03
import Derived.Test.YtapjofbjedpmgaaGreatD04
import Derived.Test.YtapjofbjedpmgaaGreatD05
import Derived.Test.YtapjofbjedpmgaaGreatRows
section
set_option linter.unusedSimpArgs false
set_option linter.unusedVariables false
namespace Go.Proofs.YtapjofbjedpmgaaGreat
open Go Go.RowKit Go.Proofs
set_option maxHeartbeats 400000
set_option maxRecDepth 200000 in
set_option maxHeartbeats 8000000 in
theorem FindContexts_c (N : Nat) (m : MachD) (rv : Value) (w : World) (hr : Rules w rv m.rules) (hm : machOk m = true) (hn1 : 1 ≤ N) (hn4 : N ≤ 4) :
    Calls Tryz.prog 13 #[.agg #[.int .i64 m.sy, .int .i64 m.st, rv], .int .i64 (N : Int)] w fun e w' => FndR w.heap.size m N e w' ∧ Ext w w' := by
  obtain ⟨Am, cm, rfl, _, _⟩ := id hr.form
  obtain ⟨W, hW⟩ : ∃ W, W = (w.alloc (.cells #[.int .i64 m.sy, .int .i64 m.st, .slice Am m.rules.length cm] 26)).alloc (.cells #[.int .i64 0, .slice none 0 0, .slice none 0 0] 34) := ⟨_, rfl⟩
  obtain ⟨g, hg⟩ : ∃ g, w.heap.size = g := ⟨_, rfl⟩
  have hX : Ext w W := by rw [hW]; exact (Ext.alloc _ _).trans (Ext.alloc _ _)
  have bM : Blk W g 26 #[.int .i64 m.sy, .int .i64 m.st, .slice Am m.rules.length cm] := by rw [hW]; exact (Blk.new _ _ _ _ hg).alloc _
  have bO : Blk W (g + 1) 34 #[.int .i64 0, .slice none 0 0, .slice none 0 0] := by rw [hW]; exact Blk.new _ _ _ _ (by simp [hg])
  have VM := ValidMachine_c (.agg #[.int .i64 m.sy, .int .i64 m.st, .slice Am m.rules.length cm]) m W ⟨_, rfl, hr.ext hX⟩
  rw [hm] at VM
  have hcs := contextSizeOk_c (N : Int)
  have hin : inB (N : Int) 1 4 = true := inB_true ⟨by omega, by omega⟩
  rw [hin] at hcs
  have m0 := bM.cell 0
  have m1 := bM.cell 1
  have m2 := bM.cell 2
  simp only [List.getElem?_toArray, List.getElem?_cons_zero, List.getElem?_cons_succ] at m0 m1 m2
  have HH := Lib.hid (And.intro hX (And.intro bM (And.intro bO (And.intro (hr.ext hX) (And.intro hg hm)))))
  obtain ⟨lr, hlr⟩ : ∃ k, m.rules.length = k := ⟨_, rfl⟩
  rw [hlr] at m2 hW VM ⊢
  have HLR := Lib.hid hlr
  clear hX bM bO hr hm hlr hin
  go_enter Tryz.func13, Tryz.ntmps13
  go_upto_region 1 with fail
  try rw [← hW]
  try rw [hg]
  clear hW hg
  go_wp2_with fail
  refine VM.mono ?_
  rintro e w1 ⟨rfl, hx1⟩
  clear VM
  replace m0 := hx1.cell m0
  replace m1 := hx1.cell m1
  replace m2 := hx1.cell m2
  go_wp2_with fail
  refine (hcs _).mono ?_
  rintro e w2 ⟨rfl, rfl⟩
  clear hcs
  have FC := findContexts_c N m (.slice Am lr cm) w1 (by have := HH.out.2.2.2.1.ext hx1; rw [HLR.out] at this; exact this) HH.out.2.2.2.2.2 hn1 hn4
  have HX1 := Lib.hid hx1
  clear hx1
  go_wp2_with fail
  refine FC.mono ?_
  rintro e w5 ⟨hfnd, hx5⟩
  clear FC m0 m1 m2
  have bO := HH.out.2.2.1.ext (HX1.out.trans hx5)
  have o0 := bO.cell 0
  have o1 := bO.cell 1
  have o2 := bO.cell 2
  have z0 := bO.frozen 0
  have z1 := bO.frozen 1
  have z2 := bO.frozen 2
  simp only [List.getElem?_toArray, List.getElem?_cons_zero, List.getElem?_cons_succ] at o0 o1 o2
  have HX5 : Hid (∀ a b c : Value, Ext w (((w5.setCell ⟨g + 1, 0, none⟩ a).setCell ⟨g + 1, 1, none⟩ b).setCell ⟨g + 1, 2, none⟩ c)) := Lib.hid (by
    intro a b c
    have hgw := HH.out.2.2.2.2.1
    exact (((HH.out.1.trans (HX1.out.trans hx5)).setCell (p := ⟨g + 1, 0, none⟩) (by simp only; omega) _).setCell (p := ⟨g + 1, 1, none⟩) (by simp only; omega) _).setCell (p := ⟨g + 1, 2, none⟩) (by simp only; omega) _)
  rcases hfnd with ⟨s, u, rfl, ⟨An, cn, Aw, cw, rfl, oN, oW⟩, h1⟩ | hfail
  · have P5 : PrfO w1.heap.size w5 (.agg #[.int .i64 (proofX s).k, .slice An (proofX s).ns.length cn, .slice Aw (proofX s).ws.length cw]) (proofX s) := ⟨An, cn, Aw, cw, rfl, oN, oW⟩
    have HS := Lib.hid h1
    clear h1 oN oW
    obtain ⟨pk, hpk⟩ : ∃ q, (proofX s).k = q := ⟨_, rfl⟩
    obtain ⟨pn, hpn⟩ : ∃ q, (proofX s).ns.length = q := ⟨_, rfl⟩
    obtain ⟨pw, hpw⟩ : ∃ q, (proofX s).ws.length = q := ⟨_, rfl⟩
    rw [hpk, hpn, hpw] at P5 ⊢
    have HFIN : Hid (PrfO w.heap.size (((w5.setCell ⟨g + 1, 0, none⟩ (.int .i64 pk)).setCell ⟨g + 1, 1, none⟩ (.slice An pn cn)).setCell ⟨g + 1, 2, none⟩ (.slice Aw pw cw)) (.agg #[.int .i64 pk, .slice An pn cn, .slice Aw pw cw]) (proofX s)) := Lib.hid (by
      have c0 := bO.set_ 0 (.int .i64 pk)
      have c1 := c0.set_ 1 (.slice An pn cn)
      have hwr : w.heap.size ≤ w1.heap.size := (HH.out.1.trans HX1.out).size
      exact (((P5.farX bO (by decide) (by decide) _ _).farX c0 (by decide) (by decide) _ _).farX c1 (by decide) (by decide) _ _).base0 hwr)
    clear P5 bO hpk hpn hpw hx5
    go_wp2
    refine bodyPost_ret (v := .tuple #[.agg #[.int .i64 pk, .slice An pn cn, .slice Aw pw cw], .int .i64 0]) (by simp [results, Tryz.results13, go_sem, o0, o1, o2]) rfl ?_
    exact ⟨.inl ⟨s, _, rfl, HFIN.out, HS.out⟩, HX5.out _ _ _⟩
  · obtain ⟨c5, hc5, rfl⟩ : ∃ c5 : Int, (c5 = 3 ∨ c5 = 5) ∧ e = .returned (.tuple #[.agg #[.int .i64 0, .slice none 0 0, .slice none 0 0], .int .i64 c5]) := by
      rcases hfail with h | h
      · exact ⟨3, .inl rfl, h⟩
      · exact ⟨5, .inr rfl, h⟩
    clear hfail bO hx5
    go_wp2
    refine bodyPost_ret (v := .tuple #[.agg #[.int .i64 0, .slice none 0 0, .slice none 0 0], .int .i64 c5]) (by simp [results, Tryz.results13, go_sem, o0, o1, o2]) rfl ?_
    refine ⟨.inr ?_, HX5.out _ _ _⟩
    rcases hc5 with rfl | rfl
    · exact .inl rfl
    · exact .inr rfl
end Go.Proofs.YtapjofbjedpmgaaGreat
end
section
set_option linter.unusedSimpArgs false
set_option linter.unusedVariables false
namespace Go.Proofs.YtapjofbjedpmgaaGreat
open Go Go.RowKit Go.Proofs
set_option maxHeartbeats 400000
/-- What a search for a proof comes to. -/
def FcK (B : Nat) (w : World) (m : MachD) (nn : Nat) (cd : Int) (p : ProofD) (An Aw : Option Addr) (cn cw : Nat) : Prop :=
  (cd = 0 ∧ ∃ s : SetsD, s.n = nn ∧ FndP m s p ∧ (s.l.length ≤ 300 ∧ s.r.length ≤ 300 ∧ s.c.length ≤ 300) ∧ PrfO B w (.agg #[.int .i64 p.k, .slice An p.ns.length cn, .slice Aw p.ws.length cw]) p) ∨ cd = 3 ∨ cd = 5
theorem FcK.ext {B : Nat} {w w' : World} {m : MachD} {nn : Nat} {cd : Int} {p : ProofD} {An Aw : Option Addr} {cn cw : Nat} (h : FcK B w m nn cd p An Aw cn cw) (he : Ext w w') : FcK B w' m nn cd p An Aw cn cw := by
  rcases h with ⟨h0, s, h1, h2, h3, h4⟩ | h
  · exact .inl ⟨h0, s, h1, h2, h3, h4.ext he⟩
  · exact .inr h
theorem FndR.get {b B : Nat} {m : MachD} {nn : Nat} {e : Ending} {w' : World} (hm : machOk m = true) (h : FndR b m nn e w') (hb : B ≤ b) :
    ∃ p An cn Aw cw cd, e = .returned (.tuple #[.agg #[.int .i64 p.k, .slice An p.ns.length cn, .slice Aw p.ws.length cw], .int .i64 cd]) ∧ FcK B w' m nn cd p An Aw cn cw := by
  rcases h with ⟨s, u, rfl, PO, k0, kn, k1, k2, k3, k4, k5, k6, k7, k8, k9⟩ | rfl | rfl
  · have hF := fndP hm k0 k1 k2 k3 k4 k5 k6 k7 k8 k9
    obtain ⟨p, hp⟩ : ∃ p, proofX s = p := ⟨_, rfl⟩
    rw [hp] at hF PO
    obtain ⟨An, cn, Aw, cw, rfl, o1, o2⟩ := id PO
    exact ⟨p, An, cn, Aw, cw, 0, rfl, .inl ⟨rfl, s, kn, hF, ⟨k7, k8, k9⟩, PO.base0 hb⟩⟩
  · exact ⟨⟨0, [], []⟩, none, 0, none, 0, 3, rfl, .inr (.inl rfl)⟩
  · exact ⟨⟨0, [], []⟩, none, 0, none, 0, 5, rfl, .inr (.inr rfl)⟩
/-- The first search, its proof in a block. -/
def FcC (V : World) (m : MachD) (nn : Nat) (a b : Value) (w : World) : Prop :=
  ∃ gP p An cn Aw cw cd, a = .pointer (some ⟨gP, 0, none⟩) ∧ b = .int .i64 cd ∧ Blk w gP 34 #[.int .i64 p.k, .slice An p.ns.length cn, .slice Aw p.ws.length cw] ∧ Ext V w ∧ FcK V.heap.size w m nn cd p An Aw cn cw
theorem FcC.late {V w : World} {m : MachD} {nn : Nat} {cd : Int} {p : ProofD} {An Aw : Option Addr} {cn cw : Nat} (hx : Ext V w) (h : FcK V.heap.size w m nn cd p An Aw cn cw) :
    FcC V m nn (.pointer (some ⟨w.heap.size, 0, none⟩)) (.int .i64 cd) (w.alloc (.cells #[.int .i64 p.k, .slice An p.ns.length cn, .slice Aw p.ws.length cw] 34)) :=
  ⟨_, p, An, cn, Aw, cw, cd, rfl, rfl, Blk.new _ _ _ _ rfl, hx.trans (Ext.alloc _ _), h.ext (Ext.alloc _ _)⟩
theorem FcC.early {V w : World} {m : MachD} {nn gP : Nat} {cd : Int} {p : ProofD} {An Aw : Option Addr} {cn cw : Nat} (hx : Ext V w) (hlo : V.heap.size ≤ gP) (bz : Blk w gP 34 #[.int .i64 0, .slice none 0 0, .slice none 0 0]) (h : FcK V.heap.size w m nn cd p An Aw cn cw) :
    FcC V m nn (.pointer (some ⟨gP, 0, none⟩)) (.int .i64 cd) (((w.setCell ⟨gP, 0, none⟩ (.int .i64 p.k)).setCell ⟨gP, 1, none⟩ (.slice An p.ns.length cn)).setCell ⟨gP, 2, none⟩ (.slice Aw p.ws.length cw)) := by
  have b1 := bz.set_ 0 (.int .i64 p.k)
  have b2 := b1.set_ 1 (.slice An p.ns.length cn)
  have b3 := b2.set_ 2 (.slice Aw p.ws.length cw)
  refine ⟨gP, p, An, cn, Aw, cw, cd, rfl, rfl, by simpa using b3, ((hx.setCell (p := ⟨gP, 0, none⟩) hlo _).setCell (p := ⟨gP, 1, none⟩) hlo _).setCell (p := ⟨gP, 2, none⟩) hlo _, ?_⟩
  rcases h with ⟨h0, s, h1, h2, h3, h4⟩ | h
  · exact .inl ⟨h0, s, h1, h2, h3, ((h4.farX bz (by decide) (by decide) _ _).farX b1 (by decide) (by decide) _ _).farX b2 (by decide) (by decide) _ _⟩
  · exact .inr h
/-- The members of the list are covered by a proof. -/
def CovA (wL : World) (m : MachD) (Am : Option Addr) (cm : Nat) (rs : List CfV) (p : ProofD) (An Aw : Option Addr) (cn cw : Nat) : Prop :=
  ∀ (W : World) (k : Nat) (hk : k < rs.length), Ext wL W → Calls Tryz.prog 9 #[.agg #[.int .i64 m.sy, .int .i64 m.st, .slice Am m.rules.length cm], .agg #[.int .i64 p.k, .slice An p.ns.length cn, .slice Aw p.ws.length cw], .agg #[.int .i64 rs[k].c.q, rs[k].lv, rs[k].rv]] W fun e w' => e = .returned (.bool true) ∧ Ext W w'
theorem mem_first {m : MachD} {c : ConfD} {n : Nat} {rs : List CfV} (h : rs.map (·.c) = firstC m c n) {r : CfV} (hr : r ∈ rs) : ∃ i, i < n ∧ r.c = cfgI m c i := by
  have h1 : r.c ∈ rs.map (·.c) := List.mem_map_of_mem hr
  rw [h] at h1
  obtain ⟨i, hi, e⟩ := List.mem_map.1 h1
  exact ⟨i, List.mem_range.1 hi, e.symm⟩
theorem covA_of {wL : World} {m : MachD} {Am : Option Addr} {cm : Nat} {rs : List CfV} {p : ProofD} {An Aw : Option Addr} {cn cw : Nat} {s : SetsD} (hm : machOk m = true) (hr : Rules wL (.slice Am m.rules.length cm) m.rules) (hp : PrfL wL (.agg #[.int .i64 p.k, .slice An p.ns.length cn, .slice Aw p.ws.length cw]) p)
    (h1 : prfOk p = true) (h2 : setsB p = true) (h3 : 4 ≤ p.ns.length) (h4 : setsP p = s) (h5 : SetsOk s) (h6 : GoodL s.n s.l) (h7 : GoodL s.n s.r) (h8 : GoodL (2 * s.n + 2) s.c) (h9 : s.l.length ≤ 1000 ∧ s.r.length ≤ 1000 ∧ s.c.length ≤ 1000)
    (hel : ∀ r ∈ rs, Ints wL r.lv r.c.l ∧ Ints wL r.rv r.c.r) (hc : ∀ r ∈ rs, confB m r.c = true ∧ covX s r.c = true) : CovA wL m Am cm rs p An Aw cn cw := fun W k hk hx => by
  have hmem := List.getElem_mem hk
  have := IsCovered_c (.slice Am m.rules.length cm) rs[k].lv rs[k].rv (.agg #[.int .i64 p.k, .slice An p.ns.length cn, .slice Aw p.ws.length cw]) m p s rs[k].c W (hr.ext hx) hm (hp.ext hx) h1 h2 h3 h4 h5 h6 h7 h8 h9 ((hel _ hmem).1.ext hx) ((hel _ hmem).2.ext hx) (hc _ hmem).1
  rw [(hc _ hmem).2] at this
  exact this
set_option maxRecDepth 20000 in
set_option maxHeartbeats 16000000 in
theorem law20_c (v u : Value) (bs ms : List Int) (w : World) (h : Bytes w v bs) (h' : Bytes w u ms) :
    Calls Tryz.prog 4 #[v, u] w fun e w' => e = .returned (.bool true) ∧ Ext w w' := by
  obtain ⟨Av, cv, rfl, _, _, _⟩ := h.1.form
  obtain ⟨Au, cu, rfl, _, _, _⟩ := h'.1.form
  go_enter Tryz.func4, Tryz.ntmps4
  go_wp2_with fail
  refine (r8Longs_c w Av Au bs.length cv ms.length cu).mono ?_
  rintro e w1 ⟨rfl, rfl⟩
  cases hbig : (decide (1048576 < bs.length) || decide (1048576 < ms.length)) with
  | true =>
    go_wp2
    go_ret
    exact ⟨rfl, Ext.refl _⟩
  | false =>
    clear hbig
    have RM := R8Runner_c _ bs w h
    have HM := Lib.hid h'
    clear h h'
    go_wp2_with fail
    refine RM.mono ?_
    rintro e w2 ⟨⟨m, mv, rfl, hmk, _, oM⟩, hx2⟩
    obtain ⟨Am, cm, rfl, _⟩ := oM.rules.form
    clear RM
    obtain ⟨V, hV⟩ : ∃ V, V = w2.alloc (.cells #[.int .i64 m.sy, .int .i64 m.st, .slice Am m.rules.length cm] 26) := ⟨_, rfl⟩
    obtain ⟨bm, hbm⟩ : ∃ b, w2.heap.size = b := ⟨_, rfl⟩
    have e0 : Ext w2 V := by rw [hV]; exact Ext.alloc _ _
    have bM : Blk V bm 26 #[.int .i64 m.sy, .int .i64 m.st, .slice Am m.rules.length cm] := by rw [hV]; exact Blk.new _ _ _ _ hbm
    obtain ⟨z, hz⟩ : ∃ z, at2 ms = z := ⟨_, rfl⟩
    have hz1 : z ≤ 1 := by rw [← hz]; unfold at2; omega
    obtain ⟨nn, hnn⟩ : ∃ n, 1 + z = n := ⟨_, rfl⟩
    have hwa : IntKind.i64.wrap (1 + (z : Int)) = (nn : Int) := by rw [show 1 + (z : Int) = (nn : Int) by omega]; exact IntWalk.i64_in _ (by omega)
    have hn12 : 1 ≤ nn ∧ nn ≤ 4 := by omega
    have hx0 : Ext w V := hx2.trans e0
    have AT : ∀ W, Ext w W → Calls Tryz.prog 14 #[.slice Au ms.length cu, .int .i64 0, .int .i64 2] W fun e w' => e = .returned (.int .i64 (z : Int)) ∧ W = w' := fun W hW => by have := r8At2_c _ ms W ⟨Row.ext HM.out.1 hW, HM.out.2⟩; rw [hz] at this; exact this
    have FC := fun W (h : Ext V W) => FindContexts_c nn m (.slice Am m.rules.length cm) W ((oM.rules.ext e0).ext h) hmk hn12.1 hn12.2
    have H0 := Lib.hid (And.intro hmk (And.intro (oM.rules.ext e0) (And.intro bM (And.intro hx0 hn12))))
    have m0 := bM.cell 0
    have m1 := bM.cell 1
    have m2 := bM.cell 2
    simp only [List.getElem?_toArray, List.getElem?_cons_zero, List.getElem?_cons_succ] at m0 m1 m2
    have HZ := Lib.hid hz
    clear oM hx2 bM e0 hz hnn hz1
    go_upto_region 4 with fail
    try rw [← hV]
    try rw [hbm]
    clear hV hbm
    go_cut [6, 7] (fun a b wx => FcC V m nn a b wx)
    case first =>
      refine wp_region_ordT 10 (readsT [0, 1] (.fork 2 (readsT [3] (.fork 4 (readsT [5, 6, 7] (.stir 8 (.stir 9 .done))) 8 (.stir 4 (readsT [5, 6, 7] (.stir 9 .done))))) 8 (.stir 2 (readsT [3] (.stir 4 (readsT [5, 6, 7] (.stir 9 .done))))))) (by kernel_rfl) (by kernel_rfl) (fun _ _ _ _ _ h => h) ?_
      simp only [readsT]
      iterate 2 (refine wpOrdT_read (v := ?_) (by rfl) (Or.inl ⟨by rfl, fun x hx => ?_⟩) ?_; rotate_left; (· have am0 := hx.cell ((Ext.drew V).cell m0); have am1 := hx.cell ((Ext.drew V).cell m1); have am2 := hx.cell ((Ext.drew V).cell m2); go_simp; try first | with_reducible rfl); try simp only [Act.put, List.setIfInBounds_toArray, List.set_cons_zero, List.set_cons_succ])
      have hxd : Ext V V.drew := Ext.drew V
      generalize V.drew = wd at *
      have AT0 := AT wd (hx0.trans hxd)
      have FC0 := FC wd hxd
      clear m0 m1 m2
      refine wpOrdT_forks (by rfl) (by rfl) (fun K hK => ?_) (fun K hK => ?_)
      · go_simp
        go_at_call 14
        refine AT0.mono ?_
        rintro e wq ⟨rfl, rfl⟩
        refine hK _ _ _ (fun _ h => h) (Ext.refl _) ?_
        clear hK K AT0
        try simp only [Act.put, List.setIfInBounds_toArray, List.set_cons_zero, List.set_cons_succ]
        iterate 1 (refine wpOrdT_read (v := ?_) (by rfl) (Or.inl ⟨by rfl, fun x hx => ?_⟩) ?_; rotate_left; (· go_simp; try first | with_reducible rfl | (rw [hwa]; try with_reducible rfl)); try simp only [Act.put, List.setIfInBounds_toArray, List.set_cons_zero, List.set_cons_succ])
        refine wpOrdT_forks (by rfl) (by rfl) (fun K hK => ?_) (fun K hK => ?_)
        · go_simp
          go_at_call 13
          refine FC0.mono ?_
          rintro e w3 ⟨hf, hx3⟩
          obtain ⟨p, An, cn, Aw, cw, cd, rfl, hFK⟩ := hf.get hmk hxd.size
          refine hK _ _ _ (fun _ h => h) hx3 ?_
          clear hK K FC0 hf
          try simp only [Act.put, List.setIfInBounds_toArray, List.set_cons_zero, List.set_cons_succ]
          iterate 3 (refine wpOrdT_read (v := ?_) (by rfl) (Or.inl ⟨by rfl, fun x hx => ?_⟩) ?_; rotate_left; (· go_simp; try first | with_reducible rfl); try simp only [Act.put, List.setIfInBounds_toArray, List.set_cons_zero, List.set_cons_succ])
          refine wpOrdT_keep (by rfl) (fun K hK => ?_)
          go_simp
          refine hK _ _ (hx3.trans (Ext.alloc _ _)) ?_
          clear hK K
          try simp only [Act.put, List.setIfInBounds_toArray, List.set_cons_zero, List.set_cons_succ]
          refine wpOrdT_keep (by rfl) (fun K hK => ?_)
          go_simp
          refine hK _ _ (hx3.trans (Ext.alloc _ _)) ?_
          clear hK K
          try simp only [Act.put, List.setIfInBounds_toArray, List.set_cons_zero, List.set_cons_succ]
          refine wpOrdT_done ?_
          try simp only [List.drop_succ_cons, List.drop_zero]
          have HR := Lib.hid (FcC.late (hxd.trans hx3) hFK)
          clear hFK AT FC hx3 hxd
          go_wp2_with fail
          go_meet
          exact HR.out
        · go_simp
          obtain ⟨y1, hy1⟩ : ∃ W', wd.alloc (.cells #[.int .i64 0, .slice none 0 0, .slice none 0 0] 34) = W' := ⟨_, rfl⟩
          obtain ⟨gP, hgP⟩ : ∃ q, wd.heap.size = q := ⟨_, rfl⟩
          have x1 : Ext wd y1 := by rw [← hy1]; exact Ext.alloc _ _
          have bz : Blk y1 gP 34 #[.int .i64 0, .slice none 0 0, .slice none 0 0] := by rw [← hy1]; exact Blk.new _ _ _ _ hgP
          have lg : V.heap.size ≤ gP := by have := hxd.size; omega
          have lgw : wd.heap.size ≤ gP := by omega
          rw [hy1]
          try rw [hgP]
          clear hy1 hgP
          refine hK _ _ _ (fun _ h => h) x1 ?_
          clear hK K
          try simp only [Act.put, List.setIfInBounds_toArray, List.set_cons_zero, List.set_cons_succ]
          refine wpOrdT_keep (by rfl) (fun K hK => ?_)
          go_simp
          go_at_call 13
          refine (FC y1 (hxd.trans x1)).mono ?_
          rintro e w3 ⟨hf, hx3⟩
          obtain ⟨p, An, cn, Aw, cw, cd, rfl, hFK⟩ := hf.get hmk (hxd.trans x1).size
          refine hK _ _ (x1.trans hx3) ?_
          clear hK K hf
          try simp only [Act.put, List.setIfInBounds_toArray, List.set_cons_zero, List.set_cons_succ]
          iterate 3 (refine wpOrdT_read (v := ?_) (by rfl) (Or.inl ⟨by rfl, fun x hx => ?_⟩) ?_; rotate_left; (· go_simp; try first | with_reducible rfl); try simp only [Act.put, List.setIfInBounds_toArray, List.set_cons_zero, List.set_cons_succ])
          have bz3 := bz.ext hx3
          have HR := Lib.hid (FcC.early ((hxd.trans x1).trans hx3) lg bz3 hFK)
          have lgd : wd.heap.size ≤ gP := lgw
          have HS := (((x1.trans hx3).setCell (p := ⟨gP, 0, none⟩) lgd (.int .i64 p.k)).setCell (p := ⟨gP, 1, none⟩) lgd (.slice An p.ns.length cn)).setCell (p := ⟨gP, 2, none⟩) lgd (.slice Aw p.ws.length cw)
          have f0 := bz3.frozen 0
          have z0 := bz3.cell 0
          have f1 := bz3.frozen 1
          have z1 := bz3.cell 1
          have f2 := bz3.frozen 2
          have z2 := bz3.cell 2
          simp only [List.getElem?_toArray, List.getElem?_cons_zero, List.getElem?_cons_succ] at z0 z1 z2
          refine wpOrdT_keep (by rfl) (fun K hK => ?_)
          go_simp
          refine hK _ _ HS ?_
          clear hK K HS hFK AT FC hx3 hxd x1 bz bz3 lg lgw lgd
          try simp only [Act.put, List.setIfInBounds_toArray, List.set_cons_zero, List.set_cons_succ]
          refine wpOrdT_done ?_
          try simp only [List.drop_succ_cons, List.drop_zero]
          go_wp2_with fail
          go_meet
          exact HR.out
      · go_simp
        obtain ⟨y1, hy1⟩ : ∃ W', wd.alloc (.cells #[.int .i64 0, .slice none 0 0, .slice none 0 0] 34) = W' := ⟨_, rfl⟩
        obtain ⟨gP, hgP⟩ : ∃ q, wd.heap.size = q := ⟨_, rfl⟩
        have x1 : Ext wd y1 := by rw [← hy1]; exact Ext.alloc _ _
        have bz : Blk y1 gP 34 #[.int .i64 0, .slice none 0 0, .slice none 0 0] := by rw [← hy1]; exact Blk.new _ _ _ _ hgP
        have lg : V.heap.size ≤ gP := by have := hxd.size; omega
        have lgw : wd.heap.size ≤ gP := by omega
        rw [hy1]
        try rw [hgP]
        clear hy1 hgP
        refine hK _ _ _ (fun _ h => h) x1 ?_
        clear hK K AT0
        try simp only [Act.put, List.setIfInBounds_toArray, List.set_cons_zero, List.set_cons_succ]
        refine wpOrdT_keep (by rfl) (fun K hK => ?_)
        go_simp
        go_at_call 14
        refine (AT y1 (hx0.trans (hxd.trans x1))).mono ?_
        rintro e wq ⟨rfl, rfl⟩
        refine hK _ _ x1 ?_
        clear hK K
        try simp only [Act.put, List.setIfInBounds_toArray, List.set_cons_zero, List.set_cons_succ]
        iterate 1 (refine wpOrdT_read (v := ?_) (by rfl) (Or.inl ⟨by rfl, fun x hx => ?_⟩) ?_; rotate_left; (· go_simp; try first | with_reducible rfl | (rw [hwa]; try with_reducible rfl)); try simp only [Act.put, List.setIfInBounds_toArray, List.set_cons_zero, List.set_cons_succ])

        refine wpOrdT_keep (by rfl) (fun K hK => ?_)
        go_simp
        go_at_call 13
        refine (FC y1 (hxd.trans x1)).mono ?_
        rintro e w3 ⟨hf, hx3⟩
        obtain ⟨p, An, cn, Aw, cw, cd, rfl, hFK⟩ := hf.get hmk (hxd.trans x1).size
        refine hK _ _ (x1.trans hx3) ?_
        clear hK K hf
        try simp only [Act.put, List.setIfInBounds_toArray, List.set_cons_zero, List.set_cons_succ]
        iterate 3 (refine wpOrdT_read (v := ?_) (by rfl) (Or.inl ⟨by rfl, fun x hx => ?_⟩) ?_; rotate_left; (· go_simp; try first | with_reducible rfl); try simp only [Act.put, List.setIfInBounds_toArray, List.set_cons_zero, List.set_cons_succ])
        have bz3 := bz.ext hx3
        have HR := Lib.hid (FcC.early ((hxd.trans x1).trans hx3) lg bz3 hFK)
        have lgd : wd.heap.size ≤ gP := lgw
        have HS := (((x1.trans hx3).setCell (p := ⟨gP, 0, none⟩) lgd (.int .i64 p.k)).setCell (p := ⟨gP, 1, none⟩) lgd (.slice An p.ns.length cn)).setCell (p := ⟨gP, 2, none⟩) lgd (.slice Aw p.ws.length cw)
        have f0 := bz3.frozen 0
        have z0 := bz3.cell 0
        have f1 := bz3.frozen 1
        have z1 := bz3.cell 1
        have f2 := bz3.frozen 2
        have z2 := bz3.cell 2
        simp only [List.getElem?_toArray, List.getElem?_cons_zero, List.getElem?_cons_succ] at z0 z1 z2
        refine wpOrdT_keep (by rfl) (fun K hK => ?_)
        go_simp
        refine hK _ _ HS ?_
        clear hK K HS hFK AT FC hx3 hxd x1 bz bz3 lg lgw lgd
        try simp only [Act.put, List.setIfInBounds_toArray, List.set_cons_zero, List.set_cons_succ]
        refine wpOrdT_done ?_
        try simp only [List.drop_succ_cons, List.drop_zero]
        go_wp2_with fail
        go_meet
        exact HR.out
    case rest =>
      clear m0 m1 m2 AT FC hx0
      obtain ⟨gP, p, An, cn, Aw, cw, cd, rfl, rfl, bP, hxc, hFK⟩ := hcut
      have bMc := H0.out.2.2.1.ext hxc
      have m0 := bMc.cell 0
      have m1 := bMc.cell 1
      have m2 := bMc.cell 2
      simp only [List.getElem?_toArray, List.getElem?_cons_zero, List.getElem?_cons_succ] at m0 m1 m2
      have xd := Ext.drew wc
      have u0 := xd.cell m0
      have u1 := xd.cell m1
      have u2 := xd.cell m2
      have HC := Lib.hid (And.intro bP (And.intro hxc hFK))
      clear bP hxc hFK bMc m0 m1 m2
      have hRW := fun W (h : Ext V W) => H0.out.2.1.ext h
      go_upto_region 5 with fail
      go_wp2_with fail
      refine wp_region_ordT 7 (readsT [0] (.stir 1 (.stir 2 (readsT [3, 4, 5, 6] .done)))) (by kernel_rfl) (by kernel_rfl) (fun _ _ _ _ _ h => h) ?_
      simp only [readsT]
      iterate 1 (refine wpOrdT_read (v := ?_) (by rfl) (Or.inl ⟨by rfl, fun x hx => ?_⟩) ?_; rotate_left; (· have au0 := hx.cell u0; have au1 := hx.cell u1; have au2 := hx.cell u2; go_simp; try first | with_reducible rfl); try simp only [Act.put, List.setIfInBounds_toArray, List.set_cons_zero, List.set_cons_succ])
      refine wpOrdT_keep (by rfl) (fun K hK => ?_)
      go_simp
      go_at_call 10
      refine (r8Blank_c _).mono ?_
      rintro e w5 ⟨u5, v5, rfl, o5, p5, hx5⟩
      have TR : Calls Tryz.prog 15 #[.agg #[.int .i64 m.sy, .int .i64 m.st, .slice Am m.rules.length cm], .agg #[.int .i64 0, u5, v5], .int .i64 25] w5 (TrcOut w5 m blankC 25) := TraceMachine_c w5 m blankC _ u5 v5 25 (by omega) H0.out.1 (conf_blank H0.out.1) (hRW w5 ((HC.out.2.1.trans xd).trans hx5)) o5.ints p5.ints o5.flat p5.flat
      refine hK _ _ hx5 ?_
      clear hK K o5 p5
      refine wpOrdT_keep (by rfl) (fun K hK => ?_)
      go_simp
      go_at_call 15
      refine TR.mono ?_
      rintro e w6 ⟨⟨i, rs, tv, hE, rfl, oT, hel, hMp⟩ | ⟨⟨i, hfl⟩, rfl⟩, hx6⟩
      case inr => exact absurd hfl (not_full (by omega))
      obtain ⟨At, ct, rfl, _⟩ := (ownsRow_row oT).form
      refine hK _ _ (hx5.trans hx6) ?_
      clear hK K TR
      have hxw : Ext wc w6 := xd.trans (hx5.trans hx6)
      have hrl : rs.length = i + 1 := by have := congrArg List.length hMp; rw [List.length_map, firstC_length] at this; exact this
      have bP6 := HC.out.1.ext hxw
      have HX6 := Lib.hid (HC.out.2.1.trans hxw)
      have hFK := HC.out.2.2.ext hxw
      have HL6 : Hid (CfgL w6 (.slice At rs.length ct) rs ∧ (∀ r ∈ rs, Ints w6 r.lv r.c.l ∧ Ints w6 r.rv r.c.r) ∧ rs.map (·.c) = firstC m blankC (i + 1)) := Lib.hid ⟨ownsRow_row oT, fun r hr => ⟨(hel r hr).1.ints, (hel r hr).2.ints⟩, hMp⟩
      clear oT hel hMp hx5 hx6 xd hxw HC u0 u1 u2 hRW
      rcases hFK with ⟨rfl, s, hsn, hF, hlen, PO⟩ | hcd
      · have hi : i = 25 := end_all H0.out.1 hF (by omega) hE
        subst hi
        have hr26 : rs.length = 26 := hrl
        have HR26 := Lib.hid hr26
        rw [hr26]
        obtain ⟨n0, L, R, C⟩ := s
        obtain rfl : n0 = nn := hsn
        have HF := Lib.hid (And.intro hF (And.intro hlen PO))
        have RM2 := R8Runner_c _ ms w6 ⟨Row.ext HM.out.1 (H0.out.2.2.2.1.trans HX6.out), HM.out.2⟩
        have AT : ∀ W, Ext w W → Calls Tryz.prog 14 #[.slice Au ms.length cu, .int .i64 0, .int .i64 2] W fun e w' => e = .returned (.int .i64 (z : Int)) ∧ W = w' := fun W hW => by have := r8At2_c _ ms W ⟨Row.ext HM.out.1 hW, HM.out.2⟩; rw [HZ.out] at this; exact this
        have HBP := Lib.hid bP6
        clear hrl hr26 hF hlen PO hE bP6
        have HI1 : Hid (CovA w6 m Am cm rs p An Aw cn cw) := Lib.hid (covA_of H0.out.1 (H0.out.2.1.ext HX6.out) HF.out.2.2.l HF.out.1.ok HF.out.1.sb HF.out.1.n4 HF.out.1.sp HF.out.1.so HF.out.1.gl HF.out.1.gr HF.out.1.gc HF.out.1.len HL6.out.2.1 (fun r hr => by
          obtain ⟨i, hi, e⟩ := mem_first HL6.out.2.2 hr
          have := cov_all H0.out.1 HF.out.1 i (by omega)
          rw [e]
          exact ⟨this.2.1, this.1⟩))
        have HCK : Hid (∀ W, Ext w6 W → Calls Tryz.prog 8 #[.agg #[.int .i64 m.sy, .int .i64 m.st, .slice Am m.rules.length cm], .agg #[.int .i64 p.k, .slice An p.ns.length cn, .slice Aw p.ws.length cw]] W fun e w' => e = .returned (.bool true) ∧ Ext W w') := Lib.hid (fun W hx => CheckContexts_c (.slice Am m.rules.length cm) (.agg #[.int .i64 p.k, .slice An p.ns.length cn, .slice Aw p.ws.length cw]) m p _ W (H0.out.2.1.ext (HX6.out.trans hx)) H0.out.1 (HF.out.2.2.ext hx).l HF.out.1.ok HF.out.1.sb HF.out.1.n4 HF.out.1.sp HF.out.1.so HF.out.1.si HF.out.1.chk HF.out.1.len)
        iterate 4 (refine wpOrdT_read (v := ?_) (by rfl) (Or.inl ⟨by rfl, fun x hx => ?_⟩) ?_; rotate_left; (· go_simp; try first | with_reducible rfl); try simp only [Act.put, List.setIfInBounds_toArray, List.set_cons_zero, List.set_cons_succ])
        refine wpOrdT_done ?_
        try simp only [List.drop_succ_cons, List.drop_zero]
        go_wp2_with fail
        refine RM2.mono ?_
        rintro e w7 ⟨⟨m2, mv2, rfl, hmk2, _, oM2⟩, hx7⟩
        obtain ⟨A7, c7, rfl, _⟩ := oM2.rules.form
        have AT7 := AT w7 ((H0.out.2.2.2.1.trans HX6.out).trans hx7)
        have FC2 := FindContexts_c n0 m2 (.slice A7 m2.rules.length c7) w7 oM2.rules hmk2 H0.out.2.2.2.2.1 H0.out.2.2.2.2.2
        clear RM2 AT oM2
        go_wp2_with fail
        refine AT7.mono ?_
        rintro e wq ⟨rfl, rfl⟩
        clear AT7
        go_wp2_with fail
        refine FC2.mono ?_
        rintro e w8 ⟨hf, hx8⟩
        obtain ⟨q, Bn, dn, Bw, dw, cd2, rfl, hK2⟩ := hf.get (B := w.heap.size) hmk2 ((H0.out.2.2.2.1.trans HX6.out).trans hx7).size
        clear FC2 hf
        obtain ⟨V9, hV9⟩ : ∃ V, V = w8.alloc (.cells #[.int .i64 q.k, .slice Bn q.ns.length dn, .slice Bw q.ws.length dw] 34) := ⟨_, rfl⟩
        obtain ⟨gQ, hgQ⟩ : ∃ b, w8.heap.size = b := ⟨_, rfl⟩
        obtain ⟨V10, hV10⟩ : ∃ V, V = V9.alloc (.cells #[.int .i64 p.k, .slice An p.ns.length cn, .slice Aw p.ws.length cw] 34) := ⟨_, rfl⟩
        have e9 : Ext w8 V9 := by rw [hV9]; exact Ext.alloc _ _
        have s9 : V9.heap.size = gQ + 1 := by rw [hV9]; simp [hgQ]
        have e10 : Ext V9 V10 := by rw [hV10]; exact Ext.alloc _ _
        have bQ : Blk V10 gQ 34 #[.int .i64 q.k, .slice Bn q.ns.length dn, .slice Bw q.ws.length dw] := by rw [hV10, hV9]; exact (Blk.new _ _ _ _ hgQ).alloc _
        have bB : Blk V10 (gQ + 1) 34 #[.int .i64 p.k, .slice An p.ns.length cn, .slice Aw p.ws.length cw] := by rw [hV10]; exact Blk.new _ _ _ _ s9
        have x6 : Ext w6 V10 := hx7.trans (hx8.trans (e9.trans e10))
        have hlo : w6.heap.size ≤ gQ + 1 := by have := (hx7.trans hx8).size; omega
        have bP9 := HBP.out.ext (hx7.trans (hx8.trans e9))
        have bP10 := HBP.out.ext x6
        have p0 := bP9.cell 0
        have p1 := bP9.cell 1
        have p2 := bP9.cell 2
        simp only [List.getElem?_toArray, List.getElem?_cons_zero, List.getElem?_cons_succ] at p0 p1 p2
        have H10 := Lib.hid (And.intro bQ (And.intro bB (And.intro x6 (And.intro hlo (hK2.ext (e9.trans e10))))))
        clear e9 e10 bQ bB x6 hlo bP9 hx7 hx8 hK2
        go_upto_region 11 with fail
        try rw [← hV9]
        try rw [hgQ]
        clear hV9 hgQ
        go_upto_region 12 with fail
        try rw [← hV10]
        try rw [s9]
        clear hV10 s9 p0 p1 p2
        rcases H10.out.2.2.2.2 with ⟨rfl, t, htn, hF2, hlen2, PO2⟩ | hcd2
        · obtain ⟨n2, L2, R2, C2⟩ := t
          obtain rfl : n2 = n0 := htn
          have hm1 := machOk_five H0.out.1
          have hm2 := machOk_five hmk2
          have kp := HF.out.1.setK HF.out.2.1
          have kq := hF2.setK hlen2
          have MC := MergeContexts_c (.agg #[.int .i64 p.k, .slice An p.ns.length cn, .slice Aw p.ws.length cw]) (.agg #[.int .i64 q.k, .slice Bn q.ns.length dn, .slice Bw q.ws.length dw]) p q n2 L R C L2 R2 C2 V10 (HF.out.2.2.ext H10.out.2.2.1).l PO2.l kp kq
          have bP := bP10
          have bQ := H10.out.1
          have p0 := bP.cell 0
          have p1 := bP.cell 1
          have p2 := bP.cell 2
          have q0 := bQ.cell 0
          have q1 := bQ.cell 1
          have q2 := bQ.cell 2
          simp only [List.getElem?_toArray, List.getElem?_cons_zero, List.getElem?_cons_succ] at p0 p1 p2 q0 q1 q2
          have HKK := Lib.hid (And.intro kp (And.intro kq (And.intro (HF.out.1.si.wide (by omega) (by omega) : SetsIn 6 1000 _) (hF2.si.wide (by omega) (by omega) : SetsIn 6 1000 _))))
          clear kp kq hF2 hlen2 PO2 bP bQ hm1 hm2
          go_upto_region 13 with fail
          go_wp2_with fail
          refine MC.mono ?_
          rintro e w11 ⟨⟨S, hSn, hMr, hchk⟩, hx11⟩
          clear MC p0 p1 p2 q0 q1 q2
          rcases hchk with ⟨hok, uS, rfl, PSO⟩ | ⟨hno, rfl⟩
          · have hG := merged_good HKK.out.1 HKK.out.2.1 HKK.out.2.2.1 HKK.out.2.2.2 hSn hMr hok
            have hsup : ∀ c, covX ⟨n2, L, R, C⟩ c = true → covX S c = true := fun c h => cov_super hSn (fun x hx => (hMr.1.mem x).2 (List.mem_append_right _ hx)) (fun x hx => (hMr.2.1.mem x).2 (List.mem_append_right _ hx)) (fun x hx => (hMr.2.2.mem x).2 (List.mem_append_right _ hx)) h
            obtain ⟨ps, hps⟩ : ∃ q, proofX S = q := ⟨_, rfl⟩
            rw [hps] at hG hok PSO
            obtain ⟨En, en, Ew, ew, rfl, o1, o2⟩ := id PSO
            clear o1 o2 hps hMr hSn
            obtain ⟨V12, hV12⟩ : ∃ V, V = w11.alloc (.cells #[.int .i64 ps.k, .slice En ps.ns.length en, .slice Ew ps.ws.length ew] 34) := ⟨_, rfl⟩
            obtain ⟨gS, hgS⟩ : ∃ b, w11.heap.size = b := ⟨_, rfl⟩
            have e12 : Ext w11 V12 := by rw [hV12]; exact Ext.alloc _ _
            have bS : Blk V12 gS 34 #[.int .i64 ps.k, .slice En ps.ns.length en, .slice Ew ps.ws.length ew] := by rw [hV12]; exact Blk.new _ _ _ _ hgS
            have x12 : Ext V10 V12 := hx11.trans e12
            have bB := H10.out.2.1.ext x12
            have c0 := bS.cell 0
            have c1 := bS.cell 1
            have c2 := bS.cell 2
            have b0 := bB.cell 0
            have b1 := bB.cell 1
            have b2 := bB.cell 2
            have z0 := bB.frozen 0
            have z1 := bB.frozen 1
            have z2 := bB.frozen 2
            simp only [List.getElem?_toArray, List.getElem?_cons_zero, List.getElem?_cons_succ] at c0 c1 c2 b0 b1 b2
            obtain ⟨wL, hwL⟩ : ∃ W, W = ((V12.setCell ⟨gQ + 1, 0, none⟩ (.int .i64 ps.k)).setCell ⟨gQ + 1, 1, none⟩ (.slice En ps.ns.length en)).setCell ⟨gQ + 1, 2, none⟩ (.slice Ew ps.ws.length ew) := ⟨_, rfl⟩
            have hlo := H10.out.2.2.2.1
            have f1 := bB.set_ 0 (.int .i64 ps.k)
            have f2 := f1.set_ 1 (.slice En ps.ns.length en)
            have f3 := f2.set_ 2 (.slice Ew ps.ws.length ew)
            have HX6L : Hid (Ext w6 wL) := Lib.hid (by rw [hwL]; exact (((H10.out.2.2.1.trans x12).setCell (p := ⟨gQ + 1, 0, none⟩) hlo _).setCell (p := ⟨gQ + 1, 1, none⟩) hlo _).setCell (p := ⟨gQ + 1, 2, none⟩) hlo _)
            have HXw := Lib.hid ((H0.out.2.2.2.1.trans HX6.out).trans HX6L.out)
            have HBL : Hid (Blk wL (gQ + 1) 34 #[.int .i64 ps.k, .slice En ps.ns.length en, .slice Ew ps.ws.length ew]) := Lib.hid (by rw [hwL]; simpa using f3)
            have PL : PrfL wL (.agg #[.int .i64 ps.k, .slice En ps.ns.length en, .slice Ew ps.ws.length ew]) ps := by
              have := (((PSO.ext e12).farX bB (by decide) (by decide) 0 (.int .i64 ps.k)).farX f1 (by decide) (by decide) 1 (.slice En ps.ns.length en)).farX f2 (by decide) (by decide) 2 (.slice Ew ps.ws.length ew)
              rw [← hwL] at this
              exact this.l
            have HI2 : Hid (CovA wL m Am cm rs ps En Ew en ew) := Lib.hid (covA_of H0.out.1 (H0.out.2.1.ext (HX6.out.trans HX6L.out)) PL hok hG.2.1 hG.2.2.1 hG.2.2.2.1 hG.1 hG.2.2.2.2.1 hG.2.2.2.2.2.1 hG.2.2.2.2.2.2.1 hG.2.2.2.2.2.2.2 (fun r hr => ⟨(HL6.out.2.1 r hr).1.ext HX6L.out, (HL6.out.2.1 r hr).2.ext HX6L.out⟩) (fun r hr => by
              obtain ⟨i, hi, e⟩ := mem_first HL6.out.2.2 hr
              have := cov_all H0.out.1 HF.out.1 i (by omega)
              rw [e]
              exact ⟨this.2.1, hsup _ this.1⟩))
            clear hG hsup PSO PL f1 f2 f3 bS bB e12 hx11 x12 hok hlo bP10
            go_upto_region 14 with fail
            try rw [← hV12]
            try rw [hgS]
            clear hV12 hgS
            go_upto_region 18 with fail
            try rw [← hwL]
            clear hwL c0 c1 c2 b0 b1 b2 z0 z1 z2
            go_wp2
            go_loopw [15] (fun i wr => ∃ k : Nat, k ≤ 26 ∧ i = .int .i64 (k : Int) ∧ Hid (Ext wL wr)) (fun i _ => 26 - (intOf i).toNat)
            case atStart => exact ⟨0, by omega, rfl, Lib.hid (Ext.refl _)⟩
            case round =>
              obtain ⟨k, hk, rfl, HXr⟩ := hrel
              have x6r := HX6L.out.trans HXr.out
              have bM := H0.out.2.2.1.ext (HX6.out.trans x6r)
              have bP := HBP.out.ext x6r
              have m0 := bM.cell 0
              have m1 := bM.cell 1
              have m2 := bM.cell 2
              have p0 := bP.cell 0
              have p1 := bP.cell 1
              have p2 := bP.cell 2
              simp only [List.getElem?_toArray, List.getElem?_cons_zero, List.getElem?_cons_succ] at m0 m1 m2 p0 p1 p2
              by_cases hlt : k < 26
              · have hd : decide ((k : Int) < 26) = true := decide_eq_true (by omega)
                have hd' : (k : Int) < 26 := by omega
                have hwk : IntKind.i64.wrap ((k : Int) + 1) = ((k + 1 : Nat) : Int) := by rw [show (k : Int) + 1 = ((k + 1 : Nat) : Int) by omega]; exact IntWalk.i64_in _ (by omega)
                have hkr : k < rs.length := by rw [HR26.out]; exact hlt
                have bB := HBL.out.ext HXr.out
                have b0 := bB.cell 0
                have b1 := bB.cell 1
                have b2 := bB.cell 2
                simp only [List.getElem?_toArray, List.getElem?_cons_zero, List.getElem?_cons_succ] at b0 b1 b2
                obtain ⟨lb, lo, hAt, hcl⟩ := CfgL.at (HL6.out.1.ext x6r) hkr
                subst hAt
                obtain ⟨y0, y1, y2⟩ := hcl k hkr
                have xd := Ext.drew wr
                have IC1 := HI1.out wr.drew k hkr (x6r.trans xd)
                have IC2 := fun W (h : Ext wr.drew W) => HI2.out W k hkr ((HXr.out.trans xd).trans h)
                obtain ⟨r, hr⟩ : ∃ r, rs[k] = r := ⟨_, rfl⟩
                rw [hr] at y0 y1 y2 IC1 IC2
                obtain ⟨CK, lk, rk⟩ := r
                simp only at y0 y1 y2 IC1 IC2
                replace y0 := xd.cell y0
                replace y1 := xd.cell y1
                replace y2 := xd.cell y2
                replace m0 := xd.cell m0
                replace m1 := xd.cell m1
                replace m2 := xd.cell m2
                replace p0 := xd.cell p0
                replace p1 := xd.cell p1
                replace p2 := xd.cell p2
                replace b0 := xd.cell b0
                replace b1 := xd.cell b1
                replace b2 := xd.cell b2
                clear hcl hr bM bP bB x6r
                have HCT := Lib.hid hlt
                go_wp2_with fail
                refine wp_region_ordT 17 (readsT [0, 1, 2, 3, 4, 5] (.stir 6 (readsT [7, 8, 9, 10, 11, 12, 13, 14] (.stir 15 (readsT [16] .done))))) (by kernel_rfl) (by kernel_rfl) (fun _ _ _ _ _ h => h) ?_
                simp only [readsT]
                iterate 6 (refine wpOrdT_read (v := ?_) (by rfl) (Or.inl ⟨by rfl, fun x hx => ?_⟩) ?_; rotate_left; (· have am0 := hx.cell m0; have am1 := hx.cell m1; have am2 := hx.cell m2; have ap0 := hx.cell p0; have ap1 := hx.cell p1; have ap2 := hx.cell p2; have ay0 := hx.cell y0; have ay1 := hx.cell y1; have ay2 := hx.cell y2; go_simp; try first | with_reducible rfl); try simp only [Act.put, List.setIfInBounds_toArray, List.set_cons_zero, List.set_cons_succ])
                refine wpOrdT_keep (by rfl) (fun K hK => ?_)
                go_simp
                go_at_call 9
                refine IC1.mono ?_
                rintro e w20 ⟨rfl, hx20⟩
                refine hK _ _ hx20 ?_
                clear hK K IC1
                iterate 8 (refine wpOrdT_read (v := ?_) (by rfl) (Or.inl ⟨by rfl, fun x hx => ?_⟩) ?_; rotate_left; (· have am0 := hx.cell m0; have am1 := hx.cell m1; have am2 := hx.cell m2; have ab0 := hx.cell b0; have ab1 := hx.cell b1; have ab2 := hx.cell b2; have ay0 := hx.cell y0; have ay1 := hx.cell y1; have ay2 := hx.cell y2; go_simp; try first | with_reducible rfl); try simp only [Act.put, List.setIfInBounds_toArray, List.set_cons_zero, List.set_cons_succ])
                refine wpOrdT_keep (by rfl) (fun K hK => ?_)
                go_simp
                go_at_call 9
                refine (IC2 w20 hx20).mono ?_
                rintro e w21 ⟨rfl, hx21⟩
                refine hK _ _ (hx20.trans hx21) ?_
                clear hK K IC2
                iterate 1 (refine wpOrdT_read (v := ?_) (by rfl) (Or.inl ⟨by rfl, fun x hx => ?_⟩) ?_; rotate_left; (· go_simp; try first | with_reducible rfl); try simp only [Act.put, List.setIfInBounds_toArray, List.set_cons_zero, List.set_cons_succ])
                refine wpOrdT_done ?_
                try simp only [List.drop_succ_cons, List.drop_zero]
                have HXN := Lib.hid (HXr.out.trans (xd.trans (hx20.trans hx21)))
                clear hx20 hx21 xd m0 m1 m2 p0 p1 p2 b0 b1 b2 y0 y1 y2
                go_wp2
                go_roundw
                case rel => exact ⟨k + 1, by omega, by go_num, HXN⟩
                case measure => simp [intOf]; omega
              · have hd : decide ((k : Int) < 26) = false := decide_eq_false (by omega)
                have hd' : ¬ (k : Int) < 26 := by omega
                have CKr := HCK.out wr x6r
                have HXF := Lib.hid (HXw.out.trans HXr.out)
                clear bM bP x6r
                go_wp2_with fail
                refine CKr.mono ?_
                rintro e w22 ⟨rfl, hx22⟩
                clear CKr m0 m1 m2 p0 p1 p2
                have HX22 := Lib.hid hx22
                clear hx22
                go_wp2
                go_ret
                exact ⟨rfl, HXF.out.trans HX22.out⟩
          · obtain ⟨wL, hwL⟩ : ∃ W, W = w11.alloc (.cells #[.int .i64 0, .slice none 0 0, .slice none 0 0] 34) := ⟨_, rfl⟩
            have e12 : Ext w11 wL := by rw [hwL]; exact Ext.alloc _ _
            have HX6L : Hid (Ext w6 wL) := Lib.hid (H10.out.2.2.1.trans (hx11.trans e12))
            have HXw := Lib.hid ((H0.out.2.2.2.1.trans HX6.out).trans HX6L.out)
            have HBL : Hid (Blk wL (gQ + 1) 34 #[.int .i64 p.k, .slice An p.ns.length cn, .slice Aw p.ws.length cw]) := Lib.hid (H10.out.2.1.ext (hx11.trans e12))
            have HI2 : Hid (CovA wL m Am cm rs p An Aw cn cw) := Lib.hid (fun W k hk hx => HI1.out W k hk (HX6L.out.trans hx))
            clear e12 hx11 hno hMr hSn bP10
            go_upto_region 14 with fail
            try rw [← hwL]
            clear hwL
            go_upto_region 18 with fail
            go_wp2
            go_loopw [15] (fun i wr => ∃ k : Nat, k ≤ 26 ∧ i = .int .i64 (k : Int) ∧ Hid (Ext wL wr)) (fun i _ => 26 - (intOf i).toNat)
            case atStart => exact ⟨0, by omega, rfl, Lib.hid (Ext.refl _)⟩
            case round =>
              obtain ⟨k, hk, rfl, HXr⟩ := hrel
              have x6r := HX6L.out.trans HXr.out
              have bM := H0.out.2.2.1.ext (HX6.out.trans x6r)
              have bP := HBP.out.ext x6r
              have m0 := bM.cell 0
              have m1 := bM.cell 1
              have m2 := bM.cell 2
              have p0 := bP.cell 0
              have p1 := bP.cell 1
              have p2 := bP.cell 2
              simp only [List.getElem?_toArray, List.getElem?_cons_zero, List.getElem?_cons_succ] at m0 m1 m2 p0 p1 p2
              by_cases hlt : k < 26
              · have hd : decide ((k : Int) < 26) = true := decide_eq_true (by omega)
                have hd' : (k : Int) < 26 := by omega
                have hwk : IntKind.i64.wrap ((k : Int) + 1) = ((k + 1 : Nat) : Int) := by rw [show (k : Int) + 1 = ((k + 1 : Nat) : Int) by omega]; exact IntWalk.i64_in _ (by omega)
                have hkr : k < rs.length := by rw [HR26.out]; exact hlt
                have bB := HBL.out.ext HXr.out
                have b0 := bB.cell 0
                have b1 := bB.cell 1
                have b2 := bB.cell 2
                simp only [List.getElem?_toArray, List.getElem?_cons_zero, List.getElem?_cons_succ] at b0 b1 b2
                obtain ⟨lb, lo, hAt, hcl⟩ := CfgL.at (HL6.out.1.ext x6r) hkr
                subst hAt
                obtain ⟨y0, y1, y2⟩ := hcl k hkr
                have xd := Ext.drew wr
                have IC1 := HI1.out wr.drew k hkr (x6r.trans xd)
                have IC2 := fun W (h : Ext wr.drew W) => HI2.out W k hkr ((HXr.out.trans xd).trans h)
                obtain ⟨r, hr⟩ : ∃ r, rs[k] = r := ⟨_, rfl⟩
                rw [hr] at y0 y1 y2 IC1 IC2
                obtain ⟨CK, lk, rk⟩ := r
                simp only at y0 y1 y2 IC1 IC2
                replace y0 := xd.cell y0
                replace y1 := xd.cell y1
                replace y2 := xd.cell y2
                replace m0 := xd.cell m0
                replace m1 := xd.cell m1
                replace m2 := xd.cell m2
                replace p0 := xd.cell p0
                replace p1 := xd.cell p1
                replace p2 := xd.cell p2
                replace b0 := xd.cell b0
                replace b1 := xd.cell b1
                replace b2 := xd.cell b2
                clear hcl hr bM bP bB x6r
                have HCT := Lib.hid hlt
                go_wp2_with fail
                refine wp_region_ordT 17 (readsT [0, 1, 2, 3, 4, 5] (.stir 6 (readsT [7, 8, 9, 10, 11, 12, 13, 14] (.stir 15 (readsT [16] .done))))) (by kernel_rfl) (by kernel_rfl) (fun _ _ _ _ _ h => h) ?_
                simp only [readsT]
                iterate 6 (refine wpOrdT_read (v := ?_) (by rfl) (Or.inl ⟨by rfl, fun x hx => ?_⟩) ?_; rotate_left; (· have am0 := hx.cell m0; have am1 := hx.cell m1; have am2 := hx.cell m2; have ap0 := hx.cell p0; have ap1 := hx.cell p1; have ap2 := hx.cell p2; have ay0 := hx.cell y0; have ay1 := hx.cell y1; have ay2 := hx.cell y2; go_simp; try first | with_reducible rfl); try simp only [Act.put, List.setIfInBounds_toArray, List.set_cons_zero, List.set_cons_succ])
                refine wpOrdT_keep (by rfl) (fun K hK => ?_)
                go_simp
                go_at_call 9
                refine IC1.mono ?_
                rintro e w20 ⟨rfl, hx20⟩
                refine hK _ _ hx20 ?_
                clear hK K IC1
                iterate 8 (refine wpOrdT_read (v := ?_) (by rfl) (Or.inl ⟨by rfl, fun x hx => ?_⟩) ?_; rotate_left; (· have am0 := hx.cell m0; have am1 := hx.cell m1; have am2 := hx.cell m2; have ab0 := hx.cell b0; have ab1 := hx.cell b1; have ab2 := hx.cell b2; have ay0 := hx.cell y0; have ay1 := hx.cell y1; have ay2 := hx.cell y2; go_simp; try first | with_reducible rfl); try simp only [Act.put, List.setIfInBounds_toArray, List.set_cons_zero, List.set_cons_succ])
                refine wpOrdT_keep (by rfl) (fun K hK => ?_)
                go_simp
                go_at_call 9
                refine (IC2 w20 hx20).mono ?_
                rintro e w21 ⟨rfl, hx21⟩
                refine hK _ _ (hx20.trans hx21) ?_
                clear hK K IC2
                iterate 1 (refine wpOrdT_read (v := ?_) (by rfl) (Or.inl ⟨by rfl, fun x hx => ?_⟩) ?_; rotate_left; (· go_simp; try first | with_reducible rfl); try simp only [Act.put, List.setIfInBounds_toArray, List.set_cons_zero, List.set_cons_succ])
                refine wpOrdT_done ?_
                try simp only [List.drop_succ_cons, List.drop_zero]
                have HXN := Lib.hid (HXr.out.trans (xd.trans (hx20.trans hx21)))
                clear hx20 hx21 xd m0 m1 m2 p0 p1 p2 b0 b1 b2 y0 y1 y2
                go_wp2
                go_roundw
                case rel => exact ⟨k + 1, by omega, by go_num, HXN⟩
                case measure => simp [intOf]; omega
              · have hd : decide ((k : Int) < 26) = false := decide_eq_false (by omega)
                have hd' : ¬ (k : Int) < 26 := by omega
                have CKr := HCK.out wr x6r
                have HXF := Lib.hid (HXw.out.trans HXr.out)
                clear bM bP x6r
                go_wp2_with fail
                refine CKr.mono ?_
                rintro e w22 ⟨rfl, hx22⟩
                clear CKr m0 m1 m2 p0 p1 p2
                have HX22 := Lib.hid hx22
                clear hx22
                go_wp2
                go_ret
                exact ⟨rfl, HXF.out.trans HX22.out⟩
        · have hc0 : (cd2 == 0) = false := by rcases hcd2 with h | h <;> subst h <;> rfl
          have hc1 : ¬ cd2 = 0 := by rcases hcd2 with h | h <;> omega
          obtain ⟨wL, hwL⟩ : ∃ W, W = V10 := ⟨_, rfl⟩
          have HX6L : Hid (Ext w6 wL) := Lib.hid (by rw [hwL]; exact H10.out.2.2.1)
          have HXw := Lib.hid ((H0.out.2.2.2.1.trans HX6.out).trans HX6L.out)
          have HBL : Hid (Blk wL (gQ + 1) 34 #[.int .i64 p.k, .slice An p.ns.length cn, .slice Aw p.ws.length cw]) := Lib.hid (by rw [hwL]; exact H10.out.2.1)
          have HI2 : Hid (CovA wL m Am cm rs p An Aw cn cw) := Lib.hid (fun W k hk hx => HI1.out W k hk (HX6L.out.trans hx))
          rw [← hwL]
          clear hwL hcd2 bP10
          go_upto_region 18 with fail
          go_wp2
          go_loopw [15] (fun i wr => ∃ k : Nat, k ≤ 26 ∧ i = .int .i64 (k : Int) ∧ Hid (Ext wL wr)) (fun i _ => 26 - (intOf i).toNat)
          case atStart => exact ⟨0, by omega, rfl, Lib.hid (Ext.refl _)⟩
          case round =>
            obtain ⟨k, hk, rfl, HXr⟩ := hrel
            have x6r := HX6L.out.trans HXr.out
            have bM := H0.out.2.2.1.ext (HX6.out.trans x6r)
            have bP := HBP.out.ext x6r
            have m0 := bM.cell 0
            have m1 := bM.cell 1
            have m2 := bM.cell 2
            have p0 := bP.cell 0
            have p1 := bP.cell 1
            have p2 := bP.cell 2
            simp only [List.getElem?_toArray, List.getElem?_cons_zero, List.getElem?_cons_succ] at m0 m1 m2 p0 p1 p2
            by_cases hlt : k < 26
            · have hd : decide ((k : Int) < 26) = true := decide_eq_true (by omega)
              have hd' : (k : Int) < 26 := by omega
              have hwk : IntKind.i64.wrap ((k : Int) + 1) = ((k + 1 : Nat) : Int) := by rw [show (k : Int) + 1 = ((k + 1 : Nat) : Int) by omega]; exact IntWalk.i64_in _ (by omega)
              have hkr : k < rs.length := by rw [HR26.out]; exact hlt
              have bB := HBL.out.ext HXr.out
              have b0 := bB.cell 0
              have b1 := bB.cell 1
              have b2 := bB.cell 2
              simp only [List.getElem?_toArray, List.getElem?_cons_zero, List.getElem?_cons_succ] at b0 b1 b2
              obtain ⟨lb, lo, hAt, hcl⟩ := CfgL.at (HL6.out.1.ext x6r) hkr
              subst hAt
              obtain ⟨y0, y1, y2⟩ := hcl k hkr
              have xd := Ext.drew wr
              have IC1 := HI1.out wr.drew k hkr (x6r.trans xd)
              have IC2 := fun W (h : Ext wr.drew W) => HI2.out W k hkr ((HXr.out.trans xd).trans h)
              obtain ⟨r, hr⟩ : ∃ r, rs[k] = r := ⟨_, rfl⟩
              rw [hr] at y0 y1 y2 IC1 IC2
              obtain ⟨CK, lk, rk⟩ := r
              simp only at y0 y1 y2 IC1 IC2
              replace y0 := xd.cell y0
              replace y1 := xd.cell y1
              replace y2 := xd.cell y2
              replace m0 := xd.cell m0
              replace m1 := xd.cell m1
              replace m2 := xd.cell m2
              replace p0 := xd.cell p0
              replace p1 := xd.cell p1
              replace p2 := xd.cell p2
              replace b0 := xd.cell b0
              replace b1 := xd.cell b1
              replace b2 := xd.cell b2
              clear hcl hr bM bP bB x6r
              have HCT := Lib.hid hlt
              go_wp2_with fail
              refine wp_region_ordT 17 (readsT [0, 1, 2, 3, 4, 5] (.stir 6 (readsT [7, 8, 9, 10, 11, 12, 13, 14] (.stir 15 (readsT [16] .done))))) (by kernel_rfl) (by kernel_rfl) (fun _ _ _ _ _ h => h) ?_
              simp only [readsT]
              iterate 6 (refine wpOrdT_read (v := ?_) (by rfl) (Or.inl ⟨by rfl, fun x hx => ?_⟩) ?_; rotate_left; (· have am0 := hx.cell m0; have am1 := hx.cell m1; have am2 := hx.cell m2; have ap0 := hx.cell p0; have ap1 := hx.cell p1; have ap2 := hx.cell p2; have ay0 := hx.cell y0; have ay1 := hx.cell y1; have ay2 := hx.cell y2; go_simp; try first | with_reducible rfl); try simp only [Act.put, List.setIfInBounds_toArray, List.set_cons_zero, List.set_cons_succ])
              refine wpOrdT_keep (by rfl) (fun K hK => ?_)
              go_simp
              go_at_call 9
              refine IC1.mono ?_
              rintro e w20 ⟨rfl, hx20⟩
              refine hK _ _ hx20 ?_
              clear hK K IC1
              iterate 8 (refine wpOrdT_read (v := ?_) (by rfl) (Or.inl ⟨by rfl, fun x hx => ?_⟩) ?_; rotate_left; (· have am0 := hx.cell m0; have am1 := hx.cell m1; have am2 := hx.cell m2; have ab0 := hx.cell b0; have ab1 := hx.cell b1; have ab2 := hx.cell b2; have ay0 := hx.cell y0; have ay1 := hx.cell y1; have ay2 := hx.cell y2; go_simp; try first | with_reducible rfl); try simp only [Act.put, List.setIfInBounds_toArray, List.set_cons_zero, List.set_cons_succ])
              refine wpOrdT_keep (by rfl) (fun K hK => ?_)
              go_simp
              go_at_call 9
              refine (IC2 w20 hx20).mono ?_
              rintro e w21 ⟨rfl, hx21⟩
              refine hK _ _ (hx20.trans hx21) ?_
              clear hK K IC2
              iterate 1 (refine wpOrdT_read (v := ?_) (by rfl) (Or.inl ⟨by rfl, fun x hx => ?_⟩) ?_; rotate_left; (· go_simp; try first | with_reducible rfl); try simp only [Act.put, List.setIfInBounds_toArray, List.set_cons_zero, List.set_cons_succ])
              refine wpOrdT_done ?_
              try simp only [List.drop_succ_cons, List.drop_zero]
              have HXN := Lib.hid (HXr.out.trans (xd.trans (hx20.trans hx21)))
              clear hx20 hx21 xd m0 m1 m2 p0 p1 p2 b0 b1 b2 y0 y1 y2
              go_wp2
              go_roundw
              case rel => exact ⟨k + 1, by omega, by go_num, HXN⟩
              case measure => simp [intOf]; omega
            · have hd : decide ((k : Int) < 26) = false := decide_eq_false (by omega)
              have hd' : ¬ (k : Int) < 26 := by omega
              have CKr := HCK.out wr x6r
              have HXF := Lib.hid (HXw.out.trans HXr.out)
              clear bM bP x6r
              go_wp2_with fail
              refine CKr.mono ?_
              rintro e w22 ⟨rfl, hx22⟩
              clear CKr m0 m1 m2 p0 p1 p2
              have HX22 := Lib.hid hx22
              clear hx22
              go_wp2
              go_ret
              exact ⟨rfl, HXF.out.trans HX22.out⟩
      · have hr0 : ((rs.length : Int) == 0) = false := by rw [hrl]; simp; omega
        have hr1 : ¬ rs.length = 0 := by omega
        have HX := Lib.hid (H0.out.2.2.2.1.trans HX6.out)
        clear hrl hE bP6
        generalize rs.length = rl at *
        rcases hcd with rfl | rfl
        all_goals
          iterate 4 (refine wpOrdT_read (v := ?_) (by rfl) (Or.inl ⟨by rfl, fun x hx => ?_⟩) ?_; rotate_left; (· go_simp; try first | with_reducible rfl); try simp only [Act.put, List.setIfInBounds_toArray, List.set_cons_zero, List.set_cons_succ])
          refine wpOrdT_done ?_
          try simp only [List.drop_succ_cons, List.drop_zero]
          go_wp2
          go_ret
          exact ⟨rfl, HX.out.trans (Ext.refl _)⟩
end Go.Proofs.YtapjofbjedpmgaaGreat
end
section
namespace Go.Proofs.YtapjofbjedpmgaaGreat
open Go Go.RowKit Go.ChangeShapes Go.WideShapes Go.ChangeAt Go.Deep Go.Joins
theorem own20 : ownKnob Tryz.prog.godebug = none := by kernel_rfl
theorem laidOut20 : laidOutB Tryz.prog = true := by kernel_rfl
set_option maxRecDepth 100000 in
theorem lifted20 (os : Os) (started : os.Started) (H : Type) (enc : TypeId × Value → H) :
    ReturnsInHanded {} Tryz.checked os 4 .any (Rows.fnCoveredSpec.pre6 enc Tryz.prog Tryz.f4 Rows.fnCoveredRow.domain false) (Rows.fnCoveredSpec.post enc Tryz.prog Tryz.f4 false true false false) := by
  refine returnsInHanded_of_change (C := Tryz.checked) own20 started (by kernel_rfl) Tryz.func4
    (ChangeSpec.witness6 (enc := enc) (C := Tryz.checked) false ⟨#[], #[.slice none 0 0, .slice none 0 0], []⟩ 8 (by kernel_rfl) (by kernel_rfl) (by kernel_rfl) (by kernel_rfl)) ?_
  intro W base args ds gs before hval0 hW hcnd _
  have hval : ∀ (j : Nat) t v, Tryz.f4.params[j]? = some t → args[j]? = some v → Value.okWide Tryz.prog W .any base t v := hval0
  have hW' := hW
  obtain ⟨p, q, hA0, hV, rfl, hfz, hnd⟩ := hW
  have hA : DataW.TrodAll enc Tryz.prog W 0 (fun _ => true) true Tryz.f4.params.toList args.toList ds p := hA0
  rw [Tryz.params4] at hA hval
  obtain ⟨v0, v1, d0, d1, p0, p1, hargs, rfl, rfl, h0, h1⟩ := trodAll_two hA
  obtain ⟨bs, hb0⟩ := open_bytesT (hval 0 _ v0 rfl (by rw [hargs]; rfl)) h0
  obtain ⟨ms, hb1⟩ := open_bytesT (hval 1 _ v1 rfl (by rw [hargs]; rfl)) h1
  subst hargs
  refine (law20_c v0 v1 bs ms W hb0 hb1).mono fun e W' ⟨he, hb⟩ => ?_
  subst he
  exact ⟨_, rfl, law_post laidOut20 (by kernel_rfl) (by kernel_rfl) Tryz.underlying4 rfl (fun ds hd => by
      match ds, hd.trans (show Tryz.f4.params.size = 2 by kernel_rfl) with
      | [d0, d1], _ => rfl) hW' hb⟩
theorem covered_holds : Rows.FnCoveredSaid :=
  OpenClaim.holds_of_wide 4 Tryz.f4 rfl rfl rfl rfl rfl rfl rfl ⟨rfl, rfl, rfl, rfl, rfl⟩ rfl rfl rfl rfl rfl (by kernel_rfl) Tryz.func4 (by kernel_rfl)
    (of_decide_eq_true (by kernel_rfl)) (by unfold Func.isWrapper; first | (rw [if_pos (by decide +kernel)]; kernel_rfl) | (rw [if_neg (by decide +kernel)]; exact ⟨rfl, rfl⟩))
    (fun os started H enc _ => lifted20 os started H enc)
#print axioms covered_holds
end Go.Proofs.YtapjofbjedpmgaaGreat
end
