/- Contracts: whether the parts of a proof by contexts are rising; whether they fit a machine.
Contracts: whether the parts of a proof by contexts fit a machine. Written by mkctv.py.
Contract: the parts of a proof by contexts, where it has some. -/
import Derived.Test.YtapjofbjedpmgaaGreatC39
import Derived.Test.YtapjofbjedpmgaaGreatC18
import Derived.Test.YtapjofbjedpmgaaGreatC20
import Derived.Test.YtapjofbjedpmgaaGreatC21
import Derived.Test.YtapjofbjedpmgaaGreatC07
import Derived.Test.YtapjofbjedpmgaaGreatC16
section
set_option linter.unusedSimpArgs false
set_option linter.unusedVariables false
namespace Go.Proofs.YtapjofbjedpmgaaGreat
open Go Go.RowKit Go.Proofs
set_option maxHeartbeats 400000
/-- The parts in memory. -/
def SetsV (w : World) (v : Value) (s : SetsD) : Prop := ∃ lv rv cv, v = .agg #[.int .i64 (s.n : Int), lv, rv, cv] ∧ Lists w lv s.l ∧ Lists w rv s.r ∧ Lists w cv s.c
theorem SetsV.ext {w w' : World} {v : Value} {s : SetsD} (h : SetsV w v s) (he : Ext w w') : SetsV w' v s := by
  obtain ⟨lv, rv, cv, e, a, b, c⟩ := h
  exact ⟨lv, rv, cv, e, a.ext he, b.ext he, c.ext he⟩
/-- The same, in blocks of their own. -/
def SetsO (base : Nat) (w : World) (v : Value) (s : SetsD) : Prop := ∃ Al cl Ar cr Ac cc, v = .agg #[.int .i64 (s.n : Int), .slice Al s.l.length cl, .slice Ar s.r.length cr, .slice Ac s.c.length cc] ∧ OwnLists base w (.slice Al s.l.length cl) s.l ∧ OwnLists base w (.slice Ar s.r.length cr) s.r ∧ OwnLists base w (.slice Ac s.c.length cc) s.c
theorem SetsO.v {base : Nat} {w : World} {v : Value} {s : SetsD} (h : SetsO base w v s) : SetsV w v s := by
  obtain ⟨Al, cl, Ar, cr, Ac, cc, e, a, b, c⟩ := h
  exact ⟨_, _, _, e, a.lists, b.lists, c.lists⟩
theorem SetsO.ext {base : Nat} {w w' : World} {v : Value} {s : SetsD} (h : SetsO base w v s) (he : Ext w w') : SetsO base w' v s := by
  obtain ⟨Al, cl, Ar, cr, Ac, cc, e, a, b, c⟩ := h
  exact ⟨Al, cl, Ar, cr, Ac, cc, e, a.ext he, b.ext he, c.ext he⟩
set_option maxRecDepth 20000 in
set_option maxHeartbeats 2000000 in
theorem increasing_c (v : Value) (s : SetsD) (w : World) (h : SetsV w v s) :
    Calls Tryz.prog 90 #[v] w fun e w' => e = .returned (.bool (incB s)) ∧ Ext w w' := by
  obtain ⟨lv, rv, cv, rfl, hl, hr, hc⟩ := h
  obtain ⟨Al, cl, rfl, _, _⟩ := id hl.form
  obtain ⟨Ar, cr, rfl, _, _⟩ := id hr.form
  obtain ⟨Ac, cc, rfl, _, _⟩ := id hc.form
  obtain ⟨W, hW⟩ : ∃ W, W = w.alloc (.cells #[.int .i64 (s.n : Int), .slice Al s.l.length cl, .slice Ar s.r.length cr, .slice Ac s.c.length cc] 58) := ⟨_, rfl⟩
  obtain ⟨g, hg⟩ : ∃ g, w.heap.size = g := ⟨_, rfl⟩
  have hX : Ext w W := by rw [hW]; exact Ext.alloc _ _
  have bS : Blk W g 58 #[.int .i64 (s.n : Int), .slice Al s.l.length cl, .slice Ar s.r.length cr, .slice Ac s.c.length cc] := by rw [hW]; exact Blk.new _ _ _ _ hg
  have C1 := risingLists_c _ s.l W (hl.ext hX)
  obtain ⟨a, ha⟩ : ∃ a, riseB s.l = a := ⟨_, rfl⟩
  rw [ha] at C1
  obtain ⟨b, hb⟩ : ∃ a, riseB s.r = a := ⟨_, rfl⟩
  obtain ⟨d, hd⟩ : ∃ a, riseB s.c = a := ⟨_, rfl⟩
  have HE : Hid (incB s = (a && b && d)) := Lib.hid (by unfold incB; rw [ha, hb, hd])
  have HX := Lib.hid (And.intro hX bS)
  have q1 := bS.cell 1
  have q2 := bS.cell 2
  have q3 := bS.cell 3
  simp only [List.getElem?_toArray, List.getElem?_cons_zero, List.getElem?_cons_succ] at q1 q2 q3
  clear hX bS ha
  go_enter Tryz.func90, Tryz.ntmps90
  go_wp2_with fail
  try rw [← hW]
  try rw [hg]
  clear hW hg
  refine C1.mono ?_
  rintro e w1 ⟨rfl, hx1⟩
  clear C1
  have q1 := hx1.cell q1
  have q2 := hx1.cell q2
  have q3 := hx1.cell q3
  cases a with
  | false =>
    go_wp2
    go_ret
    exact ⟨by rw [HE.out]; rfl, HX.out.1.trans hx1⟩
  | true =>
    have C2 := risingLists_c _ s.r w1 (hr.ext (HX.out.1.trans hx1))
    rw [hb] at C2
    clear hb
    go_wp2_with fail
    refine C2.mono ?_
    rintro e w2 ⟨rfl, hx2⟩
    clear C2
    have q3 := hx2.cell q3
    cases b with
    | false =>
      go_wp2
      go_ret
      exact ⟨by rw [HE.out]; rfl, (HX.out.1.trans hx1).trans hx2⟩
    | true =>
      have C3 := risingLists_c _ s.c w2 (hc.ext ((HX.out.1.trans hx1).trans hx2))
      rw [hd] at C3
      clear hd
      go_wp2_with fail
      refine C3.mono ?_
      rintro e w3 ⟨rfl, hx3⟩
      clear C3
      go_wp2
      go_ret
      exact ⟨by rw [HE.out]; cases d <;> rfl, ((HX.out.1.trans hx1).trans hx2).trans hx3⟩
end Go.Proofs.YtapjofbjedpmgaaGreat
end
section
set_option linter.unusedSimpArgs false
set_option linter.unusedVariables false
namespace Go.Proofs.YtapjofbjedpmgaaGreat
open Go Go.RowKit Go.Proofs
set_option maxHeartbeats 400000
/-- What is asked of the closure. -/
def AnsC3 (w : World) (gm : Nat) (p : List Int → Bool) (xss : List (List Int)) : Prop := ∀ (W : World) (u : Value) (x : List Int), Ext w W → Ints W u x → Flat u → x ∈ xss → Calls Tryz.prog 64 (#[u] ++ #[.pointer (some ⟨gm, 0, none⟩)]) W fun e W' => e = .returned (.bool (p x)) ∧ Ext W W'
theorem indexC3_c (gm : Nat) (v : Value) (xss : List (List Int)) (p : List Int → Bool) (w : World) (hu : Lists w v xss) (hp : AnsC3 w gm p xss) :
    Calls Tryz.prog 98 #[v, .func (.func 64) #[] #[.pointer (some ⟨gm, 0, none⟩)]] w fun e w' => (∃ k : Int, e = .returned (.int .i64 k) ∧ decide (0 ≤ k) = xss.any p) ∧ Ext w w' := by
  obtain ⟨A, c, rfl, _, _⟩ := id hu.form
  go_enter Tryz.func98, Tryz.ntmps98
  go_wp2
  go_loopw [8] (fun i wr => ∃ k : Nat, k ≤ xss.length ∧ i = .int .i64 k ∧ Ext w wr ∧ Hid (∀ j, (h : j < xss.length) → j < k → p xss[j] = false)) (fun i _ => xss.length - (intOf i).toNat)
  case atStart => exact ⟨0, Nat.zero_le _, rfl, Ext.refl _, Lib.hid (fun j _ h => by omega)⟩
  case round =>
    obtain ⟨k, hk, rfl, hx, HA⟩ := hrel
    by_cases hlt : k < xss.length
    · obtain ⟨b', off, u, rfl, c0, i0, f0⟩ := (hu.ext hx).at hlt
      have CL := hp wr u xss[k] hx i0 f0 (List.getElem_mem _)
      obtain ⟨A1, d1, rfl, _, _⟩ := id i0.form
      obtain ⟨y, hy⟩ : ∃ y, p xss[k] = y := ⟨_, rfl⟩
      rw [hy] at CL
      have HY := Lib.hid hy
      have hlk : (k : Int) < (xss.length : Int) := by omega
      generalize xss[k].length = n1 at *
      clear hy i0 f0
      simp only [List.push_toArray, List.append_toArray, List.cons_append, List.nil_append] at CL
      go_wp2_with fail
      refine CL.mono ?_
      rintro e w2 ⟨rfl, hx2⟩
      have HX := Lib.hid (hx.trans hx2)
      clear CL hx2
      cases y with
      | true =>
        go_wp2
        go_ret
        exact ⟨⟨k, rfl, by rw [List.any_eq_true.2 ⟨xss[k], List.getElem_mem _, HY.out⟩]; simp⟩, HX.out⟩
      | false =>
        go_wp2
        go_roundw
        case rel => exact ⟨k + 1, by omega, by go_num, HX.out, Lib.hid (fun j h1 h2 => by
          by_cases e : j = k
          · subst e; exact HY.out
          · exact HA.out j h1 (by omega))⟩
        case measure => simp [intOf]; omega
    · go_wp2
      go_ret
      refine ⟨⟨-1, rfl, ?_⟩, hx⟩
      have e : xss.any p = false := by
        rw [List.any_eq_false]
        intro x hx'
        obtain ⟨j, hj, rfl⟩ := List.getElem_of_mem hx'
        rw [HA.out j hj (by omega)]
        decide
      rw [e]
      decide
theorem containsC3_c (gm : Nat) (v : Value) (xss : List (List Int)) (p : List Int → Bool) (w : World) (hu : Lists w v xss) (hp : AnsC3 w gm p xss) :
    Calls Tryz.prog 63 #[v, .func (.func 64) #[] #[.pointer (some ⟨gm, 0, none⟩)]] w fun e w' => e = .returned (.bool (xss.any p)) ∧ Ext w w' := by
  go_enter Tryz.func63, Tryz.ntmps63
  go_wp2_with fail
  refine (indexC3_c gm v xss p _ hu hp).mono ?_
  rintro e w2 ⟨⟨k, rfl, hk⟩, hx2⟩
  have HK := Lib.hid hk
  clear hk
  go_wp2
  go_ret
  exact ⟨by simp [← HK.out], hx2⟩

def fitB (sy st : Int) (w : List Int) : Bool := decide (w.getD 0 0 < st) && (w.drop 1).all fun z => inB z 0 (sy - 1)
set_option maxRecDepth 20000 in
set_option maxHeartbeats 2000000 in
theorem fits1_c (gm : Nat) (sy st : Int) (rv u : Value) (x : List Int) (w : World) (hb : Blk w gm 26 #[.int .i64 sy, .int .i64 st, rv]) (h : Ints w u x) (h0 : 2 ≤ x.length) (hsy : 2 ≤ sy ∧ sy ≤ 6) :
    Calls Tryz.prog 64 #[u, .pointer (some ⟨gm, 0, none⟩)] w fun e w' => e = .returned (.bool (!fitB sy st x)) ∧ Ext w w' := by
  obtain ⟨b, off, c, rfl⟩ := ints_at h (by omega)
  obtain ⟨x0, t, rfl⟩ : ∃ a t, x = a :: t := by
    cases x with
    | nil => simp at h0
    | cons a t => exact ⟨a, t, rfl⟩
  obtain ⟨b', off', e, hc⟩ := h.at (k := 0) (by simp)
  injection e with e
  injection e with e1 e2
  subst e1 e2
  have c0 := hc 0 (by simp)
  simp only [List.getElem_cons_zero, Nat.add_zero] at c0
  have m0 := hb.cell 0
  have m1 := hb.cell 1
  simp only [List.getElem?_toArray, List.getElem?_cons_zero, List.getElem?_cons_succ] at m0 m1
  have hd := h.drop 1 (by simp)
  have hcap : (x0 :: t).length ≤ c := by
    obtain ⟨_, _, e, h, _⟩ := h.form
    (injection e with _ _ e3) <;> omega
  have hws : IntKind.i64.wrap (sy - 1) = sy - 1 := IntWalk.i64_in _ (by omega)
  have e1 : (x0 :: t).drop 1 = t := rfl
  rw [e1] at hd
  have hd : Ints w (.slice (some ⟨b, off + 1, none⟩) t.length (c - 1)) t := hd
  have hl : (x0 :: t).length = t.length + 1 := rfl
  rw [hl] at hcap h0
  rw [hl]
  have hE : Hid (fitB sy st (x0 :: t) = (decide (x0 < st) && t.all fun z => inB z 0 (sy - 1))) := Lib.hid rfl
  have HD := Lib.hid hd
  have h1c : 1 ≤ c := by omega
  have h2c : ¬ c = 1 := by omega
  have htl : t.length + 1 - 1 = t.length := by omega
  have hl1 : (0 : Int) < ((t.length + 1 : Nat) : Int) := by omega
  obtain ⟨nt, hnt⟩ : ∃ n, t.length = n := ⟨_, rfl⟩
  rw [hnt] at hcap h0 htl hl1 ⊢
  have c0 := cellR c0
  have m0 := cellR m0
  have m1 := cellR m1
  clear hc h e1 hl hd hb
  by_cases hge : st ≤ x0
  · have g1 : decide (st ≤ x0) = true := decide_eq_true hge
    have g2 : fitB sy st (x0 :: t) = false := by rw [hE.out, decide_eq_false (by omega)]; rfl
    have G2 := Lib.hid g2
    clear g2 hge
    go_enter Tryz.func64, Tryz.ntmps64
    go_wp2_with fail
    refine wp_region_ext (by kernel_rfl) (by kernel_rfl) ?_
    repeat (go_big_quiet_step (fail))
    refine wpQuiet_nil ?_
    intro w2 hx2
    go_wp2
    go_ret
    exact ⟨by rw [G2.out]; rfl, hx2⟩
  · have g1 : decide (st ≤ x0) = false := decide_eq_false hge
    have g2 : fitB sy st (x0 :: t) = t.all fun z => inB z 0 (sy - 1) := by rw [hE.out, decide_eq_true (by omega)]; rfl
    have AW := fun d os => allWithin_c (.slice (some ⟨b, off + 1, none⟩) t.length (c - 1)) t 0 (sy - 1) (Sort.grow (redrawn w d) os) (HD.out.ext (below_regrown w d os))
    rw [hnt] at AW
    obtain ⟨y, hy⟩ : ∃ y, (t.all fun z => inB z 0 (sy - 1)) = y := ⟨_, rfl⟩
    rw [hy] at AW g2
    have G2 := Lib.hid g2
    clear g2 hge hy
    go_enter Tryz.func64, Tryz.ntmps64
    go_wp2_with fail
    refine wp_region_ext (by kernel_rfl) (by kernel_rfl) ?_
    repeat (go_big_quiet_step ((go_at_call 65; with_reducible exact Calls.sameR (AW _ _))))
    refine wpQuiet_nil ?_
    intro w2 hx2
    go_wp2
    go_ret
    exact ⟨by rw [G2.out]; rfl, hx2⟩
set_option maxRecDepth 20000 in
set_option maxHeartbeats 4000000 in
theorem fits_c (v rvm : Value) (s : SetsD) (m : MachD) (w : World) (h : SetsV w v s) (hr : Rules w rvm m.rules) (hm : machOk m = true) (hs : ∀ x ∈ s.c, 2 ≤ x.length) :
    Calls Tryz.prog 27 #[v, .agg #[.int .i64 m.sy, .int .i64 m.st, rvm]] w fun e w' => e = .returned (.bool (fitsX m s)) ∧ Ext w w' := by
  obtain ⟨lv, rv, cv, rfl, hl, hr2, hc⟩ := h
  obtain ⟨⟨s1, s2, _, _⟩, _, _⟩ := machOk_five hm
  obtain ⟨Al, cl, rfl, _, _⟩ := id hl.form
  obtain ⟨Ar, cr, rfl, _, _⟩ := id hr2.form
  obtain ⟨Ac, cc, rfl, _, _⟩ := id hc.form
  obtain ⟨Am, cm, rfl, _, _⟩ := id hr.form
  obtain ⟨W, hW⟩ : ∃ W, W = (w.alloc (.cells #[.int .i64 (s.n : Int), .slice Al s.l.length cl, .slice Ar s.r.length cr, .slice Ac s.c.length cc] 58)).alloc (.cells #[.int .i64 m.sy, .int .i64 m.st, .slice Am m.rules.length cm] 26) := ⟨_, rfl⟩
  obtain ⟨g, hg⟩ : ∃ g, w.heap.size = g := ⟨_, rfl⟩
  have hX : Ext w W := by rw [hW]; exact (Ext.alloc _ _).trans (Ext.alloc _ _)
  have bS : Blk W g 58 #[.int .i64 (s.n : Int), .slice Al s.l.length cl, .slice Ar s.r.length cr, .slice Ac s.c.length cc] := by rw [hW]; exact (Blk.new _ _ _ _ hg).alloc _
  have bM : Blk W (g + 1) 26 #[.int .i64 m.sy, .int .i64 m.st, .slice Am m.rules.length cm] := by rw [hW]; exact Blk.new _ _ _ _ (by simp [hg])
  have hws : IntKind.i64.wrap (m.sy - 1) = m.sy - 1 := IntWalk.i64_in _ (by omega)
  have C1 := areLists_c _ s.l s.n (m.sy - 1) W (hl.ext hX)
  obtain ⟨a, ha⟩ : ∃ a, s.l.all (listB s.n (m.sy - 1)) = a := ⟨_, rfl⟩
  rw [ha] at C1
  obtain ⟨b, hb⟩ : ∃ a, s.r.all (listB s.n (m.sy - 1)) = a := ⟨_, rfl⟩
  obtain ⟨d, hd⟩ : ∃ a, (s.c.any fun x => !fitB m.sy m.st x) = a := ⟨_, rfl⟩
  have HE : Hid (fitsX m s = (a && b && !d)) := Lib.hid (by
    unfold fitsX
    rw [ha, hb, ← hd]
    congr 1
    rw [List.not_any_eq_all_not]
    simp [fitB])
  have HX := Lib.hid (And.intro hX (And.intro bS bM))
  have q0 := bS.cell 0
  have q1 := bS.cell 1
  have q2 := bS.cell 2
  have q3 := bS.cell 3
  have m0 := bM.cell 0
  simp only [List.getElem?_toArray, List.getElem?_cons_zero, List.getElem?_cons_succ] at q0 q1 q2 q3 m0
  clear hX bS bM ha
  go_enter Tryz.func27, Tryz.ntmps27
  go_wp2_with fail
  try rw [← hW]
  try rw [hg]
  clear hW hg
  refine C1.mono ?_
  rintro e w1 ⟨rfl, hx1⟩
  clear C1
  have q0 := hx1.cell q0
  have q2 := hx1.cell q2
  have q3 := hx1.cell q3
  have m0 := hx1.cell m0
  cases a with
  | false =>
    go_wp2
    go_ret
    exact ⟨by rw [HE.out]; rfl, HX.out.1.trans hx1⟩
  | true =>
    have C2 := areLists_c _ s.r s.n (m.sy - 1) w1 (hr2.ext (HX.out.1.trans hx1))
    rw [hb] at C2
    clear hb
    go_wp2_with fail
    refine C2.mono ?_
    rintro e w2 ⟨rfl, hx2⟩
    clear C2
    have q3 := hx2.cell q3
    cases b with
    | false =>
      go_wp2
      go_ret
      exact ⟨by rw [HE.out]; rfl, (HX.out.1.trans hx1).trans hx2⟩
    | true =>
      have bM2 := (HX.out.2.2.ext hx1).ext hx2
      have C3 := containsC3_c (g + 1) _ s.c (fun x => !fitB m.sy m.st x) w2 (hc.ext ((HX.out.1.trans hx1).trans hx2)) (fun W' u x hx hi _ hm' => fits1_c (g + 1) m.sy m.st _ u x W' (bM2.ext hx) hi (hs x hm') ⟨s1, s2⟩)
      rw [hd] at C3
      clear hd bM2
      go_wp2_with fail
      refine C3.mono ?_
      rintro e w3 ⟨rfl, hx3⟩
      clear C3
      go_wp2
      go_ret
      exact ⟨by rw [HE.out]; cases d <;> rfl, ((HX.out.1.trans hx1).trans hx2).trans hx3⟩
end Go.Proofs.YtapjofbjedpmgaaGreat
end
section
set_option linter.unusedSimpArgs false
set_option linter.unusedVariables false
namespace Go.Proofs.YtapjofbjedpmgaaGreat
open Go Go.RowKit Go.Proofs
set_option maxHeartbeats 400000
theorem Lists.part {w : World} {b off c : Nat} {xss : List (List Int)} (h : Lists w (.slice (some ⟨b, off, none⟩) xss.length c) xss) (i k : Nat) (hk : i + k ≤ xss.length) : Lists w (.slice (some ⟨b, off + i, none⟩) k (c - i)) ((xss.drop i).take k) := by
  obtain ⟨vs, hr, hi⟩ := h
  obtain ⟨A, c', e, h1, h2, h3, h4⟩ := hr
  injection e with e1 e2 e3
  subst e3
  have hl : ((xss.drop i).take k).length = k := by rw [List.length_take, List.length_drop]; omega
  refine ⟨(vs.drop i).take k, ⟨_, _, by rw [hl], by omega, by omega, by rw [List.length_take, List.length_drop, hl]; omega, fun hn => ?_⟩, fun j hj => ?_⟩
  · obtain ⟨b', off', e, hc⟩ := h4 (by omega)
    rw [← e1] at e
    injection e with e
    injection e with ea eb
    subst ea eb
    refine ⟨b, off + i, rfl, fun j hj => ?_⟩
    have hj' : j < k := by rw [List.length_take] at hj; omega
    have := hc (i + j) (by omega)
    rw [Nat.add_assoc, this, List.getElem?_take_of_lt hj', List.getElem?_drop]
  · have hj' : j < k := by omega
    obtain ⟨u, a, b', c'⟩ := hi (i + j) (by omega)
    refine ⟨u, by rw [List.getElem?_take_of_lt hj', List.getElem?_drop]; exact a, ?_, c'⟩
    have : ((xss.drop i).take k)[j] = xss[i + j] := by rw [List.getElem_take, List.getElem_drop]
    rw [this]
    exact b'
def PrfL (w : World) (v : Value) (p : ProofD) : Prop := ∃ nv wv, v = .agg #[.int .i64 p.k, nv, wv] ∧ Ints w nv p.ns ∧ Lists w wv p.ws
theorem PrfL.ext {w w' : World} {v : Value} {p : ProofD} (h : PrfL w v p) (he : Ext w w') : PrfL w' v p := by
  obtain ⟨a, b, c, d, e⟩ := h
  exact ⟨a, b, c, d.ext he, e.ext he⟩
/-- What is known of a proof with parts. -/
structure PartsK (p : ProofD) (n a b : Nat) : Prop where
  k : p.k = 8
  n0 : p.ns.getD 0 0 = (n : Int)
  n1 : p.ns.getD 1 0 = (a : Int)
  n2 : p.ns.getD 2 0 = (b : Int)
  nl : 1 ≤ n
  nu : n ≤ 4
  sum : a + b + (p.ns.length - 3) = p.ws.length
  len : 3 ≤ p.ns.length
  st : ((p.ns.drop 3).all fun z => inB z 0 big12) = true
  sp : setsP p = ⟨n, p.ws.take a, (p.ws.drop a).take b, statedX (p.ns.drop 3) (p.ws.drop (a + b))⟩
  wl : (p.ws.take a).all (listB n 9) = true
  wr : ((p.ws.drop a).take b).all (listB n 9) = true
  wc : (p.ws.drop (a + b)).all (listB (2 * n + 1) 9) = true
  inc : incB (setsP p) = true
theorem partsK {p : ProofD} (h : setsB p = true) : ∃ n a b, PartsK p n a b := by
  unfold setsB headB sumsB wordsB at h
  simp only [Bool.and_eq_true, decide_eq_true_eq, inB_iff] at h
  obtain ⟨⟨⟨⟨⟨h1, h2⟩, h3⟩, ⟨⟨⟨h4, h5⟩, h6⟩, h7⟩⟩, ⟨⟨h8, h9⟩, h10⟩⟩, h11⟩ := h
  have hl : (p.ns.drop 3).length = p.ns.length - 3 := List.length_drop ..
  rw [hl] at h6
  have e : setsP p = ⟨(p.ns.getD 0 0).toNat, p.ws.take (partA p), (p.ws.drop (partA p)).take (partB p), statedX (p.ns.drop 3) (p.ws.drop (partA p + partB p))⟩ := rfl
  refine ⟨(p.ns.getD 0 0).toNat, partA p, partB p, h1, by omega, by unfold partA; omega, by unfold partB; omega, by omega, by omega, by unfold partA partB; omega, h2, h7, e, ?_, ?_, ?_, h11⟩
  · exact h8
  · exact h9
  · exact h10
theorem OwnLists.farX {w : World} {base g : Nat} {v : Value} {xss : List (List Int)} {t : TypeId} {cs : Array Value} (h : OwnLists base w v xss) (hb : Blk w g t cs) (h1 : t ≠ 27) (h2 : t ≠ 2) (i : Nat) (x : Value) : OwnLists base (w.setCell ⟨g, i, none⟩ x) v xss := by
  obtain ⟨vs, a, b⟩ := h
  exact ⟨vs, ownsRow_far a (own_far_blk a hb h1) _, fun j hj => by obtain ⟨u, c, d⟩ := b j hj; exact ⟨u, c, ownsRow_far d (own_far_blk d hb h2) _⟩⟩
theorem OwnLists.form {base : Nat} {w : World} {v : Value} {xss : List (List Int)} (h : OwnLists base w v xss) : ∃ A c, v = .slice A xss.length c := by
  obtain ⟨vs, a, _⟩ := h
  obtain ⟨A, c, e, _⟩ := (ownsRow_row a).form
  exact ⟨A, c, e⟩
/-- Parts that are being read. -/
structure RdS (w0 w : World) (gs n : Nat) (L R : List (List Int)) : Prop where
  ex : ∃ Al cl Ar cr, Blk w gs 58 #[.int .i64 (n : Int), .slice Al L.length cl, .slice Ar R.length cr, .slice none 0 0] ∧ OwnLists w0.heap.size w (.slice Al L.length cl) L ∧ OwnLists w0.heap.size w (.slice Ar R.length cr) R
  ext : Ext w0 w
  low : w0.heap.size ≤ gs
/-- The store of the parts into their block. -/
theorem RdS.put {w0 V : World} {gs n : Nat} {L R : List (List Int)} {Al Ar : Option Addr} {cl cr : Nat} (hb : Blk V gs 58 #[.int .i64 0, .slice none 0 0, .slice none 0 0, .slice none 0 0]) (hl : OwnLists w0.heap.size V (.slice Al L.length cl) L) (hr : OwnLists w0.heap.size V (.slice Ar R.length cr) R) (hx : Ext w0 V) (hlow : w0.heap.size ≤ gs) :
    RdS w0 ((((V.setCell ⟨gs, 0, none⟩ (.int .i64 (n : Int))).setCell ⟨gs, 1, none⟩ (.slice Al L.length cl)).setCell ⟨gs, 2, none⟩ (.slice Ar R.length cr)).setCell ⟨gs, 3, none⟩ (.slice none 0 0)) gs n L R := by
  have b0 := hb.set_ 0 (.int .i64 (n : Int))
  have b1 := b0.set_ 1 (.slice Al L.length cl)
  have b2 := b1.set_ 2 (.slice Ar R.length cr)
  have b3 := b2.set_ 3 (.slice none 0 0)
  refine ⟨⟨Al, cl, Ar, cr, by simpa using b3, (((hl.farX hb (by decide) (by decide) _ _).farX b0 (by decide) (by decide) _ _).farX b1 (by decide) (by decide) _ _).farX b2 (by decide) (by decide) _ _, (((hr.farX hb (by decide) (by decide) _ _).farX b0 (by decide) (by decide) _ _).farX b1 (by decide) (by decide) _ _).farX b2 (by decide) (by decide) _ _⟩, ?_, hlow⟩
  exact (((hx.setCell (p := ⟨gs, 0, none⟩) hlow _).setCell (p := ⟨gs, 1, none⟩) hlow _).setCell (p := ⟨gs, 2, none⟩) hlow _).setCell (p := ⟨gs, 3, none⟩) hlow _
set_option maxRecDepth 200000 in
set_option maxHeartbeats 8000000 in
theorem setsIn_c (v : Value) (p : ProofD) (w : World) (h : PrfL w v p) (hp : prfOk p = true) (hs : setsB p = true) (h4 : 4 ≤ p.ns.length) :
    Calls Tryz.prog 48 #[v] w fun e w' => (∃ u, e = .returned (.tuple #[u, .bool true]) ∧ SetsO w.heap.size w' u (setsP p)) ∧ Ext w w' := by
  obtain ⟨nv, wv, rfl, hn, hw⟩ := h
  obtain ⟨n, a, b, K⟩ := partsK hs
  have hpl : p.ns.length ≤ 300 ∧ p.ws.length ≤ 300 ∧ ∀ x ∈ p.ws, x.length ≤ 400 := by
    unfold prfOk at hp
    simp only [Bool.and_eq_true, decide_eq_true_eq, List.all_eq_true, wordB] at hp
    refine ⟨by omega, by omega, fun x hx => ?_⟩
    have := (hp.2 x hx).1
    omega
  obtain ⟨pk, ns, ws⟩ := p
  have hk8 : pk = 8 := K.k
  subst hk8
  simp only at hn hw h4 hpl
  have hsum : a + b + (ns.length - 3) = ws.length := K.sum
  have hn1 := K.nl
  have hn4 := K.nu
  obtain ⟨An, cn, rfl, hcn1, hcn2⟩ := id hn.form
  obtain ⟨Aw, cw, rfl, hcw1, hcw2⟩ := id hw.form
  obtain ⟨W, hW⟩ : ∃ W, W = (w.alloc (.cells #[.int .i64 8, .slice An ns.length cn, .slice Aw ws.length cw] 34)).alloc (.cells #[.int .i64 0, .slice none 0 0, .slice none 0 0, .slice none 0 0] 58) := ⟨_, rfl⟩
  obtain ⟨g, hg⟩ : ∃ g, w.heap.size = g := ⟨_, rfl⟩
  have hX : Ext w W := by rw [hW]; exact (Ext.alloc _ _).trans (Ext.alloc _ _)
  have bP : Blk W g 34 #[.int .i64 8, .slice An ns.length cn, .slice Aw ws.length cw] := by rw [hW]; exact (Blk.new _ _ _ _ hg).alloc _
  have bO : Blk W (g + 1) 58 #[.int .i64 0, .slice none 0 0, .slice none 0 0, .slice none 0 0] := by rw [hW]; exact Blk.new _ _ _ _ (by simp [hg])
  obtain ⟨bn, on, rfl, hcn⟩ := (hn.ext hX).at (k := 0) (by omega)
  have gd : ∀ i, (hi : i < ns.length) → ns[i] = ns.getD i 0 := fun i hi => by rw [List.getD_eq_getElem?_getD, List.getElem?_eq_getElem hi]; rfl
  have k0 := hcn 0 (by omega)
  have k1 := hcn 1 (by omega)
  have k2 := hcn 2 (by omega)
  rw [gd, show ns.getD 0 0 = (n : Int) from K.n0] at k0
  rw [gd, show ns.getD 1 0 = (a : Int) from K.n1] at k1
  rw [gd, show ns.getD 2 0 = (b : Int) from K.n2] at k2
  obtain ⟨bw, ow, uw, hAw, hAr⟩ := Lists.at hw (k := 0) (by omega)
  clear hAr
  subst hAw
  have p0 := bP.cell 0
  have p1 := bP.cell 1
  have p2 := bP.cell 2
  simp only [List.getElem?_toArray, List.getElem?_cons_zero, List.getElem?_cons_succ, Nat.add_zero] at p0 p1 p2 k0
  have hcs := contextSizeOk_c (n : Int)
  have hin : inB (n : Int) 1 4 = true := inB_true ⟨by omega, by omega⟩
  rw [hin] at hcs
  have hlt : decide ((ns.length : Int) < 3) = false := decide_eq_false (by omega)
  have hlt2 : ¬ (ns.length : Int) < 3 := by omega
  have hl0 : (0 : Int) < (ns.length : Int) := by omega
  have hl1 : (1 : Int) < (ns.length : Int) := by omega
  have hl2 : (2 : Int) < (ns.length : Int) := by omega
  have hl3 : 3 ≤ ns.length := by omega
  have HH := Lib.hid (And.intro hX (And.intro bP (And.intro bO (And.intro hn (And.intro hw (And.intro K (And.intro hpl (And.intro hsum hg))))))))
  obtain ⟨SP, hSP⟩ : ∃ s, setsP ⟨8, ns, ws⟩ = s := ⟨_, rfl⟩
  rw [hSP]
  have HSP := Lib.hid hSP
  show Calls Tryz.prog 48 #[.agg #[.int .i64 8, .slice (some ⟨bn, on, none⟩) ns.length cn, .slice (some ⟨bw, ow, none⟩) ws.length cw]] w _
  obtain ⟨ln, hln⟩ : ∃ k, ns.length = k := ⟨_, rfl⟩
  obtain ⟨lw, hlw⟩ : ∃ k, ws.length = k := ⟨_, rfl⟩
  have hln2 : ln ≤ 300 := by omega
  have hlw2 : lw ≤ 300 := by omega
  have hal : a ≤ lw := by omega
  have hbl : a + b < lw := by omega
  rw [hln] at hlt hlt2 hl0 hl1 hl2 hl3 h4 p1 hcn1 ⊢
  rw [hlw] at p2 hcw1 ⊢
  have HL := Lib.hid (And.intro hln hlw)
  rw [hln, hlw] at hW
  have hsm : Hid (a + b + (ln - 3) = lw) := Lib.hid (by omega)
  clear hX bP bO hn hw hcn gd K hs hp hpl hsum hln hlw hin hSP
  go_enter Tryz.func48, Tryz.ntmps48
  go_upto_region 1 with fail
  try rw [← hW]
  try rw [hg]
  clear hW hg
  go_wp2_with fail
  refine (hcs _).mono ?_
  rintro e w1 ⟨rfl, rfl⟩
  clear hcs
  go_upto_region 3 with fail
  have c3 : ¬ cn = 3 := by omega
  have p0R := cellR p0
  have p1R := cellR p1
  have p2R := cellR p2
  have k0R := cellR k0
  have k1R := cellR k1
  have k2R := cellR k2
  clear p0 p1 p2 k0 k1 k2
  refine wp_region_ext (by kernel_rfl) (by kernel_rfl) ?_
  repeat (go_big_quiet_step (fail))
  refine wpQuiet_nil ?_
  intro w2 hx2
  clear p1R k0R k1R k2R p0R
  have iA : inB (a : Int) 0 (lw : Int) = true := inB_true ⟨by omega, by omega⟩
  have iB : inB (b : Int) 0 (lw : Int) = true := inB_true ⟨by omega, by omega⟩
  have WA := fun W => within_c (a : Int) 0 (lw : Int) W
  have WB := fun W => within_c (b : Int) 0 (lw : Int) W
  rw [iA] at WA
  rw [iB] at WB
  have i2 := ((HH.out.2.2.2.1.ext HH.out.1).ext hx2).drop 3 (by have := HL.out.1; omega)
  have AW := fun d os => allWithin_c _ (ns.drop 3) 0 big12 (Sort.grow (redrawn w2 d) os) (i2.ext (below_regrown w2 d os))
  rw [HH.out.2.2.2.2.2.1.st] at AW
  rw [HL.out.1] at i2 AW
  unfold big12 at AW
  have hs1 : IntKind.i64.wrap ((a : Int) + (b : Int)) = ((a + b : Nat) : Int) := by rw [show (a : Int) + (b : Int) = ((a + b : Nat) : Int) by omega]; exact IntWalk.i64_in _ (by omega)
  have hs2 : IntKind.i64.wrap (((a + b : Nat) : Int) + ((ln - 3 : Nat) : Int)) = (lw : Int) := by have := hsm.out; rw [show ((a + b : Nat) : Int) + ((ln - 3 : Nat) : Int) = (lw : Int) by omega]; exact IntWalk.i64_in _ (by omega)
  obtain ⟨m, hab⟩ : ∃ t : Nat, a + b = t := ⟨_, rfl⟩
  rw [hab] at hs1 hs2
  have HAB := Lib.hid hab
  have hml : m < lw := by omega
  have hmc : m < cw := by omega
  have ham : a ≤ m := by omega
  have hmb : Hid (m - a = b) := Lib.hid (by omega)
  have p2 := (HH.out.2.1.ext hx2).cell 2
  simp only [List.getElem?_toArray, List.getElem?_cons_zero, List.getElem?_cons_succ] at p2
  rw [HL.out.2] at p2
  have p2R := cellR p2
  clear hab p2 iA iB
  go_upto_region 4 with fail
  refine wp_region_ext (by kernel_rfl) (by kernel_rfl) ?_
  repeat (go_big_quiet_step ((first | (go_at_call 87; with_reducible exact Calls.sameR (sizeLL_c _ _ _ _)) | (go_at_call 88; with_reducible exact Calls.sameR (sizeIN_c _ _ _ _)) | (go_at_call 45; with_reducible exact Calls.sameR (WA _)) | (go_at_call 45; with_reducible exact Calls.sameR (WB _)) | (go_at_call 65; with_reducible exact Calls.sameR (AW _ _)))))
  refine wpQuiet_nil ?_
  intro w3 hx3
  clear WA WB AW p2R i2
  go_upto_region 6 with fail
  -- REST
  have p2 := ((HH.out.2.1.ext hx2).ext hx3).cell 2
  simp only [List.getElem?_toArray, List.getElem?_cons_zero, List.getElem?_cons_succ] at p2
  rw [HL.out.2] at p2
  have HX3 := Lib.hid ((HH.out.1.trans hx2).trans hx3)
  have LL := fun W (h : Ext w3 W) => Lists.part (HH.out.2.2.2.2.1.ext ((((HH.out.1.trans hx2).trans hx3)).trans h)) 0 a (by have := HL.out.2; omega)
  have LR := fun W (h : Ext w3 W) => Lists.part (HH.out.2.2.2.2.1.ext ((((HH.out.1.trans hx2).trans hx3)).trans h)) a b (by have := HL.out.2; omega)
  simp only [List.drop_zero, Nat.add_zero, Nat.sub_zero] at LL
  have hwl : ∀ x ∈ ws, x.length ≤ 400 := HH.out.2.2.2.2.2.2.1.2.2
  obtain ⟨L, hL⟩ : ∃ q, ws.take a = q := ⟨_, rfl⟩
  obtain ⟨R, hR⟩ : ∃ q, (ws.drop a).take b = q := ⟨_, rfl⟩
  rw [hL] at LL
  rw [hR] at LR
  have hLl : L.length = a := by rw [← hL, List.length_take]; have := HL.out.2; omega
  have hRl : R.length = b := by rw [← hR, List.length_take, List.length_drop]; have := HL.out.2; omega
  have hLb : ∀ x ∈ L, x.length ≤ 1048576 := fun x hx => by have := hwl x (by rw [← hL] at hx; exact List.mem_of_mem_take hx); omega
  have hRb : ∀ x ∈ R, x.length ≤ 1048576 := fun x hx => by have := hwl x (by rw [← hR] at hx; exact List.mem_of_mem_drop (List.mem_of_mem_take hx)); omega
  have HLR := Lib.hid (And.intro hL (And.intro hR (And.intro hLl (And.intro hRl (And.intro hLb hRb)))))
  have H2 := Lib.hid (And.intro hx2 hx3)
  clear hL hR hLl hRl hLb hRb hwl hx2 hx3
  go_cut [8] (fun u wx => ∃ gs, u = .pointer (some ⟨gs, 0, none⟩) ∧ RdS w3 wx gs n L R)
  case first =>
    refine wp_region_ordT 16 (readsT [0, 1, 2, 3, 4, 6, 7, 8, 9, 10, 11, 12] (.fork 5 (.fork 13 (readsT [14] (.stir 15 .done)) 15 (.stir 13 (readsT [14] .done))) 15 (.stir 5 (.stir 13 (readsT [14] .done))))) (by kernel_rfl) (by kernel_rfl) (fun _ _ _ _ _ h => h) ?_
    simp only [readsT]
    iterate 4 (refine wpOrdT_read (v := ?_) (by rfl) (Or.inl ⟨by rfl, fun x hx => ?_⟩) ?_; rotate_left; (· have p2 := hx.cell ((Ext.drew w3).cell p2); go_simp; try with_reducible rfl); try simp only [Act.put, List.setIfInBounds_toArray, List.set_cons_zero, List.set_cons_succ])
    refine wpOrdT_read (v := .slice (some ⟨bw, ow, none⟩) a cw) (by rfl) (Or.inl ⟨by rfl, fun x hx => ?_⟩) ?_
    · go_simp
      try (intro hh; exact absurd hh (by omega))
    try simp only [Act.put, List.setIfInBounds_toArray, List.set_cons_zero, List.set_cons_succ]
    iterate 6 (refine wpOrdT_read (v := ?_) (by rfl) (Or.inl ⟨by rfl, fun x hx => ?_⟩) ?_; rotate_left; (· have p2 := hx.cell ((Ext.drew w3).cell p2); go_simp; try first | with_reducible rfl | (rw [hs1]; try with_reducible rfl)); try simp only [Act.put, List.setIfInBounds_toArray, List.set_cons_zero, List.set_cons_succ])
    refine wpOrdT_read (v := .slice (some ⟨bw, ow + a, none⟩) b (cw - a)) (by rfl) (Or.inl ⟨by rfl, fun x hx => ?_⟩) ?_
    · go_simp
      try rw [if_neg (show ¬ cw = a by omega)]
      try rw [hmb.out]
      try rw [if_pos (show m ≤ cw by omega)]
    try simp only [Act.put, List.setIfInBounds_toArray, List.set_cons_zero, List.set_cons_succ]
    have hxd : Ext w3 w3.drew := Ext.drew w3
    generalize w3.drew = w0 at *
    clear p2
    refine wpOrdT_forks (by rfl) (by rfl) (fun K hK => ?_) (fun K hK => ?_)
    · go_simp
      go_at_call 89
      refine (copyLists_c (.slice (some ⟨bw, ow, none⟩) a cw) L w0 (LL w0 (hxd.trans (Ext.refl w0))) HLR.out.2.2.2.2.1 (by have := HLR.out.2.2.1; omega)).mono ?_
      rintro e v0 ⟨ul, rfl, ol, x0⟩
      obtain ⟨Al, cl, rfl⟩ := ol.form
      refine hK _ _ _ (fun _ hx => hx) ((Ext.refl w0).trans x0) ?_
      clear hK K
      try simp only [Act.put, List.setIfInBounds_toArray, List.set_cons_zero, List.set_cons_succ]
      refine wpOrdT_forks (by rfl) (by rfl) (fun K hK => ?_) (fun K hK => ?_)
      · go_simp
        go_at_call 89
        refine (copyLists_c (.slice (some ⟨bw, ow + a, none⟩) b (cw - a)) R v0 (LR v0 (hxd.trans ((Ext.refl w0).trans x0))) HLR.out.2.2.2.2.2 (by have := HLR.out.2.2.2.1; omega)).mono ?_
        rintro e v1 ⟨ur, rfl, or, x1⟩
        obtain ⟨Ar, cr, rfl⟩ := or.form
        refine hK _ _ _ (fun _ hx => hx) (((Ext.refl w0).trans x0).trans x1) ?_
        clear hK K
        try simp only [Act.put, List.setIfInBounds_toArray, List.set_cons_zero, List.set_cons_succ]
        refine wpOrdT_read (v := .agg #[.int .i64 (n : Int), .slice Al L.length cl, .slice Ar R.length cr, .slice none 0 0]) (by rfl) (Or.inl ⟨by rfl, fun x hx => by go_simp⟩) ?_
        try simp only [Act.put, List.setIfInBounds_toArray, List.set_cons_zero, List.set_cons_succ]
        refine wpOrdT_keep (by rfl) (fun K hK => ?_)
        go_simp
        obtain ⟨v2, hv2⟩ : ∃ W, v1.alloc (.cells #[.int .i64 0, .slice none 0 0, .slice none 0 0, .slice none 0 0] 58) = W := ⟨_, rfl⟩
        have x2 : Ext v1 v2 := by rw [← hv2]; exact Ext.alloc _ _
        obtain ⟨gs, hgs⟩ : ∃ q, v1.heap.size = q := ⟨_, rfl⟩
        have bz : Blk v2 gs 58 #[.int .i64 0, .slice none 0 0, .slice none 0 0, .slice none 0 0] := by rw [← hv2]; exact Blk.new _ _ _ _ hgs
        have hgl : w3.heap.size ≤ gs := by have := (hxd.trans (((Ext.refl w0).trans x0).trans x1)).size; omega
        rw [hv2]
        try rw [hgs]
        clear hv2 hgs
        refine hK _ _ ((((Ext.refl w0).trans x0).trans x1).trans x2) ?_
        clear hK K
        try simp only [Act.put, List.setIfInBounds_toArray, List.set_cons_zero, List.set_cons_succ]
        refine wpOrdT_done ?_
        try simp only [List.drop_succ_cons, List.drop_zero]
        have bV := bz
        have sz3 := hxd.size
        have sx0 := x0.size
        have sx1 := x1.size
        have sx2 := x2.size
        have HP : Hid (RdS w3 ((((v2.setCell ⟨gs, 0, none⟩ (.int .i64 (n : Int))).setCell ⟨gs, 1, none⟩ (.slice Al L.length cl)).setCell ⟨gs, 2, none⟩ (.slice Ar R.length cr)).setCell ⟨gs, 3, none⟩ (.slice none 0 0)) gs n L R) := Lib.hid (RdS.put bV ((ol.ext (x1.trans x2)).base0 (by omega)) ((or.ext x2).base0 (by omega)) (hxd.trans ((((Ext.refl w0).trans x0).trans x1).trans x2)) hgl)
        have z0 := bV.cell 0
        have z1 := bV.cell 1
        have z2 := bV.cell 2
        have z3 := bV.cell 3
        have f0 := bV.frozen 0
        have f1 := bV.frozen 1
        have f2 := bV.frozen 2
        have f3 := bV.frozen 3
        simp only [List.getElem?_toArray, List.getElem?_cons_zero, List.getElem?_cons_succ] at z0 z1 z2 z3
        clear bV bz ol or x0 x1 x2 hxd sz3 sx0 sx1 sx2
        generalize L.length = nl at *
        generalize R.length = nr at *
        go_wp2_with fail
        go_meet
        exact ⟨gs, rfl, HP.out⟩
      · go_simp
        obtain ⟨v1, hv1⟩ : ∃ W, v0.alloc (.cells #[.int .i64 0, .slice none 0 0, .slice none 0 0, .slice none 0 0] 58) = W := ⟨_, rfl⟩
        have x1 : Ext v0 v1 := by rw [← hv1]; exact Ext.alloc _ _
        obtain ⟨gs, hgs⟩ : ∃ q, v0.heap.size = q := ⟨_, rfl⟩
        have bz : Blk v1 gs 58 #[.int .i64 0, .slice none 0 0, .slice none 0 0, .slice none 0 0] := by rw [← hv1]; exact Blk.new _ _ _ _ hgs
        have hgl : w3.heap.size ≤ gs := by have := (hxd.trans ((Ext.refl w0).trans x0)).size; omega
        rw [hv1]
        try rw [hgs]
        clear hv1 hgs
        refine hK _ _ _ (fun _ hx => hx) (((Ext.refl w0).trans x0).trans x1) ?_
        clear hK K
        try simp only [Act.put, List.setIfInBounds_toArray, List.set_cons_zero, List.set_cons_succ]
        refine wpOrdT_keep (by rfl) (fun K hK => ?_)
        go_simp
        go_at_call 89
        refine (copyLists_c (.slice (some ⟨bw, ow + a, none⟩) b (cw - a)) R v1 (LR v1 (hxd.trans (((Ext.refl w0).trans x0).trans x1))) HLR.out.2.2.2.2.2 (by have := HLR.out.2.2.2.1; omega)).mono ?_
        rintro e v2 ⟨ur, rfl, or, x2⟩
        obtain ⟨Ar, cr, rfl⟩ := or.form
        refine hK _ _ ((((Ext.refl w0).trans x0).trans x1).trans x2) ?_
        clear hK K
        try simp only [Act.put, List.setIfInBounds_toArray, List.set_cons_zero, List.set_cons_succ]
        refine wpOrdT_read (v := .agg #[.int .i64 (n : Int), .slice Al L.length cl, .slice Ar R.length cr, .slice none 0 0]) (by rfl) (Or.inl ⟨by rfl, fun x hx => by go_simp⟩) ?_
        try simp only [Act.put, List.setIfInBounds_toArray, List.set_cons_zero, List.set_cons_succ]
        refine wpOrdT_done ?_
        try simp only [List.drop_succ_cons, List.drop_zero]
        have bV := bz.ext x2
        have sz3 := hxd.size
        have sx0 := x0.size
        have sx1 := x1.size
        have sx2 := x2.size
        have HP : Hid (RdS w3 ((((v2.setCell ⟨gs, 0, none⟩ (.int .i64 (n : Int))).setCell ⟨gs, 1, none⟩ (.slice Al L.length cl)).setCell ⟨gs, 2, none⟩ (.slice Ar R.length cr)).setCell ⟨gs, 3, none⟩ (.slice none 0 0)) gs n L R) := Lib.hid (RdS.put bV ((ol.ext (x1.trans x2)).base0 (by omega)) (or.base0 (by omega)) (hxd.trans ((((Ext.refl w0).trans x0).trans x1).trans x2)) hgl)
        have z0 := bV.cell 0
        have z1 := bV.cell 1
        have z2 := bV.cell 2
        have z3 := bV.cell 3
        have f0 := bV.frozen 0
        have f1 := bV.frozen 1
        have f2 := bV.frozen 2
        have f3 := bV.frozen 3
        simp only [List.getElem?_toArray, List.getElem?_cons_zero, List.getElem?_cons_succ] at z0 z1 z2 z3
        clear bV bz ol or x0 x1 x2 hxd sz3 sx0 sx1 sx2
        generalize L.length = nl at *
        generalize R.length = nr at *
        go_wp2_with fail
        go_meet
        exact ⟨gs, rfl, HP.out⟩
    · go_simp
      obtain ⟨v0, hv0⟩ : ∃ W, w0.alloc (.cells #[.int .i64 0, .slice none 0 0, .slice none 0 0, .slice none 0 0] 58) = W := ⟨_, rfl⟩
      have x0 : Ext w0 v0 := by rw [← hv0]; exact Ext.alloc _ _
      obtain ⟨gs, hgs⟩ : ∃ q, w0.heap.size = q := ⟨_, rfl⟩
      have bz : Blk v0 gs 58 #[.int .i64 0, .slice none 0 0, .slice none 0 0, .slice none 0 0] := by rw [← hv0]; exact Blk.new _ _ _ _ hgs
      have hgl : w3.heap.size ≤ gs := by have := (hxd.trans (Ext.refl w0)).size; omega
      rw [hv0]
      try rw [hgs]
      clear hv0 hgs
      refine hK _ _ _ (fun _ hx => hx) ((Ext.refl w0).trans x0) ?_
      clear hK K
      try simp only [Act.put, List.setIfInBounds_toArray, List.set_cons_zero, List.set_cons_succ]
      refine wpOrdT_keep (by rfl) (fun K hK => ?_)
      go_simp
      go_at_call 89
      refine (copyLists_c (.slice (some ⟨bw, ow, none⟩) a cw) L v0 (LL v0 (hxd.trans ((Ext.refl w0).trans x0))) HLR.out.2.2.2.2.1 (by have := HLR.out.2.2.1; omega)).mono ?_
      rintro e v1 ⟨ul, rfl, ol, x1⟩
      obtain ⟨Al, cl, rfl⟩ := ol.form
      refine hK _ _ (((Ext.refl w0).trans x0).trans x1) ?_
      clear hK K
      try simp only [Act.put, List.setIfInBounds_toArray, List.set_cons_zero, List.set_cons_succ]
      refine wpOrdT_keep (by rfl) (fun K hK => ?_)
      go_simp
      go_at_call 89
      refine (copyLists_c (.slice (some ⟨bw, ow + a, none⟩) b (cw - a)) R v1 (LR v1 (hxd.trans (((Ext.refl w0).trans x0).trans x1))) HLR.out.2.2.2.2.2 (by have := HLR.out.2.2.2.1; omega)).mono ?_
      rintro e v2 ⟨ur, rfl, or, x2⟩
      obtain ⟨Ar, cr, rfl⟩ := or.form
      refine hK _ _ ((((Ext.refl w0).trans x0).trans x1).trans x2) ?_
      clear hK K
      try simp only [Act.put, List.setIfInBounds_toArray, List.set_cons_zero, List.set_cons_succ]
      refine wpOrdT_read (v := .agg #[.int .i64 (n : Int), .slice Al L.length cl, .slice Ar R.length cr, .slice none 0 0]) (by rfl) (Or.inl ⟨by rfl, fun x hx => by go_simp⟩) ?_
      try simp only [Act.put, List.setIfInBounds_toArray, List.set_cons_zero, List.set_cons_succ]
      refine wpOrdT_done ?_
      try simp only [List.drop_succ_cons, List.drop_zero]
      have bV := bz.ext (x1.trans x2)
      have sz3 := hxd.size
      have sx0 := x0.size
      have sx1 := x1.size
      have sx2 := x2.size
      have HP : Hid (RdS w3 ((((v2.setCell ⟨gs, 0, none⟩ (.int .i64 (n : Int))).setCell ⟨gs, 1, none⟩ (.slice Al L.length cl)).setCell ⟨gs, 2, none⟩ (.slice Ar R.length cr)).setCell ⟨gs, 3, none⟩ (.slice none 0 0)) gs n L R) := Lib.hid (RdS.put bV ((ol.ext x2).base0 (by omega)) (or.base0 (by omega)) (hxd.trans ((((Ext.refl w0).trans x0).trans x1).trans x2)) hgl)
      have z0 := bV.cell 0
      have z1 := bV.cell 1
      have z2 := bV.cell 2
      have z3 := bV.cell 3
      have f0 := bV.frozen 0
      have f1 := bV.frozen 1
      have f2 := bV.frozen 2
      have f3 := bV.frozen 3
      simp only [List.getElem?_toArray, List.getElem?_cons_zero, List.getElem?_cons_succ] at z0 z1 z2 z3
      clear bV bz ol or x0 x1 x2 hxd sz3 sx0 sx1 sx2
      generalize L.length = nl at *
      generalize R.length = nr at *
      go_wp2_with fail
      go_meet
      exact ⟨gs, rfl, HP.out⟩
  case rest =>
    obtain ⟨gs, rfl, hrd⟩ := hcut
    obtain ⟨Al, cl, Ar, cr, bS, oL, oR⟩ := hrd.ex
    have hxc := hrd.ext
    have hlow := hrd.low
    have p2 := hxc.cell p2
    obtain ⟨WS, hWS⟩ : ∃ q, ws.drop (a + b) = q := ⟨_, rfl⟩
    have hwsl : WS.length = lw - m := by rw [← hWS, List.length_drop]; have := HL.out; have := HAB.out; omega
    have LW := fun W (h : Ext wc W) => Lists.part (HH.out.2.2.2.2.1.ext ((HX3.out.trans hxc).trans h)) (a + b) (ln - 3) (by have := HL.out.2; have := hsm.out; omega)
    have hwt : (ws.drop (a + b)).take (ln - 3) = WS := by rw [hWS]; exact List.take_of_length_le (by have := hsm.out; have := HAB.out; omega)
    rw [hwt, HAB.out, show ln - 3 = lw - m by have := hsm.out; have := HAB.out; omega] at LW
    have K := HH.out.2.2.2.2.2.1
    have KL : L.all (listB n 9) = true := by have := K.wl; rw [← HLR.out.1]; exact this
    have KR : R.all (listB n 9) = true := by have := K.wr; rw [← HLR.out.2.1]; exact this
    have KW : WS.all (listB (2 * n + 1) 9) = true := by have := K.wc; rw [← hWS]; exact this
    have A1 := areLists_c (.slice Al L.length cl) L n 9
    rw [KL] at A1
    have A2 := areLists_c (.slice Ar R.length cr) R n 9
    rw [KR] at A2
    have A3 := areLists_c (.slice (some ⟨bw, ow + m, none⟩) (lw - m) (cw - m)) WS (2 * n + 1) 9
    rw [KW] at A3
    have hwn1 : IntKind.i64.wrap (2 * (n : Int)) = ((2 * n : Nat) : Int) := by rw [show 2 * (n : Int) = ((2 * n : Nat) : Int) by omega]; exact IntWalk.i64_in _ (by omega)
    have hwn2 : IntKind.i64.wrap (((2 * n : Nat) : Int) + 1) = ((2 * n + 1 : Nat) : Int) := by rw [show ((2 * n : Nat) : Int) + 1 = ((2 * n + 1 : Nat) : Int) by omega]; exact IntWalk.i64_in _ (by omega)
    have s1 := bS.cell 1
    have s2 := bS.cell 2
    simp only [List.getElem?_toArray, List.getElem?_cons_zero, List.getElem?_cons_succ] at s1 s2
    have HC := Lib.hid (And.intro bS (And.intro oL (And.intro oR (And.intro hxc (And.intro hlow (And.intro hWS hwsl))))))
    have KK := Lib.hid K
    clear bS oL oR hxc hlow hWS hwsl hwt K KL KR KW hrd LL LR
    go_upto_region 8 with fail
    go_wp2_with fail
    refine (A1 wc HC.out.2.1.lists).mono ?_
    rintro e w4 ⟨rfl, hx4⟩
    clear A1
    have s2 := hx4.cell s2
    go_wp2_with fail
    refine (A2 w4 (HC.out.2.2.1.lists.ext hx4)).mono ?_
    rintro e w5 ⟨rfl, hx5⟩
    clear A2
    go_wp2_with fail
    refine (A3 w5 (LW w5 (hx4.trans hx5))).mono ?_
    rintro e w6 ⟨rfl, hx6⟩
    clear A3
    have HX6 := Lib.hid ((hx4.trans hx5).trans hx6)
    have i3 : Ints w6 (.slice (some ⟨bn, on + 3, none⟩) (ln - 3) (cn - 3)) (ns.drop 3) := by
      have h9 := (HH.out.2.2.2.1.ext ((HX3.out.trans HC.out.2.2.2.1).trans HX6.out)).drop 3 (by have := HL.out.1; omega)
      rw [HL.out.1] at h9
      exact h9
    have hWSb : ∀ x ∈ WS, x.length ≤ 1000 := fun x hx => by have := HH.out.2.2.2.2.2.2.1.2.2 x (by have := HC.out.2.2.2.2.2.1; rw [← this] at hx; exact List.mem_of_mem_drop hx); omega
    have ST := stated_c _ _ (ns.drop 3) WS w6 i3 (LW w6 HX6.out) (by rw [List.length_drop]; have := HC.out.2.2.2.2.2.2; have := HL.out; have := HAB.out; have := hsm.out; omega) (by have := HC.out.2.2.2.2.2.2; omega) hWSb
    obtain ⟨C, hC⟩ : ∃ q, statedX (ns.drop 3) WS = q := ⟨_, rfl⟩
    rw [hC] at ST
    have hSPe : SP = ⟨n, L, R, C⟩ := by
      rw [← HSP.out, KK.out.sp, HLR.out.1, HLR.out.2.1]
      have := HC.out.2.2.2.2.2.1
      simp only
      rw [this, hC]
    have HSE := Lib.hid hSPe
    clear hx4 hx5 hx6 LW s1 s2 hwn1 hwn2 i3 hWSb hC hSPe
    go_wp2_with fail
    refine ST.mono ?_
    rintro e w7 ⟨u, rfl, ou, hx7⟩
    clear ST
    obtain ⟨Ac, cc, rfl⟩ := ou.form
    have bS7 := (HC.out.1.ext HX6.out).ext hx7
    have e67 := HX6.out.trans hx7
    have hlow := HC.out.2.2.2.2.1
    have hs6 : w3.heap.size ≤ w6.heap.size := (HC.out.2.2.2.1.trans HX6.out).size
    have oC : OwnLists w3.heap.size w7 (.slice Ac C.length cc) C := ou.base0 hs6
    obtain ⟨V, hV⟩ : ∃ V, w7.setCell ⟨gs, 3, none⟩ (.slice Ac C.length cc) = V := ⟨_, rfl⟩
    have bV : Blk V gs 58 #[.int .i64 (n : Int), .slice Al L.length cl, .slice Ar R.length cr, .slice Ac C.length cc] := by
      rw [← hV]
      have := bS7.set_ 3 (.slice Ac C.length cc)
      simpa using this
    have oLV : OwnLists w3.heap.size V (.slice Al L.length cl) L := by rw [← hV]; exact (HC.out.2.1.ext e67).farX bS7 (by decide) (by decide) _ _
    have oRV : OwnLists w3.heap.size V (.slice Ar R.length cr) R := by rw [← hV]; exact (HC.out.2.2.1.ext e67).farX bS7 (by decide) (by decide) _ _
    have oCV : OwnLists w3.heap.size V (.slice Ac C.length cc) C := by rw [← hV]; exact oC.farX bS7 (by decide) (by decide) _ _
    have e3V : Ext w3 V := by rw [← hV]; exact (HC.out.2.2.2.1.trans e67).setCell (p := ⟨gs, 3, none⟩) hlow _
    have z0 := bS7.cell 3
    have f0 := bS7.frozen 3
    simp only [List.getElem?_toArray, List.getElem?_cons_zero, List.getElem?_cons_succ] at z0
    have HV := Lib.hid (And.intro bV (And.intro oLV (And.intro oRV (And.intro oCV e3V))))
    clear bV oLV oRV oCV e3V bS7 e67 oC ou hx7 hlow hs6
    go_upto_region 11 with fail
    try rw [hV]
    clear hV z0 f0
    have d0 := HV.out.1.cell 0
    have d1 := HV.out.1.cell 1
    have d2 := HV.out.1.cell 2
    have d3 := HV.out.1.cell 3
    simp only [List.getElem?_toArray, List.getElem?_cons_zero, List.getElem?_cons_succ] at d0 d1 d2 d3
    have INC := fun W (h : Ext V W) => increasing_c (.agg #[.int .i64 (n : Int), .slice Al L.length cl, .slice Ar R.length cr, .slice Ac C.length cc]) ⟨n, L, R, C⟩ W ⟨_, _, _, rfl, (HV.out.2.1.ext h).lists, (HV.out.2.2.1.ext h).lists, (HV.out.2.2.2.1.ext h).lists⟩
    have hincT : incB ⟨n, L, R, C⟩ = true := by have := KK.out.inc; rw [HSP.out, HSE.out] at this; exact this
    rw [hincT] at INC
    clear hincT
    refine wp_region_ordT 3 (readsT [0, 1] (.stir 2 .done)) (by kernel_rfl) (by kernel_rfl) (fun _ _ _ _ _ h => h) ?_
    simp only [readsT]
    iterate 2 (refine wpOrdT_read (v := ?_) (by rfl) (Or.inl ⟨by rfl, fun x hx => ?_⟩) ?_; rotate_left; (· have hx' := (Ext.drew V).trans hx; have d0 := hx'.cell d0; have d1 := hx'.cell d1; have d2 := hx'.cell d2; have d3 := hx'.cell d3; go_simp; try with_reducible rfl); try simp only [Act.put, List.setIfInBounds_toArray, List.set_cons_zero, List.set_cons_succ])
    have hxd : Ext V V.drew := Ext.drew V
    generalize V.drew = V0 at *
    refine wpOrdT_keep (by rfl) (fun K hK => ?_)
    go_simp
    go_at_call 90
    refine (INC V0 hxd).mono ?_
    rintro e V1 ⟨rfl, hxe⟩
    refine hK _ _ hxe ?_
    clear hK K INC d0 d1 d2 d3
    try simp only [Act.put, List.setIfInBounds_toArray, List.set_cons_zero, List.set_cons_succ]
    refine wpOrdT_done ?_
    try simp only [List.drop_succ_cons, List.drop_zero]
    have hV1 := hxd.trans hxe
    have eW : Ext W V1 := ((H2.out.1.trans H2.out.2).trans HV.out.2.2.2.2).trans hV1
    have bO := HH.out.2.2.1.ext eW
    have o0 := bO.cell 0
    have o1 := bO.cell 1
    have o2 := bO.cell 2
    have o3 := bO.cell 3
    have z0 := bO.frozen 0
    have z1 := bO.frozen 1
    have z2 := bO.frozen 2
    have z3 := bO.frozen 3
    simp only [List.getElem?_toArray, List.getElem?_cons_zero, List.getElem?_cons_succ] at o0 o1 o2 o3
    have hgw : w.heap.size = g := HH.out.2.2.2.2.2.2.2.2
    have oL1 := ((HV.out.2.1.ext hV1).farX bO (by decide) (by decide) 0 (.int .i64 (n : Int)))
    have HFIN : Hid (SetsO w.heap.size ((((V1.setCell ⟨g + 1, 0, none⟩ (.int .i64 (n : Int))).setCell ⟨g + 1, 1, none⟩ (.slice Al L.length cl)).setCell ⟨g + 1, 2, none⟩ (.slice Ar R.length cr)).setCell ⟨g + 1, 3, none⟩ (.slice Ac C.length cc)) (.agg #[.int .i64 (n : Int), .slice Al L.length cl, .slice Ar R.length cr, .slice Ac C.length cc]) SP ∧ Ext w ((((V1.setCell ⟨g + 1, 0, none⟩ (.int .i64 (n : Int))).setCell ⟨g + 1, 1, none⟩ (.slice Al L.length cl)).setCell ⟨g + 1, 2, none⟩ (.slice Ar R.length cr)).setCell ⟨g + 1, 3, none⟩ (.slice Ac C.length cc))) := Lib.hid (by
      have b0 := bO.set_ 0 (.int .i64 (n : Int))
      have b1 := b0.set_ 1 (.slice Al L.length cl)
      have b2 := b1.set_ 2 (.slice Ar R.length cr)
      have far4 : ∀ {v : Value} {xss : List (List Int)}, OwnLists w3.heap.size V v xss → OwnLists w.heap.size ((((V1.setCell ⟨g + 1, 0, none⟩ (.int .i64 (n : Int))).setCell ⟨g + 1, 1, none⟩ (.slice Al L.length cl)).setCell ⟨g + 1, 2, none⟩ (.slice Ar R.length cr)).setCell ⟨g + 1, 3, none⟩ (.slice Ac C.length cc)) v xss := fun h => (((((h.ext hV1).farX bO (by decide) (by decide) _ _).farX b0 (by decide) (by decide) _ _).farX b1 (by decide) (by decide) _ _).farX b2 (by decide) (by decide) _ _).base0 (HX3.out.size)
      rw [HSE.out]
      exact ⟨⟨_, _, _, _, _, _, rfl, far4 HV.out.2.1, far4 HV.out.2.2.1, far4 HV.out.2.2.2.1⟩, ((((HH.out.1.trans eW).setCell (p := ⟨g + 1, 0, none⟩) (by simp only; omega) _).setCell (p := ⟨g + 1, 1, none⟩) (by simp only; omega) _).setCell (p := ⟨g + 1, 2, none⟩) (by simp only; omega) _).setCell (p := ⟨g + 1, 3, none⟩) (by simp only; omega) _⟩)
    clear bO eW hV1 hxd hxe oL1
    go_wp2
    refine bodyPost_ret (v := .tuple #[.agg #[.int .i64 (n : Int), .slice Al L.length cl, .slice Ar R.length cr, .slice Ac C.length cc], .bool true]) (by simp [results, Tryz.results48, go_sem, o0, o1, o2, o3]) rfl ?_
    exact ⟨⟨_, rfl, HFIN.out.1⟩, HFIN.out.2⟩
end Go.Proofs.YtapjofbjedpmgaaGreat
end
