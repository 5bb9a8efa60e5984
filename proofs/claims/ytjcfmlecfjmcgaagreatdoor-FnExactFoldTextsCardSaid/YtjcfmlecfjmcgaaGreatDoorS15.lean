/- Contract of the program's machine on one half of the tape. The machine is valid.
Contracts of the reference's moves of the machine on one half of the tape. The place and the symbol are the machine's. -/
import Derived.Test.YtjcfmlecfjmcgaaGreatDoorS13
import Derived.Test.YtjcfmlecfjmcgaaGreatDoorS14
import Derived.Deep.RegionHeld3
import Derived.Deep.RegionLaw
import Derived.StillTailTactics
section
set_option linter.unusedSimpArgs false
set_option linter.unusedVariables false
namespace Go.Proofs.YtjcfmlecfjmcgaaGreatDoor
open Go Go.RowKit Go.Proofs Go.Maps
set_option maxHeartbeats 400000
set_option maxRecDepth 20000 in
theorem folded1_c (b : Nat) (rv : Value) (m : MachD) (p : FP) (v : Int) (w : World) (hb : Blk w b 35 #[.int .i64 m.sy, .int .i64 m.st, rv]) (hr : Rules w rv m.rules) (ha : FoldArgs m p v) :
    Calls Tryz.prog 61 #[p.v, .int .i64 v, .pointer (some ⟨b, 0, none⟩)] w fun e w' => e = .returned (ActV (actF m p v)) ∧ Ext w w' := by
  obtain ⟨A, c, rfl, h5, h5'⟩ := hr.form
  obtain ⟨W, hW⟩ : ∃ W, W = (w.alloc (.cells #[.int .i64 p.k, .int .i64 p.q, .int .i64 p.h] 102)).alloc (.cells #[.int .i64 0, .int .i64 0, .int .i64 0, .int .i64 0, .int .i64 0, .bool false] 105) := ⟨_, rfl⟩
  have hXW : Ext w W := by rw [hW]; exact (Ext.alloc _ _).trans (Ext.alloc _ _)
  have bZ : Blk W (w.heap.size + 1) 105 #[.int .i64 0, .int .i64 0, .int .i64 0, .int .i64 0, .int .i64 0, .bool false] := by rw [hW]; exact Blk.new _ _ _ _ (by simp)
  have bM := hb.ext hXW
  rw [hW] at bM
  have m0 := bM.cell 0
  have m1 := bM.cell 1
  have m2 := bM.cell 2
  simp only [List.getElem?_toArray, List.getElem?_cons_zero, List.getElem?_cons_succ] at m0 m1 m2
  have hw1 : w.heap.size ≤ w.heap.size + 1 := by omega
  have hMr : Mach W (.agg #[.int .i64 m.sy, .int .i64 m.st, .slice A m.rules.length c]) m := ⟨_, rfl, hr.ext hXW⟩
  simp only [FP.v]
  go_enter Tryz.func61, Tryz.ntmps61
  go_wp2_with fail
  rw [← hW]
  refine (foldAction_c _ m p v _ hMr ha).mono ?_
  rintro e w1 ⟨rfl, hx1⟩
  have z0 := (bZ.ext hx1).cell
  have z1 := (bZ.ext hx1).frozen
  have hX := hXW.trans hx1
  obtain ⟨a, hA⟩ : ∃ a, actF m p v = a := ⟨_, rfl⟩
  rw [hA]
  simp only [ActV]
  go_wp2
  refine bodyPost_ret (v := ActV a) (by simp [results, Tryz.results61, go_sem, z0, ActV]) rfl ?_
  exact ⟨by rw [hA], by repeat (first | with_reducible exact hX | refine Ext.setCell ?_ hw1 _)⟩
theorem actF_ok {m : MachD} (hm : machOk m = true) {p : FP} {v : Int} (hp : POk m.st p) (v0 : 0 ≤ v) (v1 : v ≤ m.sy) (hn : (actF m p v).no = false) : POk m.st (actF m p v).p := by
  obtain ⟨s1, s2, s3, s4, hl⟩ := machOk_all hm
  obtain ⟨k, q, h⟩ := p
  obtain ⟨k0, k5, q0, q1, h01, hk⟩ := hp
  simp only at k0 k5 q0 q1 h01 hk
  have main : ∀ h', (h' = 0 ∨ h' = 1) → v ≠ m.sy → (foldMainD m q h' v).no = false → POk m.st (foldMainD m q h' v).p := by
    intro h' hh hne hno
    obtain ⟨j, hj1, hj2⟩ := ruleIx s1 s2 hl q0 q1 v0 (by omega : v < m.sy)
    have e0 : m.rules.getD (q * m.sy + v).toNat noR = m.rules[j] := by
      rw [hj1, List.getD_eq_getElem?_getD, Int.toNat_natCast, List.getElem?_eq_getElem hj2]; rfl
    have hr : ruleOk m.sy m.st m.rules[j] = true := by
      have : m.rules.all (ruleOk m.sy m.st) = true := by simp only [machOk, Bool.and_eq_true] at hm; exact hm.2
      exact List.all_eq_true.1 this _ (List.getElem_mem hj2)
    unfold foldMainD at hno ⊢
    rw [e0] at hno ⊢
    generalize m.rules[j] = r at *
    by_cases hn : r = noR
    · rw [if_pos hn] at hno; simp [noA] at hno
    · rw [if_neg hn] at hno ⊢
      have hrn : 0 ≤ r.n ∧ r.n ≤ m.st - 1 := by
        simp only [ruleOk, decide_eq_false hn, Bool.false_or, Bool.and_eq_true] at hr
        exact inB_iff.1 hr.2
      split
      · exact ⟨by simp, by simp, hrn.1, by simp; omega, hh, by simp⟩
      · split
        · exact ⟨by simp, by simp, hrn.1, by simp; omega, .inl rfl, fun _ => rfl⟩
        · exact ⟨by simp, by simp, hrn.1, by simp; omega, .inl rfl, fun _ => rfl⟩
  have hkk : k = 0 ∨ k = 1 ∨ k = 2 ∨ k = 3 ∨ k = 4 ∨ k = 5 := by omega
  by_cases hne : v = m.sy
  · rcases hkk with e | e | e | e | e | e <;> subst e <;> simp [actF, hne, noA, keepD] at hn ⊢
    all_goals exact ⟨by simp, by simp, q0, q1, by simp, by simp⟩
  · rcases hkk with e | e | e | e | e | e <;> subst e <;> simp [actF, hne, keepD] at hn ⊢
    · exact main h h01 hne hn
    · exact ⟨by simp, by simp, q0, q1, h01, by simp⟩
    · exact ⟨by simp, by simp, q0, q1, by simp, by simp⟩
    · exact ⟨by simp, by simp, q0, q1, by simp, by simp⟩
    · exact ⟨by simp, by simp, q0, q1, by simp, by simp⟩
    · exact main 1 (.inr rfl) hne hn
theorem POk.small {m : MachD} (hm : machOk m = true) {p : FP} (hp : POk m.st p) : small p.k ∧ small p.q ∧ small p.h := by
  obtain ⟨s1, s2, s3, s4, hl⟩ := machOk_all hm
  obtain ⟨k0, k5, q0, q1, h01, hk⟩ := hp
  unfold Go.Proofs.YtjcfmlecfjmcgaaGreatDoor.small
  omega
end Go.Proofs.YtjcfmlecfjmcgaaGreatDoor
end
section
set_option linter.unusedSimpArgs false
set_option linter.unusedVariables false
namespace Go.Proofs.YtjcfmlecfjmcgaaGreatDoor
open Go Go.RowKit Go.Proofs
set_option maxHeartbeats 4000000
def encL (p : FP) : List Int := if p.k ≤ 1 then [p.k, p.q, p.h] else [p.k, p.q]
theorem encL_inj {st : Int} {x y : FP} (hx : POk st x) (hy : POk st y) (h : encL x = encL y) : x = y := by
  obtain ⟨k, q, h'⟩ := x
  obtain ⟨k2, q2, h2⟩ := y
  have a := hx.hk
  have b := hy.hk
  simp only [encL] at h a b
  split at h <;> split at h <;> simp at h
  · simp [h]
  · simp [h, a (by omega), b (by omega)]
/-- What a move comes to. -/
def MoveRes (w : World) (a : ActG FP) (e : Ending) (w' : World) : Prop :=
  ((a.no = true ∧ e = .returned (.agg #[.bool false, .int .i64 0, .int .i64 0, .slice none 0 0])) ∨
    (a.no = false ∧ ∃ A c, e = .returned (.agg #[.bool true, .int .i64 a.w, .int .i64 a.m, .slice A (encL a.p).length c]) ∧ OwnInts w.heap.size w' (.slice A (encL a.p).length c) (encL a.p))) ∧ Ext w w'
theorem own_of_blk {w : World} {g base : Nat} {zs : List Int} (h : Blk w g 2 (ivs zs).toArray) (hb : base ≤ g) (hn : zs.length ≤ 1000) : OwnInts base w (.slice (some ⟨g, 0, none⟩) zs.length zs.length) zs := by
  refine ⟨by simp, .inr ⟨g, zs.length, (ivs zs).toArray, rfl, hb, h, Nat.le_refl _, by unfold maxLen; omega, by simp, by simp only [Nat.mul_one]; exact List.take_of_length_le (by simp)⟩⟩
theorem l13Go_c (a m : Int) (A : Option Addr) (n c : Nat) (w : World) :
    Calls Tryz.prog 125 #[.int .i64 a, .int .i64 m, .slice A n c] w fun e w' => e = .returned (.agg #[.bool true, .int .i64 a, .int .i64 m, .slice A n c]) ∧ Ext w w' := by
  go_enter Tryz.func125, Tryz.ntmps125
  go_wp2
  refine bodyPost_ret (v := .agg #[.bool true, .int .i64 a, .int .i64 m, .slice A n c]) (by simp [results, Tryz.results125, go_sem]) rfl ?_
  exact ⟨rfl, Ext.alloc _ _⟩
theorem move_done {w V w1 : World} {a m : Int} {g : Nat} {zs : List Int} (hv : Ext w V) (hx : Ext V w1) (hg : Blk V g 2 (ivs zs).toArray) (hlt : w.heap.size < g) (hn : zs.length ≤ 1000) (p : FP) (hp : encL p = zs) :
    MoveRes w ⟨a, m, p, false⟩ (.returned (.agg #[.bool true, .int .i64 a, .int .i64 m, .slice (some ⟨g, 0, none⟩) zs.length zs.length])) ((((w1.setCell ⟨w.heap.size, 0, none⟩ (.bool true)).setCell ⟨w.heap.size, 1, none⟩ (.int .i64 a)).setCell ⟨w.heap.size, 2, none⟩ (.int .i64 m)).setCell ⟨w.heap.size, 3, none⟩ (.slice (some ⟨g, 0, none⟩) zs.length zs.length)) := by
  subst hp
  have o1 := own_of_blk (base := w.heap.size) (hg.ext hx) (by omega) hn
  have hne : ∀ k, (Value.slice (some ⟨g, 0, none⟩) (encL p).length (encL p).length).ownBlock = some k → k ≠ w.heap.size := fun k hk => by simp [Value.ownBlock] at hk; omega
  exact ⟨.inr ⟨rfl, _, _, rfl, ownsRow_far (ownsRow_far (ownsRow_far (ownsRow_far o1 hne _) hne _) hne _) hne _⟩, (((Ext.setCell (Ext.trans hv hx) (Nat.le_refl _) _).setCell (Nat.le_refl _) _).setCell (Nat.le_refl _) _).setCell (Nat.le_refl _) _⟩
set_option maxRecDepth 20000 in
theorem l13Fold0_c (b : Nat) (m : MachD) (q h v : Int) (pv : Value) (w : World) (hM : MachAt w b m) (hm : machOk m = true) (q0 : 0 ≤ q) (q1 : q < m.st) (hh : h = 0 ∨ h = 1) (v0 : 0 ≤ v) (v1 : v ≤ m.sy) (hpv : Ints w pv [0, q, h]) :
    Calls Tryz.prog 107 #[.pointer (some ⟨b, 0, none⟩), pv, .int .i64 v] w (MoveRes w (if v = m.sy then noA else foldMainD m q h v)) := by
  generalize hA : (if v = m.sy then noA else foldMainD m q h v) = a
  have HA := Lib.hid hA
  clear hA
  obtain ⟨rv, p0, p1, p2, hr⟩ := hM
  obtain ⟨A, cap, rfl, h2, h2'⟩ := hr.form
  obtain ⟨s1, s2, s3, s4, hl⟩ := machOk_all hm
  obtain ⟨Ap, cp, rfl, _, _⟩ := hpv.form
  obtain ⟨bp, op, rfl, hc⟩ := hpv.at (k := 0) (by simp)
  obtain ⟨W, hW⟩ : ∃ W, W = w.alloc (.cells #[.bool false, .int .i64 0, .int .i64 0, .slice none 0 0] 124) := ⟨_, rfl⟩
  have hXW : Ext w W := by rw [hW]; exact Ext.alloc _ _
  have bZ : Blk W w.heap.size 124 #[.bool false, .int .i64 0, .int .i64 0, .slice none 0 0] := by rw [hW]; exact Blk.new _ _ _ _ rfl
  have P0 := hXW.cell (hc 0 (by simp))
  have P1 := hXW.cell (hc 1 (by simp))
  have P2 := hXW.cell (hc 2 (by simp))
  have M0 := hXW.cell p0
  have M2 := hXW.cell p2
  simp only [List.getElem_cons_zero, List.getElem_cons_succ, Nat.add_zero] at P0 P1 P2
  have P0' := P0
  have P1' := P1
  have P2' := P2
  have M0' := M0
  have M2' := M2
  rw [hW] at P0' P1' P2' M0' M2'
  by_cases hne : v = m.sy
  · have hvb : (v == m.sy) = true := by simp [hne]
    have HE : Hid (a = noA) := by unfold Hid; rw [← HA.out, if_pos hne]
    clear hne
    have d0 := cellR M0
    have d2 := cellR M2
    go_enter Tryz.func107, Tryz.ntmps107
    go_wp2_with fail
    rw [← hW]
    clear hW
    refine wp_region_ext (by kernel_rfl) (by kernel_rfl) ?_
    repeat (go_big_quiet_step ((go_at_call 81; exact Calls.extR (l05None_c _))))
    refine wpQuiet_nil ?_
    intro w2 hx2
    have z0 := (bZ.ext hx2).cell
    have z1 := (bZ.ext hx2).frozen
    go_wp2
    refine bodyPost_ret (v := .agg #[.bool false, .int .i64 0, .int .i64 0, .slice none 0 0]) (by simp [results, Tryz.results107, go_sem, z0]) rfl ?_
    rw [HE.out]
    exact ⟨.inl ⟨rfl, rfl⟩, (((Ext.setCell (Ext.trans hXW hx2) (Nat.le_refl _) _).setCell (Nat.le_refl _) _).setCell (Nat.le_refl _) _).setCell (Nat.le_refl _) _⟩
  have hvb : (v == m.sy) = false := by simp [hne]
  obtain ⟨k, hk, hkl⟩ := ruleIx s1 s2 hl q0 q1 v0 (by omega : v < m.sy)
  have e0 : m.rules.getD (q * m.sy + v).toNat noR = m.rules[k] := by
    rw [hk, List.getD_eq_getElem?_getD, Int.toNat_natCast, List.getElem?_eq_getElem hkl]; rfl
  have hrk : ruleOk m.sy m.st m.rules[k] = true := by
    have : m.rules.all (ruleOk m.sy m.st) = true := by simp only [machOk, Bool.and_eq_true] at hm; exact hm.2
    exact List.all_eq_true.1 this _ (List.getElem_mem hkl)
  obtain ⟨b', off, rfl, hcr⟩ := hr.at hkl
  obtain ⟨c0, c1, c2⟩ := hcr k hkl
  have HD : Hid (a = if m.rules[k] = noR then noA else if (m.rules[k].m == 1) == (h == 0) then ⟨m.rules[k].w, 1, ⟨1, m.rules[k].n, h⟩, false⟩
    else if h == 0 then ⟨m.rules[k].w, -1, ⟨2, m.rules[k].n, 0⟩, false⟩ else ⟨m.rules[k].w, -1, ⟨4, m.rules[k].n, 0⟩, false⟩) := by
    unfold Hid; rw [← HA.out, if_neg hne]; unfold foldMainD; rw [e0]
  have hl6 : m.rules.length ≤ 6000 := by have := (mul_bounds s1 s2 s3 s4).2; omega
  have hq6 : 0 ≤ q * m.sy ∧ q * m.sy ≤ 6000 := ⟨Int.mul_nonneg q0 (by omega), by omega⟩
  generalize m.rules[k] = r at *
  obtain ⟨rw_, rm, rn⟩ := r
  simp only at c0 c1 c2 HD
  have C0 := hXW.cell c0
  have C1 := hXW.cell c1
  have C2 := hXW.cell c2
  clear e0 hcr hne hr
  have d0 := cellR M0
  have d2 := cellR M2
  have g0 := cellR C0
  have g1 := cellR C1
  have g2 := cellR C2
  have rn_ := ruleEql_run
  have hw1 : IntKind.i64.wrap (q * m.sy) = q * m.sy := IntWalk.i64_in _ (by omega)
  have hw2 : IntKind.i64.wrap (k : Int) = (k : Int) := IntWalk.i64_in _ (by omega)
  clear hl
  have i1 : (0 : Int) ≤ (k : Int) := by omega
  have i2 : (k : Int) < (m.rules.length : Int) := by omega
  have heb : ∀ z, rEq ⟨rw_, rm, rn⟩ noR = z → rEq ⟨rw_, rm, rn⟩ ⟨0, 0, -1⟩ = z := fun _ h => h
  by_cases hn : (⟨rw_, rm, rn⟩ : RuleD) = noR
  · have hE := heb true (by simp [rEq, hn])
    have HE : Hid (a = noA) := by unfold Hid; rw [HD.out, if_pos hn]
    clear hn HD heb
    go_enter Tryz.func107, Tryz.ntmps107
    go_wp2_with fail
    rw [← hW]
    clear hW
    refine wp_region_ext (by kernel_rfl) (by kernel_rfl) ?_
    repeat (go_big_quiet_step ((go_at_call 81; exact Calls.extR (l05None_c _))))
    refine wpQuiet_nil ?_
    intro w2 hx2
    have z0 := (bZ.ext hx2).cell
    have z1 := (bZ.ext hx2).frozen
    go_wp2
    refine bodyPost_ret (v := .agg #[.bool false, .int .i64 0, .int .i64 0, .slice none 0 0]) (by simp [results, Tryz.results107, go_sem, z0]) rfl ?_
    rw [HE.out]
    exact ⟨.inl ⟨rfl, rfl⟩, (((Ext.setCell (Ext.trans hXW hx2) (Nat.le_refl _) _).setCell (Nat.le_refl _) _).setCell (Nat.le_refl _) _).setCell (Nat.le_refl _) _⟩
  have hE := heb false (by simp [rEq, hn])
  have hmv : rm = 1 ∨ rm = -1 := by
    simp only [ruleOk, decide_eq_false hn, Bool.false_or, Bool.and_eq_true, Bool.or_eq_true, beq_iff_eq] at hrk
    exact hrk.1.2
  have HD2 : Hid (a = if (rm == 1) == (h == 0) then ⟨rw_, 1, ⟨1, rn, h⟩, false⟩ else if h == 0 then ⟨rw_, -1, ⟨2, rn, 0⟩, false⟩ else ⟨rw_, -1, ⟨4, rn, 0⟩, false⟩) := by unfold Hid; rw [HD.out, if_neg hn]
  clear hn HD heb
  go_enter Tryz.func107, Tryz.ntmps107
  go_wp2_with fail
  rw [← hW]
  clear hW P0' P1' P2' M0' M2'
  refine wp_region_ext (by kernel_rfl) (by kernel_rfl) ?_
  repeat (go_big_quiet_step ((go_at_call 81; exact Calls.extR (l05None_c _))))
  refine wpQuiet_nil ?_
  intro w2 hx2
  have hX2 := hXW.trans hx2
  have bZ2 := bZ.ext hx2
  have M0 := hx2.cell M0
  have M2 := hx2.cell M2
  have C0 := hx2.cell C0
  have C1 := hx2.cell C1
  have C2 := hx2.cell C2
  have P2 := hx2.cell P2
  clear d0 d2 g0 g1 g2 rn_ hE
  go_wp2
  go_region_held3 (fun w' => w'.cell? ⟨b, 0, none⟩ = some (.int .i64 m.sy) ∧ w'.cell? ⟨b, 2, none⟩ = some (.slice (some ⟨b', off, none⟩) m.rules.length cap) ∧ w'.cell? ⟨b', off + k * 3, none⟩ = some (.int .i64 rw_) ∧ w'.cell? ⟨b', off + k * 3 + 1, none⟩ = some (.int .i64 rm) ∧ w'.cell? ⟨b', off + k * 3 + 2, none⟩ = some (.int .i64 rn))
    (first | go_keep) (first | fail)
  obtain ⟨U, hU⟩ : ∃ U, U = (w2.alloc (.cells #[.int .i64 rw_, .int .i64 rm, .int .i64 rn] 95)).drew := ⟨_, rfl⟩
  have eU : Ext w2 U := by rw [hU]; exact (Ext.alloc _ _).trans (Ext.drew _)
  have bR : Blk U w2.heap.size 95 #[.int .i64 rw_, .int .i64 rm, .int .i64 rn] := by rw [hU]; exact (Blk.new _ _ _ _ rfl).drew
  have hXUU := hX2.trans eU
  have bZUU := bZ2.ext eU
  have P2 := eU.cell P2
  have r0 := bR.cell 0
  have r1 := bR.cell 1
  have r2 := bR.cell 2
  simp only [List.getElem?_toArray, List.getElem?_cons_zero, List.getElem?_cons_succ] at r0 r1 r2
  rw [← hU]
  clear hU M0 M2 C0 C1 C2 hw1 hw2
  rcases hmv with rfl | rfl <;> rcases hh with rfl | rfl
  · have HE : Hid (a = ⟨rw_, 1, ⟨1, rn, 0⟩, false⟩) := by unfold Hid; rw [HD2.out]; simp
    clear HD2
    obtain ⟨V, hV⟩ : ∃ V, V = U.alloc (.cells #[.int .i64 (1), .int .i64 (rn), .int .i64 (0)] 2) := ⟨_, rfl⟩
    have hXV : Ext w V := by rw [hV]; exact hXUU.trans (Ext.alloc _ _)
    have bL : Blk V U.heap.size 2 (ivs [1, rn, 0]).toArray := by rw [hV]; exact Blk.new _ _ _ _ rfl
    have hlt : w.heap.size < U.heap.size := by have := bZUU.lt; omega
    have bZV := bZUU.ext (show Ext U V by rw [hV]; exact Ext.alloc _ _)
    go_wp2_with fail
    rw [← hV]
    clear hV
    refine (l13Go_c _ _ _ _ _ _).mono ?_
    rintro e w1 ⟨rfl, hx1⟩
    have z0 := (bZV.ext hx1).cell
    have z1 := (bZV.ext hx1).frozen
    go_wp2
    refine bodyPost_ret (v := .agg #[.bool true, .int .i64 (rw_), .int .i64 (1), .slice (some ⟨U.heap.size, 0, none⟩) 3 3]) (by simp [results, Tryz.results107, go_sem, z0]) rfl ?_
    rw [HE.out]
    exact move_done (zs := [1, rn, 0]) hXV hx1 bL hlt (by simp) ⟨1, rn, 0⟩ rfl
  · have HE : Hid (a = ⟨rw_, -1, ⟨4, rn, 0⟩, false⟩) := by unfold Hid; rw [HD2.out]; simp
    clear HD2
    obtain ⟨V, hV⟩ : ∃ V, V = U.alloc (.cells #[.int .i64 (4), .int .i64 (rn)] 2) := ⟨_, rfl⟩
    have hXV : Ext w V := by rw [hV]; exact hXUU.trans (Ext.alloc _ _)
    have bL : Blk V U.heap.size 2 (ivs [4, rn]).toArray := by rw [hV]; exact Blk.new _ _ _ _ rfl
    have hlt : w.heap.size < U.heap.size := by have := bZUU.lt; omega
    have bZV := bZUU.ext (show Ext U V by rw [hV]; exact Ext.alloc _ _)
    go_wp2_with fail
    rw [← hV]
    clear hV
    refine (l13Go_c _ _ _ _ _ _).mono ?_
    rintro e w1 ⟨rfl, hx1⟩
    have z0 := (bZV.ext hx1).cell
    have z1 := (bZV.ext hx1).frozen
    go_wp2
    refine bodyPost_ret (v := .agg #[.bool true, .int .i64 (rw_), .int .i64 (-1), .slice (some ⟨U.heap.size, 0, none⟩) 2 2]) (by simp [results, Tryz.results107, go_sem, z0]) rfl ?_
    rw [HE.out]
    exact move_done (zs := [4, rn]) hXV hx1 bL hlt (by simp) ⟨4, rn, 0⟩ rfl
  · have HE : Hid (a = ⟨rw_, -1, ⟨2, rn, 0⟩, false⟩) := by unfold Hid; rw [HD2.out]; simp
    clear HD2
    obtain ⟨V, hV⟩ : ∃ V, V = U.alloc (.cells #[.int .i64 (2), .int .i64 (rn)] 2) := ⟨_, rfl⟩
    have hXV : Ext w V := by rw [hV]; exact hXUU.trans (Ext.alloc _ _)
    have bL : Blk V U.heap.size 2 (ivs [2, rn]).toArray := by rw [hV]; exact Blk.new _ _ _ _ rfl
    have hlt : w.heap.size < U.heap.size := by have := bZUU.lt; omega
    have bZV := bZUU.ext (show Ext U V by rw [hV]; exact Ext.alloc _ _)
    go_wp2_with fail
    rw [← hV]
    clear hV
    refine (l13Go_c _ _ _ _ _ _).mono ?_
    rintro e w1 ⟨rfl, hx1⟩
    have z0 := (bZV.ext hx1).cell
    have z1 := (bZV.ext hx1).frozen
    go_wp2
    refine bodyPost_ret (v := .agg #[.bool true, .int .i64 (rw_), .int .i64 (-1), .slice (some ⟨U.heap.size, 0, none⟩) 2 2]) (by simp [results, Tryz.results107, go_sem, z0]) rfl ?_
    rw [HE.out]
    exact move_done (zs := [2, rn]) hXV hx1 bL hlt (by simp) ⟨2, rn, 0⟩ rfl
  · have HE : Hid (a = ⟨rw_, 1, ⟨1, rn, 1⟩, false⟩) := by unfold Hid; rw [HD2.out]; simp
    clear HD2
    obtain ⟨V, hV⟩ : ∃ V, V = U.alloc (.cells #[.int .i64 (1), .int .i64 (rn), .int .i64 (1)] 2) := ⟨_, rfl⟩
    have hXV : Ext w V := by rw [hV]; exact hXUU.trans (Ext.alloc _ _)
    have bL : Blk V U.heap.size 2 (ivs [1, rn, 1]).toArray := by rw [hV]; exact Blk.new _ _ _ _ rfl
    have hlt : w.heap.size < U.heap.size := by have := bZUU.lt; omega
    have bZV := bZUU.ext (show Ext U V by rw [hV]; exact Ext.alloc _ _)
    go_wp2_with fail
    rw [← hV]
    clear hV
    refine (l13Go_c _ _ _ _ _ _).mono ?_
    rintro e w1 ⟨rfl, hx1⟩
    have z0 := (bZV.ext hx1).cell
    have z1 := (bZV.ext hx1).frozen
    go_wp2
    refine bodyPost_ret (v := .agg #[.bool true, .int .i64 (rw_), .int .i64 (1), .slice (some ⟨U.heap.size, 0, none⟩) 3 3]) (by simp [results, Tryz.results107, go_sem, z0]) rfl ?_
    rw [HE.out]
    exact move_done (zs := [1, rn, 1]) hXV hx1 bL hlt (by simp) ⟨1, rn, 1⟩ rfl
set_option maxRecDepth 20000 in
theorem l13Fold_c (b : Nat) (m : MachD) (p : FP) (v : Int) (pv : Value) (w : World) (hM : MachAt w b m) (ha : FoldArgs m p v) (hpv : Ints w pv (encL p)) :
    Calls Tryz.prog 107 #[.pointer (some ⟨b, 0, none⟩), pv, .int .i64 v] w (MoveRes w (actF m p v)) := by
  have hm := ha.ok
  have hp := ha.p
  obtain ⟨v0, v1⟩ : 0 ≤ v ∧ v ≤ m.sy := ⟨ha.v0, ha.v1⟩
  obtain ⟨k, q, h⟩ := p
  have q0 := hp.q0
  have q1 := hp.q1
  have h01 := hp.h01
  have hk := hp.kinds
  simp only at q0 q1 h01 hk
  generalize hA : actF m ⟨k, q, h⟩ v = a
  have HA := Lib.hid hA
  clear hA
  by_cases hk0 : k = 0
  · subst hk0
    have e : a = if v = m.sy then noA else foldMainD m q h v := by rw [← HA.out]; simp [actF]
    rw [e]
    exact l13Fold0_c b m q h v pv w hM hm q0 q1 h01 v0 v1 (by simpa [encL] using hpv)
  have hMM := hM
  obtain ⟨rv, p0, p1, p2, hr⟩ := hM
  obtain ⟨A, cap, rfl, h2, h2'⟩ := hr.form
  obtain ⟨s1, s2, s3, s4, hl⟩ := machOk_all hm
  obtain ⟨Ap, cp, rfl, _, _⟩ := hpv.form
  obtain ⟨bp, op, rfl, hc⟩ := hpv.at (k := 0) (by simp only [encL]; split <;> simp)
  obtain ⟨W, hW⟩ : ∃ W, W = w.alloc (.cells #[.bool false, .int .i64 0, .int .i64 0, .slice none 0 0] 124) := ⟨_, rfl⟩
  have hXW : Ext w W := by rw [hW]; exact Ext.alloc _ _
  have bZ : Blk W w.heap.size 124 #[.bool false, .int .i64 0, .int .i64 0, .slice none 0 0] := by rw [hW]; exact Blk.new _ _ _ _ rfl
  have HC : Hid (∀ j (hj : j < (encL ⟨k, q, h⟩).length), w.cell? ⟨bp, op + j, none⟩ = some (.int .i64 (encL ⟨k, q, h⟩)[j])) := hc
  clear hc
  have M0 := hXW.cell p0
  have M0' := M0
  rw [hW] at M0'
  have hsz : W.heap.size = w.heap.size + 1 := by rw [hW]; simp
  by_cases hne : v = m.sy
  · have hvb : (v == m.sy) = true := by simp [hne]
    rcases hk with e | e | e | e | e | e <;> subst e
    · exact absurd rfl hk0
    · have HE : Hid (a = noA) := by unfold Hid; rw [← HA.out]; simp [actF, hne]
      clear hne
      have P0 := hXW.cell (HC.out 0 (by simp [encL]))
      have P1 := hXW.cell (HC.out 1 (by simp [encL]))
      have P2 := hXW.cell (HC.out 2 (by simp [encL]))
      simp [encL] at P0 P1 P2
      rw [hW] at P0 P1 P2
      clear HC hpv
      have hlen : (encL ⟨1, q, h⟩).length = 3 := by simp [encL]
      rw [hlen]
      go_enter Tryz.func107, Tryz.ntmps107
      go_wp2
      refine bodyPost_ret (v := .agg #[.bool false, .int .i64 0, .int .i64 0, .slice none 0 0]) (by simp [results, Tryz.results107, go_sem]) rfl ?_
      rw [HE.out]
      exact ⟨.inl ⟨rfl, rfl⟩, Ext.alloc _ _⟩
    · have HE : Hid (a = keepD v ⟨2, q, h⟩ 1 3 0) := by unfold Hid; rw [← HA.out]; simp [actF, hne]
      clear hne
      have P0 := hXW.cell (HC.out 0 (by simp [encL]))
      have P1 := hXW.cell (HC.out 1 (by simp [encL]))
      simp [encL] at P0 P1
      rw [hW] at P0 P1
      clear HC hpv
      have hlen : (encL ⟨2, q, h⟩).length = 2 := by simp [encL]
      rw [hlen]
      go_enter Tryz.func107, Tryz.ntmps107
      obtain ⟨V, hV⟩ : ∃ V, V = W.alloc (.cells #[.int .i64 (3), .int .i64 (q)] 2) := ⟨_, rfl⟩
      have hXV : Ext w V := by rw [hV]; exact hXW.trans (Ext.alloc _ _)
      have bL : Blk V (w.heap.size + 1) 2 (ivs [3, q]).toArray := by rw [hV]; exact Blk.new _ _ _ _ hsz
      have hlt : w.heap.size < (w.heap.size + 1) := by have := bZ.lt; omega
      have bZV := bZ.ext (show Ext W V by rw [hV]; exact Ext.alloc _ _)
      go_wp2_with fail
      rw [← hW, ← hV]
      clear hV
      refine (l13Go_c _ _ _ _ _ _).mono ?_
      rintro e w1 ⟨rfl, hx1⟩
      have z0 := (bZV.ext hx1).cell
      have z1 := (bZV.ext hx1).frozen
      go_wp2
      refine bodyPost_ret (v := .agg #[.bool true, .int .i64 (v), .int .i64 (1), .slice (some ⟨(w.heap.size + 1), 0, none⟩) 2 2]) (by simp [results, Tryz.results107, go_sem, z0]) rfl ?_
      rw [HE.out]
      exact move_done (zs := [3, q]) hXV hx1 bL hlt (by simp) ⟨3, q, 0⟩ rfl
    · have HE : Hid (a = noA) := by unfold Hid; rw [← HA.out]; simp [actF, hne]
      clear hne
      have P0 := hXW.cell (HC.out 0 (by simp [encL]))
      have P1 := hXW.cell (HC.out 1 (by simp [encL]))
      simp [encL] at P0 P1
      rw [hW] at P0 P1
      clear HC hpv
      have hlen : (encL ⟨3, q, h⟩).length = 2 := by simp [encL]
      rw [hlen]
      go_enter Tryz.func107, Tryz.ntmps107
      go_wp2
      refine bodyPost_ret (v := .agg #[.bool false, .int .i64 0, .int .i64 0, .slice none 0 0]) (by simp [results, Tryz.results107, go_sem]) rfl ?_
      rw [HE.out]
      exact ⟨.inl ⟨rfl, rfl⟩, Ext.alloc _ _⟩
    · have HE : Hid (a = noA) := by unfold Hid; rw [← HA.out]; simp [actF, hne]
      clear hne
      have P0 := hXW.cell (HC.out 0 (by simp [encL]))
      have P1 := hXW.cell (HC.out 1 (by simp [encL]))
      simp [encL] at P0 P1
      rw [hW] at P0 P1
      clear HC hpv
      have hlen : (encL ⟨4, q, h⟩).length = 2 := by simp [encL]
      rw [hlen]
      go_enter Tryz.func107, Tryz.ntmps107
      go_wp2
      refine bodyPost_ret (v := .agg #[.bool false, .int .i64 0, .int .i64 0, .slice none 0 0]) (by simp [results, Tryz.results107, go_sem]) rfl ?_
      rw [HE.out]
      exact ⟨.inl ⟨rfl, rfl⟩, Ext.alloc _ _⟩
    · have HE : Hid (a = keepD v ⟨5, q, h⟩ 1 0 0) := by unfold Hid; rw [← HA.out]; simp [actF, hne]
      clear hne
      have P0 := hXW.cell (HC.out 0 (by simp [encL]))
      have P1 := hXW.cell (HC.out 1 (by simp [encL]))
      simp [encL] at P0 P1
      rw [hW] at P0 P1
      clear HC hpv
      have hlen : (encL ⟨5, q, h⟩).length = 2 := by simp [encL]
      rw [hlen]
      go_enter Tryz.func107, Tryz.ntmps107
      obtain ⟨V, hV⟩ : ∃ V, V = W.alloc (.cells #[.int .i64 (0), .int .i64 (q), .int .i64 (0)] 2) := ⟨_, rfl⟩
      have hXV : Ext w V := by rw [hV]; exact hXW.trans (Ext.alloc _ _)
      have bL : Blk V (w.heap.size + 1) 2 (ivs [0, q, 0]).toArray := by rw [hV]; exact Blk.new _ _ _ _ hsz
      have hlt : w.heap.size < (w.heap.size + 1) := by have := bZ.lt; omega
      have bZV := bZ.ext (show Ext W V by rw [hV]; exact Ext.alloc _ _)
      go_wp2_with fail
      rw [← hW, ← hV]
      clear hV
      refine (l13Go_c _ _ _ _ _ _).mono ?_
      rintro e w1 ⟨rfl, hx1⟩
      have z0 := (bZV.ext hx1).cell
      have z1 := (bZV.ext hx1).frozen
      go_wp2
      refine bodyPost_ret (v := .agg #[.bool true, .int .i64 (v), .int .i64 (1), .slice (some ⟨(w.heap.size + 1), 0, none⟩) 3 3]) (by simp [results, Tryz.results107, go_sem, z0]) rfl ?_
      rw [HE.out]
      exact move_done (zs := [0, q, 0]) hXV hx1 bL hlt (by simp) ⟨0, q, 0⟩ rfl
  · have hvb : (v == m.sy) = false := by simp [hne]
    rcases hk with e | e | e | e | e | e <;> subst e
    · exact absurd rfl hk0
    · have HE : Hid (a = keepD v ⟨1, q, h⟩ 1 0 h) := by unfold Hid; rw [← HA.out]; simp [actF, hne]
      clear hne
      have P0 := hXW.cell (HC.out 0 (by simp [encL]))
      have P1 := hXW.cell (HC.out 1 (by simp [encL]))
      have P2 := hXW.cell (HC.out 2 (by simp [encL]))
      simp [encL] at P0 P1 P2
      rw [hW] at P0 P1 P2
      clear HC hpv
      have hlen : (encL ⟨1, q, h⟩).length = 3 := by simp [encL]
      rw [hlen]
      go_enter Tryz.func107, Tryz.ntmps107
      obtain ⟨V, hV⟩ : ∃ V, V = W.alloc (.cells #[.int .i64 (0), .int .i64 (q), .int .i64 (h)] 2) := ⟨_, rfl⟩
      have hXV : Ext w V := by rw [hV]; exact hXW.trans (Ext.alloc _ _)
      have bL : Blk V (w.heap.size + 1) 2 (ivs [0, q, h]).toArray := by rw [hV]; exact Blk.new _ _ _ _ hsz
      have hlt : w.heap.size < (w.heap.size + 1) := by have := bZ.lt; omega
      have bZV := bZ.ext (show Ext W V by rw [hV]; exact Ext.alloc _ _)
      go_wp2_with fail
      rw [← hW, ← hV]
      clear hV
      refine (l13Go_c _ _ _ _ _ _).mono ?_
      rintro e w1 ⟨rfl, hx1⟩
      have z0 := (bZV.ext hx1).cell
      have z1 := (bZV.ext hx1).frozen
      go_wp2
      refine bodyPost_ret (v := .agg #[.bool true, .int .i64 (v), .int .i64 (1), .slice (some ⟨(w.heap.size + 1), 0, none⟩) 3 3]) (by simp [results, Tryz.results107, go_sem, z0]) rfl ?_
      rw [HE.out]
      exact move_done (zs := [0, q, h]) hXV hx1 bL hlt (by simp) ⟨0, q, h⟩ rfl
    · have HE : Hid (a = keepD v ⟨2, q, h⟩ (-1) 0 0) := by unfold Hid; rw [← HA.out]; simp [actF, hne]
      clear hne
      have P0 := hXW.cell (HC.out 0 (by simp [encL]))
      have P1 := hXW.cell (HC.out 1 (by simp [encL]))
      simp [encL] at P0 P1
      rw [hW] at P0 P1
      clear HC hpv
      have hlen : (encL ⟨2, q, h⟩).length = 2 := by simp [encL]
      rw [hlen]
      go_enter Tryz.func107, Tryz.ntmps107
      obtain ⟨V, hV⟩ : ∃ V, V = W.alloc (.cells #[.int .i64 (0), .int .i64 (q), .int .i64 (0)] 2) := ⟨_, rfl⟩
      have hXV : Ext w V := by rw [hV]; exact hXW.trans (Ext.alloc _ _)
      have bL : Blk V (w.heap.size + 1) 2 (ivs [0, q, 0]).toArray := by rw [hV]; exact Blk.new _ _ _ _ hsz
      have hlt : w.heap.size < (w.heap.size + 1) := by have := bZ.lt; omega
      have bZV := bZ.ext (show Ext W V by rw [hV]; exact Ext.alloc _ _)
      go_wp2_with fail
      rw [← hW, ← hV]
      clear hV
      refine (l13Go_c _ _ _ _ _ _).mono ?_
      rintro e w1 ⟨rfl, hx1⟩
      have z0 := (bZV.ext hx1).cell
      have z1 := (bZV.ext hx1).frozen
      go_wp2
      refine bodyPost_ret (v := .agg #[.bool true, .int .i64 (v), .int .i64 (-1), .slice (some ⟨(w.heap.size + 1), 0, none⟩) 3 3]) (by simp [results, Tryz.results107, go_sem, z0]) rfl ?_
      rw [HE.out]
      exact move_done (zs := [0, q, 0]) hXV hx1 bL hlt (by simp) ⟨0, q, 0⟩ rfl
    · have HE : Hid (a = keepD v ⟨3, q, h⟩ 1 0 1) := by unfold Hid; rw [← HA.out]; simp [actF, hne]
      clear hne
      have P0 := hXW.cell (HC.out 0 (by simp [encL]))
      have P1 := hXW.cell (HC.out 1 (by simp [encL]))
      simp [encL] at P0 P1
      rw [hW] at P0 P1
      clear HC hpv
      have hlen : (encL ⟨3, q, h⟩).length = 2 := by simp [encL]
      rw [hlen]
      go_enter Tryz.func107, Tryz.ntmps107
      obtain ⟨V, hV⟩ : ∃ V, V = W.alloc (.cells #[.int .i64 (0), .int .i64 (q), .int .i64 (1)] 2) := ⟨_, rfl⟩
      have hXV : Ext w V := by rw [hV]; exact hXW.trans (Ext.alloc _ _)
      have bL : Blk V (w.heap.size + 1) 2 (ivs [0, q, 1]).toArray := by rw [hV]; exact Blk.new _ _ _ _ hsz
      have hlt : w.heap.size < (w.heap.size + 1) := by have := bZ.lt; omega
      have bZV := bZ.ext (show Ext W V by rw [hV]; exact Ext.alloc _ _)
      go_wp2_with fail
      rw [← hW, ← hV]
      clear hV
      refine (l13Go_c _ _ _ _ _ _).mono ?_
      rintro e w1 ⟨rfl, hx1⟩
      have z0 := (bZV.ext hx1).cell
      have z1 := (bZV.ext hx1).frozen
      go_wp2
      refine bodyPost_ret (v := .agg #[.bool true, .int .i64 (v), .int .i64 (1), .slice (some ⟨(w.heap.size + 1), 0, none⟩) 3 3]) (by simp [results, Tryz.results107, go_sem, z0]) rfl ?_
      rw [HE.out]
      exact move_done (zs := [0, q, 1]) hXV hx1 bL hlt (by simp) ⟨0, q, 1⟩ rfl
    · have HE : Hid (a = keepD v ⟨4, q, h⟩ (-1) 5 0) := by unfold Hid; rw [← HA.out]; simp [actF, hne]
      clear hne
      have P0 := hXW.cell (HC.out 0 (by simp [encL]))
      have P1 := hXW.cell (HC.out 1 (by simp [encL]))
      simp [encL] at P0 P1
      rw [hW] at P0 P1
      clear HC hpv
      have hlen : (encL ⟨4, q, h⟩).length = 2 := by simp [encL]
      rw [hlen]
      go_enter Tryz.func107, Tryz.ntmps107
      obtain ⟨V, hV⟩ : ∃ V, V = W.alloc (.cells #[.int .i64 (5), .int .i64 (q)] 2) := ⟨_, rfl⟩
      have hXV : Ext w V := by rw [hV]; exact hXW.trans (Ext.alloc _ _)
      have bL : Blk V (w.heap.size + 1) 2 (ivs [5, q]).toArray := by rw [hV]; exact Blk.new _ _ _ _ hsz
      have hlt : w.heap.size < (w.heap.size + 1) := by have := bZ.lt; omega
      have bZV := bZ.ext (show Ext W V by rw [hV]; exact Ext.alloc _ _)
      go_wp2_with fail
      rw [← hW, ← hV]
      clear hV
      refine (l13Go_c _ _ _ _ _ _).mono ?_
      rintro e w1 ⟨rfl, hx1⟩
      have z0 := (bZV.ext hx1).cell
      have z1 := (bZV.ext hx1).frozen
      go_wp2
      refine bodyPost_ret (v := .agg #[.bool true, .int .i64 (v), .int .i64 (-1), .slice (some ⟨(w.heap.size + 1), 0, none⟩) 2 2]) (by simp [results, Tryz.results107, go_sem, z0]) rfl ?_
      rw [HE.out]
      exact move_done (zs := [5, q]) hXV hx1 bL hlt (by simp) ⟨5, q, 0⟩ rfl
    · have HE : Hid (a = foldMainD m q 1 v) := by unfold Hid; rw [← HA.out]; simp [actF, hne]
      have P0 := hXW.cell (HC.out 0 (by simp [encL]))
      have P1 := hXW.cell (HC.out 1 (by simp [encL]))
      simp [encL] at P0 P1
      rw [hW] at P0 P1
      clear HC hpv
      have hlen : (encL ⟨5, q, h⟩).length = 2 := by simp [encL]
      rw [hlen]
      go_enter Tryz.func107, Tryz.ntmps107
      obtain ⟨V, hV⟩ : ∃ V, V = W.alloc (.cells #[.int .i64 0, .int .i64 q, .int .i64 1] 2) := ⟨_, rfl⟩
      have hWV : Ext W V := by rw [hV]; exact Ext.alloc _ _
      have hXV : Ext w V := hXW.trans hWV
      have bL : Blk V (w.heap.size + 1) 2 (ivs [0, q, 1]).toArray := by rw [hV]; exact Blk.new _ _ _ _ hsz
      have bZV := bZ.ext hWV
      go_wp2_with fail
      rw [← hW, ← hV]
      clear hV
      refine (l13Fold0_c b m q 1 v _ V (hMM.ext hXV) hm q0 q1 (.inr rfl) v0 v1 (own_of_blk (base := 0) bL (Nat.zero_le _) (by simp)).ints).mono ?_
      rw [if_neg hne, ← HE.out]
      clear HE
      rintro e w1 ⟨hres, hx1⟩
      have z0 := (bZV.ext hx1).cell
      have z1 := (bZV.ext hx1).frozen
      have hlt : w.heap.size < V.heap.size := bZV.lt
      rcases hres with ⟨hno, rfl⟩ | ⟨hno, A1, c1, rfl, ho1⟩
      · go_wp2
        refine bodyPost_ret (v := .agg #[.bool false, .int .i64 0, .int .i64 0, .slice none 0 0]) (by simp [results, Tryz.results107, go_sem, z0]) rfl ?_
        exact ⟨.inl ⟨hno, rfl⟩, (((Ext.setCell (Ext.trans hXV hx1) (Nat.le_refl _) _).setCell (Nat.le_refl _) _).setCell (Nat.le_refl _) _).setCell (Nat.le_refl _) _⟩
      · generalize hen : (encL a.p).length = n at *
        have HEN := Lib.hid hen
        clear hen
        go_wp2
        refine bodyPost_ret (v := .agg #[.bool true, .int .i64 a.w, .int .i64 a.m, .slice A1 n c1]) (by simp [results, Tryz.results107, go_sem, z0]) rfl ?_
        have hne' : ∀ k, (Value.slice A1 n c1).ownBlock = some k → k ≠ w.heap.size := fun k hk => by have := (World.ownsRow.lt ho1 k hk).1; omega
        have o2 : OwnInts w.heap.size w1 (.slice A1 n c1) (encL a.p) := ownsRow_base ho1 (by omega)
        refine ⟨.inr ⟨hno, A1, c1, by rw [HEN.out], ?_⟩, (((Ext.setCell (Ext.trans hXV hx1) (Nat.le_refl _) _).setCell (Nat.le_refl _) _).setCell (Nat.le_refl _) _).setCell (Nat.le_refl _) _⟩
        rw [HEN.out]
        exact ownsRow_far (ownsRow_far (ownsRow_far (ownsRow_far o2 hne' _) hne' _) hne' _) hne' _
end Go.Proofs.YtjcfmlecfjmcgaaGreatDoor
end
