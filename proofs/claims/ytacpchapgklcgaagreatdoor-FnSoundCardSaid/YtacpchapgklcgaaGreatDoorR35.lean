/- Plain words for the laws on proofs that a machine does not halt: the check by segments is sound, and the machine that moves right forever passes all checks.
What the three searches for a proof come to, in one form: nothing, or a proof that the check accepts, and then the machine does not halt.
Contracts of the reference's run of a machine from the blank tape.
Contract of the reference's run of a machine from the blank tape: the loop. -/
import Derived.Test.YtacpchapgklcgaaGreatDoorR34
import Derived.Test.YtacpchapgklcgaaGreatDoorR31
import Derived.Test.YtacpchapgklcgaaGreatDoorR19
import Derived.Test.YtacpchapgklcgaaGreatDoorR26
import Derived.Test.YtacpchapgklcgaaGreatDoorR23
import Derived.Test.YtacpchapgklcgaaGreatDoorR18
section
set_option linter.unusedSimpArgs false
set_option linter.unusedVariables false
namespace Go.Proofs.YtacpchapgklcgaaGreatDoor
open Go Go.RowKit Go.Proofs
theorem chk_sound {m : MachD} {p : ProofD} (h : ChkAns m p true) (T : Nat) : ¬ HaltsAt m T := by
  intro ht
  rcases h with ⟨_, h⟩ | ⟨h1, k, hk, hr⟩
  · cases h
  · simp only [chkPre, Bool.and_eq_true] at h1
    obtain ⟨⟨⟨⟨hm, _⟩, _⟩, _⟩, h5⟩ := h1
    have h5 := inB_iff.1 h5
    have hr := hr.symm
    simp only [Bool.and_eq_true, decide_eq_true_eq, Bool.not_eq_true'] at hr
    obtain ⟨x, hx1, hx2⟩ := halts_may hm (n := (p.ns.getD 0 0).toNat) (by omega) (ends_closed hk hr.1) (ends_starts m _ k) (haltsAt_run hm ht)
    have : (iterS m (p.ns.getD 0 0).toNat k).2 = true := by
      rw [iterS_flag]
      exact List.any_eq_true.2 ⟨x, hx1, hx2⟩
    rw [hr.2] at this
    cases this
/-- The machine that moves right forever. -/
abbrev rightM : MachD := ⟨2, 1, [⟨0, 1, 0⟩, ⟨0, 1, 0⟩]⟩
theorem right_ok : machOk rightM = true := by decide
theorem right_halt : haltP rightM = [] := by decide
theorem right_back : CbYes rightM ⟨4, [0], []⟩ := by
  refine ⟨by decide, by decide, by rw [right_halt]; decide, ⟨0, haltP rightM, _, _, Nat.le_refl _, .zero, by rw [right_halt]; rfl⟩, ?_⟩
  rintro ⟨T, hT, _⟩
  have : T < 0 := hT
  omega
theorem right_seg {r : Bool} (h : ChkAns rightM ⟨5, [1], []⟩ r) : r = true := by
  refine h.unique (.inr ⟨by decide, 0, ?_, by decide⟩)
  refine ⟨fun j hj => by omega, ?_⟩
  unfold goesS
  decide
abbrev oneD : DfaD := ⟨1, [0, 0]⟩
theorem one_ok : dfaOk oneD 2 = true := by decide
theorem right_auto : AvYes rightM oneD oneD := ⟨one_ok, one_ok, 2, by decide, by decide, by decide⟩
end Go.Proofs.YtacpchapgklcgaaGreatDoor
end
section
set_option linter.unusedSimpArgs false
set_option linter.unusedVariables false
namespace Go.Proofs.YtacpchapgklcgaaGreatDoor
open Go Go.RowKit Go.Proofs
set_option maxHeartbeats 400000
theorem rowsNil (w : World) : IntRows w (.slice none 0 0) [] := ⟨[], ⟨none, 0, rfl, Nat.le_refl _, by omega, rfl, fun h => absurd h (by simp)⟩, fun i h => absurd h (by simp)⟩
/-- A check accepts. -/
def Passes (fn : Nat) (mv u : Value) (w : World) : Prop := ∀ W, Ext w W → Calls Tryz.prog fn #[mv, u] W fun e w' => e = .returned (.bool true) ∧ Ext W w'
theorem Passes.ext {fn : Nat} {mv u : Value} {w w' : World} (h : Passes fn mv u w) (hx : Ext w w') : Passes fn mv u w' := fun W hW => h W (hx.trans hW)
def SumR (fn : Nat) (mv : Value) (hl : Bool) (w : World) (e : Ending) (w' : World) : Prop :=
  Ext w w' ∧ ∃ (k : Int) (A : Option Addr) (n q : Nat) (c : Int), e = .returned (.tuple #[.agg #[.int .i64 k, .slice A n q, .slice none 0 0], .int .i64 c]) ∧ (c == 1) = false ∧
    ((c = 0 ∧ hl = false ∧ Passes fn mv (.agg #[.int .i64 k, .slice A n q, .slice none 0 0]) w') ∨ (c == 0) = false)
theorem SumR.no {fn : Nat} {mv : Value} {hl : Bool} {w w' : World} (hx : Ext w w') {c : Int} (hc : c = 3 ∨ c = 5) : SumR fn mv hl w (.returned (.tuple #[.agg #[.int .i64 0, .slice none 0 0, .slice none 0 0], .int .i64 c])) w' :=
  ⟨hx, 0, none, 0, 0, c, rfl, by rcases hc with rfl | rfl <;> rfl, .inr (by rcases hc with rfl | rfl <;> rfl)⟩
theorem no_halt {m : MachD} {hl : Bool} (hh : hl = true → ∃ T, HaltsAt m T) (hs : ∀ T, ¬ HaltsAt m T) : hl = false := by
  cases hl
  · rfl
  · obtain ⟨T, ht⟩ := hh rfl
    exact absurd ht (hs T)
theorem backSum (w : World) (m : MachD) (mv : Value) (hl : Bool) (hr : Rules w mv m.rules) (hm : machOk m = true) (hT : Tab w) (hh : hl = true → ∃ T, HaltsAt m T) :
    Calls Tryz.prog 12 #[.agg #[.int .i64 m.sy, .int .i64 m.st, mv], .int .i64 200] w (SumR 8 (.agg #[.int .i64 m.sy, .int .i64 m.st, mv]) hl w) := by
  refine (FindBackward_c w m mv 200 hr hm hT (by omega) (by omega)).mono ?_
  rintro e w1 ⟨hx, ⟨code, hc, rfl⟩ | ⟨n, g, hC, rfl, hI⟩⟩
  · exact .no hx hc
  · refine ⟨hx, 4, some ⟨g, 0, none⟩, 1, 1, 0, rfl, rfl, .inl ⟨rfl, no_halt hh hC.sound, fun W hX => ?_⟩⟩
    refine (CheckBackward_c _ _ m ⟨4, [(n : Int)], []⟩ W ⟨_, rfl, hr.ext (hx.trans hX)⟩ ⟨_, _, rfl, hI.ext hX, rowsNil _⟩ (hT.below hT.low (hx.trans hX))).mono ?_
    rintro e w2 ⟨r, rfl, hrr, hx2⟩
    obtain rfl := hrr.2 hC
    exact ⟨rfl, hx2⟩
theorem segSum (w : World) (m : MachD) (mv : Value) (hl : Bool) (hr : Rules w mv m.rules) (hm : machOk m = true) (hT : Tab w) (hh : hl = true → ∃ T, HaltsAt m T) :
    Calls Tryz.prog 13 #[.agg #[.int .i64 m.sy, .int .i64 m.st, mv], .int .i64 200] w (SumR 9 (.agg #[.int .i64 m.sy, .int .i64 m.st, mv]) hl w) := by
  refine (FindSegment_c _ m 200 w ⟨_, rfl, hr⟩ hT).mono ?_
  rintro e w1 ⟨⟨p, c, nv, rfl, hA, hws, hlen, ho⟩, hx⟩
  obtain ⟨A, q, rfl, _, _⟩ := ho.ints.form
  refine ⟨hx, p.k, A, p.ns.length, q, c, rfl, ?_, ?_⟩
  · rcases fs_found hm (by omega) hA with ⟨rfl, _⟩ | rfl | rfl <;> rfl
  · rcases fs_found hm (by omega) hA with ⟨rfl, hC⟩ | rfl | rfl
    · refine .inl ⟨rfl, no_halt hh (chk_sound hC), fun W hX => ?_⟩
      refine (CheckSegment_c _ _ m p W ⟨_, rfl, hr.ext (hx.trans hX)⟩ ⟨_, _, rfl, ho.ints.ext hX, by rw [hws]; exact rowsNil _⟩ (hT.below hT.low (hx.trans hX))).mono ?_
      rintro e w2 ⟨⟨r, rfl, hrr⟩, hx2⟩
      obtain rfl := hC.unique hrr
      exact ⟨rfl, hx2⟩
    · exact .inr rfl
    · exact .inr rfl
theorem autSum (w : World) (m : MachD) (mv : Value) (hl : Bool) (hr : Rules w mv m.rules) (hm : machOk m = true) (h2 : m.sy = 2) (hh : hl = true → ∃ T, HaltsAt m T) :
    Calls Tryz.prog 14 #[.agg #[.int .i64 m.sy, .int .i64 m.st, mv], .int .i64 40] w (SumR 15 (.agg #[.int .i64 m.sy, .int .i64 m.st, mv]) hl w) := by
  refine (FindAutomaton_c w m mv hr hm h2).mono ?_
  rintro e w1 ⟨hx, ⟨code, hc, rfl⟩ | ⟨L, R, u, hL, hR, hC, rfl, hI⟩⟩
  · exact .no hx hc
  · obtain ⟨A, q, rfl, _, _⟩ := hI.form
    refine ⟨hx, 7, A, (autP L R).ns.length, q, 0, rfl, rfl, .inl ⟨rfl, no_halt hh (AvYes.sound hm ⟨hL, hR, hC⟩), fun W hX => ?_⟩⟩
    exact CheckAutomaton_yes m L R mv _ W (hr.ext (hx.trans hX)) (hI.ext hX) hm hL hR hC
end Go.Proofs.YtacpchapgklcgaaGreatDoor
end
section
namespace Go.Proofs.YtacpchapgklcgaaGreatDoor
open Go Go.RowKit Go.Proofs
set_option maxHeartbeats 400000
theorem l05Budget2_c (n : Int) (w : World) : Calls Tryz.prog 21 #[.int .i64 n] w fun e w' => e = .returned (.bool (inB n 1 20000)) ∧ w = w' := by
  go_enter Tryz.func21, Tryz.ntmps21
  go_wp2_with (go_at_call 44; refine (l00In_c _ _ _ _).mono ?_; rintro e w' ⟨rfl, rfl⟩)
  go_ret
  exact ⟨rfl, rfl⟩
theorem l05Cells0_c (b : Nat) (w : World) :
    Calls Tryz.prog 46 #[.pointer (some ⟨b, 0, none⟩), .slice none 0 0] w fun e w' => e = .returned (.bool true) ∧ w = w' := by
  go_enter Tryz.func46, Tryz.ntmps46
  go_wp2
  go_loopw [5] (fun i wr => i = .int .i64 0 ∧ wr = w) (fun _ _ => 0)
  case atStart => exact ⟨rfl, rfl⟩
  case round =>
    obtain ⟨rfl, rfl⟩ := hrel
    go_wp2
    go_ret
    exact ⟨rfl, rfl⟩
/-- A blank configuration in memory. -/
def Blank (w : World) (b : Nat) : Prop := w.cell? ⟨b, 0, none⟩ = some (.int .i64 0) ∧ w.cell? ⟨b, 1, none⟩ = some (.slice none 0 0) ∧ w.cell? ⟨b, 2, none⟩ = some (.slice none 0 0)
theorem Blank.ext {w w' : World} {b : Nat} (h : Blank w b) (he : Ext w w') : Blank w' b := ⟨he.cell h.1, he.cell h.2.1, he.cell h.2.2⟩
theorem l00In_yes {n lo hi : Int} (h : inB n lo hi = true) (w : World) : Calls Tryz.prog 44 #[.int .i64 n, .int .i64 lo, .int .i64 hi] w fun e w' => e = .returned (.bool true) ∧ w = w' := by
  rw [← h]
  exact l00In_c n lo hi w
theorem l05Good0_c (b bc : Nat) (m : MachD) (w : World) (hm : MachAt w b m) (h : Blank w bc) (h1 : 1 ≤ m.st) (h2 : m.st ≤ 1000) :
    Calls Tryz.prog 20 #[.pointer (some ⟨b, 0, none⟩), .pointer (some ⟨bc, 0, none⟩)] w fun e w' => e = .returned (.bool true) ∧ Ext w w' := by
  obtain ⟨rv, p0, p1, p2, hr⟩ := hm
  obtain ⟨c0, c1, c2⟩ := h
  have d1 := cellR p1
  have e0 := cellR c0
  have e1 := cellR c1
  have e2 := cellR c2
  have hin : inB 0 0 (m.st - 1) = true := by simp [inB]; omega
  go_enter Tryz.func20, Tryz.ntmps20
  go_wp2
  refine wp_region_ext (by kernel_rfl) (by kernel_rfl) ?_
  repeat (go_big_quiet_step ((first | (go_at_call 44; exact Calls.sameR (l00In_yes hin _)) | (go_at_call 46; exact Calls.sameR (l05Cells0_c _ _)))))
  refine wpQuiet_nil ?_
  intro w2 hx2
  go_wp2
  go_ret
  exact ⟨rfl, hx2⟩
set_option maxRecDepth 20000 in
theorem l05OwnConfig0_c (bc : Nat) (w : World) (h : Blank w bc) :
    Calls Tryz.prog 47 #[.pointer (some ⟨bc, 0, none⟩)] w fun e w' => ∃ v, e = .returned v ∧ ConfV w' v ⟨0, [], []⟩ ∧ Ext w w' := by
  obtain ⟨W, hW⟩ : ∃ W, W = w.alloc (.cells #[.int .i64 0, .slice none 0 0, .slice none 0 0] 30) := ⟨_, rfl⟩
  have hX : Ext w W := by rw [hW]; exact Ext.alloc _ _
  have bR : Blk W w.heap.size 30 #[.int .i64 0, .slice none 0 0, .slice none 0 0] := by rw [hW]; exact Blk.new _ _ _ _ rfl
  obtain ⟨c0, c1, c2⟩ := h.ext hX
  have hbc : bc < w.heap.size := World.block_lt_of_cell? w _ h.1
  have hne : bc ≠ w.heap.size := by omega
  go_enter Tryz.func47, Tryz.ntmps47
  go_wp2_with fail
  rw [← hW]
  clear hW
  go_region_held3 (fun w' => w'.cell? ⟨bc, 0, none⟩ = some (.int .i64 0) ∧ w'.cell? ⟨bc, 1, none⟩ = some (.slice none 0 0) ∧ w'.cell? ⟨bc, 2, none⟩ = some (.slice none 0 0))
    (first | go_keep | exact ⟨EX1.cell c0, EX1.cell c1, EX1.cell c2⟩ | exact ⟨EX2.cell c0, EX2.cell c1, EX2.cell c2⟩ | exact ⟨y0, y1, y2⟩ | exact ⟨x0, x1, x2⟩)
    (first
      | (go_at_call 76; ((with_reducible refine (l00Own0_c none 0 W.drew).mono ?_)); rintro e w1 ⟨u1, rfl, ho1, hx1⟩; obtain ⟨A1, k1, rfl, _, _⟩ := ho1.ints.form; have EX1 := (Ext.drew W).trans hx1)
      | (go_at_call 76; ((with_reducible refine (l00Own0_c none 0 w1).mono ?_)); rintro e w2 ⟨u2, rfl, ho2, hx2⟩; obtain ⟨A2, k2, rfl, _, _⟩ := ho2.ints.form; have EX2 := EX1.trans hx2; have o1 := ho1.ext hx2; have bR2 := bR.ext EX2; have hXX := hX.trans EX2; obtain ⟨D1, D2⟩ := conf_done (n := 0) hXX (Nat.le_refl _) bR2 o1 ho2; obtain ⟨F1, F2⟩ := conf_done (n := 0) hXX (Nat.le_refl _) bR2 ho2 o1; have HD1 := Lib.hid D1; have HF1 := Lib.hid F1; have HD2 := Lib.hid D2; have HF2 := Lib.hid F2; have r0 := bR2.cell 0; have r1 := bR2.cell 1; have r2 := bR2.cell 2; have rf0 := bR2.frozen 0; have rf1 := bR2.frozen 1; have rf2 := bR2.frozen 2; have y0 := D2.cell h.1; have y1 := D2.cell h.2.1; have y2 := D2.cell h.2.2; have x0 := F2.cell h.1; have x1 := F2.cell h.2.1; have x2 := F2.cell h.2.2; simp only [List.getElem?_toArray, List.getElem?_cons_zero, List.getElem?_cons_succ] at r0 r1 r2; clear D1 F1))
  all_goals
    have d := (((bR2.set_ 0 (.int .i64 0)).set_ 1 (.slice A1 0 k1)).set_ 2 (.slice A2 0 k2)).cell
    go_wp2
    exact bodyPost_ret (v := .agg #[.int .i64 0, .slice A1 0 k1, .slice A2 0 k2]) (by simp [results, Tryz.results47, go_sem, d]) rfl ⟨_, rfl, HD1.out, HD2.out⟩
end Go.Proofs.YtacpchapgklcgaaGreatDoor
namespace Go.Proofs.YtacpchapgklcgaaGreatDoor
open Go Go.RowKit Go.Proofs
set_option maxHeartbeats 400000
structure RunSt (w : World) (m : MachD) (go t : Nat) (wr : World) : Prop where
  res : Blk wr (w.heap.size + 1) 30 #[.int .i64 0, .slice none 0 0, .slice none 0 0]
  now : ∃ lv rv bl br, Blk wr go 30 #[.int .i64 (runC m t).q, lv, rv] ∧ OwnInts bl wr lv (runC m t).l ∧ OwnInts br wr rv (runC m t).r
  no : ∀ j < t, ¬ ruleAt m (runC m j) = noR
  ext : Ext w wr
  fit : (runC m t).l.length ≤ 200
theorem RunSt.ext' {w : World} {m : MachD} {go t : Nat} {wr w' : World} (h : RunSt w m go t wr) (he : Ext wr w') : RunSt w m go t w' := by
  obtain ⟨h1, ⟨lv, rv, bl, br, h2, h3, h4⟩, h5, h6, h7⟩ := h
  exact ⟨h1.ext he, ⟨lv, rv, bl, br, h2.ext he, h3.ext he, h4.ext he⟩, h5, h6.trans he, h7⟩
def RunRes0 (w : World) (m : MachD) (e : Ending) (w' : World) : Prop := ∃ v n h k c, e = .returned (.tuple #[v, .int .i64 n, .bool h, .bool k]) ∧ ConfV w' v c ∧ (k = true → h = true → ∃ T, (∀ j < T, ¬ ruleAt m (runC m j) = noR) ∧ ruleAt m (runC m T) = noR) ∧ Ext w w'
set_option maxRecDepth 20000 in
set_option maxHeartbeats 4000000 in
theorem l05Run0_c (b : Nat) (m : MachD) (N : Nat) (w : World) (hm : MachAt w b m) (hok : machOk m = true) (hN : N ≤ 400) :
    Calls Tryz.prog 22 #[.pointer (some ⟨b, 0, none⟩), .agg #[.int .i64 0, .slice none 0 0, .slice none 0 0], .int .i64 N] w (RunRes0 w m) := by
  have mok := MOk.of hok
  obtain ⟨W, hW⟩ : ∃ W, W = (w.alloc (.cells #[.int .i64 0, .slice none 0 0, .slice none 0 0] 30)).alloc (.cells #[.int .i64 0, .slice none 0 0, .slice none 0 0] 30) := ⟨_, rfl⟩
  have hX : Ext w W := by rw [hW]; exact (Ext.alloc _ _).trans (Ext.alloc _ _)
  have bB : Blk W w.heap.size 30 #[.int .i64 0, .slice none 0 0, .slice none 0 0] := by rw [hW]; exact (Blk.new _ _ _ _ rfl).alloc _
  have bR : Blk W (w.heap.size + 1) 30 #[.int .i64 0, .slice none 0 0, .slice none 0 0] := by rw [hW]; exact Blk.new _ _ _ _ (by simp)
  have hbl : Blank W w.heap.size := ⟨bB.cell 0, bB.cell 1, bB.cell 2⟩
  go_enter Tryz.func22, Tryz.ntmps22
  go_wp2_with fail
  rw [← hW]
  clear hW
  refine (l05OwnConfig0_c _ W hbl).mono ?_
  rintro e w1 ⟨v1, rfl, ⟨lv1, rv1, bl1, br1, rfl, ol1, or1⟩, hx1⟩
  obtain ⟨A1, c1, rfl, _, _⟩ := ol1.ints.form
  obtain ⟨A2, c2, rfl, _, _⟩ := or1.ints.form
  obtain ⟨W1, hW1⟩ : ∃ W1, W1 = w1.alloc (.cells #[.int .i64 0, .slice A1 0 c1, .slice A2 0 c2] 30) := ⟨_, rfl⟩
  have hX1 : Ext w1 W1 := by rw [hW1]; exact Ext.alloc _ _
  have st1 : RunSt w m w1.heap.size 0 W1 := ⟨bR.ext (hx1.trans hX1), ⟨.slice A1 0 c1, .slice A2 0 c2, bl1, br1, by rw [hW1]; exact Blk.new _ _ _ _ rfl, OwnInts.ext ol1 hX1, OwnInts.ext or1 hX1⟩, fun j hj => by omega, (hX.trans hx1).trans hX1, by show ([] : List Int).length ≤ 200; simp⟩
  have hgo : w.heap.size + 1 < w1.heap.size := by have := bR.lt; have := hx1.size; omega
  go_wp2
  rw [← hW1]
  clear hW1
  generalize w1.heap.size = go at *
  go_loopw [11] (fun i wr => ∃ t : Nat, t ≤ N ∧ i = .int .i64 t ∧ RunSt w m go t wr) (fun i _ => N - (intOf i).toNat)
  case atStart => exact ⟨0, Nat.zero_le _, rfl, st1⟩
  case round =>
    clear st1 ol1 or1 hX1 hx1 bB bR hbl
    obtain ⟨t, ht, rfl, st⟩ := hrel
    obtain ⟨lv, rv, bl, br, bN, oL, oR⟩ := st.now
    obtain ⟨AL, cL, rfl, _, _⟩ := oL.ints.form
    obtain ⟨AR, cR, rfl, _, _⟩ := oR.ints.form
    have n0 := bN.cell 0
    have n1 := bN.cell 1
    have n2 := bN.cell 2
    simp only [List.getElem?_toArray, List.getElem?_cons_zero, List.getElem?_cons_succ] at n0 n1 n2
    have good := runC_good hok t st.no
    obtain ⟨k, hk, ke⟩ := good.idx mok
    have hh := hdR_of good.r (by have := mok.sy1; omega)
    have hlen := runC_len m t
    have hfit := st.fit
    have er := ruleAt_get hk ke
    have cok : COk m (runC m t) k := ⟨good.q0, by have := good.q1; have := mok.st2; omega, mok.sy1, mok.sy2, hh.1, by have := mok.sy2; omega, hk, ke, by omega, by omega⟩
    have hg1 : w.heap.size ≤ w.heap.size + 1 := by omega
    have ne1 : w.heap.size + 1 ≠ go := by omega
    by_cases hlt : t < N
    · have i1 : (t : Int) < (N : Int) := by omega
      go_wp2_with fail
      refine (l05Halts_c b go m _ k wr (hm.ext st.ext) ⟨_, _, n0, n1, n2, oL.ints, oR.ints⟩ cok).mono ?_
      rintro e w1 ⟨rfl, hx1⟩
      have s1 := st.ext' hx1
      have b1 := bN.ext hx1
      have m0 := b1.cell 0
      have m1 := b1.cell 1
      have m2 := b1.cell 2
      simp only [List.getElem?_toArray, List.getElem?_cons_zero, List.getElem?_cons_succ] at m0 m1 m2
      by_cases hq : m.rules[k] = noR
      · rw [decide_eq_true hq]
        obtain ⟨D1, D2⟩ := conf_done (n := (runC m t).q) s1.ext hg1 s1.res (oL.ext hx1) (oR.ext hx1)
        have HD1 := Lib.hid D1
        have HD2 := Lib.hid D2
        have HT : Hid (ruleAt m (runC m t) = noR) := by unfold Hid; rw [er]; exact hq
        have d := s1.res.cell
        have f := s1.res.frozen
        clear D1 D2 hq er
        go_wp2
        refine bodyPost_ret (v := .tuple #[.agg #[.int .i64 (runC m t).q, .slice AL (runC m t).l.length cL, .slice AR (runC m t).r.length cR], .int .i64 t, .bool true, .bool true]) ?_ rfl ⟨_, _, _, _, _, rfl, HD1.out, fun _ _ => ⟨t, st.no, HT.out⟩, HD2.out⟩
        simp [results, Tryz.results22, go_sem, d]
      · rw [decide_eq_false hq]
        have HNO : Hid (∀ j < t + 1, ¬ ruleAt m (runC m j) = noR) := fun j hj => by
          by_cases c : j = t
          · subst c; rw [er]; exact hq
          · exact st.no j (by omega)
        have enext : stepC m.rules[k] (runC m t) = runC m (t + 1) := by show _ = stepC (ruleAt m (runC m t)) _; rw [er]
        go_wp2_with fail
        refine (l05Step_c b go m (runC m t) k w1 (hm.ext s1.ext) ⟨_, _, m0, m1, m2, (oL.ext hx1).ints, (oR.ext hx1).ints⟩ cok (by omega)).mono ?_
        rintro e w2 ⟨v2, rfl, hv2, hx2⟩
        rw [enext] at hv2
        rw [enext]
        obtain ⟨lv2, rv2, bl2, br2, rfl, ol2, or2⟩ := hv2
        obtain ⟨A3, c3, rfl, _, _⟩ := ol2.ints.form
        obtain ⟨A4, c4, rfl, _, _⟩ := or2.ints.form
        clear enext hq er
        generalize hcn : runC m (t + 1) = cn at *
        have HCN := Lib.hid hcn
        clear hcn
        have HFI : Hid ((decide (cn.l.length ≤ 200) && decide (cn.r.length ≤ 200)) = true → cn.l.length ≤ 200) := Lib.hid (fun h => by simp only [Bool.and_eq_true, decide_eq_true_eq] at h; exact h.1)
        generalize (decide (cn.l.length ≤ 200) && decide (cn.r.length ≤ 200)) = q at *
        obtain ⟨X, hXe⟩ : ∃ X, X = w2.alloc (.cells #[.int .i64 cn.q, .slice A3 cn.l.length c3, .slice A4 cn.r.length c4] 30) := ⟨_, rfl⟩
        have hX2 : Ext w2 X := by rw [hXe]; exact Ext.alloc _ _
        have bX : Blk X w2.heap.size 30 #[.int .i64 cn.q, .slice A3 cn.l.length c3, .slice A4 cn.r.length c4] := by rw [hXe]; exact Blk.new _ _ _ _ rfl
        have sX := s1.ext' (hx2.trans hX2)
        have bG := b1.ext (hx2.trans hX2)
        have oX3 := OwnInts.ext ol2 hX2
        have oX4 := OwnInts.ext or2 hX2
        have hgo2 : go ≠ w2.heap.size := by have := b1.lt; have := hx2.size; omega
        subst hXe
        cases q with
        | false =>
          have oN : OwnInts 0 (w2.alloc (.cells #[.int .i64 cn.q, .slice A3 cn.l.length c3, .slice A4 cn.r.length c4] 30)) (.slice none 0 0) [] := ⟨by simp, .inl ⟨rfl, rfl⟩⟩
          obtain ⟨D1, D2⟩ := conf_done (n := 0) sX.ext hg1 sX.res oN oN
          have HD1 := Lib.hid D1
          have HD2 := Lib.hid D2
          have d := sX.res.cell
          have f := sX.res.frozen
          clear D1 D2
          go_wp2
          refine bodyPost_ret (v := .tuple #[.agg #[.int .i64 0, .slice none 0 0, .slice none 0 0], .int .i64 0, .bool false, .bool false]) ?_ rfl ⟨_, _, _, _, _, rfl, HD1.out, (fun h => absurd h (by decide)), HD2.out⟩
          simp [results, Tryz.results22, go_sem, d]
        | true =>
          have x0 := bX.cell 0
          have x1 := bX.cell 1
          have x2 := bX.cell 2
          have g0 := bG.cell 0
          have g1 := bG.cell 1
          have g2 := bG.cell 2
          have gf := bG.frozen
          simp only [List.getElem?_toArray, List.getElem?_cons_zero, List.getElem?_cons_succ] at x0 x1 x2 g0 g1 g2
          have fr3 := own_far_blk oX3 bG (by decide)
          have fr4 := own_far_blk oX4 bG (by decide)
          have HS : Hid (RunSt w m go (t + 1) ((((w2.alloc (.cells #[.int .i64 cn.q, .slice A3 cn.l.length c3, .slice A4 cn.r.length c4] 30)).setCell ⟨go, 0, none⟩ (.int .i64 cn.q)).setCell ⟨go, 1, none⟩ (.slice A3 cn.l.length c3)).setCell ⟨go, 2, none⟩ (.slice A4 cn.r.length c4))) := by
            refine ⟨((sX.res.far (p := ⟨go, 0, none⟩) ne1 _).far (p := ⟨go, 1, none⟩) ne1 _).far (p := ⟨go, 2, none⟩) ne1 _, ?_, HNO.out, ((sX.ext.setCell (by simp; omega) _).setCell (by simp; omega) _).setCell (by simp; omega) _, by rw [HCN.out]; exact HFI.out rfl⟩
            rw [HCN.out]
            exact ⟨_, _, _, _, ((bG.set_ 0 _).set_ 1 _).set_ 2 _, ownsRow_far (ownsRow_far (ownsRow_far oX3 fr3 _) fr3 _) fr3 _, ownsRow_far (ownsRow_far (ownsRow_far oX4 fr4 _) fr4 _) fr4 _⟩
          go_wp2
          go_roundw
          case rel => exact ⟨t + 1, by omega, by go_num, HS.out⟩
          case measure => simp [intOf]; omega
    · obtain rfl : t = N := by omega
      have hD := (Ext.drew wr)
      have hMd := hm.ext (st.ext.trans hD)
      have hCd : ConfAt wr.drew go (runC m t) := ⟨_, _, hD.cell n0, hD.cell n1, hD.cell n2, (oL.ext hD).ints, (oR.ext hD).ints⟩
      have ne2 : go ≠ w.heap.size + 1 := fun e => ne1 e.symm
      have i1 : ¬ (t : Int) < (t : Int) := by omega
      go_wp2_with fail
      go_region_held3 (fun w' => w'.cell? ⟨go, 0, none⟩ = some (.int .i64 (runC m t).q) ∧ w'.cell? ⟨go, 1, none⟩ = some (.slice AL (runC m t).l.length cL) ∧ w'.cell? ⟨go, 2, none⟩ = some (.slice AR (runC m t).r.length cR))
        (first | go_keep | exact ⟨EX1.cell n0, EX1.cell n1, EX1.cell n2⟩ | exact ⟨y0, y1, y2⟩)
        ((go_at_call 48; ((with_reducible refine (l05Halts_c b go m (runC m t) k _ hMd hCd cok).mono ?_)); rintro e w1 ⟨rfl, hx1⟩; have EX1 := hD.trans hx1; have s1 := st.ext' EX1; obtain ⟨D1, D2⟩ := conf_done (n := (runC m t).q) s1.ext hg1 s1.res (oL.ext EX1) (oR.ext EX1); have HD1 := Lib.hid D1; have HD2 := Lib.hid D2; have r0 := s1.res.cell 0; have r1 := s1.res.cell 1; have r2 := s1.res.cell 2; have rf0 := s1.res.frozen 0; have rf1 := s1.res.frozen 1; have rf2 := s1.res.frozen 2; have bOf := (((bN.ext EX1).far (p := ⟨w.heap.size + 1, 0, none⟩) ne2 (.int .i64 (runC m t).q)).far (p := ⟨w.heap.size + 1, 1, none⟩) ne2 (.slice AL (runC m t).l.length cL)).far (p := ⟨w.heap.size + 1, 2, none⟩) ne2 (.slice AR (runC m t).r.length cR); have y0 := bOf.cell 0; have y1 := bOf.cell 1; have y2 := bOf.cell 2; simp only [List.getElem?_toArray, List.getElem?_cons_zero, List.getElem?_cons_succ] at r0 r1 r2 y0 y1 y2; clear D1 D2))
      all_goals
        have d := (((s1.res.set_ 0 (.int .i64 (runC m t).q)).set_ 1 (.slice AL (runC m t).l.length cL)).set_ 2 (.slice AR (runC m t).r.length cR)).cell
        go_wp2
        refine bodyPost_ret (v := .tuple #[.agg #[.int .i64 (runC m t).q, .slice AL (runC m t).l.length cL, .slice AR (runC m t).r.length cR], .int .i64 t, .bool (decide (m.rules[k] = noR)), .bool true]) ?_ rfl ⟨_, _, _, _, _, rfl, HD1.out, (fun _ h => ⟨t, st.no, by rw [er]; exact of_decide_eq_true h⟩), HD2.out⟩
        simp [results, Tryz.results22, go_sem, d]
set_option maxRecDepth 20000 in
set_option maxHeartbeats 2000000 in
theorem RunMachine0_c (v : Value) (m : MachD) (N : Nat) (w : World) (h : Mach w v m) (hok : machOk m = true) (hN : N ≤ 400) (h1 : 1 ≤ N) :
    Calls Tryz.prog 7 #[v, .agg #[.int .i64 0, .slice none 0 0, .slice none 0 0], .int .i64 N] w fun e w' => ∃ q A1 n1 c1 A2 n2 c2 n h c, e = .returned (.tuple #[.agg #[.int .i64 q, .slice A1 n1 c1, .slice A2 n2 c2], .int .i64 n, .bool h, .int .i64 c]) ∧ (c = 0 → h = true → ∃ T, (∀ j < T, ¬ ruleAt m (runC m j) = noR) ∧ ruleAt m (runC m T) = noR) ∧ Ext w w' := by
  have mok := MOk.of hok
  obtain ⟨rv, rfl, hr⟩ := h
  obtain ⟨Ar, cr, rfl, _, _⟩ := hr.form
  obtain ⟨W, hW⟩ : ∃ W, W = ((w.alloc (.cells #[.int .i64 m.sy, .int .i64 m.st, .slice Ar m.rules.length cr] 26)).alloc (.cells #[.int .i64 0, .slice none 0 0, .slice none 0 0] 30)).alloc (.cells #[.int .i64 0, .slice none 0 0, .slice none 0 0] 30) := ⟨_, rfl⟩
  have hX : Ext w W := by rw [hW]; exact ((Ext.alloc _ _).trans (Ext.alloc _ _)).trans (Ext.alloc _ _)
  have bM : Blk W w.heap.size 26 #[.int .i64 m.sy, .int .i64 m.st, .slice Ar m.rules.length cr] := by rw [hW]; exact ((Blk.new _ _ _ _ rfl).alloc _).alloc _
  have bC : Blk W (w.heap.size + 1) 30 #[.int .i64 0, .slice none 0 0, .slice none 0 0] := by rw [hW]; exact (Blk.new _ _ _ _ (by simp)).alloc _
  have bR : Blk W (w.heap.size + 1 + 1) 30 #[.int .i64 0, .slice none 0 0, .slice none 0 0] := by rw [hW]; exact Blk.new _ _ _ _ (by simp)
  have hMA : MachAt W w.heap.size m := ⟨_, bM.cell 0, bM.cell 1, bM.cell 2, hr.ext hX⟩
  have hBl : Blank W (w.heap.size + 1) := ⟨bC.cell 0, bC.cell 1, bC.cell 2⟩
  go_enter Tryz.func7, Tryz.ntmps7
  go_wp2_with fail
  rw [← hW]
  clear hW
  refine (l05Is_c _ m W hMA).mono ?_
  rintro e w1 ⟨rfl, hx1⟩
  rw [hok]
  go_wp2_with fail
  refine (l05Good0_c _ _ m w1 (hMA.ext hx1) (hBl.ext hx1) mok.st1 mok.st2).mono ?_
  rintro e w2 ⟨rfl, hx2⟩
  go_wp2_with fail
  refine (l05Budget2_c _ _).mono ?_
  rintro e w' ⟨rfl, rfl⟩
  have hb : inB (N : Int) 1 20000 = true := by simp [inB]; omega
  rw [hb]
  have hX2 := hx1.trans hx2
  have q0 := (bC.ext hX2).cell 0
  have q1 := (bC.ext hX2).cell 1
  have q2 := (bC.ext hX2).cell 2
  simp only [List.getElem?_toArray, List.getElem?_cons_zero, List.getElem?_cons_succ] at q0 q1 q2
  go_wp2_with fail
  refine (l05Run0_c _ m N w2 (hMA.ext hX2) hok hN).mono ?_
  rintro e w3 ⟨v3, n3, h3, k3, c3, rfl, ⟨lv, rv3, bl, br, rfl, oL, oR⟩, himp, hx3⟩
  obtain ⟨AL, cL, rfl, _, _⟩ := oL.ints.form
  obtain ⟨AR, cR, rfl, _, _⟩ := oR.ints.form
  have HI := Lib.hid himp
  clear himp q0 q1 q2
  have hX3 := hX2.trans hx3
  have hWX := hX.trans hX3
  have bR3 := (bR.ext hX3).alloc (.cells #[.int .i64 c3.q, .slice AL c3.l.length cL, .slice AR c3.r.length cR] 30)
  have bO := Blk.new w3 w3.heap.size 30 #[.int .i64 c3.q, .slice AL c3.l.length cL, .slice AR c3.r.length cR] rfl
  have hg : w.heap.size ≤ w.heap.size + 1 + 1 := by omega
  have d := bR3.cell
  have f := bR3.frozen
  cases k3 with
  | false =>
    go_wp2
    refine bodyPost_ret (v := .tuple #[.agg #[.int .i64 0, .slice none 0 0, .slice none 0 0], .int .i64 0, .bool false, .int .i64 5]) ?_ rfl ⟨_, _, _, _, _, _, _, _, _, _, rfl, (fun h => absurd h (by decide)), ?_⟩
    · simp [results, Tryz.results7, go_sem, d]
    · exact (((hWX.trans (Ext.alloc _ _)).setCell hg _).setCell hg _).setCell hg _
  | true =>
    have x0 := bO.cell 0
    have x1 := bO.cell 1
    have x2 := bO.cell 2
    simp only [List.getElem?_toArray, List.getElem?_cons_zero, List.getElem?_cons_succ] at x0 x1 x2
    go_wp2
    refine bodyPost_ret (v := .tuple #[.agg #[.int .i64 c3.q, .slice AL c3.l.length cL, .slice AR c3.r.length cR], .int .i64 n3, .bool h3, .int .i64 0]) ?_ rfl ⟨_, _, _, _, _, _, _, _, _, _, rfl, (fun _ => HI.out (by first | trivial | rfl)), ?_⟩
    · simp [results, Tryz.results7, go_sem, d]
    · exact (((hWX.trans (Ext.alloc _ _)).setCell hg _).setCell hg _).setCell hg _
end Go.Proofs.YtacpchapgklcgaaGreatDoor
end
