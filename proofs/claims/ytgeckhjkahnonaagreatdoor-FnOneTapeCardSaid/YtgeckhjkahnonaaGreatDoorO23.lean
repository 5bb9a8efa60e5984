/- Contract of the program's machine with one tape for several. The machine is valid.
Contracts of both machines with one tape for several: the program's and the reference's. The machine is valid.
Contract of the cells of one tape of a configuration of the machine with one tape for several. -/
import Derived.Test.YtgeckhjkahnonaaGreatDoorO17
import Derived.Test.YtgeckhjkahnonaaGreatDoorO22
import Derived.Deep.RegionLaw
import Derived.Deep.AppendLies
import Derived.Test.YtgeckhjkahnonaaGreatDoorO04
import Derived.Test.YtgeckhjkahnonaaGreatDoorO13
import Derived.Test.YtgeckhjkahnonaaGreatDoorO14
import Derived.Test.YtgeckhjkahnonaaGreatDoorO19
import Derived.Test.YtgeckhjkahnonaaGreatDoorO11
section
set_option linter.unusedSimpArgs false
set_option linter.unusedVariables false
namespace Go.Proofs.YtgeckhjkahnonaaGreatDoor
open Go Go.RowKit Go.Proofs Go.Maps
set_option maxHeartbeats 400000
def weaveB (m : MultiD) : Option (List MP × List RuleD) := bld (actW m) mp0 (2 * m.sy).toNat
def BuildM (w : World) (m : MultiD) (e : Ending) (w' : World) : Prop :=
  ((weaveB m = none ∧ e = .returned (.tuple #[.pointer none, .bool false])) ∨
    ∃ s bx bm rv pv, weaveB m = some s ∧ e = .returned (.tuple #[.pointer (some ⟨bx, 0, none⟩), .bool true]) ∧ PlM w.heap.size w' bx (2 * m.sy) s.1.length s.2 s.1 rv pv bm ∧ (∀ p ∈ s.1, WOk m p) ∧ 1 ≤ s.1.length ∧ s.1.length ≤ 1000) ∧ Ext w w'
/-- How the building stands in memory. -/
structure InW (w : World) (m : MultiD) (N bx bm : Nat) (s : List MP × List RuleD) (rv pv : Value) (wr : World) : Prop where
  st : PlM w.heap.size wr bx (N : Int) 0 s.2 s.1 rv pv bm
  below : Below w.heap.size w wr
  ok : ∀ p ∈ s.1, WOk m p
theorem InW.ext {w : World} {m : MultiD} {N bx bm : Nat} {s : List MP × List RuleD} {rv pv : Value} {wr wr' : World} (h : InW w m N bx bm s rv pv wr) (he : Ext wr wr') : InW w m N bx bm s rv pv wr' :=
  ⟨h.st.ext he, Ext.trans h.below he, h.ok⟩
theorem PlM.ruled {base : Nat} {w3 w5 : World} {bx : Nat} {sy st : Int} {rs : List RuleD} {ps : List MP} {rv pv v' : Value} {bm : Nat} {r : RuleD} (h : PlM base w3 bx sy st rs ps rv pv bm)
    (hown : w5.ownsRow base 136 3 v' (rs.length + 1) (rvs rs ++ [.int .i64 r.w, .int .i64 r.m, .int .i64 r.n])) (hg : w3.grownBy w5 rv.ownBlock) :
    PlM base (w5.setCell ⟨bx, 2, none⟩ v') bx sy st (rs ++ [r]) ps v' pv bm := by
  have B5 := Blk.apart h.blk h.rules (by decide) hg
  have P5 := World.ownsRow.kept h.places hg (own_ne h.places h.rules (by decide))
  have T5 := h.tbl.kept hg (h.tbl.ne_row h.rules)
  have hgs := grownBy_setCell w5 ⟨bx, 2, none⟩ v'
  refine ⟨B5.set_ 2 v', ?_, own_kept P5 hgs (blk_ne_row B5 P5 (by decide)), T5.setCell (a := ⟨bx, 2, none⟩) (T5.ne_blk B5) v', h.lowX, h.lowM⟩
  have := own_kept hown hgs (blk_ne_row B5 hown (by decide))
  unfold OwnRules
  rw [rvs_append]
  simpa [rvs] using this
theorem PlM.store {base : Nat} {w6 : World} {bx : Nat} {sy st : Int} {rs : List RuleD} {ps : List MP} {rv pv : Value} {bm : Nat} (h : PlM base w6 bx sy st rs ps rv pv bm) {g : Nat} {cs : Array Value} (hb : Blk w6 g 136 cs)
    (hne : ∀ k, rv.ownBlock = some k → k ≠ g) {p : Addr} (hp : p.block = g) (u : Value) : PlM base (w6.setCell p u) bx sy st rs ps rv pv bm := by
  subst hp
  have hgs := grownBy_setCell w6 p u
  exact ⟨h.blk.far (blk_ne h.blk hb (by decide)) _, ownsRow_far h.rules hne _, own_kept h.places hgs (blk_ne_row hb h.places (by decide)), h.tbl.setCell (h.tbl.ne_blk hb) _, h.lowX, h.lowM⟩
theorem InW.ruled {w : World} {m : MultiD} {N bx bm : Nat} {s : List MP × List RuleD} {rv pv v' : Value} {wr w5 : World} {r : RuleD} (h : InW w m N bx bm s rv pv wr)
    (hown : w5.ownsRow w.heap.size 136 3 v' (s.2.length + 1) (rvs s.2 ++ [.int .i64 r.w, .int .i64 r.m, .int .i64 r.n])) (hg : wr.grownBy w5 rv.ownBlock) :
    InW w m N bx bm (s.1, s.2 ++ [r]) v' pv (w5.setCell ⟨bx, 2, none⟩ v') :=
  ⟨h.st.ruled hown hg, (Below.grown h.below hg (Ext.size h.below) (fun b hb => (World.ownsRow.lt h.st.rules b hb).1)).setCell h.st.lowX _, h.ok⟩
theorem mvs_get (ps : List MP) (i : Nat) {p : MP} (h : ps[i]? = some p) (j : Nat) (hj : j < 8) : (mvs ps)[i * 8 + j]? = [.int .i64 p.k, .int .i64 p.a, .int .i64 p.t, .int .i64 p.c, .int .i64 p.f0, .int .i64 p.f1, .int .i64 p.f2, .int .i64 p.d][j]? := by
  induction ps generalizing i with
  | nil => simp at h
  | cons r ps ih =>
    cases i with
    | zero =>
      simp at h; subst h
      show ([.int .i64 r.k, .int .i64 r.a, .int .i64 r.t, .int .i64 r.c, .int .i64 r.f0, .int .i64 r.f1, .int .i64 r.f2, .int .i64 r.d] ++ mvs ps)[0 * 8 + j]? = _
      rw [List.getElem?_append_left (by simp; omega)]
      simp
    | succ i =>
      have := ih i (by simpa using h)
      show ([.int .i64 r.k, .int .i64 r.a, .int .i64 r.t, .int .i64 r.c, .int .i64 r.f0, .int .i64 r.f1, .int .i64 r.f2, .int .i64 r.d] ++ mvs ps)[(i + 1) * 8 + j]? = _
      rw [List.getElem?_append_right (by simp; omega), ← this]
      congr 1
      simp
      omega
theorem placesM_at {base : Nat} {w : World} {A : Option Addr} {c : Nat} {ps : List MP} (h : w.ownsRow base 73 8 (.slice A ps.length c) ps.length (mvs ps)) {k : Nat} {p : MP} (hp : ps[k]? = some p) :
    ∃ g, A = some ⟨g, 0, none⟩ ∧ base ≤ g ∧ g < w.heap.size ∧ ∀ j, j < 8 → w.cell? ⟨g, k * 8 + j, none⟩ = [.int .i64 p.k, .int .i64 p.a, .int .i64 p.t, .int .i64 p.c, .int .i64 p.f0, .int .i64 p.f1, .int .i64 p.f2, .int .i64 p.d][j]? := by
  have hk : k < ps.length := (List.getElem?_eq_some_iff.1 hp).1
  obtain ⟨g, rfl, hb, hl⟩ := own_at h (by omega)
  obtain ⟨b', off, e, hc⟩ := Row.at (ownsRow_row h) hk
  injection e with e
  injection e with e1 e2
  subst e1 e2
  refine ⟨g, rfl, hb, hl, fun j hj => ?_⟩
  have h0 := hc (k * 8 + j) (by omega)
  rw [Nat.zero_add] at h0
  rw [h0, mvs_get ps k hp j hj]
set_option maxHeartbeats 4000000 in
set_option maxRecDepth 20000 in
theorem buildW_c (w : World) (b : Nat) (m : MultiD) (hM : Weav w b m) (hm : multiOk m = true) :
    Calls Tryz.prog 45 #[.int .i64 (2 * m.sy), mp0.v, .func (.func 46) #[.pointer (some ⟨b, 0, none⟩)] #[]] w (BuildM w m) := by
  obtain ⟨⟨tp1, tp2⟩, ⟨s1, s2⟩, ⟨s3, s4⟩, hl, _⟩ := multi_all hm
  obtain ⟨N, hN⟩ : ∃ N : Nat, (2 * m.sy) = N := ⟨(2 * m.sy).toNat, by omega⟩
  have HB : Hid (weaveB m = bld (actW m) mp0 N) := by unfold Hid weaveB; rw [hN]; rfl
  rw [hN]
  have n3 : 3 ≤ N := by omega
  have n6 : N ≤ 6 := by omega
  have HN := Lib.hid hN
  clear hN hl
  have hmm := @run_makeMap Tryz.prog
  obtain ⟨W, hW⟩ : ∃ W, W = ((w.alloc (.cells #[.int .i64 0, .int .i64 0, .int .i64 0, .int .i64 0, .int .i64 0, .int .i64 0, .int .i64 0, .int .i64 0] 73)).alloc (.map #[] 0)).alloc (.cells #[.int .i64 (N : Int), .int .i64 0, .slice none 0 0, .slice none 0 0, .map (some (w.heap.size + 1))] 70) := ⟨_, rfl⟩
  have hXW : Ext w W := by rw [hW]; exact ((Ext.alloc _ _).trans (Ext.alloc _ _)).trans (Ext.alloc _ _)
  have hT := (Tbl.made Tryz.prog 73 2 MP.v (w.alloc (.cells #[.int .i64 0, .int .i64 0, .int .i64 0, .int .i64 0, .int .i64 0, .int .i64 0, .int .i64 0, .int .i64 0] 73))).ext (Ext.alloc _ (.cells #[.int .i64 (N : Int), .int .i64 0, .slice none 0 0, .slice none 0 0, .map (some (w.heap.size + 1))] 70))
  rw [← hW] at hT
  have P0 : PlM w.heap.size W (w.heap.size + 1 + 1) (N : Int) 0 [] [] (.slice none 0 0) (.slice none 0 0) (w.heap.size + 1) := by
    refine ⟨by rw [hW]; exact Blk.new _ _ _ _ (by simp), World.ownsRow_nil .., World.ownsRow_nil .., ?_, by omega, by omega⟩
    rw [numOf_nil]
    simpa using hT
  have bF : Blk W w.heap.size 73 #[.int .i64 0, .int .i64 0, .int .i64 0, .int .i64 0, .int .i64 0, .int .i64 0, .int .i64 0, .int .i64 0] := by rw [hW]; exact ((Blk.new _ _ _ _ rfl).alloc _).alloc _
  simp only [mp0, MP.v]
  go_enter Tryz.func45, Tryz.ntmps45
  go_wp2_with fail
  rw [← hW]
  have sm0 : SmM mp0 := by simp [SmM, smallM, mp0]
  refine (numberM_c w.heap.size W (w.heap.size + 1 + 1) N 0 [] [] mp0 _ _ (w.heap.size + 1) P0 hXW.size (by simp) sm0).mono ?_
  rintro e w1 ⟨rfl, ⟨pv1, P1⟩, hb1, _⟩
  have ep : addP [] mp0 = [mp0] := by simp [addP]
  rw [ep] at P1
  have hB1 : Below w.heap.size w w1 := Below.trans hXW hb1
  have HI : InW w m N (w.heap.size + 1 + 1) (w.heap.size + 1) ([mp0], []) (.slice none 0 0) pv1 w1 := ⟨P1, hB1, by
    intro p hp
    simp at hp
    subst hp
    exact lookP_ok hm (by omega) (by omega)⟩
  clear P1 hb1 hB1 P0 bF hT ep
  generalize w.heap.size + 1 + 1 = bx at *
  generalize w.heap.size + 1 = bm at *
  clear hW
  obtain ⟨i0, hi, hz0, hz1, hz2⟩ := info_parts ruleInfo
  go_wp2
  go_loopw [9] (fun i wr => ∃ (k : Nat) (s : List MP × List RuleD) (rv pv : Value), i = .int .i64 k ∧ BldAt (actW m) mp0 N k s ∧ InW w m N bx bm s rv pv wr) (fun i _ => 1001 - (intOf i).toNat)
  case atStart => exact ⟨0, ([mp0], []), _, _, rfl, BldAt.start _ _ _, HI⟩
  case round =>
    clear HI
    obtain ⟨k, s, rv, pv, rfl, hB, inv⟩ := hrel
    have hk1 := hB.le
    have hk2 := hB.most
    obtain ⟨Ap, cp, rfl, _, _, _⟩ := (ownsRow_row inv.st.places).form
    have c3 := inv.st.blk.cell 3
    simp only [List.getElem?_toArray, List.getElem?_cons_zero, List.getElem?_cons_succ] at c3
    by_cases hlt : k < s.1.length
    · obtain ⟨p, hp⟩ : ∃ p, s.1[k]? = some p := ⟨s.1[k], List.getElem?_eq_getElem hlt⟩
      have hpo : WOk m p := inv.ok p (List.mem_of_getElem? hp)
      go_wp2
      go_loopw [31] (fun i wr' => ∃ (j : Nat) (rv pv : Value), j ≤ N ∧ i = .int .i64 j ∧ InW w m N bx bm (rowTo (actW m) p s j) rv pv wr') (fun i _ => N - (intOf i).toNat)
      case atStart => exact ⟨0, _, _, Nat.zero_le _, rfl, inv⟩
      case round =>
        clear inv c3
        obtain ⟨j, rv, pv, hj, rfl, inv⟩ := hrel
        by_cases hjn : j < N
        · go_wp2_with fail
          refine (noRule_c _).mono ?_
          rintro e w2 ⟨rfl, hx2⟩
          have fv0 : (0 : Int) ≤ (j : Int) := by omega
          have fv1 : (j : Int) < 2 * m.sy := by have := HN.out; omega
          have hpj : (rowTo (actW m) p s j).1[k]? = some p := by
            obtain ⟨t, ht⟩ := rowTo_prefix (actW m) p s j
            rw [← ht, List.getElem?_append_left hlt]; exact hp
          have hlen : (rowTo (actW m) p s j).1.length ≤ 1006 ∧ (rowTo (actW m) p s j).2.length ≤ 6600 := by
            have h1 := rowTo_length (actW m) p s j
            have h2 := hB.rules
            have h3 : k * N ≤ 1000 * 6 := Nat.mul_le_mul (by omega) n6
            omega
          obtain ⟨hlen1, htl⟩ := hlen
          have HRT : Hid (rowTo (actW m) p s (j + 1) = symStep (actW m) p (rowTo (actW m) p s j) j) := rfl
          have HRO : Hid (∀ y ∈ (rowTo (actW m) p s (j + 1)).1, WOk m y) := rowTo_all (N := N) (fun y hy => inv.ok y (List.IsPrefix.subset (rowTo_prefix (actW m) p s j) hy)) (fun n hn hno => actW_ok hm hpo (by omega) (by have := HN.out; omega) hno) (j + 1) (by omega)
          generalize rowTo (actW m) p s j = t at *
          have hkt : k < t.1.length := (List.getElem?_eq_some_iff.1 hpj).1
          have inv2 := inv.ext hx2
          obtain ⟨V, hV⟩ : ∃ V, V = w2.alloc (.cells #[.int .i64 0, .int .i64 0, .int .i64 (-1)] 136) := ⟨_, rfl⟩
          have hXV : Ext w2 V := by rw [hV]; exact Ext.alloc _ _
          have inv3 := inv2.ext hXV
          have bR : Blk V w2.heap.size 136 #[.int .i64 0, .int .i64 0, .int .i64 (-1)] := by rw [hV]; exact Blk.new _ _ _ _ rfl
          obtain ⟨Ap, cp, rfl, _, _, _⟩ := (ownsRow_row inv3.st.places).form
          obtain ⟨gp, rfl, hgp1, hgp2, ac⟩ := placesM_at inv3.st.places hpj
          have a0 := ac 0 (by omega)
          have a1 := ac 1 (by omega)
          have a2 := ac 2 (by omega)
          have a3 := ac 3 (by omega)
          have a4 := ac 4 (by omega)
          have a5 := ac 5 (by omega)
          have a6 := ac 6 (by omega)
          have a7 := ac 7 (by omega)
          have c3 := inv3.st.blk.cell 3
          simp only [List.getElem?_toArray, List.getElem?_cons_zero, List.getElem?_cons_succ, Nat.add_zero] at c3 a0 a1 a2 a3 a4 a5 a6 a7
          rw [hV] at c3 a0 a1 a2 a3 a4 a5 a6 a7
          go_wp2_with fail
          rw [← hV]
          clear c3 a0 a1 a2 a3 a4 a5 a6 a7 ac
          refine (wat_c b m p j V (hM.ext inv3.below) hm hpo fv0 fv1).mono ?_
          rintro e w3 ⟨rfl, hx3⟩
          have inv4 := inv3.ext hx3
          have bR4 := bR.ext hx3
          cases hno : (actW m p j).no with
          | true =>
            have HRT2 := Lib.hid (HRT.out.trans (symStep_no hno))
            rw [HRT2.out] at HRO
            clear HRT
            generalize actW m p j = a at *
            obtain ⟨aw, am, ⟨ak, aa, at_, ac, af0, af1, af2, ad⟩, ano⟩ := a
            simp only at hno
            subst hno
            obtain ⟨U, hU⟩ : ∃ U, U = w3.alloc (.cells #[.int .i64 aw, .int .i64 am, .int .i64 ak, .int .i64 aa, .int .i64 at_, .int .i64 ac, .int .i64 af0, .int .i64 af1, .int .i64 af2, .int .i64 ad, .bool true] 139) := ⟨_, rfl⟩
            have hXU : Ext w3 U := by rw [hU]; exact Ext.alloc _ _
            have inv5 := inv4.ext hXU
            have bR5 := bR4.ext hXU
            simp only [ActM]
            go_wp2_with fail
            rw [← hU]
            clear hU

            have hrl : OwnRules w.heap.size U rv t.2 := inv5.st.rules
            obtain ⟨Ar, cr, rfl, _, _, _⟩ := (ownsRow_row hrl).form
            have eA := (Ext.alloc U (.cells #[.int .i64 0, .int .i64 0, .int .i64 (-1)] 136)).trans (Ext.drew _)
            have I6 := inv5.ext eA
            have c2' := (inv5.st.blk.alloc (.cells #[.int .i64 0, .int .i64 0, .int .i64 (-1)] 136)).cell 2
            have c2 := inv5.st.blk.cell 2
            have q0 := bR5.cell 0
            have q1 := bR5.cell 1
            have q2 := bR5.cell 2
            simp only [List.getElem?_toArray, List.getElem?_cons_zero, List.getElem?_cons_succ] at c2 c2' q0 q1 q2
            have hsU := Ext.size inv5.below
            go_region_law ((refine step_append_lies _ (by rfl) _ _ _ (by rfl) w.heap.size 136 i0 _ 3 24 Tryz.underlying64 hi hz0 hz1 hz2 rfl (by omega) _ _ (rvs t.2) (by first | rfl | simp [Act.eval, Act.put]) (OwnRules.ext hrl eA) ⟨(U).heap.size, 0, none⟩ 1 1 [.int .i64 0, .int .i64 0, .int .i64 (-1)] (by first | rfl | simp [Act.eval, Act.put]) rfl (World.news_of_block (w := ((U).alloc (.cells #[.int .i64 0, .int .i64 0, .int .i64 (-1)] 136)).drew) (heap_alloc_new (U) _)) (by simp [Value.oneCell']) (by omega) (by unfold maxLen; omega) (by omega) (by simp; omega) ((U).heap.size + 1) (by simp) ?_; intro g cap w7 hown7 hg7 hat7 hlt7; have I7 := I6.ruled (r := ⟨0, 0, (-1)⟩) hown7 hg7; have B7 := Blk.apart I6.st.blk I6.st.rules (by decide) hg7; have z2 := B7.cell 2; have f2 := B7.frozen 2; simp only [List.getElem?_toArray, List.getElem?_cons_zero, List.getElem?_cons_succ] at z2))
            all_goals
              try go_wp2
              go_roundw
              case rel => exact ⟨j + 1, _, _, by omega, by go_num, by rw [HRT2.out]; exact I7⟩
              case measure => simp [intOf]; omega
          | false =>
            have HRT2 := Lib.hid (HRT.out.trans (symStep_yes hno))
            have hap := actW_ok hm hpo fv0 fv1 hno
            have sm1 : SmM (actW m p j).p := hap.small hm
            rw [HRT2.out] at HRO
            clear HRT
            generalize actW m p j = a at *
            obtain ⟨aw, am, ap, ano⟩ := a
            simp only at hno
            subst hno
            obtain ⟨U, hU⟩ : ∃ U, U = w3.alloc (.cells #[.int .i64 aw, .int .i64 am, .int .i64 ap.k, .int .i64 ap.a, .int .i64 ap.t, .int .i64 ap.c, .int .i64 ap.f0, .int .i64 ap.f1, .int .i64 ap.f2, .int .i64 ap.d, .bool false] 139) := ⟨_, rfl⟩
            have hXU : Ext w3 U := by rw [hU]; exact Ext.alloc _ _
            have inv5 := inv4.ext hXU
            have bR5 := bR4.ext hXU
            have bA5 : Blk U w3.heap.size 139 #[.int .i64 aw, .int .i64 am, .int .i64 ap.k, .int .i64 ap.a, .int .i64 ap.t, .int .i64 ap.c, .int .i64 ap.f0, .int .i64 ap.f1, .int .i64 ap.f2, .int .i64 ap.d, .bool false] := by rw [hU]; exact Blk.new _ _ _ _ rfl
            simp only [ActM]
            go_wp2_with fail
            rw [← hU]
            clear hU
            have a0 := bA5.cell 0
            have a1 := bA5.cell 1
            have a2 := bA5.cell 2
            have a3 := bA5.cell 3
            have a4 := bA5.cell 4
            have a5 := bA5.cell 5
            have a6 := bA5.cell 6
            have a7 := bA5.cell 7
            have a8 := bA5.cell 8
            have a9 := bA5.cell 9
            simp only [List.getElem?_toArray, List.getElem?_cons_zero, List.getElem?_cons_succ] at a0 a1 a2 a3 a4 a5 a6 a7 a8 a9
            have Id := inv5.ext (Ext.drew U)
            have hsU := Ext.size Id.below
            have hnum := numberM_c w.heap.size U.drew bx N 0 t.2 t.1 ap rv _ bm Id.st hsU (by omega) sm1
            simp only [MP.v] at hnum
            go_region_law ((go_simp; go_at_call 64; ((with_reducible refine hnum.mono ?_)); rintro e w6 ⟨rfl, ⟨pv6, P6⟩, hb6, hk6⟩; have bA6 := hk6 _ _ _ bA5.drew (by decide) (by decide); have bR6 := hk6 _ _ _ bR5.drew (by decide) (by decide); have d0 := bA6.cell 0; have d1 := bA6.cell 1; have e0 := bR6.cell; have f0 := bR6.frozen; simp only [List.getElem?_toArray, List.getElem?_cons_zero, List.getElem?_cons_succ] at d0 d1))
            all_goals
              obtain ⟨U7, hU7⟩ : ∃ U7, U7 = ((w6.setCell ⟨w2.heap.size, 0, none⟩ (.int .i64 aw)).setCell ⟨w2.heap.size, 1, none⟩ (.int .i64 am)).setCell ⟨w2.heap.size, 2, none⟩ (.int .i64 ((addP t.1 ap).idxOf ap : Nat)) := ⟨_, rfl⟩
              have bR7 : Blk U7 w2.heap.size 136 #[.int .i64 aw, .int .i64 am, .int .i64 ((addP t.1 ap).idxOf ap : Nat)] := by rw [hU7]; exact ((bR6.set_ 0 _).set_ 1 _).set_ 2 _
              have I7' : InW w m N bx bm (addP t.1 ap, t.2) rv pv6 U7 := by
                have hlow : w.heap.size ≤ w2.heap.size := Ext.size inv2.below
                have hne : ∀ k, rv.ownBlock = some k → k ≠ w2.heap.size := fun k hk => by
                  have h1 := (World.ownsRow.lt inv.st.rules k hk).2
                  have h2 := hx2.size
                  omega
                rw [hU7]
                have q1 := P6.store bR6 hne (p := ⟨w2.heap.size, 0, none⟩) rfl (.int .i64 aw)
                have q2 := q1.store (bR6.set_ 0 _) hne (p := ⟨w2.heap.size, 1, none⟩) rfl (.int .i64 am)
                have q3 := q2.store ((bR6.set_ 0 _).set_ 1 _) hne (p := ⟨w2.heap.size, 2, none⟩) rfl (.int .i64 ((addP t.1 ap).idxOf ap : Nat))
                exact ⟨q3, (((Below.trans Id.below hb6).setCell hlow _).setCell hlow _).setCell hlow _, HRO.out⟩
              rw [← hU7]
              clear hU7 e0 f0 d0 d1 hnum
              try go_wp2_with fail
              have hrl : OwnRules w.heap.size U7 rv t.2 := I7'.st.rules
              obtain ⟨Ar, cr, rfl, _, _, _⟩ := (ownsRow_row hrl).form
              have eA := (Ext.alloc U7 (.cells #[.int .i64 aw, .int .i64 am, .int .i64 ((addP t.1 ap).idxOf ap : Nat)] 136)).trans (Ext.drew _)
              have I6 := I7'.ext eA
              have c2' := (I7'.st.blk.alloc (.cells #[.int .i64 aw, .int .i64 am, .int .i64 ((addP t.1 ap).idxOf ap : Nat)] 136)).cell 2
              have c2 := I7'.st.blk.cell 2
              have q0 := bR7.cell 0
              have q1 := bR7.cell 1
              have q2 := bR7.cell 2
              simp only [List.getElem?_toArray, List.getElem?_cons_zero, List.getElem?_cons_succ] at c2 c2' q0 q1 q2
              have hsU := Ext.size I7'.below
              go_region_law ((refine step_append_lies _ (by rfl) _ _ _ (by rfl) w.heap.size 136 i0 _ 3 24 Tryz.underlying64 hi hz0 hz1 hz2 rfl (by omega) _ _ (rvs t.2) (by first | rfl | simp [Act.eval, Act.put]) (OwnRules.ext hrl eA) ⟨(U7).heap.size, 0, none⟩ 1 1 [.int .i64 aw, .int .i64 am, .int .i64 ((addP t.1 ap).idxOf ap : Nat)] (by first | rfl | simp [Act.eval, Act.put]) rfl (World.news_of_block (w := ((U7).alloc (.cells #[.int .i64 aw, .int .i64 am, .int .i64 ((addP t.1 ap).idxOf ap : Nat)] 136)).drew) (heap_alloc_new (U7) _)) (by simp [Value.oneCell']) (by omega) (by unfold maxLen; omega) (by omega) (by simp; omega) ((U7).heap.size + 1) (by simp) ?_; intro g cap w7 hown7 hg7 hat7 hlt7; have I7 := I6.ruled (r := ⟨aw, am, ((addP t.1 ap).idxOf ap : Nat)⟩) hown7 hg7; have B7 := Blk.apart I6.st.blk I6.st.rules (by decide) hg7; have z2 := B7.cell 2; have f2 := B7.frozen 2; simp only [List.getElem?_toArray, List.getElem?_cons_zero, List.getElem?_cons_succ] at z2))
              all_goals
                try go_wp2
                go_roundw
                case rel => exact ⟨j + 1, _, _, by omega, by go_num, by rw [HRT2.out]; exact I7⟩
                case measure => simp [intOf]; omega
        · have hjN : j = N := by omega
          subst hjN
          obtain ⟨Ap, cp, rfl, _, _, _⟩ := (ownsRow_row inv.st.places).form
          have c3 := inv.st.blk.cell 3
          simp only [List.getElem?_toArray, List.getElem?_cons_zero, List.getElem?_cons_succ] at c3
          have HOK := Lib.hid inv.ok
          by_cases hmost : (rowTo (actW m) p s j).1.length ≤ 1000
          · have HBN := Lib.hid (hB.step hlt hp hmost)
            clear hB
            generalize rowTo (actW m) p s j = t at *
            go_wp2
            go_roundw
            case rel => exact ⟨k + 1, t, rv, _, by go_num, HBN.out, inv⟩
            case measure => simp [intOf]; omega
          · have HBN := Lib.hid (hB.fails hlt hp (by omega))
            clear hB
            generalize rowTo (actW m) p s j = t at *
            go_wp2
            go_ret2
            exact ⟨.inl ⟨HB.out.trans HBN.out, rfl⟩, inv.below⟩
    · have HBN := Lib.hid (hB.ends hlt)
      have one := hB.one
      clear hB
      have f1 := inv.st.blk.frozen 1
      have c1 := inv.st.blk.cell 1
      simp only [List.getElem?_toArray, List.getElem?_cons_zero, List.getElem?_cons_succ] at c1
      go_wp2_with fail
      refine (sizeMp_c _ _ _ _ (ownsRow_row inv.st.places)).mono ?_
      rintro e w' ⟨rfl, rfl⟩
      go_wp2
      go_ret2
      have hgs := grownBy_setCell wr ⟨bx, 1, none⟩ (.int .i64 (s.1.length : Nat))
      refine ⟨.inr ⟨s, bx, bm, rv, _, HB.out.trans HBN.out, rfl, ⟨?_, own_kept inv.st.rules hgs (blk_ne_row inv.st.blk inv.st.rules (by decide)), own_kept inv.st.places hgs (blk_ne_row inv.st.blk inv.st.places (by decide)), inv.st.tbl.setCell (a := ⟨bx, 1, none⟩) (inv.st.tbl.ne_blk inv.st.blk) _, inv.st.lowX, inv.st.lowM⟩, inv.ok, one, hk2⟩, Below.setCell inv.below inv.st.lowX _⟩
      have := inv.st.blk.set_ 1 (.int .i64 (s.1.length : Nat))
      rw [HN.out]
      exact this
end Go.Proofs.YtgeckhjkahnonaaGreatDoor
end
section
set_option linter.unusedSimpArgs false
set_option linter.unusedVariables false
namespace Go.Proofs.YtgeckhjkahnonaaGreatDoor
open Go Go.RowKit Go.Proofs Go.Maps
set_option maxHeartbeats 400000
def WeaveRes (w : World) (m : MultiD) (e : Ending) (w' : World) : Prop :=
  ((weaveB m = none ∧ e = .returned (.tuple #[.pointer none, .bool false])) ∨
    ∃ s bx bm rv pv, weaveB m = some s ∧ e = .returned (.tuple #[.pointer (some ⟨bx, 0, none⟩), .bool true]) ∧ PlM w.heap.size w' bx (2 * m.sy) s.1.length s.2 s.1 rv pv bm ∧ (∀ p ∈ s.1, WOk m p) ∧ 1 ≤ s.1.length ∧ s.1.length ≤ 1000) ∧ Ext w w'
set_option maxHeartbeats 1000000 in
set_option maxRecDepth 20000 in
theorem oneTape_c (mv : Value) (m : MultiD) (w : World) (hM : Mult w mv m) (hm : multiOk m = true) :
    Calls Tryz.prog 20 #[mv] w (WeaveRes w m) := by
  obtain ⟨⟨tp1, tp2⟩, ⟨y1, y2⟩, _⟩ := multi_all hm
  obtain ⟨rv, rfl, hR⟩ := hM
  obtain ⟨A, cA, rfl, _, _⟩ := hR.form
  obtain ⟨g, hg⟩ : ∃ g, w.heap.size = g := ⟨_, rfl⟩
  obtain ⟨W, hW⟩ : ∃ W, W = w.alloc (.cells #[.int .i64 m.tp, .int .i64 m.sy, .int .i64 m.st, .slice A m.rules.length cA] 26) := ⟨_, rfl⟩
  have hXW : Ext w W := by rw [hW]; exact Ext.alloc _ _
  have bM : Blk W g 26 #[.int .i64 m.tp, .int .i64 m.sy, .int .i64 m.st, .slice A m.rules.length cA] := by rw [hW]; exact Blk.new _ _ _ _ hg
  have a0 : W.cell? ⟨g, 0, none⟩ = some (.int .i64 m.tp) := bM.cell 0
  have a1 : W.cell? ⟨g, 1, none⟩ = some (.int .i64 m.sy) := bM.cell 1
  have a2 : W.cell? ⟨g, 2, none⟩ = some (.int .i64 m.st) := bM.cell 2
  have a3 : W.cell? ⟨g, 3, none⟩ = some (.slice A m.rules.length cA) := bM.cell 3
  have hwm : IntKind.i64.wrap (2 * m.sy) = 2 * m.sy := IntWalk.i64_in _ (by omega)
  go_enter Tryz.func20, Tryz.ntmps20
  go_upto_region 1 with fail
  try rw [← hW]
  try rw [hg]
  clear hW
  have zD := Ext.drew W
  have e0 := zD.cell a0
  have e1 := zD.cell a1
  have e2 := zD.cell a2
  have e3 := zD.cell a3
  have MR := multiRules_c (.agg #[.int .i64 m.tp, .int .i64 m.sy, .int .i64 m.st, .slice A m.rules.length cA]) m W.drew ⟨_, rfl, hR.ext (hXW.trans zD)⟩ hm
  refine wp_region_ordT 3 (readsT [0, 1] (.stir 2 .done)) (by kernel_rfl) (by kernel_rfl) (fun _ _ _ _ _ h => h) ?_
  simp only [readsT]
  iterate 2 (refine wpOrdT_read (v := ?_) (by rfl) (Or.inl ⟨by rfl, fun x hx => ?_⟩) ?_; rotate_left; (· have u0 := hx.cell e0; have u1 := hx.cell e1; have u2 := hx.cell e2; have u3 := hx.cell e3; go_simp; try with_reducible rfl); try simp only [Act.put, List.setIfInBounds_toArray, List.set_cons_zero, List.set_cons_succ])
  refine wpOrdT_stir (by rfl) (fun K hK => ?_)
  go_simp
  go_at_call 37
  refine MR.mono ?_
  rintro e w1 ⟨bm, rfl, tb, hbm, hx1⟩
  refine hK _ _ hx1 ?_
  clear hK K MR
  try simp only [Act.put, List.setIfInBounds_toArray, List.set_cons_zero, List.set_cons_succ]
  refine wpOrdT_done ?_
  try simp only [List.drop_succ_cons, List.drop_zero]
  have hX1 := hXW.trans (zD.trans hx1)
  obtain ⟨gw, hgw⟩ : ∃ gw, w1.heap.size = gw := ⟨_, rfl⟩
  obtain ⟨V, hV⟩ : ∃ V, V = w1.alloc (.cells #[.int .i64 m.tp, .int .i64 m.sy, .int .i64 m.st, .slice A m.rules.length cA, .map (some bm)] 111) := ⟨_, rfl⟩
  have hXV : Ext w1 V := by rw [hV]; exact Ext.alloc _ _
  have hWv : Weav V gw m := ⟨A, cA, bm, by rw [hV]; exact Blk.new _ _ _ _ hgw, hR.ext (hX1.trans hXV), tb.ext hXV⟩
  have hXv := hX1.trans hXV
  have a1V : V.cell? ⟨g, 1, none⟩ = some (.int .i64 m.sy) := (zD.trans (hx1.trans hXV)).cell a1
  clear e0 e1 e2 e3 a0 a1 a2 a3 tb bM hR hx1 zD hX1 hXV hXW
  go_upto_region 2 with fail
  try rw [← hV]
  try rw [hgw]
  clear hV hgw
  have zD := Ext.drew V
  have e1 := zD.cell a1V
  have fin : ∀ (Z : World) , Ext V.drew Z → Calls Tryz.prog 45 #[.int .i64 (2 * m.sy), mp0.v, .func (.func 46) #[.pointer (some ⟨gw, 0, none⟩)] #[]] Z (fun e w' => BuildM Z m e w' ∧ Ext V.drew Z) := fun Z hZ => (buildW_c Z gw m (hWv.ext (zD.trans hZ)) hm).mono fun e w' hh => ⟨hh, hZ⟩
  simp only [mp0, MP.v] at fin
  refine wp_region_ordT 9 (readsT [0, 1, 2, 4] (.fork 3 (.stir 5 (.stir 6 (readsT [7, 8] .done))) 5 (.stir 3 (.stir 6 (readsT [7, 8] .done))))) (by kernel_rfl) (by kernel_rfl) (fun _ _ _ _ _ h => h) ?_
  simp only [readsT]
  iterate 4 (refine wpOrdT_read (v := ?_) (by rfl) (Or.inl ⟨by rfl, fun x hx => ?_⟩) ?_; rotate_left; (· have u1 := hx.cell e1; go_simp; try with_reducible rfl); try simp only [Act.put, List.setIfInBounds_toArray, List.set_cons_zero, List.set_cons_succ])
  refine wpOrdT_fork (by rfl) (by rfl) (fun K hK => ?_) (fun K hK => ?_)
  · go_simp
    go_at_call 24
    refine (look_c 0 _).mono ?_
    rintro e w3 ⟨rfl, hx3⟩
    refine hK _ _ hx3 ?_
    clear hK K
    try simp only [Act.put, List.setIfInBounds_toArray, List.set_cons_zero, List.set_cons_succ]
    simp only [lookP, MP.v]
    refine wpOrdT_stir (by rfl) (fun K hK => ?_)
    go_simp
    refine hK _ _ (Ext.refl _) ?_
    clear hK K
    try simp only [Act.put, List.setIfInBounds_toArray, List.set_cons_zero, List.set_cons_succ]
    refine wpOrdT_stir (by rfl) (fun K hK => ?_)
    go_simp
    go_at_call 45
    refine (fin w3 hx3).mono ?_
    rintro e w4 ⟨⟨hres, hx4⟩, _⟩
    have hX4 : Ext w w4 := hXv.trans (zD.trans (hx3.trans hx4))
    have hlow : w.heap.size ≤ w3.heap.size := (hXv.trans (zD.trans hx3)).size
    rcases hres with ⟨hn, rfl⟩ | ⟨s, bx, bm', rv1, pv1, hs, rfl, hst, hok, l1, l2⟩
    · refine hK _ _ hx4 ?_
      clear hK K fin
      try simp only [Act.put, List.setIfInBounds_toArray, List.set_cons_zero, List.set_cons_succ]
      iterate 2 (refine wpOrdT_read (v := ?_) (by rfl) (Or.inl ⟨by rfl, fun x hx => ?_⟩) ?_; rotate_left; (· go_simp; try with_reducible rfl); try simp only [Act.put, List.setIfInBounds_toArray, List.set_cons_zero, List.set_cons_succ])
      refine wpOrdT_done ?_
      try simp only [List.drop_succ_cons, List.drop_zero]
      go_wp2_with fail
      go_ret2
      exact ⟨.inl ⟨hn, rfl⟩, hX4⟩
    · refine hK _ _ hx4 ?_
      clear hK K fin
      try simp only [Act.put, List.setIfInBounds_toArray, List.set_cons_zero, List.set_cons_succ]
      have hst' : PlM w.heap.size w4 bx (2 * m.sy) s.1.length s.2 s.1 rv1 pv1 bm' :=
        ⟨hst.blk, ownsRow_base hst.rules hlow, ownsRow_base hst.places hlow, hst.tbl, Nat.le_trans hlow hst.lowX, Nat.le_trans hlow hst.lowM⟩
      iterate 2 (refine wpOrdT_read (v := ?_) (by rfl) (Or.inl ⟨by rfl, fun x hx => ?_⟩) ?_; rotate_left; (· go_simp; try with_reducible rfl); try simp only [Act.put, List.setIfInBounds_toArray, List.set_cons_zero, List.set_cons_succ])
      refine wpOrdT_done ?_
      try simp only [List.drop_succ_cons, List.drop_zero]
      go_wp2_with fail
      go_ret2
      exact ⟨.inr ⟨s, _, bm', rv1, pv1, hs, rfl, hst', hok, l1, l2⟩, hX4⟩
  · go_simp
    refine hK _ _ (Ext.refl _) ?_
    clear hK K
    try simp only [Act.put, List.setIfInBounds_toArray, List.set_cons_zero, List.set_cons_succ]
    refine wpOrdT_stir (by rfl) (fun K hK => ?_)
    go_simp
    go_at_call 24
    refine (look_c 0 _).mono ?_
    rintro e w3 ⟨rfl, hx3⟩
    refine hK _ _ hx3 ?_
    clear hK K
    try simp only [Act.put, List.setIfInBounds_toArray, List.set_cons_zero, List.set_cons_succ]
    simp only [lookP, MP.v]
    refine wpOrdT_stir (by rfl) (fun K hK => ?_)
    go_simp
    go_at_call 45
    refine (fin w3 hx3).mono ?_
    rintro e w4 ⟨⟨hres, hx4⟩, _⟩
    have hX4 : Ext w w4 := hXv.trans (zD.trans (hx3.trans hx4))
    have hlow : w.heap.size ≤ w3.heap.size := (hXv.trans (zD.trans hx3)).size
    rcases hres with ⟨hn, rfl⟩ | ⟨s, bx, bm', rv1, pv1, hs, rfl, hst, hok, l1, l2⟩
    · refine hK _ _ hx4 ?_
      clear hK K fin
      try simp only [Act.put, List.setIfInBounds_toArray, List.set_cons_zero, List.set_cons_succ]
      iterate 2 (refine wpOrdT_read (v := ?_) (by rfl) (Or.inl ⟨by rfl, fun x hx => ?_⟩) ?_; rotate_left; (· go_simp; try with_reducible rfl); try simp only [Act.put, List.setIfInBounds_toArray, List.set_cons_zero, List.set_cons_succ])
      refine wpOrdT_done ?_
      try simp only [List.drop_succ_cons, List.drop_zero]
      go_wp2_with fail
      go_ret2
      exact ⟨.inl ⟨hn, rfl⟩, hX4⟩
    · refine hK _ _ hx4 ?_
      clear hK K fin
      try simp only [Act.put, List.setIfInBounds_toArray, List.set_cons_zero, List.set_cons_succ]
      have hst' : PlM w.heap.size w4 bx (2 * m.sy) s.1.length s.2 s.1 rv1 pv1 bm' :=
        ⟨hst.blk, ownsRow_base hst.rules hlow, ownsRow_base hst.places hlow, hst.tbl, Nat.le_trans hlow hst.lowX, Nat.le_trans hlow hst.lowM⟩
      iterate 2 (refine wpOrdT_read (v := ?_) (by rfl) (Or.inl ⟨by rfl, fun x hx => ?_⟩) ?_; rotate_left; (· go_simp; try with_reducible rfl); try simp only [Act.put, List.setIfInBounds_toArray, List.set_cons_zero, List.set_cons_succ])
      refine wpOrdT_done ?_
      try simp only [List.drop_succ_cons, List.drop_zero]
      go_wp2_with fail
      go_ret2
      exact ⟨.inr ⟨s, _, bm', rv1, pv1, hs, rfl, hst', hok, l1, l2⟩, hX4⟩
end Go.Proofs.YtgeckhjkahnonaaGreatDoor
end
section
set_option linter.unusedSimpArgs false
set_option linter.unusedVariables false
namespace Go.Proofs.YtgeckhjkahnonaaGreatDoor
open Go Go.RowKit Go.Proofs Go.Maps
set_option maxHeartbeats 400000
theorem floor_eq {a b : Int} (h : -2 ≤ a) (hb : b = 2 ∨ b = 3) : (a.tmod b + b).tmod b = a % b := by
  by_cases h0 : 0 ≤ a
  · rw [Int.tmod_eq_emod_of_nonneg h0]
    have h1 := Int.emod_nonneg a (show b ≠ 0 by omega)
    rw [Int.tmod_eq_emod_of_nonneg (by omega), Int.add_emod_right, Int.emod_emod]
  · have ha : a = -1 ∨ a = -2 := by omega
    rcases ha with rfl | rfl <;> rcases hb with rfl | rfl <;> decide
theorem floorMod_c (a b : Int) (w : World) (h : -2 ≤ a) (h1 : a ≤ 1000000) (hb : b = 2 ∨ b = 3) :
    Calls Tryz.prog 76 #[.int .i64 a, .int .i64 b] w fun e w' => e = .returned (.int .i64 (a % b)) ∧ w = w' := by
  have hf := floor_eq h hb
  have hb0 : ¬ b = 0 := by omega
  obtain ⟨r, hr⟩ : ∃ r, a.tmod b = r := ⟨_, rfl⟩
  rw [hr] at hf
  have hrb : -3 ≤ r ∧ r ≤ 1000000 := by
    rw [← hr]
    by_cases h0 : 0 ≤ a
    · rw [Int.tmod_eq_emod_of_nonneg h0]
      have h2 := Int.emod_nonneg a (show b ≠ 0 by omega)
      have h3 := Int.emod_lt_of_pos a (show 0 < b by omega)
      omega
    · have ha : a = -1 ∨ a = -2 := by omega
      rcases ha with rfl | rfl <;> rcases hb with rfl | rfl <;> decide
  have hw : IntKind.i64.wrap (r + b) = r + b := IntWalk.i64_in _ (by omega)
  go_enter Tryz.func76, Tryz.ntmps76
  go_wp2
  go_ret
  exact ⟨rfl, rfl⟩
theorem markM_c (v : Int) (b : Nat) (sy : Int) (w : World) (h : w.cell? ⟨b, 1, none⟩ = some (.int .i64 sy)) :
    Calls Tryz.prog 51 #[.int .i64 v, .pointer (some ⟨b, 0, none⟩)] w fun e w' => e = .returned (.bool (markB sy v)) ∧ w = w' := by
  go_enter Tryz.func51, Tryz.ntmps51
  go_wp2
  go_ret
  exact ⟨rfl, rfl⟩
theorem lineT_len (T f : Nat) (xs : List Int) (n : Nat) : (lineT T f xs n).length ≤ n := by
  unfold lineT ixT
  rw [List.length_map]
  exact Nat.le_trans (List.length_filter_le _ _) (by simp)
theorem lineT_next {T f k n : Nat} {xs : List Int} (hT : T = 2 ∨ T = 3) (hk : k % T = f) (h1 : k < n) (h2 : n ≤ k + T) : lineT T f xs n = lineT T f xs k ++ [xs.getD k 0] := by
  unfold lineT
  rw [ixT_next hT hk h1 h2, List.map_append]
  rfl
set_option maxRecDepth 20000 in
set_option maxHeartbeats 4000000 in
theorem tapeCells_c (m : MultiD) (rvm : Value) (c : ConfD) (lv qv : Value) (t0 j : Int) (w : World) (hm : multiOk m = true) (hl : Ints w lv c.l) (hr : Ints w qv c.r) (fl : Flat lv) (fr : Flat qv) (hL : c.l.length ≤ 200) (hR : c.r.length ≤ 200)
    (ht0 : 0 ≤ t0) (ht1 : t0 < m.tp) (hj0 : 0 ≤ j) (hj1 : j < m.tp) :
    Calls Tryz.prog 52 #[.agg #[.int .i64 m.tp, .int .i64 m.sy, .int .i64 m.st, rvm], .agg #[.int .i64 c.q, lv, qv], .int .i64 t0, .int .i64 j] w fun e w' => ∃ u, e = .returned u ∧ OwnInts w.heap.size w' u (lineC m c t0 j) ∧ Ext w w' := by
  obtain ⟨i0, hi, hz0, hz1, hz2⟩ := info_parts intInfo
  obtain ⟨⟨tp1, tp2⟩, _⟩ := multi_all hm
  obtain ⟨Al, cl, rfl, _, _⟩ := hl.form
  obtain ⟨Ar, cr, rfl, _, _⟩ := hr.form
  obtain ⟨g, hg⟩ : ∃ g, w.heap.size = g := ⟨_, rfl⟩
  obtain ⟨W, hW⟩ : ∃ W, W = (w.alloc (.cells #[.int .i64 m.tp, .int .i64 m.sy, .int .i64 m.st, rvm] 26)).alloc (.cells #[.int .i64 c.q, .slice Al c.l.length cl, .slice Ar c.r.length cr] 60) := ⟨_, rfl⟩
  have hX : Ext w W := by rw [hW]; exact (Ext.alloc _ _).trans (Ext.alloc _ _)
  have bM : Blk W g 26 #[.int .i64 m.tp, .int .i64 m.sy, .int .i64 m.st, rvm] := by rw [hW]; exact (Blk.new _ _ _ _ hg).alloc _
  have bC : Blk W (g + 1) 60 #[.int .i64 c.q, .slice Al c.l.length cl, .slice Ar c.r.length cr] := by rw [hW]; exact Blk.new _ _ _ _ (by simp [hg])
  have c1 : W.cell? ⟨g + 1, 1, none⟩ = some (.slice Al c.l.length cl) := bC.cell 1
  have c2 : W.cell? ⟨g + 1, 2, none⟩ = some (.slice Ar c.r.length cr) := bC.cell 2
  have zD := Ext.drew W
  have RV := reversed_c (.slice Al c.l.length cl) c.l W.drew (hl.ext (hX.trans zD)) fl (by omega)
  have hlr : c.l.reverse.length = c.l.length := by simp
  go_enter Tryz.func52, Tryz.ntmps52
  go_upto_region 1 with fail
  try rw [← hW]
  try rw [hg]
  clear hW
  have e1 := zD.cell c1
  have e2 := zD.cell c2
  refine wp_region_ordT 9 (readsT [0, 1, 3, 4, 7, 8] (.stir 2 (.stir 5 (.stir 6 .done)))) (by kernel_rfl) (by kernel_rfl) (fun _ _ _ _ _ h => h) ?_
  simp only [readsT]
  iterate 6 (refine wpOrdT_read (v := ?_) (by rfl) (Or.inl ⟨by rfl, fun x hx => ?_⟩) ?_; rotate_left; (· have u1 := hx.cell e1; have u2 := hx.cell e2; go_simp; try with_reducible rfl); try simp only [Act.put, List.setIfInBounds_toArray, List.set_cons_zero, List.set_cons_succ])
  refine wpOrdT_stir (by rfl) (fun K hK => ?_)
  go_simp
  go_at_call 43
  refine RV.mono ?_
  rintro e w5 ⟨u5, rfl, ho5, hx5⟩
  refine hK _ _ hx5 ?_
  clear hK K RV
  try simp only [Act.put, List.setIfInBounds_toArray, List.set_cons_zero, List.set_cons_succ]
  have hf5 := ho5.flat
  obtain ⟨A5, c5, rfl, _, _⟩ := ho5.ints.form
  have JN := joinedA_c A5 Ar c5 cr c.l.reverse c.r w5 ho5.ints (hr.ext (hX.trans (zD.trans hx5))) hf5 fr (by omega)
  have eA := Ext.alloc w5 (.cells #[.slice A5 c.l.reverse.length c5, .slice Ar c.r.length cr] 34)
  refine wpOrdT_stir (by rfl) (fun K hK => ?_)
  go_simp
  rw [hlr] at eA
  refine hK _ _ eA ?_
  clear hK K
  try simp only [Act.put, List.setIfInBounds_toArray, List.set_cons_zero, List.set_cons_succ]
  rw [hlr] at JN
  refine wpOrdT_stir (by rfl) (fun K hK => ?_)
  go_simp
  go_at_call 75
  refine JN.mono ?_
  rintro e w7 ⟨u7, rfl, ho7, hx7⟩
  refine hK _ _ hx7 ?_
  clear hK K JN
  try simp only [Act.put, List.setIfInBounds_toArray, List.set_cons_zero, List.set_cons_succ]
  refine wpOrdT_done ?_
  try simp only [List.drop_succ_cons, List.drop_zero]
  have hX7 := hX.trans (zD.trans (hx5.trans (eA.trans hx7)))
  have hE7 := zD.trans (hx5.trans (eA.trans hx7))
  have i7 : Ints w7 u7 (cellsC c) := ho7.ints
  have hlen : (cellsC c).length = c.l.length + c.r.length := by simp [cellsC]
  obtain ⟨A7, c7, rfl, _, _⟩ := i7.form
  have a0 : w7.cell? ⟨g, 0, none⟩ = some (.int .i64 m.tp) := (bM.ext hE7).cell 0
  have SZ := sizeInt_c (.slice Al c.l.length cl) c.l w7 (hl.ext hX7)
  clear e1 e2 c1 c2 bC ho5 hf5 hx5 eA hx7 ho7 hE7 zD
  go_wp2_with fail
  refine SZ.mono ?_
  rintro e w' ⟨rfl, rfl⟩
  clear SZ
  have hT : m.tp = 2 ∨ m.tp = 3 := by omega
  obtain ⟨n, hn⟩ : ∃ n, c.l.length = n := ⟨_, rfl⟩
  have hws : IntKind.i64.wrap (j - t0) = j - t0 := IntWalk.i64_in _ (by omega)
  have hwa : IntKind.i64.wrap (j - t0 + (n : Int)) = j - t0 + (n : Int) := IntWalk.i64_in _ (by omega)
  have FM := floorMod_c (j - t0 + (n : Int)) m.tp w7 (by omega) (by omega) hT
  obtain ⟨F, hF⟩ : ∃ F, frstC m.tp t0 j n = F := ⟨_, rfl⟩
  have hFi : (j - t0 + (n : Int)) % m.tp = (F : Int) := by
    rw [← hF]
    unfold frstC
    have := Int.emod_nonneg (j - t0 + (n : Int)) (show m.tp ≠ 0 by omega)
    omega
  obtain ⟨T, hTT⟩ : ∃ T : Nat, (T : Int) = m.tp := ⟨m.tp.toNat, by omega⟩
  have hTn : m.tp.toNat = T := by omega
  have hFlt : F < T := by
    rw [← hF, ← hTn]
    exact frstC_lt tp1 n
  have HLI : Hid (lineC m c t0 j = lineT T F (cellsC c) (cellsC c).length) := Lib.hid (by unfold lineC; rw [hTn, hn, hF])
  rw [hFi] at FM
  rw [hn]
  rw [← hTT] at a0 FM
  have hT2 : T = 2 ∨ T = 3 := by omega
  have hN4 : (cellsC c).length ≤ 400 := by omega
  have HX7 := Lib.hid hX7
  have HI7 := Lib.hid i7
  clear hF hFi hn hlr hlen hTT hTn hL hR
  generalize cellsC c = xs at *
  obtain ⟨N, hN⟩ : ∃ N, xs.length = N := ⟨_, rfl⟩
  have HN := Lib.hid hN
  rw [hN] at hN4 ⊢
  go_wp2_with fail
  refine FM.mono ?_
  rintro e w' ⟨rfl, rfl⟩
  clear FM
  obtain ⟨V, hV⟩ : ∃ V, V = w7.alloc (.cells #[] 2) := ⟨_, rfl⟩
  have hXV : Ext w7 V := by rw [hV]; exact Ext.alloc _ _
  have hown0 : V.ownsRow w7.heap.size 2 1 (.slice (some ⟨w7.heap.size, 0, none⟩) 0 0) (lineT T F xs (min F N)).length (ivs (lineT T F xs (min F N))) := by
    have e0 : lineT T F xs (min F N) = [] := by unfold lineT; rw [ixT_first hT2 (by omega) hFlt]; rfl
    rw [e0, hV]
    exact World.ownsRow_made (base := w7.heap.size) (e := 2) (size := 1) w7 #[] 0 (by simp) (by unfold maxLen; omega) (by simp [ivs])
  have HA0 := Lib.hid a0
  have a0V := hXV.cell a0
  clear a0
  go_wp2_with fail
  try rw [← hV]
  clear hV
  go_loopw [12, 13] (fun l i wr => ∃ k : Nat, i = .int .i64 (k : Int) ∧ k % T = F ∧ k < N + T ∧ Ext w7 wr ∧ wr.ownsRow w7.heap.size 2 1 l (lineT T F xs (min k N)).length (ivs (lineT T F xs (min k N)))) (fun _ i _ => N + T - (intOf i).toNat)
  case atStart => exact ⟨F, rfl, Nat.mod_eq_of_lt hFlt, by omega, hXV, hown0⟩
  case round =>
    obtain ⟨k, rfl, hkF, hkN, hE, ho⟩ := hrel
    have ik := HI7.out.ext hE
    have a0 : wr.cell? ⟨g, 0, none⟩ = some (.int .i64 (T : Int)) := hE.cell HA0.out
    clear hown0 hXV a0V
    have SZ := sizeInt_c (.slice A7 N c7) xs wr (by rw [← HN.out]; exact ik)
    rw [HN.out] at SZ
    by_cases hlt : k < N
    · have hmin : min k N = k := by omega
      rw [hmin] at ho
      obtain ⟨Al', cl', rfl, h3, h3', _⟩ := (ownsRow_row ho).form
      have hklt : k < xs.length := by rw [HN.out]; exact hlt
      obtain ⟨b, off, rfl, hc⟩ := ik.at hklt
      have ck := hc k hklt
      have hki : (k : Int) < (N : Int) := by omega
      have hgd : xs.getD k 0 = xs[k] := by rw [List.getD_eq_getElem?_getD, List.getElem?_eq_getElem hklt]; rfl
      have hnext : lineT T F xs (min (k + T) N) = lineT T F xs k ++ [xs[k]] := by rw [lineT_next hT2 hkF (by omega) (by omega), hgd]
      obtain ⟨y, hy⟩ : ∃ y, xs[k] = y := ⟨_, rfl⟩
      rw [hy] at ck hnext
      have hll := lineT_len T F xs k
      have HTK : Hid (ivs (lineT T F xs (min (k + T) N)) = ivs (lineT T F xs k) ++ [.int .i64 y]) := Lib.hid (by rw [hnext]; simp [ivs])
      have HTL : Hid ((lineT T F xs (min (k + T) N)).length = (lineT T F xs k).length + 1) := Lib.hid (by rw [hnext]; simp)
      have hwk : IntKind.i64.wrap ((k : Int) + (T : Int)) = (k : Int) + (T : Int) := IntWalk.i64_in _ (by omega)
      have hsz := hE.size
      have HA := Lib.hid a0
      clear hnext hy hc hgd ik hmin
      go_wp2_with fail
      refine SZ.mono ?_
      rintro e w' ⟨rfl, rfl⟩
      clear SZ
      go_wp2_with (at_builtin; refine wpList_append_own _ rfl _ _ 34 rfl w7.heap.size 2 i0 (.int .i64 0) 1 8 Tryz.underlying34 hi hz0 hz1 hz2 rfl (by decide) _ _ _ rfl (ho.alloc _) ⟨wr.heap.size, 0, none⟩ 1 1 [.int .i64 y] rfl rfl ?c1 ?c2 ?c3 ?c4 ?c5 ?_)
      case c1 => exact cell_one_new _ _ _
      case c2 => first | rfl | (intro u hu; simp at hu; subst hu; rfl)
      case c3 => first | omega | (unfold maxLen; omega)
      case c4 => omega
      case c5 => first | omega | (simp; omega)
      intro v' w3 hown' hgrow _
      have hX3 : Ext w7 w3 := hE.grown (grownBy_trans (World.grownBy_alloc _ _ _) hgrow) (fun b hb => (ho.lt b hb).1)
      have R : w3.ownsRow w7.heap.size 2 1 v' (lineT T F xs (min (k + T) N)).length (ivs (lineT T F xs (min (k + T) N))) := by rw [HTK.out, HTL.out]; exact hown'
      have a03 : w3.cell? ⟨g, 0, none⟩ = some (.int .i64 (T : Int)) := hX3.cell HA0.out
      clear hown' hgrow ho a0 HA
      go_wp2_with fail
      go_roundw
      case rel => exact ⟨k + T, by simp, by rw [Nat.add_mod_right]; exact hkF, by omega, hX3, R⟩
      case measure =>
        have hT0 : 0 < T := by omega
        simp [intOf]
        omega
    · have hmin : min k N = N := by omega
      rw [hmin] at ho
      obtain ⟨Al', cl', hv, h3, h3', _⟩ := (ownsRow_row ho).form
      subst hv
      have hge : ¬ (k : Int) < (N : Int) := by omega
      have HO : Hid (OwnInts w.heap.size wr (.slice Al' (lineT T F xs N).length cl') (lineC m c t0 j)) := Lib.hid (by
        rw [HLI.out, HN.out]
        exact ownsRow_base ho HX7.out.size)
      clear ho ik
      go_wp2_with fail
      refine SZ.mono ?_
      rintro e w' ⟨rfl, rfl⟩
      clear SZ
      go_wp2_with fail
      go_ret
      exact ⟨_, rfl, HO.out, HX7.out.trans hE⟩
end Go.Proofs.YtgeckhjkahnonaaGreatDoor
end
