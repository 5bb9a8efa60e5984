/- Contracts of the reference's maker of the machine on one half of the tape. The machine is valid and has fewer than 6 symbols.
Contract of the program's machine on one half of the tape. The machine is valid and has fewer than 6 symbols. -/
import Derived.Test.YtjcfmlecfjmcgaaGreatDoorS15
import Derived.Test.YtjcfmlecfjmcgaaGreatDoorS05
import Derived.Deep.RegionLaw
import Derived.Deep.AppendLies
section
set_option linter.unusedSimpArgs false
set_option linter.unusedVariables false
namespace Go.Proofs.YtjcfmlecfjmcgaaGreatDoor
open Go Go.RowKit Go.Proofs
set_option maxHeartbeats 4000000
/-- The maker, in memory. -/
structure MkSt (base : Nat) (w : World) (bk b : Nat) (sy st : Int) (rs : List RuleD) (ps : List FP) (rv pv : Value) (vs : List Value) : Prop where
  blk : Blk w bk 62 #[.pointer (some ⟨b, 0, none⟩), .pointer none, .int .i64 1, pv, .int .i64 sy, .int .i64 st, rv]
  rules : OwnRules base w rv rs
  places : w.ownsRow base 25 1 pv ps.length vs
  rows : ∀ (i : Nat) (p : FP), ps[i]? = some p → ∃ u, vs[i]? = some u ∧ OwnInts base w u (encL p)
  low : base ≤ bk
section
variable {base : Nat} {w w' : World} {bk b : Nat} {sy st : Int} {rs : List RuleD} {ps : List FP} {rv pv v' : Value} {vs : List Value}
theorem MkSt.ext (h : MkSt base w bk b sy st rs ps rv pv vs) (he : Ext w w') : MkSt base w' bk b sy st rs ps rv pv vs :=
  ⟨h.blk.ext he, h.rules.ext he, ownsRow_ext h.places he, fun i p hp => by obtain ⟨u, e, hu⟩ := h.rows i p hp; exact ⟨u, e, hu.ext he⟩, h.low⟩
theorem MkSt.ruled (h : MkSt base w bk b sy st rs ps rv pv vs) {r : RuleD} (hown : w'.ownsRow base 95 3 v' (rs.length + 1) (rvs rs ++ [.int .i64 r.w, .int .i64 r.m, .int .i64 r.n])) (hg : w.grownBy w' rv.ownBlock) :
    MkSt base (w'.setCell ⟨bk, 6, none⟩ v') bk b sy st (rs ++ [r]) ps v' pv vs := by
  have B5 := Blk.apart h.blk h.rules (by decide) hg
  have P5 := World.ownsRow.kept h.places hg (own_ne h.places h.rules (by decide))
  have hgs := grownBy_setCell w' ⟨bk, 6, none⟩ v'
  refine ⟨B5.set_ 6 v', ?_, own_kept P5 hgs (blk_ne_row B5 P5 (by decide)), fun i p hp => ?_, h.low⟩
  · have := own_kept hown hgs (blk_ne_row B5 hown (by decide))
    unfold OwnRules
    rw [rvs_append]
    simpa [rvs] using this
  · obtain ⟨u, e, hu⟩ := h.rows i p hp
    have hu5 := World.ownsRow.kept hu hg (own_ne hu h.rules (by decide))
    exact ⟨u, e, own_kept hu5 hgs (blk_ne_row B5 hu5 (by decide))⟩
theorem MkSt.added (h : MkSt base w bk b sy st rs ps rv pv vs) {u : Value} {x : FP} (hu : OwnInts base w u (encL x)) (hown : w'.ownsRow base 25 1 v' (ps.length + 1) (vs ++ [u])) (hg : w.grownBy w' pv.ownBlock) :
    MkSt base (w'.setCell ⟨bk, 3, none⟩ v') bk b sy st rs (ps ++ [x]) rv v' (vs ++ [u]) := by
  have B5 := Blk.apart h.blk h.places (by decide) hg
  have R5 : OwnRules base w' rv rs := World.ownsRow.kept h.rules hg (own_ne h.rules h.places (by decide))
  have hgs := grownBy_setCell w' ⟨bk, 3, none⟩ v'
  have hl := h.places.1
  have keep : ∀ {y : Value} {zs : List Int}, OwnInts base w y zs → OwnInts base (w'.setCell ⟨bk, 3, none⟩ v') y zs := fun hy => by
    have h5 := World.ownsRow.kept hy hg (own_ne hy h.places (by decide))
    exact own_kept h5 hgs (blk_ne_row B5 h5 (by decide))
  refine ⟨B5.set_ 3 v', own_kept R5 hgs (blk_ne_row B5 R5 (by decide)), ?_, fun i p hp => ?_, h.low⟩
  · have := own_kept hown hgs (blk_ne_row B5 hown (by decide))
    simpa using this
  · by_cases hi : i < ps.length
    · rw [List.getElem?_append_left hi] at hp
      obtain ⟨y, e, hy⟩ := h.rows i p hp
      exact ⟨y, by rw [List.getElem?_append_left (by omega), e], keep hy⟩
    · rw [List.getElem?_append_right (by omega)] at hp
      have h1 := (List.getElem?_eq_some_iff.1 hp).1
      have e0 : i - ps.length = 0 := by simp at h1; omega
      rw [e0] at hp
      simp at hp
      subst hp
      exact ⟨u, by rw [List.getElem?_append_right (by omega)]; have : i - vs.length = 0 := by omega
                   rw [this]; rfl, keep hu⟩
theorem MkSt.form (h : MkSt base w bk b sy st rs ps rv pv vs) : ∃ A c, pv = .slice A ps.length c := by
  obtain ⟨A, c, e, _⟩ := (ownsRow_row h.places).form
  exact ⟨A, c, e⟩
theorem MkSt.at {A : Option Addr} {c : Nat} (h : MkSt base w bk b sy st rs ps rv (.slice A ps.length c) vs) {k : Nat} {p : FP} (hp : ps[k]? = some p) :
    ∃ g A' c', A = some ⟨g, 0, none⟩ ∧ base ≤ g ∧ g < w.heap.size ∧ w.cell? ⟨g, k, none⟩ = some (.slice A' (encL p).length c') ∧ OwnInts base w (.slice A' (encL p).length c') (encL p) := by
  have hk : k < ps.length := (List.getElem?_eq_some_iff.1 hp).1
  obtain ⟨g, rfl, hb, hl⟩ := own_at h.places (by omega)
  obtain ⟨u, e, hu⟩ := h.rows k p hp
  obtain ⟨A', c', rfl, _, _⟩ := hu.ints.form
  have q0 := h.places.cellAt k (by have := h.places.1; omega)
  rw [e] at q0
  exact ⟨g, A', c', rfl, hb, hl, q0, hu⟩
end
def findN (ps : List FP) (x : FP) : Int := if x ∈ ps then (ps.idxOf x : Nat) else -1
set_option maxRecDepth 20000 in
theorem find13_c {base : Nat} {w : World} {bk b : Nat} {sy st : Int} {rs : List RuleD} {ps : List FP} {rv pv : Value} {vs : List Value} (h : MkSt base w bk b sy st rs ps rv pv vs) {S : Int} (hok : ∀ p ∈ ps, POk S p) (x : FP) (hx : POk S x) (uv : Value) (hu : Ints w uv (encL x)) (hn : ps.length ≤ 1000000) :
    Calls Tryz.prog 43 #[.pointer (some ⟨bk, 0, none⟩), uv] w fun e w' => e = .returned (.int .i64 (findN ps x)) ∧ Ext w w' := by
  obtain ⟨A, c, rfl⟩ := h.form
  obtain ⟨Au, cu, rfl, _, _⟩ := hu.form
  have HOK := Lib.hid hok
  clear hok
  go_enter Tryz.func43, Tryz.ntmps43
  go_wp2
  go_loopw [5] (fun i wr => ∃ k : Nat, k ≤ ps.length ∧ i = .int .i64 k ∧ Ext w wr ∧ Hid (∀ y ∈ ps.take k, y ≠ x)) (fun i _ => ps.length - (intOf i).toNat)
  case atStart => exact ⟨0, Nat.zero_le _, rfl, Ext.refl _, fun y hy => by simp at hy⟩
  case round =>
    obtain ⟨k, hk, rfl, hwr, hno⟩ := hrel
    have h' := h.ext hwr
    have c3 := h'.blk.cell 3
    simp only [List.getElem?_toArray, List.getElem?_cons_zero, List.getElem?_cons_succ] at c3
    by_cases hlt : k < ps.length
    · obtain ⟨p, hp⟩ : ∃ p, ps[k]? = some p := ⟨ps[k], List.getElem?_eq_getElem hlt⟩
      obtain ⟨g, A', c', rfl, _, _, q0, ho⟩ := h'.at hp
      have HP := Lib.hid (HOK.out p (List.mem_of_getElem? hp))
      go_wp2_with fail
      refine (l00Same_c _ _ _ _ _ ho.ints (hu.ext hwr)).mono ?_
      rintro e w' ⟨rfl, hx'⟩
      have hwr' := hwr.trans hx'
      clear hx'
      by_cases he : p = x
      · subst he
        have HR : Hid (findN ps p = (k : Int)) := by
          unfold Hid findN
          rw [if_pos (List.mem_of_getElem? hp)]
          congr 1
          have e1 : ps = ps.take k ++ p :: ps.drop (k + 1) := by
            have : ps[k] = p := by rw [List.getElem?_eq_getElem hlt] at hp; simpa using hp
            rw [← this, ← List.drop_eq_getElem_cons hlt, List.take_append_drop]
          rw [e1, List.idxOf_append, if_neg (fun hm => hno.out p hm rfl)]
          simp [List.idxOf_cons]
          omega
        rw [lEq_true rfl]
        go_wp2
        go_ret
        exact ⟨by rw [HR.out]; rfl, hwr'⟩
      · rw [lEq_false (fun e => he (encL_inj HP.out hx e))]
        go_wp2
        go_roundw
        case rel =>
          refine ⟨k + 1, by omega, by go_num, hwr', fun y hy => ?_⟩
          have : ps[k] = p := by rw [List.getElem?_eq_getElem hlt] at hp; simpa using hp
          rw [List.take_succ_eq_append_getElem hlt, this] at hy
          rcases List.mem_append.1 hy with h' | h'
          · exact hno.out y h'
          · simp at h'; subst h'; exact he
        case measure => simp [intOf]; omega
    · have HR : Hid (findN ps x = -1) := by
        unfold Hid findN
        rw [if_neg (fun hm => hno.out x (by rw [List.take_of_length_le (by omega)]; exact hm) rfl)]
      go_wp2
      go_ret
      exact ⟨by rw [HR.out]; rfl, hwr⟩
set_option maxRecDepth 20000 in
theorem move13_c (bk b : Nat) (m : MachD) (p : FP) (v : Int) (pv : Value) (x1 x3 x4 x5 x6 : Value) (w : World) (hB : Blk w bk 62 #[.pointer (some ⟨b, 0, none⟩), x1, .int .i64 1, x3, x4, x5, x6]) (hM : MachAt w b m) (ha : FoldArgs m p v) (hpv : Ints w pv (encL p)) :
    Calls Tryz.prog 80 #[.pointer (some ⟨bk, 0, none⟩), pv, .int .i64 v] w (MoveRes w (actF m p v)) := by
  obtain ⟨Ap, cp, rfl, _, _⟩ := hpv.form
  obtain ⟨W, hW⟩ : ∃ W, W = w.alloc (.cells #[.bool false, .int .i64 0, .int .i64 0, .slice none 0 0] 124) := ⟨_, rfl⟩
  have hXW : Ext w W := by rw [hW]; exact Ext.alloc _ _
  have bZ : Blk W w.heap.size 124 #[.bool false, .int .i64 0, .int .i64 0, .slice none 0 0] := by rw [hW]; exact Blk.new _ _ _ _ rfl
  have k0 := (hB.ext hXW).cell 0
  have k2 := (hB.ext hXW).cell 2
  simp only [List.getElem?_toArray, List.getElem?_cons_zero, List.getElem?_cons_succ] at k0 k2
  rw [hW] at k0 k2
  go_enter Tryz.func80, Tryz.ntmps80
  go_wp2_with fail
  rw [← hW]
  clear hW k0 k2
  refine (l13Fold_c b m p v _ W (hM.ext hXW) ha (hpv.ext hXW)).mono ?_
  clear ha
  generalize actF m p v = a at *
  rintro e w1 ⟨hres, hx1⟩
  have z0 := (bZ.ext hx1).cell
  have z1 := (bZ.ext hx1).frozen
  have hlt := bZ.lt
  rcases hres with ⟨hno, rfl⟩ | ⟨hno, A1, c1, rfl, ho1⟩
  · go_wp2
    refine bodyPost_ret (v := .agg #[.bool false, .int .i64 0, .int .i64 0, .slice none 0 0]) (by simp [results, Tryz.results80, go_sem, z0]) rfl ?_
    exact ⟨.inl ⟨hno, rfl⟩, (((Ext.setCell (Ext.trans hXW hx1) (Nat.le_refl _) _).setCell (Nat.le_refl _) _).setCell (Nat.le_refl _) _).setCell (Nat.le_refl _) _⟩
  · generalize hen : (encL a.p).length = n at *
    have HEN := Lib.hid hen
    clear hen
    go_wp2
    refine bodyPost_ret (v := .agg #[.bool true, .int .i64 a.w, .int .i64 a.m, .slice A1 n c1]) (by simp [results, Tryz.results80, go_sem, z0]) rfl ?_
    have hne' : ∀ k, (Value.slice A1 n c1).ownBlock = some k → k ≠ w.heap.size := fun k hk => by have := (World.ownsRow.lt ho1 k hk).1; omega
    have o2 : OwnInts w.heap.size w1 (.slice A1 n c1) (encL a.p) := ownsRow_base ho1 (by omega)
    refine ⟨.inr ⟨hno, A1, c1, by rw [HEN.out], ?_⟩, (((Ext.setCell (Ext.trans hXW hx1) (Nat.le_refl _) _).setCell (Nat.le_refl _) _).setCell (Nat.le_refl _) _).setCell (Nat.le_refl _) _⟩
    rw [HEN.out]
    exact ownsRow_far (ownsRow_far (ownsRow_far (ownsRow_far o2 hne' _) hne' _) hne' _) hne' _
end Go.Proofs.YtjcfmlecfjmcgaaGreatDoor
end
section
set_option linter.unusedSimpArgs false
set_option linter.unusedVariables false
namespace Go.Proofs.YtjcfmlecfjmcgaaGreatDoor
open Go Go.RowKit Go.Proofs Go.Maps
set_option maxHeartbeats 400000
def fp0 : FP := ⟨0, 0, 0⟩
def foldB (m : MachD) : Option (List FP × List RuleD) := bld (actF m) fp0 (m.sy + 1).toNat
def BuildRes (w : World) (m : MachD) (e : Ending) (w' : World) : Prop :=
  ((foldB m = none ∧ e = .returned (.tuple #[.pointer none, .bool false])) ∨
    ∃ s bx bm rv pv, foldB m = some s ∧ e = .returned (.tuple #[.pointer (some ⟨bx, 0, none⟩), .bool true]) ∧ PlSt w.heap.size w' bx (m.sy + 1) s.1.length s.2 s.1 rv pv bm ∧ (∀ p ∈ s.1, POk m.st p) ∧ 1 ≤ s.1.length ∧ s.1.length ≤ 1000) ∧ Ext w w'
/-- How the building stands in memory. -/
structure InF (w : World) (m : MachD) (N bx bm : Nat) (s : List FP × List RuleD) (rv pv : Value) (wr : World) : Prop where
  st : PlSt w.heap.size wr bx (N : Int) 0 s.2 s.1 rv pv bm
  below : Below w.heap.size w wr
  ok : ∀ p ∈ s.1, POk m.st p
theorem InF.ext {w : World} {m : MachD} {N bx bm : Nat} {s : List FP × List RuleD} {rv pv : Value} {wr wr' : World} (h : InF w m N bx bm s rv pv wr) (he : Ext wr wr') : InF w m N bx bm s rv pv wr' :=
  ⟨h.st.ext he, Ext.trans h.below he, h.ok⟩
theorem PlSt.ruled {base : Nat} {w3 w5 : World} {bx : Nat} {sy st : Int} {rs : List RuleD} {ps : List FP} {rv pv v' : Value} {bm : Nat} {r : RuleD} (h : PlSt base w3 bx sy st rs ps rv pv bm)
    (hown : w5.ownsRow base 95 3 v' (rs.length + 1) (rvs rs ++ [.int .i64 r.w, .int .i64 r.m, .int .i64 r.n])) (hg : w3.grownBy w5 rv.ownBlock) :
    PlSt base (w5.setCell ⟨bx, 2, none⟩ v') bx sy st (rs ++ [r]) ps v' pv bm := by
  have B5 := Blk.apart h.blk h.rules (by decide) hg
  have P5 := World.ownsRow.kept h.places hg (own_ne h.places h.rules (by decide))
  have T5 := h.tbl.kept hg (h.tbl.ne_row h.rules)
  have hgs := grownBy_setCell w5 ⟨bx, 2, none⟩ v'
  refine ⟨B5.set_ 2 v', ?_, own_kept P5 hgs (blk_ne_row B5 P5 (by decide)), T5.setCell (a := ⟨bx, 2, none⟩) (T5.ne_blk B5) v', h.lowX, h.lowM⟩
  have := own_kept hown hgs (blk_ne_row B5 hown (by decide))
  unfold OwnRules
  rw [rvs_append]
  simpa [rvs] using this
theorem PlSt.store {base : Nat} {w6 : World} {bx : Nat} {sy st : Int} {rs : List RuleD} {ps : List FP} {rv pv : Value} {bm : Nat} (h : PlSt base w6 bx sy st rs ps rv pv bm) {g : Nat} {cs : Array Value} (hb : Blk w6 g 95 cs)
    (hne : ∀ k, rv.ownBlock = some k → k ≠ g) {p : Addr} (hp : p.block = g) (u : Value) : PlSt base (w6.setCell p u) bx sy st rs ps rv pv bm := by
  subst hp
  have hgs := grownBy_setCell w6 p u
  exact ⟨h.blk.far (blk_ne h.blk hb (by decide)) _, ownsRow_far h.rules hne _, own_kept h.places hgs (blk_ne_row hb h.places (by decide)), h.tbl.setCell (h.tbl.ne_blk hb) _, h.lowX, h.lowM⟩
theorem InF.ruled {w : World} {m : MachD} {N bx bm : Nat} {s : List FP × List RuleD} {rv pv v' : Value} {wr w5 : World} {r : RuleD} (h : InF w m N bx bm s rv pv wr)
    (hown : w5.ownsRow w.heap.size 95 3 v' (s.2.length + 1) (rvs s.2 ++ [.int .i64 r.w, .int .i64 r.m, .int .i64 r.n])) (hg : wr.grownBy w5 rv.ownBlock) :
    InF w m N bx bm (s.1, s.2 ++ [r]) v' pv (w5.setCell ⟨bx, 2, none⟩ v') :=
  ⟨h.st.ruled hown hg, (Below.grown h.below hg (Ext.size h.below) (fun b hb => (World.ownsRow.lt h.st.rules b hb).1)).setCell h.st.lowX _, h.ok⟩
theorem fvs_get (ps : List FP) (i : Nat) {p : FP} (h : ps[i]? = some p) : (fvs ps)[i * 3]? = some (.int .i64 p.k) ∧ (fvs ps)[i * 3 + 1]? = some (.int .i64 p.q) ∧ (fvs ps)[i * 3 + 2]? = some (.int .i64 p.h) := by
  induction ps generalizing i with
  | nil => simp at h
  | cons r ps ih =>
    cases i with
    | zero => simp at h; subst h; simp [fvs]
    | succ i =>
      have := ih i (by simpa using h)
      have e : (i + 1) * 3 = i * 3 + 3 := by omega
      have e1 : (i + 1) * 3 + 1 = (i * 3 + 1) + 3 := by omega
      have e2 : (i + 1) * 3 + 2 = (i * 3 + 2) + 3 := by omega
      simp only [fvs, List.flatMap_cons] at this ⊢
      rw [e1, e2, e]
      simpa using this
theorem places_at {base : Nat} {w : World} {A : Option Addr} {c : Nat} {ps : List FP} (h : w.ownsRow base 102 3 (.slice A ps.length c) ps.length (fvs ps)) {k : Nat} {p : FP} (hp : ps[k]? = some p) :
    ∃ g, A = some ⟨g, 0, none⟩ ∧ base ≤ g ∧ g < w.heap.size ∧ w.cell? ⟨g, k * 3, none⟩ = some (.int .i64 p.k) ∧ w.cell? ⟨g, k * 3 + 1, none⟩ = some (.int .i64 p.q) ∧ w.cell? ⟨g, k * 3 + 2, none⟩ = some (.int .i64 p.h) := by
  have hk : k < ps.length := (List.getElem?_eq_some_iff.1 hp).1
  obtain ⟨g, rfl, hb, hl⟩ := own_at h (by omega)
  obtain ⟨b', off, e, hc⟩ := Row.at (ownsRow_row h) hk
  injection e with e
  injection e with e1 e2
  subst e1 e2
  obtain ⟨e0, e1, e2⟩ := fvs_get ps k hp
  have h0 := hc (k * 3) (by omega)
  have h1 := hc (k * 3 + 1) (by omega)
  have h2 := hc (k * 3 + 2) (by omega)
  rw [Nat.zero_add] at h0 h1 h2
  exact ⟨g, rfl, hb, hl, by rw [h0, e0], by rw [h1, e1], by rw [h2, e2]⟩
set_option maxHeartbeats 4000000 in
set_option maxRecDepth 20000 in
theorem buildF_c (w : World) (b : Nat) (rvm : Value) (m : MachD) (hM : Blk w b 35 #[.int .i64 m.sy, .int .i64 m.st, rvm]) (hr : Rules w rvm m.rules) (hm : machOk m = true) (h5 : m.sy ≤ 5) :
    Calls Tryz.prog 60 #[.int .i64 (m.sy + 1), fp0.v, .func (.func 61) #[] #[.pointer (some ⟨b, 0, none⟩)]] w (BuildRes w m) := by
  obtain ⟨s1, s2, s3, s4, hl⟩ := machOk_all hm
  obtain ⟨N, hN⟩ : ∃ N : Nat, m.sy + 1 = N := ⟨(m.sy + 1).toNat, by omega⟩
  have HB : Hid (foldB m = bld (actF m) fp0 N) := by unfold Hid foldB; rw [hN]; rfl
  rw [hN]
  have n3 : 3 ≤ N := by omega
  have n6 : N ≤ 6 := by omega
  have HN := Lib.hid hN
  clear hN
  have hmm := @run_makeMap Tryz.prog
  obtain ⟨W, hW⟩ : ∃ W, W = ((w.alloc (.cells #[.int .i64 0, .int .i64 0, .int .i64 0] 102)).alloc (.map #[] 0)).alloc (.cells #[.int .i64 (N : Int), .int .i64 0, .slice none 0 0, .slice none 0 0, .map (some (w.heap.size + 1))] 75) := ⟨_, rfl⟩
  have hXW : Ext w W := by rw [hW]; exact ((Ext.alloc _ _).trans (Ext.alloc _ _)).trans (Ext.alloc _ _)
  have hT := (Tbl.made Tryz.prog 102 2 FP.v (w.alloc (.cells #[.int .i64 0, .int .i64 0, .int .i64 0] 102))).ext (Ext.alloc _ (.cells #[.int .i64 (N : Int), .int .i64 0, .slice none 0 0, .slice none 0 0, .map (some (w.heap.size + 1))] 75))
  rw [← hW] at hT
  have P0 : PlSt w.heap.size W (w.heap.size + 1 + 1) (N : Int) 0 [] [] (.slice none 0 0) (.slice none 0 0) (w.heap.size + 1) := by
    refine ⟨by rw [hW]; exact Blk.new _ _ _ _ (by simp), World.ownsRow_nil .., World.ownsRow_nil .., ?_, by omega, by omega⟩
    rw [numOf_nil]
    simpa using hT
  have bF : Blk W w.heap.size 102 #[.int .i64 0, .int .i64 0, .int .i64 0] := by rw [hW]; exact ((Blk.new _ _ _ _ rfl).alloc _).alloc _
  simp only [fp0, FP.v]
  go_enter Tryz.func60, Tryz.ntmps60
  go_wp2_with fail
  rw [← hW]
  have sm0 : small 0 := by unfold small; omega
  refine (number_c w.heap.size W (w.heap.size + 1 + 1) N 0 [] [] fp0 _ _ (w.heap.size + 1) P0 hXW.size (by simp) sm0 sm0 sm0).mono ?_
  rintro e w1 ⟨rfl, ⟨pv1, P1⟩, hb1, _⟩
  have ep : addP [] fp0 = [fp0] := by simp [addP]
  rw [ep] at P1
  have hB1 : Below w.heap.size w w1 := Below.trans hXW hb1
  have HI : InF w m N (w.heap.size + 1 + 1) (w.heap.size + 1) ([fp0], []) (.slice none 0 0) pv1 w1 := ⟨P1, hB1, by
    intro p hp
    simp at hp
    subst hp
    exact ⟨by simp [fp0], by simp [fp0], by simp [fp0], by simp [fp0]; omega, .inl rfl, fun _ => rfl⟩⟩
  clear P1 hb1 hB1 P0 bF hT ep
  generalize w.heap.size + 1 + 1 = bx at *
  generalize w.heap.size + 1 = bm at *
  clear hW
  obtain ⟨i0, hi, hz0, hz1, hz2⟩ := info_parts ruleInfo
  go_wp2
  go_loopw [9] (fun i wr => ∃ (k : Nat) (s : List FP × List RuleD) (rv pv : Value), i = .int .i64 k ∧ BldAt (actF m) fp0 N k s ∧ InF w m N bx bm s rv pv wr) (fun i _ => 1001 - (intOf i).toNat)
  case atStart => exact ⟨0, ([fp0], []), _, _, rfl, BldAt.start _ _ _, HI⟩
  case round =>
    clear HI
    obtain ⟨k, s, rv, pv, rfl, hB, inv⟩ := hrel
    have hk1 := hB.le
    have hk2 := hB.most
    obtain ⟨Ap, cp, rfl, _, _, _⟩ := (ownsRow_row inv.st.places).form
    have c3 := inv.st.blk.cell 3
    simp only [List.getElem?_toArray, List.getElem?_cons_zero, List.getElem?_cons_succ] at c3
    by_cases hlt : k < s.1.length
    · obtain ⟨p, hp⟩ : ∃ p, s.1[k]? = some p := ⟨s.1[k], List.getElem?_eq_getElem hlt⟩
      have hpo : POk m.st p := inv.ok p (List.mem_of_getElem? hp)
      go_wp2
      go_loopw [31] (fun i wr' => ∃ (j : Nat) (rv pv : Value), j ≤ N ∧ i = .int .i64 j ∧ InF w m N bx bm (rowTo (actF m) p s j) rv pv wr') (fun i _ => N - (intOf i).toNat)
      case atStart => exact ⟨0, _, _, Nat.zero_le _, rfl, inv⟩
      case round =>
        clear inv c3
        obtain ⟨j, rv, pv, hj, rfl, inv⟩ := hrel
        by_cases hjn : j < N
        · go_wp2_with fail
          refine (noRule_c _).mono ?_
          rintro e w2 ⟨rfl, hx2⟩
          have fa : FoldArgs m p j := ⟨hm, hpo, by omega, by have := HN.out; omega⟩
          have hpj : (rowTo (actF m) p s j).1[k]? = some p := by
            obtain ⟨t, ht⟩ := rowTo_prefix (actF m) p s j
            rw [← ht, List.getElem?_append_left hlt]; exact hp
          have hlen : (rowTo (actF m) p s j).1.length ≤ 1006 ∧ (rowTo (actF m) p s j).2.length ≤ 6600 := by
            have h1 := rowTo_length (actF m) p s j
            have h2 := hB.rules
            have h3 : k * N ≤ 1000 * 6 := Nat.mul_le_mul (by omega) n6
            omega
          obtain ⟨hlen1, htl⟩ := hlen
          have HRT : Hid (rowTo (actF m) p s (j + 1) = symStep (actF m) p (rowTo (actF m) p s j) j) := rfl
          have HRO : Hid (∀ y ∈ (rowTo (actF m) p s (j + 1)).1, POk m.st y) := rowTo_all (N := N) (fun y hy => inv.ok y (List.IsPrefix.subset (rowTo_prefix (actF m) p s j) hy)) (fun n hn hno => actF_ok hm hpo (by omega) (by have := HN.out; omega) hno) (j + 1) (by omega)
          generalize rowTo (actF m) p s j = t at *
          have hkt : k < t.1.length := (List.getElem?_eq_some_iff.1 hpj).1
          have inv2 := inv.ext hx2
          obtain ⟨V, hV⟩ : ∃ V, V = w2.alloc (.cells #[.int .i64 0, .int .i64 0, .int .i64 (-1)] 95) := ⟨_, rfl⟩
          have hXV : Ext w2 V := by rw [hV]; exact Ext.alloc _ _
          have inv3 := inv2.ext hXV
          have bR : Blk V w2.heap.size 95 #[.int .i64 0, .int .i64 0, .int .i64 (-1)] := by rw [hV]; exact Blk.new _ _ _ _ rfl
          obtain ⟨Ap, cp, rfl, _, _, _⟩ := (ownsRow_row inv3.st.places).form
          obtain ⟨gp, rfl, hgp1, hgp2, a0, a1, a2⟩ := places_at inv3.st.places hpj
          have c3 := inv3.st.blk.cell 3
          simp only [List.getElem?_toArray, List.getElem?_cons_zero, List.getElem?_cons_succ] at c3
          rw [hV] at c3 a0 a1 a2
          go_wp2_with fail
          rw [← hV]
          clear c3 a0 a1 a2
          refine (folded1_c b rvm m p j V (hM.ext inv3.below) (hr.ext inv3.below) fa).mono ?_
          rintro e w3 ⟨rfl, hx3⟩
          have inv4 := inv3.ext hx3
          have bR4 := bR.ext hx3
          cases hno : (actF m p j).no with
          | true =>
            have HRT2 := Lib.hid (HRT.out.trans (symStep_no hno))
            rw [HRT2.out] at HRO
            clear HRT
            generalize actF m p j = a at *
            obtain ⟨aw, am, ⟨ak, aq, ah⟩, ano⟩ := a
            simp only at hno
            subst hno
            obtain ⟨U, hU⟩ : ∃ U, U = w3.alloc (.cells #[.int .i64 aw, .int .i64 am, .int .i64 ak, .int .i64 aq, .int .i64 ah, .bool true] 105) := ⟨_, rfl⟩
            have hXU : Ext w3 U := by rw [hU]; exact Ext.alloc _ _
            have inv5 := inv4.ext hXU
            have bR5 := bR4.ext hXU
            simp only [ActV]
            go_wp2_with fail
            rw [← hU]
            clear hU

            have hrl : OwnRules w.heap.size U rv t.2 := inv5.st.rules
            obtain ⟨Ar, cr, rfl, _, _, _⟩ := (ownsRow_row hrl).form
            have eA := (Ext.alloc U (.cells #[.int .i64 0, .int .i64 0, .int .i64 (-1)] 95)).trans (Ext.drew _)
            have I6 := inv5.ext eA
            have c2' := (inv5.st.blk.alloc (.cells #[.int .i64 0, .int .i64 0, .int .i64 (-1)] 95)).cell 2
            have c2 := inv5.st.blk.cell 2
            have q0 := bR5.cell 0
            have q1 := bR5.cell 1
            have q2 := bR5.cell 2
            simp only [List.getElem?_toArray, List.getElem?_cons_zero, List.getElem?_cons_succ] at c2 c2' q0 q1 q2
            have hsU := Ext.size inv5.below
            go_region_law ((refine step_append_lies _ (by rfl) _ _ _ (by rfl) w.heap.size 95 i0 _ 3 24 Tryz.underlying33 hi hz0 hz1 hz2 rfl (by omega) _ _ (rvs t.2) (by first | rfl | simp [Act.eval, Act.put]) (OwnRules.ext hrl eA) ⟨(U).heap.size, 0, none⟩ 1 1 [.int .i64 0, .int .i64 0, .int .i64 (-1)] (by first | rfl | simp [Act.eval, Act.put]) rfl (World.news_of_block (w := ((U).alloc (.cells #[.int .i64 0, .int .i64 0, .int .i64 (-1)] 95)).drew) (heap_alloc_new (U) _)) (by simp [Value.oneCell']) (by omega) (by unfold maxLen; omega) (by omega) (by simp; omega) ((U).heap.size + 1) (by simp) ?_; intro g cap w7 hown7 hg7 hat7 hlt7; have I7 := I6.ruled (r := ⟨0, 0, (-1)⟩) hown7 hg7; have B7 := Blk.apart I6.st.blk I6.st.rules (by decide) hg7; have z2 := B7.cell 2; have f2 := B7.frozen 2; simp only [List.getElem?_toArray, List.getElem?_cons_zero, List.getElem?_cons_succ] at z2))
            all_goals
              try go_wp2
              go_roundw
              case rel => exact ⟨j + 1, _, _, by omega, by go_num, by rw [HRT2.out]; exact I7⟩
              case measure => simp [intOf]; omega
          | false =>
            have HRT2 := Lib.hid (HRT.out.trans (symStep_yes hno))
            have hap := actF_ok hm hpo fa.v0 fa.v1 hno
            obtain ⟨sm1, sm2, sm3⟩ := hap.small hm
            rw [HRT2.out] at HRO
            clear HRT
            generalize actF m p j = a at *
            obtain ⟨aw, am, ap, ano⟩ := a
            simp only at hno
            subst hno
            obtain ⟨U, hU⟩ : ∃ U, U = w3.alloc (.cells #[.int .i64 aw, .int .i64 am, .int .i64 ap.k, .int .i64 ap.q, .int .i64 ap.h, .bool false] 105) := ⟨_, rfl⟩
            have hXU : Ext w3 U := by rw [hU]; exact Ext.alloc _ _
            have inv5 := inv4.ext hXU
            have bR5 := bR4.ext hXU
            have bA5 : Blk U w3.heap.size 105 #[.int .i64 aw, .int .i64 am, .int .i64 ap.k, .int .i64 ap.q, .int .i64 ap.h, .bool false] := by rw [hU]; exact Blk.new _ _ _ _ rfl
            simp only [ActV]
            go_wp2_with fail
            rw [← hU]
            clear hU
            have a0 := bA5.cell 0
            have a1 := bA5.cell 1
            have a2 := bA5.cell 2
            have a3 := bA5.cell 3
            have a4 := bA5.cell 4
            simp only [List.getElem?_toArray, List.getElem?_cons_zero, List.getElem?_cons_succ] at a0 a1 a2 a3 a4
            have Id := inv5.ext (Ext.drew U)
            have hsU := Ext.size Id.below
            have hnum := number_c w.heap.size U.drew bx N 0 t.2 t.1 ap rv _ bm Id.st hsU (by omega) sm1 sm2 sm3
            simp only [FP.v] at hnum
            go_region_law ((go_simp; go_at_call 92; ((with_reducible refine hnum.mono ?_)); rintro e w6 ⟨rfl, ⟨pv6, P6⟩, hb6, hk6⟩; have bA6 := hk6 _ _ _ bA5.drew (by decide) (by decide); have bR6 := hk6 _ _ _ bR5.drew (by decide) (by decide); have d0 := bA6.cell 0; have d1 := bA6.cell 1; have e0 := bR6.cell; have f0 := bR6.frozen; simp only [List.getElem?_toArray, List.getElem?_cons_zero, List.getElem?_cons_succ] at d0 d1))
            all_goals
              obtain ⟨U7, hU7⟩ : ∃ U7, U7 = ((w6.setCell ⟨w2.heap.size, 0, none⟩ (.int .i64 aw)).setCell ⟨w2.heap.size, 1, none⟩ (.int .i64 am)).setCell ⟨w2.heap.size, 2, none⟩ (.int .i64 ((addP t.1 ap).idxOf ap : Nat)) := ⟨_, rfl⟩
              have bR7 : Blk U7 w2.heap.size 95 #[.int .i64 aw, .int .i64 am, .int .i64 ((addP t.1 ap).idxOf ap : Nat)] := by rw [hU7]; exact ((bR6.set_ 0 _).set_ 1 _).set_ 2 _
              have I7' : InF w m N bx bm (addP t.1 ap, t.2) rv pv6 U7 := by
                have hlow : w.heap.size ≤ w2.heap.size := Ext.size inv2.below
                have hne : ∀ k, rv.ownBlock = some k → k ≠ w2.heap.size := fun k hk => by
                  have h1 := (World.ownsRow.lt inv.st.rules k hk).2
                  have h2 := hx2.size
                  omega
                rw [hU7]
                have q1 := P6.store bR6 hne (p := ⟨w2.heap.size, 0, none⟩) rfl (.int .i64 aw)
                have q2 := q1.store (bR6.set_ 0 _) hne (p := ⟨w2.heap.size, 1, none⟩) rfl (.int .i64 am)
                have q3 := q2.store ((bR6.set_ 0 _).set_ 1 _) hne (p := ⟨w2.heap.size, 2, none⟩) rfl (.int .i64 ((addP t.1 ap).idxOf ap : Nat))
                exact ⟨q3, (((Below.trans Id.below hb6).setCell hlow _).setCell hlow _).setCell hlow _, HRO.out⟩
              rw [← hU7]
              clear hU7 e0 f0 d0 d1 hnum
              try go_wp2_with fail
              have hrl : OwnRules w.heap.size U7 rv t.2 := I7'.st.rules
              obtain ⟨Ar, cr, rfl, _, _, _⟩ := (ownsRow_row hrl).form
              have eA := (Ext.alloc U7 (.cells #[.int .i64 aw, .int .i64 am, .int .i64 ((addP t.1 ap).idxOf ap : Nat)] 95)).trans (Ext.drew _)
              have I6 := I7'.ext eA
              have c2' := (I7'.st.blk.alloc (.cells #[.int .i64 aw, .int .i64 am, .int .i64 ((addP t.1 ap).idxOf ap : Nat)] 95)).cell 2
              have c2 := I7'.st.blk.cell 2
              have q0 := bR7.cell 0
              have q1 := bR7.cell 1
              have q2 := bR7.cell 2
              simp only [List.getElem?_toArray, List.getElem?_cons_zero, List.getElem?_cons_succ] at c2 c2' q0 q1 q2
              have hsU := Ext.size I7'.below
              go_region_law ((refine step_append_lies _ (by rfl) _ _ _ (by rfl) w.heap.size 95 i0 _ 3 24 Tryz.underlying33 hi hz0 hz1 hz2 rfl (by omega) _ _ (rvs t.2) (by first | rfl | simp [Act.eval, Act.put]) (OwnRules.ext hrl eA) ⟨(U7).heap.size, 0, none⟩ 1 1 [.int .i64 aw, .int .i64 am, .int .i64 ((addP t.1 ap).idxOf ap : Nat)] (by first | rfl | simp [Act.eval, Act.put]) rfl (World.news_of_block (w := ((U7).alloc (.cells #[.int .i64 aw, .int .i64 am, .int .i64 ((addP t.1 ap).idxOf ap : Nat)] 95)).drew) (heap_alloc_new (U7) _)) (by simp [Value.oneCell']) (by omega) (by unfold maxLen; omega) (by omega) (by simp; omega) ((U7).heap.size + 1) (by simp) ?_; intro g cap w7 hown7 hg7 hat7 hlt7; have I7 := I6.ruled (r := ⟨aw, am, ((addP t.1 ap).idxOf ap : Nat)⟩) hown7 hg7; have B7 := Blk.apart I6.st.blk I6.st.rules (by decide) hg7; have z2 := B7.cell 2; have f2 := B7.frozen 2; simp only [List.getElem?_toArray, List.getElem?_cons_zero, List.getElem?_cons_succ] at z2))
              all_goals
                try go_wp2
                go_roundw
                case rel => exact ⟨j + 1, _, _, by omega, by go_num, by rw [HRT2.out]; exact I7⟩
                case measure => simp [intOf]; omega
        · have hjN : j = N := by omega
          subst hjN
          obtain ⟨Ap, cp, rfl, _, _, _⟩ := (ownsRow_row inv.st.places).form
          have c3 := inv.st.blk.cell 3
          simp only [List.getElem?_toArray, List.getElem?_cons_zero, List.getElem?_cons_succ] at c3
          have HOK := Lib.hid inv.ok
          by_cases hmost : (rowTo (actF m) p s j).1.length ≤ 1000
          · have HBN := Lib.hid (hB.step hlt hp hmost)
            clear hB
            generalize rowTo (actF m) p s j = t at *
            go_wp2
            go_roundw
            case rel => exact ⟨k + 1, t, rv, _, by go_num, HBN.out, inv⟩
            case measure => simp [intOf]; omega
          · have HBN := Lib.hid (hB.fails hlt hp (by omega))
            clear hB
            generalize rowTo (actF m) p s j = t at *
            go_wp2
            go_ret2
            exact ⟨.inl ⟨HB.out.trans HBN.out, rfl⟩, inv.below⟩
    · have HBN := Lib.hid (hB.ends hlt)
      have one := hB.one
      clear hB
      have f1 := inv.st.blk.frozen 1
      have c1 := inv.st.blk.cell 1
      simp only [List.getElem?_toArray, List.getElem?_cons_zero, List.getElem?_cons_succ] at c1
      go_wp2_with fail
      refine (sizeFp_c _ _ _ _ (ownsRow_row inv.st.places)).mono ?_
      rintro e w' ⟨rfl, rfl⟩
      go_wp2
      go_ret2
      have hgs := grownBy_setCell wr ⟨bx, 1, none⟩ (.int .i64 (s.1.length : Nat))
      refine ⟨.inr ⟨s, bx, bm, rv, _, HB.out.trans HBN.out, rfl, ⟨?_, own_kept inv.st.rules hgs (blk_ne_row inv.st.blk inv.st.rules (by decide)), own_kept inv.st.places hgs (blk_ne_row inv.st.blk inv.st.places (by decide)), inv.st.tbl.setCell (a := ⟨bx, 1, none⟩) (inv.st.tbl.ne_blk inv.st.blk) _, inv.st.lowX, inv.st.lowM⟩, inv.ok, one, hk2⟩, Below.setCell inv.below inv.st.lowX _⟩
      have := inv.st.blk.set_ 1 (.int .i64 (s.1.length : Nat))
      rw [HN.out]
      exact this
end Go.Proofs.YtjcfmlecfjmcgaaGreatDoor
end
