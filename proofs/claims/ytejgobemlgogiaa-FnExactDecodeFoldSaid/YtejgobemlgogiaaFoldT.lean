/- Contracts of the reference's maker of the machine on one half of the tape. The machine is valid and has fewer than 6 symbols. -/
import Derived.Test.YtejgobemlgogiaaFoldS
import Derived.Test.YtejgobemlgogiaaRead
import Derived.Deep.RegionLaw
import Derived.Deep.AppendLies
set_option linter.unusedSimpArgs false
set_option linter.unusedVariables false
namespace Go.Proofs.Ytejgobemlgogiaa
open Go Go.RowKit Go.Proofs
set_option maxHeartbeats 4000000
/-- The maker, in memory. -/
structure MkSt (base : Nat) (w : World) (bk b : Nat) (sy st : Int) (rs : List RuleD) (ps : List FP) (rv pv : Value) (vs : List Value) : Prop where
  blk : Blk w bk 54 #[.pointer (some ⟨b, 0, none⟩), .pointer none, .int .i64 1, pv, .int .i64 sy, .int .i64 st, rv]
  rules : OwnRules base w rv rs
  places : w.ownsRow base 25 1 pv ps.length vs
  rows : ∀ (i : Nat) (p : FP), ps[i]? = some p → ∃ u, vs[i]? = some u ∧ OwnInts base w u (encL p)
  low : base ≤ bk
section
variable {base : Nat} {w w' : World} {bk b : Nat} {sy st : Int} {rs : List RuleD} {ps : List FP} {rv pv v' : Value} {vs : List Value}
theorem MkSt.ext (h : MkSt base w bk b sy st rs ps rv pv vs) (he : Ext w w') : MkSt base w' bk b sy st rs ps rv pv vs :=
  ⟨h.blk.ext he, h.rules.ext he, ownsRow_ext h.places he, fun i p hp => by obtain ⟨u, e, hu⟩ := h.rows i p hp; exact ⟨u, e, hu.ext he⟩, h.low⟩
theorem MkSt.ruled (h : MkSt base w bk b sy st rs ps rv pv vs) {r : RuleD} (hown : w'.ownsRow base 77 3 v' (rs.length + 1) (rvs rs ++ [.int .i64 r.w, .int .i64 r.m, .int .i64 r.n])) (hg : w.grownBy w' rv.ownBlock) :
    MkSt base (w'.setCell ⟨bk, 6, none⟩ v') bk b sy st (rs ++ [r]) ps v' pv vs := by
  have B5 := Blk.apart h.blk h.rules (by decide) hg
  have P5 := World.ownsRow.kept h.places hg (own_ne h.places h.rules (by decide))
  have hgs := grownBy_setCell w' ⟨bk, 6, none⟩ v'
  refine ⟨B5.set_ 6 v', ?_, own_kept P5 hgs (blk_ne_row B5 P5 (by decide)), fun i p hp => ?_, h.low⟩
  · have := own_kept hown hgs (blk_ne_row B5 hown (by decide))
    unfold OwnRules
    rw [rvs_append]
    simpa [rvs] using this
  · obtain ⟨u, e, hu⟩ := h.rows i p hp
    have hu5 := World.ownsRow.kept hu hg (own_ne hu h.rules (by decide))
    exact ⟨u, e, own_kept hu5 hgs (blk_ne_row B5 hu5 (by decide))⟩
theorem MkSt.added (h : MkSt base w bk b sy st rs ps rv pv vs) {u : Value} {x : FP} (hu : OwnInts base w u (encL x)) (hown : w'.ownsRow base 25 1 v' (ps.length + 1) (vs ++ [u])) (hg : w.grownBy w' pv.ownBlock) :
    MkSt base (w'.setCell ⟨bk, 3, none⟩ v') bk b sy st rs (ps ++ [x]) rv v' (vs ++ [u]) := by
  have B5 := Blk.apart h.blk h.places (by decide) hg
  have R5 : OwnRules base w' rv rs := World.ownsRow.kept h.rules hg (own_ne h.rules h.places (by decide))
  have hgs := grownBy_setCell w' ⟨bk, 3, none⟩ v'
  have hl := h.places.1
  have keep : ∀ {y : Value} {zs : List Int}, OwnInts base w y zs → OwnInts base (w'.setCell ⟨bk, 3, none⟩ v') y zs := fun hy => by
    have h5 := World.ownsRow.kept hy hg (own_ne hy h.places (by decide))
    exact own_kept h5 hgs (blk_ne_row B5 h5 (by decide))
  refine ⟨B5.set_ 3 v', own_kept R5 hgs (blk_ne_row B5 R5 (by decide)), ?_, fun i p hp => ?_, h.low⟩
  · have := own_kept hown hgs (blk_ne_row B5 hown (by decide))
    simpa using this
  · by_cases hi : i < ps.length
    · rw [List.getElem?_append_left hi] at hp
      obtain ⟨y, e, hy⟩ := h.rows i p hp
      exact ⟨y, by rw [List.getElem?_append_left (by omega), e], keep hy⟩
    · rw [List.getElem?_append_right (by omega)] at hp
      have h1 := (List.getElem?_eq_some_iff.1 hp).1
      have e0 : i - ps.length = 0 := by simp at h1; omega
      rw [e0] at hp
      simp at hp
      subst hp
      exact ⟨u, by rw [List.getElem?_append_right (by omega)]; have : i - vs.length = 0 := by omega
                   rw [this]; rfl, keep hu⟩
theorem MkSt.form (h : MkSt base w bk b sy st rs ps rv pv vs) : ∃ A c, pv = .slice A ps.length c := by
  obtain ⟨A, c, e, _⟩ := (ownsRow_row h.places).form
  exact ⟨A, c, e⟩
theorem MkSt.at {A : Option Addr} {c : Nat} (h : MkSt base w bk b sy st rs ps rv (.slice A ps.length c) vs) {k : Nat} {p : FP} (hp : ps[k]? = some p) :
    ∃ g A' c', A = some ⟨g, 0, none⟩ ∧ base ≤ g ∧ g < w.heap.size ∧ w.cell? ⟨g, k, none⟩ = some (.slice A' (encL p).length c') ∧ OwnInts base w (.slice A' (encL p).length c') (encL p) := by
  have hk : k < ps.length := (List.getElem?_eq_some_iff.1 hp).1
  obtain ⟨g, rfl, hb, hl⟩ := own_at h.places (by omega)
  obtain ⟨u, e, hu⟩ := h.rows k p hp
  obtain ⟨A', c', rfl, _, _⟩ := hu.ints.form
  have q0 := h.places.cellAt k (by have := h.places.1; omega)
  rw [e] at q0
  exact ⟨g, A', c', rfl, hb, hl, q0, hu⟩
end
def findN (ps : List FP) (x : FP) : Int := if x ∈ ps then (ps.idxOf x : Nat) else -1
set_option maxRecDepth 20000 in
theorem find13_c {base : Nat} {w : World} {bk b : Nat} {sy st : Int} {rs : List RuleD} {ps : List FP} {rv pv : Value} {vs : List Value} (h : MkSt base w bk b sy st rs ps rv pv vs) {S : Int} (hok : ∀ p ∈ ps, POk S p) (x : FP) (hx : POk S x) (uv : Value) (hu : Ints w uv (encL x)) (hn : ps.length ≤ 1000000) :
    Calls Try.prog 60 #[.pointer (some ⟨bk, 0, none⟩), uv] w fun e w' => e = .returned (.int .i64 (findN ps x)) ∧ Ext w w' := by
  obtain ⟨A, c, rfl⟩ := h.form
  obtain ⟨Au, cu, rfl, _, _⟩ := hu.form
  have HOK := Lib.hid hok
  clear hok
  go_enter Try.func60, Try.ntmps60
  go_wp2
  go_loopw [5] (fun i wr => ∃ k : Nat, k ≤ ps.length ∧ i = .int .i64 k ∧ Ext w wr ∧ Hid (∀ y ∈ ps.take k, y ≠ x)) (fun i _ => ps.length - (intOf i).toNat)
  case atStart => exact ⟨0, Nat.zero_le _, rfl, Ext.refl _, fun y hy => by simp at hy⟩
  case round =>
    obtain ⟨k, hk, rfl, hwr, hno⟩ := hrel
    have h' := h.ext hwr
    have c3 := h'.blk.cell 3
    simp only [List.getElem?_toArray, List.getElem?_cons_zero, List.getElem?_cons_succ] at c3
    by_cases hlt : k < ps.length
    · obtain ⟨p, hp⟩ : ∃ p, ps[k]? = some p := ⟨ps[k], List.getElem?_eq_getElem hlt⟩
      obtain ⟨g, A', c', rfl, _, _, q0, ho⟩ := h'.at hp
      have HP := Lib.hid (HOK.out p (List.mem_of_getElem? hp))
      go_wp2_with fail
      refine (l00Same_c _ _ _ _ _ ho.ints (hu.ext hwr)).mono ?_
      rintro e w' ⟨rfl, hx'⟩
      have hwr' := hwr.trans hx'
      clear hx'
      by_cases he : p = x
      · subst he
        have HR : Hid (findN ps p = (k : Int)) := by
          unfold Hid findN
          rw [if_pos (List.mem_of_getElem? hp)]
          congr 1
          have e1 : ps = ps.take k ++ p :: ps.drop (k + 1) := by
            have : ps[k] = p := by rw [List.getElem?_eq_getElem hlt] at hp; simpa using hp
            rw [← this, ← List.drop_eq_getElem_cons hlt, List.take_append_drop]
          rw [e1, List.idxOf_append, if_neg (fun hm => hno.out p hm rfl)]
          simp [List.idxOf_cons]
          omega
        rw [lEq_true rfl]
        go_wp2
        go_ret
        exact ⟨by rw [HR.out]; rfl, hwr'⟩
      · rw [lEq_false (fun e => he (encL_inj HP.out hx e))]
        go_wp2
        go_roundw
        case rel =>
          refine ⟨k + 1, by omega, by go_num, hwr', fun y hy => ?_⟩
          have : ps[k] = p := by rw [List.getElem?_eq_getElem hlt] at hp; simpa using hp
          rw [List.take_succ_eq_append_getElem hlt, this] at hy
          rcases List.mem_append.1 hy with h' | h'
          · exact hno.out y h'
          · simp at h'; subst h'; exact he
        case measure => simp [intOf]; omega
    · have HR : Hid (findN ps x = -1) := by
        unfold Hid findN
        rw [if_neg (fun hm => hno.out x (by rw [List.take_of_length_le (by omega)]; exact hm) rfl)]
      go_wp2
      go_ret
      exact ⟨by rw [HR.out]; rfl, hwr⟩
set_option maxRecDepth 20000 in
theorem move13_c (bk b : Nat) (m : MachD) (p : FP) (v : Int) (pv : Value) (x1 x3 x4 x5 x6 : Value) (w : World) (hB : Blk w bk 54 #[.pointer (some ⟨b, 0, none⟩), x1, .int .i64 1, x3, x4, x5, x6]) (hM : MachAt w b m) (ha : FoldArgs m p v) (hpv : Ints w pv (encL p)) :
    Calls Try.prog 59 #[.pointer (some ⟨bk, 0, none⟩), pv, .int .i64 v] w (MoveRes w (actF m p v)) := by
  obtain ⟨Ap, cp, rfl, _, _⟩ := hpv.form
  obtain ⟨W, hW⟩ : ∃ W, W = w.alloc (.cells #[.bool false, .int .i64 0, .int .i64 0, .slice none 0 0] 103) := ⟨_, rfl⟩
  have hXW : Ext w W := by rw [hW]; exact Ext.alloc _ _
  have bZ : Blk W w.heap.size 103 #[.bool false, .int .i64 0, .int .i64 0, .slice none 0 0] := by rw [hW]; exact Blk.new _ _ _ _ rfl
  have k0 := (hB.ext hXW).cell 0
  have k2 := (hB.ext hXW).cell 2
  simp only [List.getElem?_toArray, List.getElem?_cons_zero, List.getElem?_cons_succ] at k0 k2
  rw [hW] at k0 k2
  go_enter Try.func59, Try.ntmps59
  go_wp2_with fail
  rw [← hW]
  clear hW k0 k2
  refine (l13Fold_c b m p v _ W (hM.ext hXW) ha (hpv.ext hXW)).mono ?_
  clear ha
  generalize actF m p v = a at *
  rintro e w1 ⟨hres, hx1⟩
  have z0 := (bZ.ext hx1).cell
  have z1 := (bZ.ext hx1).frozen
  have hlt := bZ.lt
  rcases hres with ⟨hno, rfl⟩ | ⟨hno, A1, c1, rfl, ho1⟩
  · go_wp2
    refine bodyPost_ret (v := .agg #[.bool false, .int .i64 0, .int .i64 0, .slice none 0 0]) (by simp [results, Try.results59, go_sem, z0]) rfl ?_
    exact ⟨.inl ⟨hno, rfl⟩, (((Ext.setCell (Ext.trans hXW hx1) (Nat.le_refl _) _).setCell (Nat.le_refl _) _).setCell (Nat.le_refl _) _).setCell (Nat.le_refl _) _⟩
  · generalize hen : (encL a.p).length = n at *
    have HEN := Lib.hid hen
    clear hen
    go_wp2
    refine bodyPost_ret (v := .agg #[.bool true, .int .i64 a.w, .int .i64 a.m, .slice A1 n c1]) (by simp [results, Try.results59, go_sem, z0]) rfl ?_
    have hne' : ∀ k, (Value.slice A1 n c1).ownBlock = some k → k ≠ w.heap.size := fun k hk => by have := (World.ownsRow.lt ho1 k hk).1; omega
    have o2 : OwnInts w.heap.size w1 (.slice A1 n c1) (encL a.p) := ownsRow_base ho1 (by omega)
    refine ⟨.inr ⟨hno, A1, c1, by rw [HEN.out], ?_⟩, (((Ext.setCell (Ext.trans hXW hx1) (Nat.le_refl _) _).setCell (Nat.le_refl _) _).setCell (Nat.le_refl _) _).setCell (Nat.le_refl _) _⟩
    rw [HEN.out]
    exact ownsRow_far (ownsRow_far (ownsRow_far (ownsRow_far o2 hne' _) hne' _) hne' _) hne' _
end Go.Proofs.Ytejgobemlgogiaa
