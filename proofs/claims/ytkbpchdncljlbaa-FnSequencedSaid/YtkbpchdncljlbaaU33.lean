/- The append of one list of numbers to another, by its run. No condition.
Contract of the reference's tape behind a writing and a move. -/
import Derived.Test.YtkbpchdncljlbaaU05
import Derived.Maps.AppendAt
import Derived.Laws.AppendOwnNone
import Derived.Test.YtkbpchdncljlbaaU28
import Derived.Test.YtkbpchdncljlbaaU22
import Derived.Deep.CutBlock
import Derived.Deep.DeepCutAuto
section
set_option linter.unusedVariables false
set_option linter.unusedSimpArgs false
namespace Go.Proofs.Ytkbpchdncljlbaa
open Go Go.RowKit Go.Proofs
set_option maxHeartbeats 400000
def FlatS (v : Value) : Prop := v = .slice none 0 0 ∨ ∃ b off n c, v = .slice (some ⟨b, off, none⟩) n c
theorem OwnInts.flatS {base : Nat} {w : World} {v : Value} {zs : List Int} (h : OwnInts base w v zs) : FlatS v := by
  rcases h.2 with ⟨rfl, _⟩ | ⟨g, cap, cur, rfl, _⟩
  · exact .inl rfl
  · exact .inr ⟨g, 0, _, cap, rfl⟩
theorem run_append_ints (w : World) (base : Nat) (v u : Value) (xs news : List Int) (hown : OwnInts base w v xs) (hu : Ints w u news) (hf : FlatS u) (hl : xs.length + news.length ≤ 4194304) (hbase : base ≤ w.heap.size) :
    ∃ v' w', (Builtin.append_ #[24, 24] 24 #[v, u]).run Try.prog w = .ok v' w' ∧ OwnInts base w' v' (xs ++ news) ∧ w.grownBy w' v.ownBlock := by
  obtain ⟨i0, hi, hz0, hz1, hz2⟩ := info_parts intInfo
  obtain ⟨A, c, rfl, _, _⟩ := id hu.form
  rcases hf with hf | ⟨b, off, n, c', hf⟩
  · injection hf with e1 e2 e3
    subst e1 e3
    have hz : news = [] := List.length_eq_zero_iff.1 e2
    subst hz
    exact ⟨v, w, run_append_owned_none (P := Try.prog) (w := w) base 24 24 2 i0 1 Try.underlying24 hi v xs.length (ivs xs) hown, by simpa using hown, ⟨rfl, rfl, rfl, Nat.le_refl _, fun _ _ _ => rfl⟩⟩
  · injection hf with e1 e2 e3
    subst e1 e3
    have hc : ∀ j y, (ivs news)[j]? = some y → w.cell? ((⟨b, off, none⟩ : Addr).add j) = some y := by
      intro j y hj
      obtain ⟨hl, _⟩ := List.getElem?_eq_some_iff.1 hj
      rw [ivs_length] at hl
      obtain ⟨b', off', e', hc⟩ := hu.at hl
      cases e'
      have := hc j hl
      have e : y = .int .i64 news[j] := by
        have := ivs_get news j hl
        rw [hj] at this
        injection this
      by_cases hj0 : j = 0
      · subst hj0
        rw [e]
        first | (simp [Addr.add]; done) | (simpa [Addr.add] using hc 0 hl)
      · rw [e]
        first | (simp [Addr.add, hj0]; done) | (simpa [Addr.add, hj0] using this)
    have h1 : ∀ u ∈ ivs news, u.oneCell' = true := by
      intro u hu
      obtain ⟨z, _, rfl⟩ := List.mem_map.1 hu
      rfl
    obtain ⟨v', w', hr, h2, h3, _, _⟩ := run_append_own_at (P := Try.prog) w base 24 24 2 i0 (.int .i64 0) 1 8 Try.underlying24 hi hz0 hz1 hz2 rfl (by decide) v xs.length (ivs xs) hown ⟨b, off, none⟩ news.length c (ivs news) (by simp) hc h1 (by unfold maxLen; omega) (by omega) hbase
    exact ⟨v', w', hr, by unfold OwnInts; rw [ivs_append, List.length_append]; exact h2, h3⟩
end Go.Proofs.Ytkbpchdncljlbaa
end
section
set_option linter.unusedVariables false
set_option linter.unusedSimpArgs false
namespace Go.Proofs.Ytkbpchdncljlbaa
open Go Go.RowKit Go.Proofs
set_option maxHeartbeats 400000
theorem ints_tail {w : World} {b off c : Nat} {xs : List Int} (h : Ints w (.slice (some ⟨b, off, none⟩) xs.length c) xs) (h0 : 0 < xs.length) :
    Ints w (.slice (if c = 1 then some ⟨b, off, none⟩ else some ⟨b, off + 1, none⟩) (xs.length - 1) (c - 1)) (xs.drop 1) ∧ FlatS (.slice (if c = 1 then some ⟨b, off, none⟩ else some ⟨b, off + 1, none⟩) (xs.length - 1) (c - 1)) := by
  obtain ⟨_, _, e0, hc1, hc2⟩ := h.form
  injection e0 with e1 e2 e3
  subst e1 e3
  have hl : (xs.drop 1).length = xs.length - 1 := by simp
  by_cases hc : c = 1
  · rw [if_pos hc]
    refine ⟨⟨_, c - 1, by rw [hl], by omega, by omega, by simp, fun hp => ?_⟩, .inr ⟨_, _, _, _, rfl⟩⟩
    omega
  · rw [if_neg hc]
    refine ⟨⟨_, c - 1, by rw [hl], by omega, by omega, by simp, fun hp => ⟨b, off + 1, rfl, fun j hj => ?_⟩⟩, .inr ⟨_, _, _, _, rfl⟩⟩
    have hj' : j < (xs.drop 1).length := by simpa using hj
    obtain ⟨b', off', e', hcc⟩ := h.at (k := j + 1) (by omega)
    cases e'
    have := hcc (j + 1) (by omega)
    rw [ivs_get _ j hj']
    have e : (xs.drop 1)[j] = xs[j + 1] := by
      rw [List.getElem_drop]
      congr 1
      omega
    rw [e, Nat.add_assoc, Nat.add_comm 1 j]
    exact this
/-- What the switch of the reference's writing leaves. -/
structure TpCut (w : World) (g : Nat) (t : TapeD) (s mv : Int) (u v : Value) (wx : World) : Prop where
  ext : Ext w wx
  blk : Blk wx g 42 #[.slice none 0 0, .slice none 0 0]
  sides : ∃ ls rs, Ints wx u rs ∧ Ints wx v ls ∧ ls.length ≤ 2000 ∧ rs.length ≤ 2000 ∧ writeT t s mv = ⟨trim ls, trim rs⟩
set_option maxRecDepth 20000 in
set_option maxHeartbeats 4000000 in
theorem l06Tape_c (b o : Nat) (t : TapeD) (s mv : Int) (w : World) (h : TapP w b o t) (hl : t.l.length ≤ 1000) (hr : t.r.length ≤ 1000) :
    Calls Try.prog 97 #[.pointer (some ⟨b, o, none⟩), .int .i64 s, .int .i64 mv] w fun e w' => ∃ lv rv, e = .returned (.agg #[lv, rv]) ∧ OwnInts w.heap.size w' lv (writeT t s mv).l ∧ OwnInts w.heap.size w' rv (writeT t s mv).r ∧ Ext w w' := by
  obtain ⟨lv, rv, c0, c1, il, ir⟩ := h
  obtain ⟨A1, k1, rfl, _, _⟩ := id il.form
  obtain ⟨A2, k2, rfl, _, _⟩ := id ir.form
  have hbl := World.block_lt_of_cell? w _ c0
  obtain ⟨g, hg⟩ : ∃ g, w.heap.size = g := ⟨_, rfl⟩
  obtain ⟨V, hV⟩ : ∃ V, V = (w.alloc (.cells #[.slice none 0 0, .slice none 0 0] 42)).alloc (.cells #[.int .i64 s] 2) := ⟨_, rfl⟩
  have hX : Ext w V := by rw [hV]; exact (Ext.alloc _ _).trans (Ext.alloc _ _)
  have bO : Blk V g 42 #[.slice none 0 0, .slice none 0 0] := by rw [hV]; exact (Blk.new _ _ _ _ hg).alloc _
  have bS : Blk V (g + 1) 2 #[.int .i64 s] := by rw [hV]; exact Blk.new _ _ _ _ (by simp [hg])
  have own1 : OwnInts w.heap.size V (.slice (some ⟨g + 1, 0, none⟩) 1 1) [s] := ownsRow_blk 1 1 bS (by omega) rfl (by omega)
  have d0 := hX.cell c0
  have d1 := hX.cell c1
  simp only at hbl
  rw [hg] at hbl
  obtain ⟨rs, hrs⟩ : ∃ rs, writeR t s = rs := ⟨_, rfl⟩
  have hwl : rs.length ≤ 1001 := by rw [← hrs]; unfold writeR; simp; omega
  have hwp : 0 < rs.length := by rw [← hrs]; unfold writeR; simp
  have HWT : Hid (writeT t s mv = if mv = 1 then ⟨trim (s :: t.l), trim (rs.drop 1)⟩ else if mv = -1 then ⟨trim (t.l.drop 1), trim (t.l.getD 0 0 :: rs)⟩ else ⟨trim t.l, trim rs⟩) := by unfold Hid; rw [← hrs]; rfl
  go_enter Try.func97, Try.ntmps97
  go_upto_if 17 with fail
  try rw [← hV]
  try rw [hg]
  clear hV
  go_cut [7] (fun u wx => OwnInts w.heap.size wx u rs ∧ Blk wx g 42 #[.slice none 0 0, .slice none 0 0] ∧ Ext w wx)
  case first =>
    clear hwl hwp
    by_cases h0 : t.r.length = 0
    · have hz : t.r = [] := List.length_eq_zero_iff.1 h0
      have HR : Hid (OwnInts w.heap.size V (.slice (some ⟨g + 1, 0, none⟩) 1 1) rs) := by unfold Hid; rw [← hrs]; unfold writeR; rw [hz]; exact own1
      clear c0 d0 c1 hz own1 bS ir il hrs HWT
      generalize t.r.length = n at *
      subst h0
      go_wp2_with fail
      go_meet
      exact ⟨HR.out, bO, hX⟩
    · have hp : 0 < t.r.length := by omega
      obtain ⟨b2, o2, hA2, hcx⟩ := ir.at hp
      subst hA2
      clear hcx
      obtain ⟨it, ft⟩ := ints_tail (ir.ext hX) hp
      have hrs' : [s] ++ t.r.drop 1 = rs := hrs
      by_cases hk : k2 = 1
      · subst hk
        rw [if_pos rfl] at it ft
        have hn1 : t.r.length = 1 := by omega
        simp only [hn1, Nat.sub_self] at it ft
        obtain ⟨v7, w7, hr7, ho7, hg7⟩ := run_append_ints V w.heap.size _ _ [s] (t.r.drop 1) own1 it ft (by simp; omega) hX.size
        rw [hrs'] at ho7
        have bO7 := bO.kept hg7 (by intro e; simp [Value.ownBlock] at e)
        have hX7 : Ext w w7 := hX.grown hg7 (fun q hq => by simp [Value.ownBlock] at hq; omega)
        obtain ⟨A7, c7, rfl, _, _⟩ := id ho7.ints.form
        have HR := Lib.hid ho7
        clear c0 d0 own1 bS ir il it ft ho7 hg7 hrs hrs' HWT
        generalize t.r.length = n at *
        subst hn1
        go_wp2_with (at_builtin; refine Lib.wpList_append_run_sl V rfl _ _ 24 rfl _ _ rfl rfl hr7 ?_)
        go_meet
        exact ⟨HR.out, bO7, hX7⟩
      · rw [if_neg hk] at it ft
        obtain ⟨v7, w7, hr7, ho7, hg7⟩ := run_append_ints V w.heap.size _ _ [s] (t.r.drop 1) own1 it ft (by simp; omega) hX.size
        rw [hrs'] at ho7
        have bO7 := bO.kept hg7 (by intro e; simp [Value.ownBlock] at e)
        have hX7 : Ext w w7 := hX.grown hg7 (fun q hq => by simp [Value.ownBlock] at hq; omega)
        have hk2 : 1 ≤ k2 := by omega
        obtain ⟨A7, c7, rfl, _, _⟩ := id ho7.ints.form
        have HR := Lib.hid ho7
        clear c0 d0 own1 bS ir il it ft ho7 hg7 hrs hrs' HWT
        generalize t.r.length = n at *
        go_wp2_with (at_builtin; refine Lib.wpList_append_run_sl V rfl _ _ 24 rfl _ _ rfl rfl hr7 ?_)
        go_meet
        exact ⟨HR.out, bO7, hX7⟩
  case rest =>
    obtain ⟨ho7, bO7, hX7⟩ := hcut
    rename World => wc
    obtain ⟨A7, c7, rfl, _, _⟩ := id ho7.ints.form
    have e0 := hX7.cell c0
    have LO := l00OwnA_c _ t.l wc (il.ext hX7) (by omega)
    clear own1 bS bO hX d0 d1 hrs
    go_upto_block 0 with fail
    refine LO.mono ?_
    rintro e wd ⟨u8, rfl, ho8, hx8⟩
    obtain ⟨A8, c8, rfl, _, _⟩ := id ho8.ints.form
    go_upto_block 0 with fail
    have bO8 := bO7.ext hx8
    have hX8 := hX7.trans hx8
    have i7 := ho7.ints.ext hx8
    have ho7' := OwnInts.ext ho7 hx8
    have i8 := ho8.ints
    have s7 := hX7.size
    have s8 := hX8.size
    have f8 := ho8.flatS
    have f7 := ho7.flatS
    go_cut [7, 8] (fun u v wx => TpCut w g t s mv u v wx)
    case first =>
      clear il ir c0 c1 LO e0 bO7 hX7 ho7 hx8
      by_cases hm1 : mv = 1
      · subst hm1
        have HWa := HWT.out
        rw [if_pos rfl] at HWa
        have HWb := Lib.hid HWa
        clear HWa HWT
        obtain ⟨X, hXX⟩ : ∃ X, X = wd.alloc (.cells #[.int .i64 s] 2) := ⟨_, rfl⟩
        have eX : Ext wd X := by rw [hXX]; exact Ext.alloc _ _
        have bX : Blk X wd.heap.size 2 #[.int .i64 s] := by rw [hXX]; exact Blk.new _ _ _ _ rfl
        have ownX : OwnInts w.heap.size X (.slice (some ⟨wd.heap.size, 0, none⟩) 1 1) [s] := ownsRow_blk 1 1 bX s8 rfl (by omega)
        obtain ⟨v9, w9, hr9, ho9, hg9⟩ := run_append_ints X w.heap.size _ _ [s] t.l ownX (i8.ext eX) f8 (by simp; omega) (Nat.le_trans s8 eX.size)
        have e9 : Ext wd w9 := eX.grown hg9 (fun q hq => by simp [Value.ownBlock] at hq; omega)
        obtain ⟨g7, o7, hA7, hcx⟩ := i7.at hwp
        subst hA7
        clear hcx
        obtain ⟨it, _⟩ := ints_tail (i7.ext e9) hwp
        have hX9 := hX8.trans e9
        have bO9 := bO8.ext e9
        have i9 := ho9.ints
        have hld : (rs.drop 1).length ≤ 2000 := by simp; omega
        have hll : ([s] ++ t.l).length ≤ 2000 := by simp; omega
        have HWb' : Hid (writeT t s 1 = ⟨trim ([s] ++ t.l), trim (rs.drop 1)⟩) := HWb
        obtain ⟨ls9, hls9⟩ : ∃ l, [s] ++ t.l = l := ⟨_, rfl⟩
        rw [hls9] at i9 hll HWb'
        clear hls9
        have HC : Hid (∀ u, Ints w9 u (rs.drop 1) → TpCut w g t s 1 u v9 w9) := Lib.hid fun u hu => ⟨hX9, bO9, _, _, hu, i9, hll, hld, HWb'.out⟩
        obtain ⟨A9, c9, rfl, _, _⟩ := id i9.form
        have h7c : 1 ≤ c7 := by omega
        by_cases hk : c7 = 1
        · subst hk
          rw [if_pos rfl] at it
          have hn1 : rs.length = 1 := by omega
          simp only [hn1, Nat.sub_self] at it
          have HD := Lib.hid (HC.out _ it)
          clear HC it i9 bO9 hX9 e9 ho9 hg9 ownX bX eX i7 i8 ho7' f8 f7 bO8 hX8 ho8 hld hll
          go_wp2_with (at_builtin; rw [← hXX]; refine Lib.wpList_append_run_sl X rfl _ _ 24 rfl _ _ rfl rfl hr9 ?_)
          go_meet
          exact HD.out
        · rw [if_neg hk] at it
          have HD := Lib.hid (HC.out _ it)
          clear HC it i9 bO9 hX9 e9 ho9 hg9 ownX bX eX i7 i8 ho7' f8 f7 bO8 hX8 ho8 hld hll
          go_wp2_with (at_builtin; rw [← hXX]; refine Lib.wpList_append_run_sl X rfl _ _ 24 rfl _ _ rfl rfl hr9 ?_)
          go_meet
          exact HD.out
      · by_cases hm2 : mv = -1
        · subst hm2
          have HWa := HWT.out
          rw [if_neg hm1, if_pos rfl] at HWa
          have HWb := Lib.hid HWa
          clear HWa HWT hm1
          have key : ∀ x : Int, ∃ v9 w9, (Builtin.append_ #[24, 24] 24 #[.slice (some ⟨wd.heap.size, 0, none⟩) 1 1, .slice A7 rs.length c7]).run Try.prog (wd.alloc (.cells #[.int .i64 x] 2)) = .ok v9 w9 ∧ (∃ A9 c9, v9 = .slice A9 (rs.length + 1) c9) ∧ Ints w9 v9 (x :: rs) ∧ Ext wd w9 := by
            intro x
            have eX : Ext wd (wd.alloc (.cells #[.int .i64 x] 2)) := Ext.alloc _ _
            have bX : Blk (wd.alloc (.cells #[.int .i64 x] 2)) wd.heap.size 2 #[.int .i64 x] := Blk.new _ _ _ _ rfl
            have ownX : OwnInts w.heap.size (wd.alloc (.cells #[.int .i64 x] 2)) (.slice (some ⟨wd.heap.size, 0, none⟩) 1 1) [x] := ownsRow_blk 1 1 bX s8 rfl (by omega)
            obtain ⟨v9, w9, hr9, ho9, hg9⟩ := run_append_ints _ w.heap.size _ _ [x] rs ownX (i7.ext eX) f7 (by simp; omega) (Nat.le_trans s8 eX.size)
            exact ⟨v9, w9, hr9, by obtain ⟨A9, c9, e, _, _⟩ := ho9.ints.form; exact ⟨A9, c9, by rw [e]; rfl⟩, ho9.ints, eX.grown hg9 (fun q hq => by simp [Value.ownBlock] at hq; omega)⟩
          by_cases h0 : t.l.length = 0
          · have hz : t.l = [] := List.length_eq_zero_iff.1 h0
            obtain ⟨v9, w9, hr9, hf9, i9, e9⟩ := key 0
            have HC : Hid (TpCut w g t s (-1) v9 (.slice A8 0 c8) w9) := by
              refine ⟨hX8.trans e9, bO8.ext e9, [], 0 :: rs, i9, ?_, by simp, by simp; omega, ?_⟩
              · have := i8.ext e9
                rw [hz] at this
                exact this
              · rw [HWb.out, hz]
                rfl
            obtain ⟨A9, c9, rfl⟩ := hf9
            clear i9 e9 key i7 i8 ho7' f8 f7 bO8 hX8 ho8 HWb hz
            generalize t.l.length = n at *
            subst h0
            go_wp2_with (at_builtin; refine Lib.wpList_append_run_sl _ rfl _ _ 24 rfl _ _ rfl rfl hr9 ?_)
            go_meet
            exact HC.out
          · have hp : 0 < t.l.length := by omega
            obtain ⟨b8, o8, hA8, hcx⟩ := i8.at hp
            subst hA8
            have x0 := hcx 0 hp
            rw [Nat.add_zero] at x0
            clear hcx
            have HX0 : Hid (t.l.getD 0 0 = t.l[0]) := by unfold Hid; rw [List.getD_eq_getElem?_getD, List.getElem?_eq_getElem hp]; rfl
            obtain ⟨x, hx0⟩ : ∃ x, t.l[0] = x := ⟨_, rfl⟩
            rw [hx0] at x0 HX0
            obtain ⟨v9, w9, hr9, hf9, i9, e9⟩ := key x
            obtain ⟨it, _⟩ := ints_tail (i8.ext e9) hp
            have HC : Hid (∀ u, Ints w9 u (t.l.drop 1) → TpCut w g t s (-1) v9 u w9) := Lib.hid fun u hu =>
              ⟨hX8.trans e9, bO8.ext e9, t.l.drop 1, x :: rs, i9, hu, by simp; omega, by simp; omega, by rw [HWb.out, HX0.out]⟩
            obtain ⟨A9, c9, rfl⟩ := hf9
            have h8c : 1 ≤ c8 := by omega
            by_cases hk : c8 = 1
            · subst hk
              rw [if_pos rfl] at it
              have hn1 : t.l.length = 1 := by omega
              simp only [hn1, Nat.sub_self] at it
              have HD := Lib.hid (HC.out _ it)
              clear i9 e9 key i7 i8 ho7' f8 f7 bO8 hX8 ho8 HWb HC it hx0
              generalize t.l.length = n at *
              subst hn1
              go_wp2_with (at_builtin; refine Lib.wpList_append_run_sl _ rfl _ _ 24 rfl _ _ rfl rfl hr9 ?_)
              go_meet
              exact HD.out
            · rw [if_neg hk] at it
              have HD := Lib.hid (HC.out _ it)
              clear i9 e9 key i7 i8 ho7' f8 f7 bO8 hX8 ho8 HWb HC it hx0
              generalize t.l.length = n at *
              go_wp2_with (at_builtin; refine Lib.wpList_append_run_sl _ rfl _ _ 24 rfl _ _ rfl rfl hr9 ?_)
              go_meet
              exact HD.out
        · have HWa := HWT.out
          rw [if_neg hm1, if_neg hm2] at HWa
          have hb1 : (mv == 1) = false := by simp [hm1]
          have hb2 : (mv == -1) = false := by simp [hm2]
          have HC : Hid (TpCut w g t s mv (.slice A7 rs.length c7) (.slice A8 t.l.length c8) wd) := ⟨hX8, bO8, _, _, i7, i8, by omega, by omega, HWa⟩
          clear HWa HWT hm1 hm2
          go_wp2_with fail
          go_meet
          exact HC.out
    case rest =>
      obtain ⟨hXc, bOc, ls, rz, ir, il, l1, l2, hW⟩ := hcut
      rename World => wx
      have HW := Lib.hid hW
      have LT := l06Trim_c _ ls wx il (by omega)
      obtain ⟨B1, d1, rfl, _, _⟩ := id il.form
      obtain ⟨B2, d2, rfl, _, _⟩ := id ir.form
      go_wp2_with fail
      refine LT.mono ?_
      rintro e wy ⟨u1, rfl, p1, hx1⟩
      have RT := l06Trim_c _ rz wy (ir.ext hx1) (by omega)
      obtain ⟨C1, f1, rfl, _, _⟩ := id p1.ints.form
      go_wp2_with fail
      refine RT.mono ?_
      rintro e wz ⟨u2, rfl, p2, hx2⟩
      obtain ⟨C2, f2, rfl, _, _⟩ := id p2.ints.form
      have bOz := (bOc.ext hx1).ext hx2
      have ob := bOz.cell
      have of_ := bOz.frozen
      have sx := hXc.size
      have sy := hx1.size
      have p1' := OwnInts.ext p1 hx2
      have n1 : ∀ q, (Value.slice C1 (trim ls).length f1).ownBlock = some q → q ≠ g := fun q hq e => by
        subst e
        exact blk_ne_row bOz p1' (by decide) hq.symm
      have n2 : ∀ q, (Value.slice C2 (trim rz).length f2).ownBlock = some q → q ≠ g := fun q hq e => by
        subst e
        exact blk_ne_row bOz p2 (by decide) hq.symm
      have HA : Hid (∀ a b, OwnInts w.heap.size ((wz.setCell ⟨g, 0, none⟩ a).setCell ⟨g, 1, none⟩ b) (.slice C1 (trim ls).length f1) (trim ls)) := Lib.hid fun a b => ownsRow_far (ownsRow_far (ownsRow_base p1' sx) n1 _) n1 _
      have HB : Hid (∀ a b, OwnInts w.heap.size ((wz.setCell ⟨g, 0, none⟩ a).setCell ⟨g, 1, none⟩ b) (.slice C2 (trim rz).length f2) (trim rz)) := Lib.hid fun a b => ownsRow_far (ownsRow_far (ownsRow_base p2 (Nat.le_trans sx sy)) n2 _) n2 _
      have HE : Hid (∀ a b, Ext w ((wz.setCell ⟨g, 0, none⟩ a).setCell ⟨g, 1, none⟩ b)) := Lib.hid fun a b => (((hXc.trans hx1).trans hx2).setCell (p := ⟨g, 0, none⟩) (by show w.heap.size ≤ g; omega) a).setCell (p := ⟨g, 1, none⟩) (by show w.heap.size ≤ g; omega) b
      obtain ⟨m1, hm1⟩ : ∃ m, (trim ls).length = m := ⟨_, rfl⟩
      obtain ⟨m2, hm2⟩ : ∃ m, (trim rz).length = m := ⟨_, rfl⟩
      rw [hm1] at HA ⊢
      rw [hm2] at HB ⊢
      clear p1 p2 p1' n1 n2 hm1 hm2 hW LT RT bOc bOz hXc hx1 hx2
      go_wp2_with fail
      exact bodyPost_ret (v := .agg #[.slice C1 m1 f1, .slice C2 m2 f2]) (by simp [results, Try.results97, go_sem, ob]) rfl ⟨_, _, rfl, by rw [HW.out]; exact HA.out _ _, by rw [HW.out]; exact HB.out _ _, HE.out _ _⟩
end Go.Proofs.Ytkbpchdncljlbaa
end
