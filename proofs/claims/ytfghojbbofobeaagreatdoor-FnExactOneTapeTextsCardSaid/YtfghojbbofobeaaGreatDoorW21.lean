/- Contract of what the reference's machine with one tape does where symbols are looked for, and in all its places.
Contract of what the reference's machine with one tape does in all its places. The machine with several tapes is valid.
Contracts of the reference's maker of the machine with one tape for several. The machine is valid. -/
import Derived.Test.YtfghojbbofobeaaGreatDoorW15
import Derived.Test.YtfghojbbofobeaaGreatDoorW20
import Derived.Test.YtfghojbbofobeaaGreatDoorW07
import Derived.Test.YtfghojbbofobeaaGreatDoorW04
import Derived.Test.YtfghojbbofobeaaGreatDoorW09
import Derived.Deep.RegionLaw
import Derived.Deep.AppendLies
section
set_option linter.unusedSimpArgs false
set_option linter.unusedVariables false
namespace Go.Proofs.YtfghojbbofobeaaGreatDoor
open Go Go.RowKit Go.Proofs Go.Maps
set_option maxHeartbeats 400000
theorem tail3 {w : World} {b off n c : Nat} {x y z : Int} {xs : List Int} (h : Ints w (.slice (some ⟨b, off, none⟩) n c) (x :: y :: z :: xs)) (hn : n = 3 + xs.length) (hc : n ≤ c) (hc2 : c ≤ 9223372036854775807) : Ints w (.slice (some ⟨b, off + 3, none⟩) xs.length (c - 3)) xs := by
  have hn' : n = (x :: y :: z :: xs).length := by simp; omega
  subst hn'
  refine ⟨_, c - 3, rfl, by simp at hc; omega, by omega, by simp, fun _ => ⟨b, off + 3, rfl, fun j hj => ?_⟩⟩
  obtain ⟨b', off', e, hcc⟩ := Row.at h (k := 0) (by simp)
  injection e with e
  injection e with e1 e2
  subst e1 e2
  have hj' : j < xs.length := by simpa using hj
  have := hcc (j + 3) (by simp; omega)
  rw [show off + 3 + j = off + (j + 3) by omega, this]
  simp [ivs]
/-- A number of a list of one's own is stored. -/
theorem own_put {base g n c : Nat} {w : World} {zs : List Int} (h : OwnInts base w (.slice (some ⟨g, 0, none⟩) n c) zs) (hn : n = zs.length) {k : Nat} (hk : k < n) (x : Int) : OwnInts base (w.setCell ⟨g, k, none⟩ (.int .i64 x)) (.slice (some ⟨g, 0, none⟩) n c) (zs.set k x) := by
  obtain ⟨h1, h2⟩ := h
  rcases h2 with ⟨e, _⟩ | ⟨g', cap, cur, e, hb, hh, hnc, hcm, hcs, htk⟩
  · cases e
  · cases e
    refine ⟨by simp, .inr ⟨g, c, cur.setIfInBounds k (.int .i64 x), by simp [hn], hb, (Blk.set_ (show Blk w g 2 cur from hh) k _), by simpa using hnc, hcm, by simpa using hcs, ?_⟩⟩
    have hl : (zs.set k x).length = zs.length := by simp
    rw [hl, Array.toList_setIfInBounds, List.take_set, htk]
    simp [ivs, List.map_set]
theorem rule_ix {m : MultiD} {q z : Int} {xs : List Int} (hm : multiOk m = true) (hn : (xs.length : Int) = m.tp)
    (h : (∃ k : Nat, k < m.rules.length ∧ z = (k : Int) ∧ isRul q xs (m.rules.getD k mr0)) ∨ (z = -1 ∧ ∀ j, j < m.rules.length → ¬ isRul q xs (m.rules.getD j mr0))) : z = ixOf (findM m.rules (key3 q xs) m.rules.length) := by
  have hmap : (xs.map fun y => (⟨[], [y]⟩ : TapeD)).map headT = xs := by
    rw [List.map_map]
    conv => rhs; rw [← List.map_id xs]
    rfl
  have := look_ix (c := ⟨q, xs.map fun y => ⟨[], [y]⟩⟩) hm (by simpa using hn) (by simp only [hmap]; exact h)
  unfold lookM readM at this
  simp only [hmap] at this
  exact this
set_option maxRecDepth 20000 in
set_option maxHeartbeats 4000000 in
theorem sev0_2 (b : Nat) (m : MultiD) (a : Int) (tn : Nat) (f0 f1 : Int) (v : Int) (pv : Value) (w : World) (h : MulAt w b m) (hm : multiOk m = true) (hT : m.tp = 2) (ht1 : tn < 2) (F0 : 0 ≤ f0 ∧ f0 ≤ m.sy) (F1 : 0 ≤ f1 ∧ f1 ≤ m.sy) (hlk : lacksB m ⟨0, a, (tn : Int), 0, f0, f1, 0, 0⟩ = true) (v0 : 0 ≤ v) (v1 : v < 2 * m.sy) (hpv : Ints w pv [0, a, (tn : Int), f0 - 1, f1 - 1]) :
    Calls Tryz.prog 117 #[.pointer (some ⟨b, 0, none⟩), pv, .int .i64 v] w (MoveResM m w (actW m ⟨0, a, (tn : Int), 0, f0, f1, 0, 0⟩ v)) := by
  obtain ⟨⟨tp1, tp2⟩, ⟨y1, y2⟩, ⟨s1, s2⟩, hrl, _⟩ := multi_all hm
  obtain ⟨g, hg⟩ : ∃ g, w.heap.size = g := ⟨_, rfl⟩
  obtain ⟨W, hW⟩ : ∃ W, W = w.alloc (.cells #[.bool false, .int .i64 0, .int .i64 0, .slice none 0 0] 147) := ⟨_, rfl⟩
  have hX : Ext w W := by rw [hW]; exact Ext.alloc _ _
  have bZ : Blk W g 147 #[.bool false, .int .i64 0, .int .i64 0, .slice none 0 0] := by rw [hW]; exact Blk.new _ _ _ _ hg
  have hsW : W.heap.size = g + 1 := by rw [hW]; simp [hg]
  have hWv := h.ext hX
  obtain ⟨A, cA, hb, hR⟩ := id hWv
  have a0 : W.cell? ⟨b, 0, none⟩ = some (.int .i64 m.tp) := hb.cell 0
  have a1 : W.cell? ⟨b, 1, none⟩ = some (.int .i64 m.sy) := hb.cell 1
  have a3 : W.cell? ⟨b, 3, none⟩ = some (.slice A m.rules.length cA) := hb.cell 3
  obtain ⟨Ap, cp, rfl, hl1, hl2⟩ := hpv.form
  obtain ⟨bp, op, rfl, hc⟩ := hpv.at (k := 0) (by simp)
  have e0 := hX.cell (hc 0 (by simp))
  have e1 := hX.cell (hc 1 (by simp))
  have e2 := hX.cell (hc 2 (by simp))
  have e3 := hX.cell (hc 3 (by simp))
  have e4 := hX.cell (hc 4 (by simp))
  simp only [List.getElem_cons_zero, List.getElem_cons_succ, Nat.add_zero] at e0 e1 e2 e3 e4
  obtain ⟨x, hx⟩ : ∃ x, v % m.sy = x := ⟨_, rfl⟩
  have hsy0 : ¬ m.sy = 0 := by omega
  have hxm : v.tmod m.sy = x := by rw [Int.tmod_eq_emod_of_nonneg v0]; exact hx
  have hx0 : 0 ≤ x ∧ x < m.sy := by rw [← hx]; exact ⟨Int.emod_nonneg _ (by omega), Int.emod_lt_of_pos _ (by omega)⟩
  have hgz : w.heap.size ≤ g := by omega
  have HXX := Lib.hid hx
  have hTL := tail3 (xs := [f0 - 1, f1 - 1]) hpv (by simp) (by simpa using hl1) (by omega)
  simp only [List.length_cons, List.length_nil] at hTL
  have hcp : ¬ cp = 3 := by simp at hl1; omega
  have hcp3 : 3 ≤ cp := by simp at hl1; omega
  simp only [List.length_cons, List.length_nil]
  clear hpv hc hl1 hl2 hx hb
  go_enter Tryz.func117, Tryz.ntmps117
  go_upto_region 1 with fail
  try rw [← hW]
  try rw [hg]
  clear hW
  obtain ⟨i0, hi, hz0, hz1, hz2⟩ := info_parts intInfo
  obtain ⟨nt, hnt⟩ : ∃ nt, ((tn : Int) + 1) % m.tp = nt := ⟨_, rfl⟩
  have htm : ((tn : Int) + 1).tmod 2 = nt := by rw [← hT, Int.tmod_eq_emod_of_nonneg (by omega)]; exact hnt
  have hwt : IntKind.i64.wrap ((tn : Int) + 1) = (tn : Int) + 1 := IntWalk.i64_in _ (by omega)
  obtain ⟨fv, hfv⟩ : ∃ fv, fnd ⟨0, a, (tn : Int), 0, f0, f1, 0, 0⟩ (tn : Int) = fv := ⟨_, rfl⟩
  have hfv0 : 0 ≤ fv := by rw [← hfv]; unfold fnd; split <;> (try split) <;> simp only <;> omega
  have hfl : [f0 - 1, f1 - 1][tn]? = some (fv - 1) := by
    rw [← hfv]
    have h3 : tn = 0 ∨ tn = 1 := by omega
    rcases h3 with rfl | rfl <;> rfl
  have HNX : Hid (nxtT m ⟨0, a, (tn : Int), 0, f0, f1, 0, 0⟩ = ⟨0, a, nt, 0, f0, f1, 0, 0⟩) := Lib.hid (by unfold nxtT withT; rw [hnt])
  have HLK : Hid (actW m ⟨0, a, (tn : Int), 0, f0, f1, 0, 0⟩ v = if m.sy ≤ v ∧ fv = 0 then
    (if lacksB m (seenP m ⟨0, a, (tn : Int), 0, f0, f1, 0, 0⟩ v) = true then ⟨v, 1, seenP m ⟨0, a, (tn : Int), 0, f0, f1, 0, 0⟩ v, false⟩
     else ruleP m (tn : Int) (findM m.rules (symsP m (seenP m ⟨0, a, (tn : Int), 0, f0, f1, 0, 0⟩ v)) m.rules.length))
    else ⟨v, 1, ⟨0, a, nt, 0, f0, f1, 0, 0⟩, false⟩) := Lib.hid (by
      show lkP m ⟨0, a, (tn : Int), 0, f0, f1, 0, 0⟩ v = _
      unfold lkP; rw [hfv, HNX.out])
  have HT := Lib.hid hT
  have OW := l00Own_c _ [f0 - 1, f1 - 1] W (hTL.ext hX) (by simp) (by simp)
  rw [hT] at a0
  clear hnt hfv hT
  go_wp2_with fail
  refine OW.mono ?_
  rintro e w1 ⟨u, rfl, ou, hx1⟩
  have ou0 : OwnInts w.heap.size w1 u [f0 - 1, f1 - 1] := ownsRow_base ou hX.size
  have hgu : ∀ q, u.ownBlock = some q → g + 1 ≤ q := fun q hq => by have := (World.ownsRow.lt ou q hq).1; omega
  obtain ⟨gu, cu, rfl, hgu1⟩ : ∃ gu cu, u = .slice (some ⟨gu, 0, none⟩) 2 cu ∧ True := by
    obtain ⟨Au, cu, rfl, _, _⟩ := id ou0.ints.form
    obtain ⟨gu, rfl, _, _⟩ := own_at ou0 (by simp)
    exact ⟨gu, cu, rfl, trivial⟩
  have hgu2 : g + 1 ≤ gu := hgu gu rfl
  have hX1 := hX.trans hx1
  have bZ1 := bZ.ext hx1
  have a01 := hx1.cell a0
  have a11 := hx1.cell a1
  have hW1 := hWv.ext hx1
  have q1 : w1.cell? ⟨gu, tn, none⟩ = some (.int .i64 (fv - 1)) := by
    have := World.ownsRow.cellAt ou0 tn (by simp; omega)
    rw [this]
    simp only [ivs, List.getElem?_map, hfl]
    rfl
  have hti : (tn : Int) < 2 := by omega
  clear OW ou hgu hgu1 hWv e0 e1 e2 e3 e4 a0 a1 a3 hx1 hTL
  by_cases hv : m.sy ≤ v
  · by_cases hf : fv = 0
    · have HE0 : Hid (actW m ⟨0, a, (tn : Int), 0, f0, f1, 0, 0⟩ v = (if lacksB m (seenP m ⟨0, a, (tn : Int), 0, f0, f1, 0, 0⟩ v) = true then ⟨v, 1, seenP m ⟨0, a, (tn : Int), 0, f0, f1, 0, 0⟩ v, false⟩
           else ruleP m (tn : Int) (findM m.rules (symsP m (seenP m ⟨0, a, (tn : Int), 0, f0, f1, 0, 0⟩ v)) m.rules.length))) := Lib.hid (by rw [HLK.out, if_pos ⟨hv, hf⟩])
      obtain ⟨n0, hn0⟩ : ∃ y, (if (tn : Int) = 0 then v - m.sy + 1 else f0) = y := ⟨_, rfl⟩
      obtain ⟨n1, hn1⟩ : ∃ y, (if (tn : Int) = 1 then v - m.sy + 1 else f1) = y := ⟨_, rfl⟩
      have hseen : seenP m ⟨0, a, (tn : Int), 0, f0, f1, 0, 0⟩ v = ⟨0, a, nt, 0, n0, n1, 0, 0⟩ := by
        unfold seenP; rw [HNX.out]; unfold withF; simp only [hn0, hn1]
        rw [if_neg (by omega)]
      rw [hseen] at HE0
      have hvx : x = v - m.sy := by rw [← HXX.out, ← Int.sub_emod_right, Int.emod_eq_of_lt (by omega) (by omega)]
      have HSET : Hid ([f0 - 1, f1 - 1].set tn x = [n0 - 1, n1 - 1]) := Lib.hid (by
        rw [hvx, ← hn0, ← hn1]
        have h3 : tn = 0 ∨ tn = 1 := by omega
        rcases h3 with rfl | rfl <;> simp <;> omega)
      have N0 : 0 ≤ n0 ∧ n0 ≤ m.sy := by rw [← hn0]; split <;> omega
      have N1 : 0 ≤ n1 ∧ n1 ≤ m.sy := by rw [← hn1]; split <;> omega
      have hlt0 : fv - 1 < 0 := by omega
      have ou2 := own_put ou0 (by simp) ht1 x
      rw [HSET.out] at ou2
      have qf : w1.frozen? ⟨gu, tn, none⟩ = false := by
        rcases ou0.2 with ⟨e, _⟩ | ⟨g', cap, cur, e, _, hh, _⟩
        · cases e
        · cases e
          exact Blk.frozen (show Blk w1 gu 2 cur from hh) tn
      obtain ⟨Y, hY⟩ : ∃ Y, Y = w1.setCell ⟨gu, tn, none⟩ (.int .i64 x) := ⟨_, rfl⟩
      have nZ : g ≠ gu := by omega
      have bZY : Blk Y g 147 #[.bool false, .int .i64 0, .int .i64 0, .slice none 0 0] := by rw [hY]; exact bZ1.far (p := ⟨gu, tn, none⟩) nZ _
      have hXY : Ext w Y := by rw [hY]; exact hX1.setCell (p := ⟨gu, tn, none⟩) (by show w.heap.size ≤ gu; omega) _
      have a0Y : Y.cell? ⟨b, 0, none⟩ = some (.int .i64 2) := by
        obtain ⟨_, _, hb, _⟩ := h
        have := (hb.ext hXY).cell 0
        rw [← HT.out]
        exact this
      rw [← hY] at ou2
      clear hn0 hn1  hseen hvx ou0 bZ1 hX1 a01 hlk hf hW1
      go_upto_region 13 with fail
      try rw [← hY]
      clear hY q1 qf a11 hlt0
      obtain ⟨lk, hlk⟩ : ∃ y, lacksB m ⟨0, a, nt, 0, n0, n1, 0, 0⟩ = y := ⟨_, rfl⟩
      rw [hlk] at HE0
      cases lk with
      | true =>
        have HE : Hid (actW m ⟨0, a, (tn : Int), 0, f0, f1, 0, 0⟩ v = ⟨v, 1, ⟨0, a, nt, 0, n0, n1, 0, 0⟩, false⟩) := Lib.hid (by rw [HE0.out, if_pos rfl])
        have hhas : decide ((-1 : Int) ∈ [n0 - 1, n1 - 1]) = true := by
          rw [decide_eq_true_iff]
          simp [lacksB, HT.out] at hlk
          simp
          omega
        have HAS := l00Has_c _ [n0 - 1, n1 - 1] (-1) Y ou2.ints
        rw [hhas] at HAS
        go_wp2_with fail
        refine HAS.mono ?_
        rintro e w' ⟨rfl, rfl⟩
        have hOV : (Y.alloc (.cells #[.int .i64 0, .int .i64 a, .int .i64 nt] 2)).ownsRow w.heap.size 2 1 (.slice (some ⟨Y.heap.size, 0, none⟩) 3 3) 3 (ivs [0, a, nt]) := own_ivs (Blk.new _ _ _ _ rfl) hXY.size (by simp)
        have hXA := Ext.alloc Y (.cells #[.int .i64 0, .int .i64 a, .int .i64 nt] 2)
        have hcs : ∀ j y, (ivs [n0 - 1, n1 - 1])[j]? = some y → (Y.alloc (.cells #[.int .i64 0, .int .i64 a, .int .i64 nt] 2)).cell? ((⟨gu, 0, none⟩ : Addr).add j) = some y := fun j y hj => by
          have hjl : j < 2 := by have := (List.getElem?_eq_some_iff.1 hj).1; simpa using this
          have := hXA.cell ((World.ownsRow.cellAt ou2 j (by simp; omega)).trans hj)
          by_cases hj0 : j = 0
          · subst hj0
            first | (simp [Addr.add]; done) | (simpa [Addr.add] using this)
          · first | (simp [Addr.add, hj0]; done) | (simpa [Addr.add, hj0] using this)
        have hsz : w.heap.size ≤ Y.heap.size := hXY.size
        clear HAS
        go_wp2_with (at_builtin; refine wpList_append_own _ rfl _ _ 44 rfl w.heap.size 2 i0 (.int .i64 0) 1 8 Tryz.underlying44 hi hz0 hz1 hz2 rfl (by decide) _ _ _ rfl hOV ⟨gu, 0, none⟩ 2 cu (ivs [n0 - 1, n1 - 1]) rfl rfl ?c1 ?c2 ?c3 ?c4 ?c5 ?_)
        case c1 => exact hcs
        case c2 => intro y hy; simp [ivs] at hy; rcases hy with rfl | rfl <;> rfl
        case c3 => first | omega | (unfold maxLen; omega)
        case c4 => first | omega | simp
        case c5 => first | omega | (simp; omega)
        intro v' w3 hown3 hg3 _
        obtain ⟨A3, c3, rfl, _, _, _⟩ := (ownsRow_row hown3).form
        have hX3 : Ext w w3 := hXY.grown (grownBy_trans (World.grownBy_alloc _ _ _) hg3) (fun q hq => (hOV.lt q hq).1)
        have bZ3 : Blk w3 g 147 #[.bool false, .int .i64 0, .int .i64 0, .slice none 0 0] := Blk.apart (bZY.ext hXA) hOV (by decide) hg3
        have o3 : OwnInts w.heap.size w3 (.slice A3 (3 + 2) c3) ([0, a, nt] ++ [n0 - 1, n1 - 1]) := by
          unfold OwnInts
          have e2 : ivs ([0, a, nt] ++ [n0 - 1, n1 - 1]) = ivs [0, a, nt] ++ ivs [n0 - 1, n1 - 1] := by simp [ivs]
          rw [e2]
          first | exact hown3 | (rw [hg]; exact hown3)
        clear hown3 hg3 hOV hXA hcs
        go_wp2_with fail
        refine (goM_c _ _ _ _ _ _).mono ?_
        rintro e w4 ⟨rfl, hx4⟩
        have hX4 := hX3.trans hx4
        have bZz := bZ3.ext hx4
        have ou4 := OwnInts.ext o3 hx4
        clear o3 bZ3 hX3 hx4
        have z0 := bZz.cell
        have z1 := bZz.frozen

        go_wp2_with fail
        refine bodyPost_ret (v := .agg #[.bool true, .int .i64 v, .int .i64 1, .slice A3 (3 + 2) c3]) (by simp [results, Tryz.results117, go_sem, z0]) rfl ?_

        rw [HE.out]
        exact mv_done hX4 bZz hgz (by simp [encM, HT.out]) ou4 (by simp)
      | false =>
        have hhas : decide ((-1 : Int) ∈ [n0 - 1, n1 - 1]) = false := by
          rw [decide_eq_false_iff_not]
          simp [lacksB, HT.out] at hlk
          simp
          omega
        have HAS := l00Has_c _ [n0 - 1, n1 - 1] (-1) Y ou2.ints
        rw [hhas] at HAS
        have hMY := h.ext hXY
        obtain ⟨Ar, cr, hbr, hrr⟩ := id hMY
        have RU := l06RuleOf_c b m _ _ a [n0 - 1, n1 - 1] Y hbr hrr ou2.ints
        go_wp2_with fail
        refine HAS.mono ?_
        rintro e w' ⟨rfl, rfl⟩
        clear HAS
        go_wp2_with fail
        refine RU.mono ?_
        rintro e w5 ⟨z, rfl, hz, hx5⟩
        have hzi := rule_ix hm (by simp [HT.out]) hz
        have hkey : symsP m ⟨0, a, nt, 0, n0, n1, 0, 0⟩ = key3 a [n0 - 1, n1 - 1] := by simp [symsP, key3, HT.out]
        rw [if_neg (by simp), hkey] at HE0
        have hX5 := hXY.trans hx5
        have bZ5 := bZY.ext hx5
        clear RU hz hkey hbr hrr ou2 bZY
        obtain ⟨ob, hob⟩ : ∃ ob, findM m.rules (key3 a [n0 - 1, n1 - 1]) m.rules.length = ob := ⟨_, rfl⟩
        rw [hob] at hzi HE0
        cases ob with
        | none =>
          have hzi' : z = -1 := hzi
          subst hzi'
          have HE : Hid (actW m ⟨0, a, (tn : Int), 0, f0, f1, 0, 0⟩ v = noW) := Lib.hid HE0.out
          have z0 := bZ5.cell
          have z1 := bZ5.frozen
          clear hob a0Y
          go_wp2_with fail
          refine bodyPost_ret (v := .agg #[.bool false, .int .i64 0, .int .i64 0, .slice none 0 0]) (by simp [results, Tryz.results117, go_sem, z0]) rfl ?_
          rw [HE.out]
          exact ⟨.inl ⟨rfl, rfl⟩, by repeat (first | with_reducible exact hX5 | refine Ext.setCell ?_ hgz _)⟩
        | some i =>
          have hzi' : z = (i : Int) := hzi
          subst hzi'
          have hil := findM_lt hob
          have HE : Hid (actW m ⟨0, a, (tn : Int), 0, f0, f1, 0, 0⟩ v = putP m (i : Int) (tn : Int) 0) := Lib.hid HE0.out
          have PC := putS_c b m (i : Int) (tn : Int) 0 w5 (hMY.ext hx5) hm (by omega) (by omega) (by omega) (by have := HT.out; omega) (by omega) (by omega)
          have hno : (putP m (i : Int) (tn : Int) 0).no = false := by unfold putP; split <;> rfl
          obtain ⟨q, hq⟩ : ∃ q, putP m (i : Int) (tn : Int) 0 = q := ⟨_, rfl⟩
          rw [hq] at PC HE hno
          clear hq hob
          have hi0 : ¬ (i : Int) < 0 := by omega
          go_wp2_with fail
          refine PC.mono ?_
          rintro e w6 ⟨hres, hx6⟩
          rcases hres with ⟨hy, _⟩ | ⟨_, Au, c6, rfl, ou⟩
          · rw [hno] at hy; exact absurd hy (by simp)
          · obtain ⟨qw, qm, qp, qn⟩ := q
            simp only at hno ou ⊢
            subst hno
            obtain ⟨L, hL⟩ : ∃ L, (encM m qp).length = L := ⟨_, rfl⟩
            rw [hL] at ou ⊢
            have HL := Lib.hid hL
            clear hL PC
            have hX6 := hX5.trans hx6
            have bZz := bZ5.ext hx6
            have ou6 : OwnInts w.heap.size w6 (.slice Au L c6) (encM m qp) := ownsRow_base ou hX5.size
            have z0 := bZz.cell
            have z1 := bZz.frozen

            go_wp2_with fail
            refine bodyPost_ret (v := .agg #[.bool true, .int .i64 qw, .int .i64 qm, .slice Au L c6]) (by simp [results, Tryz.results117, go_sem, z0]) rfl ?_
            show MoveResM m w (actW m ⟨0, a, (tn : Int), 0, f0, f1, 0, 0⟩ v) _ _
            rw [HE.out]
            exact mv_done hX6 bZz hgz rfl ou6 HL.out.symm
    · have hge0 : ¬ fv - 1 < 0 := by omega
      have hge1 : 0 ≤ fv - 1 := by omega
      have HE : Hid (actW m ⟨0, a, (tn : Int), 0, f0, f1, 0, 0⟩ v = ⟨v, 1, ⟨0, a, nt, 0, f0, f1, 0, 0⟩, false⟩) := Lib.hid (by rw [HLK.out, if_neg (fun hh => hf hh.2)])
      have hhas : decide ((-1 : Int) ∈ [f0 - 1, f1 - 1]) = true := by
        rw [decide_eq_true_iff]
        simp [lacksB, HT.out] at hlk
        simp
        omega
      have HAS := l00Has_c _ [f0 - 1, f1 - 1] (-1) w1 ou0.ints
      rw [hhas] at HAS
      go_wp2_with fail
      refine HAS.mono ?_
      rintro e w' ⟨rfl, rfl⟩
      have hOV : (w1.alloc (.cells #[.int .i64 0, .int .i64 a, .int .i64 nt] 2)).ownsRow w.heap.size 2 1 (.slice (some ⟨w1.heap.size, 0, none⟩) 3 3) 3 (ivs [0, a, nt]) := own_ivs (Blk.new _ _ _ _ rfl) hX1.size (by simp)
      have hXA := Ext.alloc w1 (.cells #[.int .i64 0, .int .i64 a, .int .i64 nt] 2)
      have hcs : ∀ j y, (ivs [f0 - 1, f1 - 1])[j]? = some y → (w1.alloc (.cells #[.int .i64 0, .int .i64 a, .int .i64 nt] 2)).cell? ((⟨gu, 0, none⟩ : Addr).add j) = some y := fun j y hj => by
        have hjl : j < 2 := by have := (List.getElem?_eq_some_iff.1 hj).1; simpa using this
        have := hXA.cell ((World.ownsRow.cellAt ou0 j (by simp; omega)).trans hj)
        by_cases hj0 : j = 0
        · subst hj0
          first | (simp [Addr.add]; done) | (simpa [Addr.add] using this)
        · first | (simp [Addr.add, hj0]; done) | (simpa [Addr.add, hj0] using this)
      have hsz : w.heap.size ≤ w1.heap.size := hX1.size
      clear HAS
      go_wp2_with (at_builtin; refine wpList_append_own _ rfl _ _ 44 rfl w.heap.size 2 i0 (.int .i64 0) 1 8 Tryz.underlying44 hi hz0 hz1 hz2 rfl (by decide) _ _ _ rfl hOV ⟨gu, 0, none⟩ 2 cu (ivs [f0 - 1, f1 - 1]) rfl rfl ?c1 ?c2 ?c3 ?c4 ?c5 ?_)
      case c1 => exact hcs
      case c2 => intro y hy; simp [ivs] at hy; rcases hy with rfl | rfl <;> rfl
      case c3 => first | omega | (unfold maxLen; omega)
      case c4 => first | omega | simp
      case c5 => first | omega | (simp; omega)
      intro v' w3 hown3 hg3 _
      obtain ⟨A3, c3, rfl, _, _, _⟩ := (ownsRow_row hown3).form
      have hX3 : Ext w w3 := hX1.grown (grownBy_trans (World.grownBy_alloc _ _ _) hg3) (fun q hq => (hOV.lt q hq).1)
      have bZ3 : Blk w3 g 147 #[.bool false, .int .i64 0, .int .i64 0, .slice none 0 0] := Blk.apart (bZ1.ext hXA) hOV (by decide) hg3
      have o3 : OwnInts w.heap.size w3 (.slice A3 (3 + 2) c3) ([0, a, nt] ++ [f0 - 1, f1 - 1]) := by
        unfold OwnInts
        have e2 : ivs ([0, a, nt] ++ [f0 - 1, f1 - 1]) = ivs [0, a, nt] ++ ivs [f0 - 1, f1 - 1] := by simp [ivs]
        rw [e2]
        first | exact hown3 | (rw [hg]; exact hown3)
      clear hown3 hg3 hOV hXA hcs
      go_wp2_with fail
      refine (goM_c _ _ _ _ _ _).mono ?_
      rintro e w4 ⟨rfl, hx4⟩
      have hX4 := hX3.trans hx4
      have bZz := bZ3.ext hx4
      have ou4 := OwnInts.ext o3 hx4
      clear o3 bZ3 hX3 hx4
      have z0 := bZz.cell
      have z1 := bZz.frozen

      go_wp2_with fail
      refine bodyPost_ret (v := .agg #[.bool true, .int .i64 v, .int .i64 1, .slice A3 (3 + 2) c3]) (by simp [results, Tryz.results117, go_sem, z0]) rfl ?_

      rw [HE.out]
      exact mv_done hX4 bZz hgz (by simp [encM, HT.out]) ou4 (by simp)
  · have HE : Hid (actW m ⟨0, a, (tn : Int), 0, f0, f1, 0, 0⟩ v = ⟨v, 1, ⟨0, a, nt, 0, f0, f1, 0, 0⟩, false⟩) := Lib.hid (by rw [HLK.out, if_neg (fun hh => hv hh.1)])
    have hhas : decide ((-1 : Int) ∈ [f0 - 1, f1 - 1]) = true := by
      rw [decide_eq_true_iff]
      simp [lacksB, HT.out] at hlk
      simp
      omega
    have HAS := l00Has_c _ [f0 - 1, f1 - 1] (-1) w1 ou0.ints
    rw [hhas] at HAS
    go_wp2_with fail
    refine HAS.mono ?_
    rintro e w' ⟨rfl, rfl⟩
    have hOV : (w1.alloc (.cells #[.int .i64 0, .int .i64 a, .int .i64 nt] 2)).ownsRow w.heap.size 2 1 (.slice (some ⟨w1.heap.size, 0, none⟩) 3 3) 3 (ivs [0, a, nt]) := own_ivs (Blk.new _ _ _ _ rfl) hX1.size (by simp)
    have hXA := Ext.alloc w1 (.cells #[.int .i64 0, .int .i64 a, .int .i64 nt] 2)
    have hcs : ∀ j y, (ivs [f0 - 1, f1 - 1])[j]? = some y → (w1.alloc (.cells #[.int .i64 0, .int .i64 a, .int .i64 nt] 2)).cell? ((⟨gu, 0, none⟩ : Addr).add j) = some y := fun j y hj => by
      have hjl : j < 2 := by have := (List.getElem?_eq_some_iff.1 hj).1; simpa using this
      have := hXA.cell ((World.ownsRow.cellAt ou0 j (by simp; omega)).trans hj)
      by_cases hj0 : j = 0
      · subst hj0
        first | (simp [Addr.add]; done) | (simpa [Addr.add] using this)
      · first | (simp [Addr.add, hj0]; done) | (simpa [Addr.add, hj0] using this)
    have hsz : w.heap.size ≤ w1.heap.size := hX1.size
    clear HAS
    go_wp2_with (at_builtin; refine wpList_append_own _ rfl _ _ 44 rfl w.heap.size 2 i0 (.int .i64 0) 1 8 Tryz.underlying44 hi hz0 hz1 hz2 rfl (by decide) _ _ _ rfl hOV ⟨gu, 0, none⟩ 2 cu (ivs [f0 - 1, f1 - 1]) rfl rfl ?c1 ?c2 ?c3 ?c4 ?c5 ?_)
    case c1 => exact hcs
    case c2 => intro y hy; simp [ivs] at hy; rcases hy with rfl | rfl <;> rfl
    case c3 => first | omega | (unfold maxLen; omega)
    case c4 => first | omega | simp
    case c5 => first | omega | (simp; omega)
    intro v' w3 hown3 hg3 _
    obtain ⟨A3, c3, rfl, _, _, _⟩ := (ownsRow_row hown3).form
    have hX3 : Ext w w3 := hX1.grown (grownBy_trans (World.grownBy_alloc _ _ _) hg3) (fun q hq => (hOV.lt q hq).1)
    have bZ3 : Blk w3 g 147 #[.bool false, .int .i64 0, .int .i64 0, .slice none 0 0] := Blk.apart (bZ1.ext hXA) hOV (by decide) hg3
    have o3 : OwnInts w.heap.size w3 (.slice A3 (3 + 2) c3) ([0, a, nt] ++ [f0 - 1, f1 - 1]) := by
      unfold OwnInts
      have e2 : ivs ([0, a, nt] ++ [f0 - 1, f1 - 1]) = ivs [0, a, nt] ++ ivs [f0 - 1, f1 - 1] := by simp [ivs]
      rw [e2]
      first | exact hown3 | (rw [hg]; exact hown3)
    clear hown3 hg3 hOV hXA hcs
    go_wp2_with fail
    refine (goM_c _ _ _ _ _ _).mono ?_
    rintro e w4 ⟨rfl, hx4⟩
    have hX4 := hX3.trans hx4
    have bZz := bZ3.ext hx4
    have ou4 := OwnInts.ext o3 hx4
    clear o3 bZ3 hX3 hx4
    have z0 := bZz.cell
    have z1 := bZz.frozen

    go_wp2_with fail
    refine bodyPost_ret (v := .agg #[.bool true, .int .i64 v, .int .i64 1, .slice A3 (3 + 2) c3]) (by simp [results, Tryz.results117, go_sem, z0]) rfl ?_

    rw [HE.out]
    exact mv_done hX4 bZz hgz (by simp [encM, HT.out]) ou4 (by simp)
set_option maxRecDepth 20000 in
set_option maxHeartbeats 4000000 in
theorem sev0_3 (b : Nat) (m : MultiD) (a : Int) (tn : Nat) (f0 f1 f2 : Int) (v : Int) (pv : Value) (w : World) (h : MulAt w b m) (hm : multiOk m = true) (hT : m.tp = 3) (ht1 : tn < 3) (F0 : 0 ≤ f0 ∧ f0 ≤ m.sy) (F1 : 0 ≤ f1 ∧ f1 ≤ m.sy) (F2 : 0 ≤ f2 ∧ f2 ≤ m.sy) (hlk : lacksB m ⟨0, a, (tn : Int), 0, f0, f1, f2, 0⟩ = true) (v0 : 0 ≤ v) (v1 : v < 2 * m.sy) (hpv : Ints w pv [0, a, (tn : Int), f0 - 1, f1 - 1, f2 - 1]) :
    Calls Tryz.prog 117 #[.pointer (some ⟨b, 0, none⟩), pv, .int .i64 v] w (MoveResM m w (actW m ⟨0, a, (tn : Int), 0, f0, f1, f2, 0⟩ v)) := by
  obtain ⟨⟨tp1, tp2⟩, ⟨y1, y2⟩, ⟨s1, s2⟩, hrl, _⟩ := multi_all hm
  obtain ⟨g, hg⟩ : ∃ g, w.heap.size = g := ⟨_, rfl⟩
  obtain ⟨W, hW⟩ : ∃ W, W = w.alloc (.cells #[.bool false, .int .i64 0, .int .i64 0, .slice none 0 0] 147) := ⟨_, rfl⟩
  have hX : Ext w W := by rw [hW]; exact Ext.alloc _ _
  have bZ : Blk W g 147 #[.bool false, .int .i64 0, .int .i64 0, .slice none 0 0] := by rw [hW]; exact Blk.new _ _ _ _ hg
  have hsW : W.heap.size = g + 1 := by rw [hW]; simp [hg]
  have hWv := h.ext hX
  obtain ⟨A, cA, hb, hR⟩ := id hWv
  have a0 : W.cell? ⟨b, 0, none⟩ = some (.int .i64 m.tp) := hb.cell 0
  have a1 : W.cell? ⟨b, 1, none⟩ = some (.int .i64 m.sy) := hb.cell 1
  have a3 : W.cell? ⟨b, 3, none⟩ = some (.slice A m.rules.length cA) := hb.cell 3
  obtain ⟨Ap, cp, rfl, hl1, hl2⟩ := hpv.form
  obtain ⟨bp, op, rfl, hc⟩ := hpv.at (k := 0) (by simp)
  have e0 := hX.cell (hc 0 (by simp))
  have e1 := hX.cell (hc 1 (by simp))
  have e2 := hX.cell (hc 2 (by simp))
  have e3 := hX.cell (hc 3 (by simp))
  have e4 := hX.cell (hc 4 (by simp))
  have e5 := hX.cell (hc 5 (by simp))
  simp only [List.getElem_cons_zero, List.getElem_cons_succ, Nat.add_zero] at e0 e1 e2 e3 e4 e5
  obtain ⟨x, hx⟩ : ∃ x, v % m.sy = x := ⟨_, rfl⟩
  have hsy0 : ¬ m.sy = 0 := by omega
  have hxm : v.tmod m.sy = x := by rw [Int.tmod_eq_emod_of_nonneg v0]; exact hx
  have hx0 : 0 ≤ x ∧ x < m.sy := by rw [← hx]; exact ⟨Int.emod_nonneg _ (by omega), Int.emod_lt_of_pos _ (by omega)⟩
  have hgz : w.heap.size ≤ g := by omega
  have HXX := Lib.hid hx
  have hTL := tail3 (xs := [f0 - 1, f1 - 1, f2 - 1]) hpv (by simp) (by simpa using hl1) (by omega)
  simp only [List.length_cons, List.length_nil] at hTL
  have hcp : ¬ cp = 3 := by simp at hl1; omega
  have hcp3 : 3 ≤ cp := by simp at hl1; omega
  simp only [List.length_cons, List.length_nil]
  clear hpv hc hl1 hl2 hx hb
  go_enter Tryz.func117, Tryz.ntmps117
  go_upto_region 1 with fail
  try rw [← hW]
  try rw [hg]
  clear hW
  obtain ⟨i0, hi, hz0, hz1, hz2⟩ := info_parts intInfo
  obtain ⟨nt, hnt⟩ : ∃ nt, ((tn : Int) + 1) % m.tp = nt := ⟨_, rfl⟩
  have htm : ((tn : Int) + 1).tmod 3 = nt := by rw [← hT, Int.tmod_eq_emod_of_nonneg (by omega)]; exact hnt
  have hwt : IntKind.i64.wrap ((tn : Int) + 1) = (tn : Int) + 1 := IntWalk.i64_in _ (by omega)
  obtain ⟨fv, hfv⟩ : ∃ fv, fnd ⟨0, a, (tn : Int), 0, f0, f1, f2, 0⟩ (tn : Int) = fv := ⟨_, rfl⟩
  have hfv0 : 0 ≤ fv := by rw [← hfv]; unfold fnd; split <;> (try split) <;> simp only <;> omega
  have hfl : [f0 - 1, f1 - 1, f2 - 1][tn]? = some (fv - 1) := by
    rw [← hfv]
    have h3 : tn = 0 ∨ tn = 1 ∨ tn = 2 := by omega
    rcases h3 with rfl | rfl | rfl <;> rfl
  have HNX : Hid (nxtT m ⟨0, a, (tn : Int), 0, f0, f1, f2, 0⟩ = ⟨0, a, nt, 0, f0, f1, f2, 0⟩) := Lib.hid (by unfold nxtT withT; rw [hnt])
  have HLK : Hid (actW m ⟨0, a, (tn : Int), 0, f0, f1, f2, 0⟩ v = if m.sy ≤ v ∧ fv = 0 then
    (if lacksB m (seenP m ⟨0, a, (tn : Int), 0, f0, f1, f2, 0⟩ v) = true then ⟨v, 1, seenP m ⟨0, a, (tn : Int), 0, f0, f1, f2, 0⟩ v, false⟩
     else ruleP m (tn : Int) (findM m.rules (symsP m (seenP m ⟨0, a, (tn : Int), 0, f0, f1, f2, 0⟩ v)) m.rules.length))
    else ⟨v, 1, ⟨0, a, nt, 0, f0, f1, f2, 0⟩, false⟩) := Lib.hid (by
      show lkP m ⟨0, a, (tn : Int), 0, f0, f1, f2, 0⟩ v = _
      unfold lkP; rw [hfv, HNX.out])
  have HT := Lib.hid hT
  have OW := l00Own_c _ [f0 - 1, f1 - 1, f2 - 1] W (hTL.ext hX) (by simp) (by simp)
  rw [hT] at a0
  clear hnt hfv hT
  go_wp2_with fail
  refine OW.mono ?_
  rintro e w1 ⟨u, rfl, ou, hx1⟩
  have ou0 : OwnInts w.heap.size w1 u [f0 - 1, f1 - 1, f2 - 1] := ownsRow_base ou hX.size
  have hgu : ∀ q, u.ownBlock = some q → g + 1 ≤ q := fun q hq => by have := (World.ownsRow.lt ou q hq).1; omega
  obtain ⟨gu, cu, rfl, hgu1⟩ : ∃ gu cu, u = .slice (some ⟨gu, 0, none⟩) 3 cu ∧ True := by
    obtain ⟨Au, cu, rfl, _, _⟩ := id ou0.ints.form
    obtain ⟨gu, rfl, _, _⟩ := own_at ou0 (by simp)
    exact ⟨gu, cu, rfl, trivial⟩
  have hgu2 : g + 1 ≤ gu := hgu gu rfl
  have hX1 := hX.trans hx1
  have bZ1 := bZ.ext hx1
  have a01 := hx1.cell a0
  have a11 := hx1.cell a1
  have hW1 := hWv.ext hx1
  have q1 : w1.cell? ⟨gu, tn, none⟩ = some (.int .i64 (fv - 1)) := by
    have := World.ownsRow.cellAt ou0 tn (by simp; omega)
    rw [this]
    simp only [ivs, List.getElem?_map, hfl]
    rfl
  have hti : (tn : Int) < 3 := by omega
  clear OW ou hgu hgu1 hWv e0 e1 e2 e3 e4 e5 a0 a1 a3 hx1 hTL
  by_cases hv : m.sy ≤ v
  · by_cases hf : fv = 0
    · have HE0 : Hid (actW m ⟨0, a, (tn : Int), 0, f0, f1, f2, 0⟩ v = (if lacksB m (seenP m ⟨0, a, (tn : Int), 0, f0, f1, f2, 0⟩ v) = true then ⟨v, 1, seenP m ⟨0, a, (tn : Int), 0, f0, f1, f2, 0⟩ v, false⟩
           else ruleP m (tn : Int) (findM m.rules (symsP m (seenP m ⟨0, a, (tn : Int), 0, f0, f1, f2, 0⟩ v)) m.rules.length))) := Lib.hid (by rw [HLK.out, if_pos ⟨hv, hf⟩])
      obtain ⟨n0, hn0⟩ : ∃ y, (if (tn : Int) = 0 then v - m.sy + 1 else f0) = y := ⟨_, rfl⟩
      obtain ⟨n1, hn1⟩ : ∃ y, (if (tn : Int) = 1 then v - m.sy + 1 else f1) = y := ⟨_, rfl⟩
      obtain ⟨n2, hn2⟩ : ∃ y, (if (tn : Int) = 2 then v - m.sy + 1 else f2) = y := ⟨_, rfl⟩
      have hseen : seenP m ⟨0, a, (tn : Int), 0, f0, f1, f2, 0⟩ v = ⟨0, a, nt, 0, n0, n1, n2, 0⟩ := by
        unfold seenP; rw [HNX.out]; unfold withF; simp only [hn0, hn1, hn2]

      rw [hseen] at HE0
      have hvx : x = v - m.sy := by rw [← HXX.out, ← Int.sub_emod_right, Int.emod_eq_of_lt (by omega) (by omega)]
      have HSET : Hid ([f0 - 1, f1 - 1, f2 - 1].set tn x = [n0 - 1, n1 - 1, n2 - 1]) := Lib.hid (by
        rw [hvx, ← hn0, ← hn1, ← hn2]
        have h3 : tn = 0 ∨ tn = 1 ∨ tn = 2 := by omega
        rcases h3 with rfl | rfl | rfl <;> simp <;> omega)
      have N0 : 0 ≤ n0 ∧ n0 ≤ m.sy := by rw [← hn0]; split <;> omega
      have N1 : 0 ≤ n1 ∧ n1 ≤ m.sy := by rw [← hn1]; split <;> omega
      have N2 : 0 ≤ n2 ∧ n2 ≤ m.sy := by rw [← hn2]; split <;> omega
      have hlt0 : fv - 1 < 0 := by omega
      have ou2 := own_put ou0 (by simp) ht1 x
      rw [HSET.out] at ou2
      have qf : w1.frozen? ⟨gu, tn, none⟩ = false := by
        rcases ou0.2 with ⟨e, _⟩ | ⟨g', cap, cur, e, _, hh, _⟩
        · cases e
        · cases e
          exact Blk.frozen (show Blk w1 gu 2 cur from hh) tn
      obtain ⟨Y, hY⟩ : ∃ Y, Y = w1.setCell ⟨gu, tn, none⟩ (.int .i64 x) := ⟨_, rfl⟩
      have nZ : g ≠ gu := by omega
      have bZY : Blk Y g 147 #[.bool false, .int .i64 0, .int .i64 0, .slice none 0 0] := by rw [hY]; exact bZ1.far (p := ⟨gu, tn, none⟩) nZ _
      have hXY : Ext w Y := by rw [hY]; exact hX1.setCell (p := ⟨gu, tn, none⟩) (by show w.heap.size ≤ gu; omega) _
      have a0Y : Y.cell? ⟨b, 0, none⟩ = some (.int .i64 3) := by
        obtain ⟨_, _, hb, _⟩ := h
        have := (hb.ext hXY).cell 0
        rw [← HT.out]
        exact this
      rw [← hY] at ou2
      clear hn0 hn1 hn2 hseen hvx ou0 bZ1 hX1 a01 hlk hf hW1
      go_upto_region 13 with fail
      try rw [← hY]
      clear hY q1 qf a11 hlt0
      obtain ⟨lk, hlk⟩ : ∃ y, lacksB m ⟨0, a, nt, 0, n0, n1, n2, 0⟩ = y := ⟨_, rfl⟩
      rw [hlk] at HE0
      cases lk with
      | true =>
        have HE : Hid (actW m ⟨0, a, (tn : Int), 0, f0, f1, f2, 0⟩ v = ⟨v, 1, ⟨0, a, nt, 0, n0, n1, n2, 0⟩, false⟩) := Lib.hid (by rw [HE0.out, if_pos rfl])
        have hhas : decide ((-1 : Int) ∈ [n0 - 1, n1 - 1, n2 - 1]) = true := by
          rw [decide_eq_true_iff]
          simp [lacksB, HT.out] at hlk
          simp
          omega
        have HAS := l00Has_c _ [n0 - 1, n1 - 1, n2 - 1] (-1) Y ou2.ints
        rw [hhas] at HAS
        go_wp2_with fail
        refine HAS.mono ?_
        rintro e w' ⟨rfl, rfl⟩
        have hOV : (Y.alloc (.cells #[.int .i64 0, .int .i64 a, .int .i64 nt] 2)).ownsRow w.heap.size 2 1 (.slice (some ⟨Y.heap.size, 0, none⟩) 3 3) 3 (ivs [0, a, nt]) := own_ivs (Blk.new _ _ _ _ rfl) hXY.size (by simp)
        have hXA := Ext.alloc Y (.cells #[.int .i64 0, .int .i64 a, .int .i64 nt] 2)
        have hcs : ∀ j y, (ivs [n0 - 1, n1 - 1, n2 - 1])[j]? = some y → (Y.alloc (.cells #[.int .i64 0, .int .i64 a, .int .i64 nt] 2)).cell? ((⟨gu, 0, none⟩ : Addr).add j) = some y := fun j y hj => by
          have hjl : j < 3 := by have := (List.getElem?_eq_some_iff.1 hj).1; simpa using this
          have := hXA.cell ((World.ownsRow.cellAt ou2 j (by simp; omega)).trans hj)
          by_cases hj0 : j = 0
          · subst hj0
            first | (simp [Addr.add]; done) | (simpa [Addr.add] using this)
          · first | (simp [Addr.add, hj0]; done) | (simpa [Addr.add, hj0] using this)
        have hsz : w.heap.size ≤ Y.heap.size := hXY.size
        clear HAS
        go_wp2_with (at_builtin; refine wpList_append_own _ rfl _ _ 44 rfl w.heap.size 2 i0 (.int .i64 0) 1 8 Tryz.underlying44 hi hz0 hz1 hz2 rfl (by decide) _ _ _ rfl hOV ⟨gu, 0, none⟩ 3 cu (ivs [n0 - 1, n1 - 1, n2 - 1]) rfl rfl ?c1 ?c2 ?c3 ?c4 ?c5 ?_)
        case c1 => exact hcs
        case c2 => intro y hy; simp [ivs] at hy; rcases hy with rfl | rfl | rfl <;> rfl
        case c3 => first | omega | (unfold maxLen; omega)
        case c4 => first | omega | simp
        case c5 => first | omega | (simp; omega)
        intro v' w3 hown3 hg3 _
        obtain ⟨A3, c3, rfl, _, _, _⟩ := (ownsRow_row hown3).form
        have hX3 : Ext w w3 := hXY.grown (grownBy_trans (World.grownBy_alloc _ _ _) hg3) (fun q hq => (hOV.lt q hq).1)
        have bZ3 : Blk w3 g 147 #[.bool false, .int .i64 0, .int .i64 0, .slice none 0 0] := Blk.apart (bZY.ext hXA) hOV (by decide) hg3
        have o3 : OwnInts w.heap.size w3 (.slice A3 (3 + 3) c3) ([0, a, nt] ++ [n0 - 1, n1 - 1, n2 - 1]) := by
          unfold OwnInts
          have e2 : ivs ([0, a, nt] ++ [n0 - 1, n1 - 1, n2 - 1]) = ivs [0, a, nt] ++ ivs [n0 - 1, n1 - 1, n2 - 1] := by simp [ivs]
          rw [e2]
          first | exact hown3 | (rw [hg]; exact hown3)
        clear hown3 hg3 hOV hXA hcs
        go_wp2_with fail
        refine (goM_c _ _ _ _ _ _).mono ?_
        rintro e w4 ⟨rfl, hx4⟩
        have hX4 := hX3.trans hx4
        have bZz := bZ3.ext hx4
        have ou4 := OwnInts.ext o3 hx4
        clear o3 bZ3 hX3 hx4
        have z0 := bZz.cell
        have z1 := bZz.frozen

        go_wp2_with fail
        refine bodyPost_ret (v := .agg #[.bool true, .int .i64 v, .int .i64 1, .slice A3 (3 + 3) c3]) (by simp [results, Tryz.results117, go_sem, z0]) rfl ?_

        rw [HE.out]
        exact mv_done hX4 bZz hgz (by simp [encM, HT.out]) ou4 (by simp)
      | false =>
        have hhas : decide ((-1 : Int) ∈ [n0 - 1, n1 - 1, n2 - 1]) = false := by
          rw [decide_eq_false_iff_not]
          simp [lacksB, HT.out] at hlk
          simp
          omega
        have HAS := l00Has_c _ [n0 - 1, n1 - 1, n2 - 1] (-1) Y ou2.ints
        rw [hhas] at HAS
        have hMY := h.ext hXY
        obtain ⟨Ar, cr, hbr, hrr⟩ := id hMY
        have RU := l06RuleOf_c b m _ _ a [n0 - 1, n1 - 1, n2 - 1] Y hbr hrr ou2.ints
        go_wp2_with fail
        refine HAS.mono ?_
        rintro e w' ⟨rfl, rfl⟩
        clear HAS
        go_wp2_with fail
        refine RU.mono ?_
        rintro e w5 ⟨z, rfl, hz, hx5⟩
        have hzi := rule_ix hm (by simp [HT.out]) hz
        have hkey : symsP m ⟨0, a, nt, 0, n0, n1, n2, 0⟩ = key3 a [n0 - 1, n1 - 1, n2 - 1] := by simp [symsP, key3, HT.out]
        rw [if_neg (by simp), hkey] at HE0
        have hX5 := hXY.trans hx5
        have bZ5 := bZY.ext hx5
        clear RU hz hkey hbr hrr ou2 bZY
        obtain ⟨ob, hob⟩ : ∃ ob, findM m.rules (key3 a [n0 - 1, n1 - 1, n2 - 1]) m.rules.length = ob := ⟨_, rfl⟩
        rw [hob] at hzi HE0
        cases ob with
        | none =>
          have hzi' : z = -1 := hzi
          subst hzi'
          have HE : Hid (actW m ⟨0, a, (tn : Int), 0, f0, f1, f2, 0⟩ v = noW) := Lib.hid HE0.out
          have z0 := bZ5.cell
          have z1 := bZ5.frozen
          clear hob a0Y
          go_wp2_with fail
          refine bodyPost_ret (v := .agg #[.bool false, .int .i64 0, .int .i64 0, .slice none 0 0]) (by simp [results, Tryz.results117, go_sem, z0]) rfl ?_
          rw [HE.out]
          exact ⟨.inl ⟨rfl, rfl⟩, by repeat (first | with_reducible exact hX5 | refine Ext.setCell ?_ hgz _)⟩
        | some i =>
          have hzi' : z = (i : Int) := hzi
          subst hzi'
          have hil := findM_lt hob
          have HE : Hid (actW m ⟨0, a, (tn : Int), 0, f0, f1, f2, 0⟩ v = putP m (i : Int) (tn : Int) 0) := Lib.hid HE0.out
          have PC := putS_c b m (i : Int) (tn : Int) 0 w5 (hMY.ext hx5) hm (by omega) (by omega) (by omega) (by have := HT.out; omega) (by omega) (by omega)
          have hno : (putP m (i : Int) (tn : Int) 0).no = false := by unfold putP; split <;> rfl
          obtain ⟨q, hq⟩ : ∃ q, putP m (i : Int) (tn : Int) 0 = q := ⟨_, rfl⟩
          rw [hq] at PC HE hno
          clear hq hob
          have hi0 : ¬ (i : Int) < 0 := by omega
          go_wp2_with fail
          refine PC.mono ?_
          rintro e w6 ⟨hres, hx6⟩
          rcases hres with ⟨hy, _⟩ | ⟨_, Au, c6, rfl, ou⟩
          · rw [hno] at hy; exact absurd hy (by simp)
          · obtain ⟨qw, qm, qp, qn⟩ := q
            simp only at hno ou ⊢
            subst hno
            obtain ⟨L, hL⟩ : ∃ L, (encM m qp).length = L := ⟨_, rfl⟩
            rw [hL] at ou ⊢
            have HL := Lib.hid hL
            clear hL PC
            have hX6 := hX5.trans hx6
            have bZz := bZ5.ext hx6
            have ou6 : OwnInts w.heap.size w6 (.slice Au L c6) (encM m qp) := ownsRow_base ou hX5.size
            have z0 := bZz.cell
            have z1 := bZz.frozen

            go_wp2_with fail
            refine bodyPost_ret (v := .agg #[.bool true, .int .i64 qw, .int .i64 qm, .slice Au L c6]) (by simp [results, Tryz.results117, go_sem, z0]) rfl ?_
            show MoveResM m w (actW m ⟨0, a, (tn : Int), 0, f0, f1, f2, 0⟩ v) _ _
            rw [HE.out]
            exact mv_done hX6 bZz hgz rfl ou6 HL.out.symm
    · have hge0 : ¬ fv - 1 < 0 := by omega
      have hge1 : 0 ≤ fv - 1 := by omega
      have HE : Hid (actW m ⟨0, a, (tn : Int), 0, f0, f1, f2, 0⟩ v = ⟨v, 1, ⟨0, a, nt, 0, f0, f1, f2, 0⟩, false⟩) := Lib.hid (by rw [HLK.out, if_neg (fun hh => hf hh.2)])
      have hhas : decide ((-1 : Int) ∈ [f0 - 1, f1 - 1, f2 - 1]) = true := by
        rw [decide_eq_true_iff]
        simp [lacksB, HT.out] at hlk
        simp
        omega
      have HAS := l00Has_c _ [f0 - 1, f1 - 1, f2 - 1] (-1) w1 ou0.ints
      rw [hhas] at HAS
      go_wp2_with fail
      refine HAS.mono ?_
      rintro e w' ⟨rfl, rfl⟩
      have hOV : (w1.alloc (.cells #[.int .i64 0, .int .i64 a, .int .i64 nt] 2)).ownsRow w.heap.size 2 1 (.slice (some ⟨w1.heap.size, 0, none⟩) 3 3) 3 (ivs [0, a, nt]) := own_ivs (Blk.new _ _ _ _ rfl) hX1.size (by simp)
      have hXA := Ext.alloc w1 (.cells #[.int .i64 0, .int .i64 a, .int .i64 nt] 2)
      have hcs : ∀ j y, (ivs [f0 - 1, f1 - 1, f2 - 1])[j]? = some y → (w1.alloc (.cells #[.int .i64 0, .int .i64 a, .int .i64 nt] 2)).cell? ((⟨gu, 0, none⟩ : Addr).add j) = some y := fun j y hj => by
        have hjl : j < 3 := by have := (List.getElem?_eq_some_iff.1 hj).1; simpa using this
        have := hXA.cell ((World.ownsRow.cellAt ou0 j (by simp; omega)).trans hj)
        by_cases hj0 : j = 0
        · subst hj0
          first | (simp [Addr.add]; done) | (simpa [Addr.add] using this)
        · first | (simp [Addr.add, hj0]; done) | (simpa [Addr.add, hj0] using this)
      have hsz : w.heap.size ≤ w1.heap.size := hX1.size
      clear HAS
      go_wp2_with (at_builtin; refine wpList_append_own _ rfl _ _ 44 rfl w.heap.size 2 i0 (.int .i64 0) 1 8 Tryz.underlying44 hi hz0 hz1 hz2 rfl (by decide) _ _ _ rfl hOV ⟨gu, 0, none⟩ 3 cu (ivs [f0 - 1, f1 - 1, f2 - 1]) rfl rfl ?c1 ?c2 ?c3 ?c4 ?c5 ?_)
      case c1 => exact hcs
      case c2 => intro y hy; simp [ivs] at hy; rcases hy with rfl | rfl | rfl <;> rfl
      case c3 => first | omega | (unfold maxLen; omega)
      case c4 => first | omega | simp
      case c5 => first | omega | (simp; omega)
      intro v' w3 hown3 hg3 _
      obtain ⟨A3, c3, rfl, _, _, _⟩ := (ownsRow_row hown3).form
      have hX3 : Ext w w3 := hX1.grown (grownBy_trans (World.grownBy_alloc _ _ _) hg3) (fun q hq => (hOV.lt q hq).1)
      have bZ3 : Blk w3 g 147 #[.bool false, .int .i64 0, .int .i64 0, .slice none 0 0] := Blk.apart (bZ1.ext hXA) hOV (by decide) hg3
      have o3 : OwnInts w.heap.size w3 (.slice A3 (3 + 3) c3) ([0, a, nt] ++ [f0 - 1, f1 - 1, f2 - 1]) := by
        unfold OwnInts
        have e2 : ivs ([0, a, nt] ++ [f0 - 1, f1 - 1, f2 - 1]) = ivs [0, a, nt] ++ ivs [f0 - 1, f1 - 1, f2 - 1] := by simp [ivs]
        rw [e2]
        first | exact hown3 | (rw [hg]; exact hown3)
      clear hown3 hg3 hOV hXA hcs
      go_wp2_with fail
      refine (goM_c _ _ _ _ _ _).mono ?_
      rintro e w4 ⟨rfl, hx4⟩
      have hX4 := hX3.trans hx4
      have bZz := bZ3.ext hx4
      have ou4 := OwnInts.ext o3 hx4
      clear o3 bZ3 hX3 hx4
      have z0 := bZz.cell
      have z1 := bZz.frozen

      go_wp2_with fail
      refine bodyPost_ret (v := .agg #[.bool true, .int .i64 v, .int .i64 1, .slice A3 (3 + 3) c3]) (by simp [results, Tryz.results117, go_sem, z0]) rfl ?_

      rw [HE.out]
      exact mv_done hX4 bZz hgz (by simp [encM, HT.out]) ou4 (by simp)
  · have HE : Hid (actW m ⟨0, a, (tn : Int), 0, f0, f1, f2, 0⟩ v = ⟨v, 1, ⟨0, a, nt, 0, f0, f1, f2, 0⟩, false⟩) := Lib.hid (by rw [HLK.out, if_neg (fun hh => hv hh.1)])
    have hhas : decide ((-1 : Int) ∈ [f0 - 1, f1 - 1, f2 - 1]) = true := by
      rw [decide_eq_true_iff]
      simp [lacksB, HT.out] at hlk
      simp
      omega
    have HAS := l00Has_c _ [f0 - 1, f1 - 1, f2 - 1] (-1) w1 ou0.ints
    rw [hhas] at HAS
    go_wp2_with fail
    refine HAS.mono ?_
    rintro e w' ⟨rfl, rfl⟩
    have hOV : (w1.alloc (.cells #[.int .i64 0, .int .i64 a, .int .i64 nt] 2)).ownsRow w.heap.size 2 1 (.slice (some ⟨w1.heap.size, 0, none⟩) 3 3) 3 (ivs [0, a, nt]) := own_ivs (Blk.new _ _ _ _ rfl) hX1.size (by simp)
    have hXA := Ext.alloc w1 (.cells #[.int .i64 0, .int .i64 a, .int .i64 nt] 2)
    have hcs : ∀ j y, (ivs [f0 - 1, f1 - 1, f2 - 1])[j]? = some y → (w1.alloc (.cells #[.int .i64 0, .int .i64 a, .int .i64 nt] 2)).cell? ((⟨gu, 0, none⟩ : Addr).add j) = some y := fun j y hj => by
      have hjl : j < 3 := by have := (List.getElem?_eq_some_iff.1 hj).1; simpa using this
      have := hXA.cell ((World.ownsRow.cellAt ou0 j (by simp; omega)).trans hj)
      by_cases hj0 : j = 0
      · subst hj0
        first | (simp [Addr.add]; done) | (simpa [Addr.add] using this)
      · first | (simp [Addr.add, hj0]; done) | (simpa [Addr.add, hj0] using this)
    have hsz : w.heap.size ≤ w1.heap.size := hX1.size
    clear HAS
    go_wp2_with (at_builtin; refine wpList_append_own _ rfl _ _ 44 rfl w.heap.size 2 i0 (.int .i64 0) 1 8 Tryz.underlying44 hi hz0 hz1 hz2 rfl (by decide) _ _ _ rfl hOV ⟨gu, 0, none⟩ 3 cu (ivs [f0 - 1, f1 - 1, f2 - 1]) rfl rfl ?c1 ?c2 ?c3 ?c4 ?c5 ?_)
    case c1 => exact hcs
    case c2 => intro y hy; simp [ivs] at hy; rcases hy with rfl | rfl | rfl <;> rfl
    case c3 => first | omega | (unfold maxLen; omega)
    case c4 => first | omega | simp
    case c5 => first | omega | (simp; omega)
    intro v' w3 hown3 hg3 _
    obtain ⟨A3, c3, rfl, _, _, _⟩ := (ownsRow_row hown3).form
    have hX3 : Ext w w3 := hX1.grown (grownBy_trans (World.grownBy_alloc _ _ _) hg3) (fun q hq => (hOV.lt q hq).1)
    have bZ3 : Blk w3 g 147 #[.bool false, .int .i64 0, .int .i64 0, .slice none 0 0] := Blk.apart (bZ1.ext hXA) hOV (by decide) hg3
    have o3 : OwnInts w.heap.size w3 (.slice A3 (3 + 3) c3) ([0, a, nt] ++ [f0 - 1, f1 - 1, f2 - 1]) := by
      unfold OwnInts
      have e2 : ivs ([0, a, nt] ++ [f0 - 1, f1 - 1, f2 - 1]) = ivs [0, a, nt] ++ ivs [f0 - 1, f1 - 1, f2 - 1] := by simp [ivs]
      rw [e2]
      first | exact hown3 | (rw [hg]; exact hown3)
    clear hown3 hg3 hOV hXA hcs
    go_wp2_with fail
    refine (goM_c _ _ _ _ _ _).mono ?_
    rintro e w4 ⟨rfl, hx4⟩
    have hX4 := hX3.trans hx4
    have bZz := bZ3.ext hx4
    have ou4 := OwnInts.ext o3 hx4
    clear o3 bZ3 hX3 hx4
    have z0 := bZz.cell
    have z1 := bZz.frozen

    go_wp2_with fail
    refine bodyPost_ret (v := .agg #[.bool true, .int .i64 v, .int .i64 1, .slice A3 (3 + 3) c3]) (by simp [results, Tryz.results117, go_sem, z0]) rfl ?_

    rw [HE.out]
    exact mv_done hX4 bZz hgz (by simp [encM, HT.out]) ou4 (by simp)
end Go.Proofs.YtfghojbbofobeaaGreatDoor
end
section
set_option linter.unusedSimpArgs false
set_option linter.unusedVariables false
namespace Go.Proofs.YtfghojbbofobeaaGreatDoor
open Go Go.RowKit Go.Proofs Go.Maps
set_option maxHeartbeats 400000
theorem l13Several_c (b : Nat) (m : MultiD) (p : MP) (v : Int) (pv : Value) (w : World) (hM : MulAt w b m) (hm : multiOk m = true) (hp : WOk m p) (v0 : 0 ≤ v) (v1 : v < 2 * m.sy) (hpv : Ints w pv (encM m p)) :
    Calls Tryz.prog 117 #[.pointer (some ⟨b, 0, none⟩), pv, .int .i64 v] w (MoveResM m w (actW m p v)) := by
  obtain ⟨⟨tp1, tp2⟩, _⟩ := multi_all hm
  obtain ⟨t0, t1, c0, c1, d0, d7, F0, F1, F2, kd⟩ := hp
  obtain ⟨k, a, t, c, f0, f1, f2, d⟩ := p
  simp only at t0 t1 c0 c1 d0 d7 F0 F1 F2 kd
  obtain ⟨tn, rfl⟩ : ∃ n : Nat, t = (n : Int) := ⟨t.toNat, by omega⟩
  rcases kd with ⟨rfl, a0, a1, rfl, rfl, hl, hf⟩ | ⟨hk, a0, a1, rfl, rfl, rfl⟩ | ⟨rfl, a0, a1, rfl, rfl, rfl, rfl⟩ | ⟨rfl, a0, a1, hc, ht, rfl, rfl, rfl, rfl⟩
  · have hT : m.tp = 2 ∨ m.tp = 3 := by omega
    rcases hT with hT | hT
    · obtain rfl := hf hT
      exact sev0_2 b m a tn f0 f1 v pv w hM hm hT (by omega) F0 F1 hl v0 v1 (by simpa [encM, hT] using hpv)
    · exact sev0_3 b m a tn f0 f1 f2 v pv w hM hm hT (by omega) F0 F1 F2 hl v0 v1 (by simpa [encM, hT] using hpv)
  · obtain ⟨j, rfl⟩ : ∃ n : Nat, a = (n : Int) := ⟨a.toNat, by omega⟩
    rcases hk with rfl | rfl
    · exact sev1_c b m j tn c d v pv w hM hm a1 t1 c0 c1 v0 v1 (by simpa [encM] using hpv)
    · exact sev2_c b m j tn c d v pv w hM hm a1 t1 c0 c1 v0 v1 (by simpa [encM] using hpv)
  · obtain ⟨j, rfl⟩ : ∃ n : Nat, a = (n : Int) := ⟨a.toNat, by omega⟩
    exact sev3_c b m j tn d v pv w hM hm a1 t1 d0 d7 v0 v1 (by simpa [encM] using hpv)
  · obtain rfl : tn = 0 := by omega
    exact sev4_c b m a c v pv w hM hm hc c1 v0 v1 (by simpa [encM] using hpv)
end Go.Proofs.YtfghojbbofobeaaGreatDoor
end
section
set_option linter.unusedSimpArgs false
set_option linter.unusedVariables false
namespace Go.Proofs.YtfghojbbofobeaaGreatDoor
open Go Go.RowKit Go.Proofs
set_option maxHeartbeats 4000000
/-- The maker, in memory. -/
structure MkM (base : Nat) (w : World) (bk b : Nat) (m : MultiD) (sy st : Int) (rs : List RuleD) (ps : List MP) (rv pv : Value) (vs : List Value) : Prop where
  blk : Blk w bk 63 #[.pointer none, .pointer (some ⟨b, 0, none⟩), .int .i64 2, pv, .int .i64 sy, .int .i64 st, rv]
  rules : OwnRules base w rv rs
  places : w.ownsRow base 44 1 pv ps.length vs
  rows : ∀ (i : Nat) (p : MP), ps[i]? = some p → ∃ u, vs[i]? = some u ∧ OwnInts base w u (encM m p)
  low : base ≤ bk
section
variable {base : Nat} {w w' : World} {bk b : Nat} {m : MultiD} {sy st : Int} {rs : List RuleD} {ps : List MP} {rv pv v' : Value} {vs : List Value}
theorem MkM.ext (h : MkM base w bk b m sy st rs ps rv pv vs) (he : Ext w w') : MkM base w' bk b m sy st rs ps rv pv vs :=
  ⟨h.blk.ext he, h.rules.ext he, ownsRow_ext h.places he, fun i p hp => by obtain ⟨u, e, hu⟩ := h.rows i p hp; exact ⟨u, e, hu.ext he⟩, h.low⟩
theorem MkM.ruled (h : MkM base w bk b m sy st rs ps rv pv vs) {r : RuleD} (hown : w'.ownsRow base 150 3 v' (rs.length + 1) (rvs rs ++ [.int .i64 r.w, .int .i64 r.m, .int .i64 r.n])) (hg : w.grownBy w' rv.ownBlock) :
    MkM base (w'.setCell ⟨bk, 6, none⟩ v') bk b m sy st (rs ++ [r]) ps v' pv vs := by
  have B5 := Blk.apart h.blk h.rules (by decide) hg
  have P5 := World.ownsRow.kept h.places hg (own_ne h.places h.rules (by decide))
  have hgs := grownBy_setCell w' ⟨bk, 6, none⟩ v'
  refine ⟨B5.set_ 6 v', ?_, own_kept P5 hgs (blk_ne_row B5 P5 (by decide)), fun i p hp => ?_, h.low⟩
  · have := own_kept hown hgs (blk_ne_row B5 hown (by decide))
    unfold OwnRules
    rw [rvs_append]
    simpa [rvs] using this
  · obtain ⟨u, e, hu⟩ := h.rows i p hp
    have hu5 := World.ownsRow.kept hu hg (own_ne hu h.rules (by decide))
    exact ⟨u, e, own_kept hu5 hgs (blk_ne_row B5 hu5 (by decide))⟩
theorem MkM.added (h : MkM base w bk b m sy st rs ps rv pv vs) {u : Value} {x : MP} (hu : OwnInts base w u (encM m x)) (hown : w'.ownsRow base 44 1 v' (ps.length + 1) (vs ++ [u])) (hg : w.grownBy w' pv.ownBlock) :
    MkM base (w'.setCell ⟨bk, 3, none⟩ v') bk b m sy st rs (ps ++ [x]) rv v' (vs ++ [u]) := by
  have B5 := Blk.apart h.blk h.places (by decide) hg
  have R5 : OwnRules base w' rv rs := World.ownsRow.kept h.rules hg (own_ne h.rules h.places (by decide))
  have hgs := grownBy_setCell w' ⟨bk, 3, none⟩ v'
  have hl := h.places.1
  have keep : ∀ {y : Value} {zs : List Int}, OwnInts base w y zs → OwnInts base (w'.setCell ⟨bk, 3, none⟩ v') y zs := fun hy => by
    have h5 := World.ownsRow.kept hy hg (own_ne hy h.places (by decide))
    exact own_kept h5 hgs (blk_ne_row B5 h5 (by decide))
  refine ⟨B5.set_ 3 v', own_kept R5 hgs (blk_ne_row B5 R5 (by decide)), ?_, fun i p hp => ?_, h.low⟩
  · have := own_kept hown hgs (blk_ne_row B5 hown (by decide))
    simpa using this
  · by_cases hi : i < ps.length
    · rw [List.getElem?_append_left hi] at hp
      obtain ⟨y, e, hy⟩ := h.rows i p hp
      exact ⟨y, by rw [List.getElem?_append_left (by omega), e], keep hy⟩
    · rw [List.getElem?_append_right (by omega)] at hp
      have h1 := (List.getElem?_eq_some_iff.1 hp).1
      have e0 : i - ps.length = 0 := by simp at h1; omega
      rw [e0] at hp
      simp at hp
      subst hp
      exact ⟨u, by rw [List.getElem?_append_right (by omega)]; have : i - vs.length = 0 := by omega
                   rw [this]; rfl, keep hu⟩
theorem MkM.form (h : MkM base w bk b m sy st rs ps rv pv vs) : ∃ A c, pv = .slice A ps.length c := by
  obtain ⟨A, c, e, _⟩ := (ownsRow_row h.places).form
  exact ⟨A, c, e⟩
theorem MkM.at {A : Option Addr} {c : Nat} (h : MkM base w bk b m sy st rs ps rv (.slice A ps.length c) vs) {k : Nat} {p : MP} (hp : ps[k]? = some p) :
    ∃ g A' c', A = some ⟨g, 0, none⟩ ∧ base ≤ g ∧ g < w.heap.size ∧ w.cell? ⟨g, k, none⟩ = some (.slice A' (encM m p).length c') ∧ OwnInts base w (.slice A' (encM m p).length c') (encM m p) := by
  have hk : k < ps.length := (List.getElem?_eq_some_iff.1 hp).1
  obtain ⟨g, rfl, hb, hl⟩ := own_at h.places (by omega)
  obtain ⟨u, e, hu⟩ := h.rows k p hp
  obtain ⟨A', c', rfl, _, _⟩ := hu.ints.form
  have q0 := h.places.cellAt k (by have := h.places.1; omega)
  rw [e] at q0
  exact ⟨g, A', c', rfl, hb, hl, q0, hu⟩
end
def findW (ps : List MP) (x : MP) : Int := if x ∈ ps then (ps.idxOf x : Nat) else -1
set_option maxRecDepth 20000 in
theorem findM_c {base : Nat} {w : World} {bk b : Nat} {m : MultiD} {sy st : Int} {rs : List RuleD} {ps : List MP} {rv pv : Value} {vs : List Value} (h : MkM base w bk b m sy st rs ps rv pv vs) (hm : multiOk m = true) (hok : ∀ p ∈ ps, WOk m p) (x : MP) (hx : WOk m x) (uv : Value) (hu : Ints w uv (encM m x)) (hn : ps.length ≤ 1000000) :
    Calls Tryz.prog 84 #[.pointer (some ⟨bk, 0, none⟩), uv] w fun e w' => e = .returned (.int .i64 (findW ps x)) ∧ Ext w w' := by
  obtain ⟨A, c, rfl⟩ := h.form
  obtain ⟨Au, cu, rfl, _, _⟩ := hu.form
  have HOK := Lib.hid hok
  clear hok
  go_enter Tryz.func84, Tryz.ntmps84
  go_wp2
  go_loopw [5] (fun i wr => ∃ k : Nat, k ≤ ps.length ∧ i = .int .i64 k ∧ Ext w wr ∧ Hid (∀ y ∈ ps.take k, y ≠ x)) (fun i _ => ps.length - (intOf i).toNat)
  case atStart => exact ⟨0, Nat.zero_le _, rfl, Ext.refl _, fun y hy => by simp at hy⟩
  case round =>
    obtain ⟨k, hk, rfl, hwr, hno⟩ := hrel
    have h' := h.ext hwr
    have c3 := h'.blk.cell 3
    simp only [List.getElem?_toArray, List.getElem?_cons_zero, List.getElem?_cons_succ] at c3
    by_cases hlt : k < ps.length
    · obtain ⟨p, hp⟩ : ∃ p, ps[k]? = some p := ⟨ps[k], List.getElem?_eq_getElem hlt⟩
      obtain ⟨g, A', c', rfl, _, _, q0, ho⟩ := h'.at hp
      have HP := Lib.hid (HOK.out p (List.mem_of_getElem? hp))
      go_wp2_with fail
      refine (l00Same_c _ _ _ _ _ ho.ints (hu.ext hwr)).mono ?_
      rintro e w' ⟨rfl, hx'⟩
      have hwr' := hwr.trans hx'
      clear hx'
      by_cases he : p = x
      · subst he
        have HR : Hid (findW ps p = (k : Int)) := by
          unfold Hid findW
          rw [if_pos (List.mem_of_getElem? hp)]
          congr 1
          have e1 : ps = ps.take k ++ p :: ps.drop (k + 1) := by
            have : ps[k] = p := by rw [List.getElem?_eq_getElem hlt] at hp; simpa using hp
            rw [← this, ← List.drop_eq_getElem_cons hlt, List.take_append_drop]
          rw [e1, List.idxOf_append, if_neg (fun hm => hno.out p hm rfl)]
          simp [List.idxOf_cons]
          omega
        rw [lEq_true rfl]
        go_wp2
        go_ret
        exact ⟨by rw [HR.out]; rfl, hwr'⟩
      · rw [lEq_false (fun e => he (encM_inj hm HP.out hx e))]
        go_wp2
        go_roundw
        case rel =>
          refine ⟨k + 1, by omega, by go_num, hwr', fun y hy => ?_⟩
          have : ps[k] = p := by rw [List.getElem?_eq_getElem hlt] at hp; simpa using hp
          rw [List.take_succ_eq_append_getElem hlt, this] at hy
          rcases List.mem_append.1 hy with h' | h'
          · exact hno.out y h'
          · simp at h'; subst h'; exact he
        case measure => simp [intOf]; omega
    · have HR : Hid (findW ps x = -1) := by
        unfold Hid findW
        rw [if_neg (fun hm => hno.out x (by rw [List.take_of_length_le (by omega)]; exact hm) rfl)]
      go_wp2
      go_ret
      exact ⟨by rw [HR.out]; rfl, hwr⟩
set_option maxRecDepth 20000 in
theorem moveM_c (bk b : Nat) (m : MultiD) (p : MP) (v : Int) (pv : Value) (x1 x3 x4 x5 x6 : Value) (w : World) (hB : Blk w bk 63 #[x1, .pointer (some ⟨b, 0, none⟩), .int .i64 2, x3, x4, x5, x6]) (hM : MulAt w b m) (hm : multiOk m = true) (hp : WOk m p) (v0 : 0 ≤ v) (v1 : v < 2 * m.sy) (hpv : Ints w pv (encM m p)) :
    Calls Tryz.prog 82 #[.pointer (some ⟨bk, 0, none⟩), pv, .int .i64 v] w (MoveResM m w (actW m p v)) := by
  obtain ⟨Ap, cp, rfl, _, _⟩ := hpv.form
  obtain ⟨W, hW⟩ : ∃ W, W = w.alloc (.cells #[.bool false, .int .i64 0, .int .i64 0, .slice none 0 0] 147) := ⟨_, rfl⟩
  have hXW : Ext w W := by rw [hW]; exact Ext.alloc _ _
  have bZ : Blk W w.heap.size 147 #[.bool false, .int .i64 0, .int .i64 0, .slice none 0 0] := by rw [hW]; exact Blk.new _ _ _ _ rfl
  have k0 := (hB.ext hXW).cell 1
  have k2 := (hB.ext hXW).cell 2
  simp only [List.getElem?_toArray, List.getElem?_cons_zero, List.getElem?_cons_succ] at k0 k2
  rw [hW] at k0 k2
  go_enter Tryz.func82, Tryz.ntmps82
  go_wp2_with fail
  rw [← hW]
  clear hW k0 k2
  refine (l13Several_c b m p v _ W (hM.ext hXW) hm hp v0 v1 (hpv.ext hXW)).mono ?_
  clear hp
  generalize actW m p v = a at *
  rintro e w1 ⟨hres, hx1⟩
  have z0 := (bZ.ext hx1).cell
  have z1 := (bZ.ext hx1).frozen
  have hlt := bZ.lt
  rcases hres with ⟨hno, rfl⟩ | ⟨hno, A1, c1, rfl, ho1⟩
  · go_wp2
    refine bodyPost_ret (v := .agg #[.bool false, .int .i64 0, .int .i64 0, .slice none 0 0]) (by simp [results, Tryz.results82, go_sem, z0]) rfl ?_
    exact ⟨.inl ⟨hno, rfl⟩, (((Ext.setCell (Ext.trans hXW hx1) (Nat.le_refl _) _).setCell (Nat.le_refl _) _).setCell (Nat.le_refl _) _).setCell (Nat.le_refl _) _⟩
  · generalize hen : (encM m a.p).length = n at *
    have HEN := Lib.hid hen
    clear hen
    go_wp2
    refine bodyPost_ret (v := .agg #[.bool true, .int .i64 a.w, .int .i64 a.m, .slice A1 n c1]) (by simp [results, Tryz.results82, go_sem, z0]) rfl ?_
    have hne' : ∀ k, (Value.slice A1 n c1).ownBlock = some k → k ≠ w.heap.size := fun k hk => by have := (World.ownsRow.lt ho1 k hk).1; omega
    have o2 : OwnInts w.heap.size w1 (.slice A1 n c1) (encM m a.p) := ownsRow_base ho1 (by omega)
    refine ⟨.inr ⟨hno, A1, c1, by rw [HEN.out], ?_⟩, (((Ext.setCell (Ext.trans hXW hx1) (Nat.le_refl _) _).setCell (Nat.le_refl _) _).setCell (Nat.le_refl _) _).setCell (Nat.le_refl _) _⟩
    rw [HEN.out]
    exact ownsRow_far (ownsRow_far (ownsRow_far (ownsRow_far o2 hne' _) hne' _) hne' _) hne' _
end Go.Proofs.YtfghojbbofobeaaGreatDoor
end
