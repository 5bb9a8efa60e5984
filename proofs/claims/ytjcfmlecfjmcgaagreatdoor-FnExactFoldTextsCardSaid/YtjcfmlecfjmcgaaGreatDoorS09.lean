/- Contracts of the program's tests on configurations and budgets. The machine is valid where its numbers are reckoned with.
Contracts of the reference's small functions on lists of numbers and on configurations. Lists are short. -/
import Derived.Test.YtjcfmlecfjmcgaaGreatDoorS05
import Derived.Test.YtjcfmlecfjmcgaaGreatDoorS04
import Derived.Test.YtjcfmlecfjmcgaaGreatDoorS08
import Derived.Maps.AppendAt
section
namespace Go.Proofs.YtjcfmlecfjmcgaaGreatDoor
open Go Go.RowKit Go.Proofs
set_option maxHeartbeats 400000
/-- A configuration. -/
structure ConfD where
  q : Int
  l : List Int
  r : List Int
deriving DecidableEq
def Conf (w : World) (v : Value) (c : ConfD) : Prop := ∃ lv rv, v = .agg #[.int .i64 c.q, lv, rv] ∧ Ints w lv c.l ∧ Ints w rv c.r
theorem Conf.ext {w w' : World} {v : Value} {c : ConfD} (h : Conf w v c) (he : Ext w w') : Conf w' v c := by
  obtain ⟨lv, rv, hv, h1, h2⟩ := h; exact ⟨lv, rv, hv, h1.ext he, h2.ext he⟩
/-- A side of a tape may stand so. -/
def sideOk (xs : List Int) (sy most : Int) : Bool := decide ((xs.length : Int) ≤ most) && (xs.all fun z => inB z 0 (sy - 1)) && (((xs.length : Int) == 0) || xs.getLastD 0 != 0)
theorem lastD_get {xs : List Int} (h : 0 < xs.length) : xs.getLastD 0 = xs[xs.length - 1] := by
  rw [List.getLastD_eq_getLast?, List.getLast?_eq_getElem?, List.getElem?_eq_getElem (by omega)]
  rfl
theorem validSide_c (v : Value) (xs : List Int) (sy most : Int) (w : World) (h : Ints w v xs) (h1 : 1 ≤ sy) (h2 : sy ≤ 1000000) :
    Calls Tryz.prog 90 #[v, .int .i64 sy, .int .i64 most] w fun e w' => e = .returned (.bool (sideOk xs sy most)) ∧ w = w' := by
  have h0 := h
  obtain ⟨A, c, rfl, h5, h5'⟩ := h.form
  by_cases hl : (xs.length : Int) ≤ most
  · have hld : decide ((xs.length : Int) ≤ most) = true := by simp [hl]
    go_enter Tryz.func90, Tryz.ntmps90
    go_wp2_with fail
    refine (sizeInt_c _ _ _ h0).mono ?_
    rintro e w' ⟨rfl, rfl⟩
    go_wp2_with fail
    refine (allWithin_c _ _ _ _ _ h0).mono ?_
    rintro e w' ⟨rfl, rfl⟩
    cases ha : (xs.all fun z => inB z 0 (sy - 1)) with
    | false =>
      have HE : Hid (sideOk xs sy most = false) := by unfold Hid; simp only [sideOk, ha]; simp
      go_wp2
      go_ret
      exact ⟨by simp [HE.out], rfl⟩
    | true =>
      have HA := Lib.hid ha
      clear ha
      by_cases hz : xs.length = 0
      · have hzb : ((xs.length : Int) == 0) = true := by simp [hz]
        have HE : Hid (sideOk xs sy most = true) := by unfold Hid; simp only [sideOk, HA.out, hzb, hld]; rfl
        clear hz
        go_wp2
        go_ret
        exact ⟨by simp [HE.out], rfl⟩
      · have hzb : ((xs.length : Int) == 0) = false := by rw [beq_eq_false_iff_ne]; omega
        have hlt : xs.length - 1 < xs.length := by omega
        obtain ⟨b, off, rfl, hc⟩ := h0.at hlt
        have c0 := hc (xs.length - 1) hlt
        have HE : Hid (sideOk xs sy most = (xs[xs.length - 1] != 0)) := by unfold Hid; simp only [sideOk, HA.out, hzb, hld, lastD_get (show 0 < xs.length by omega)]; rfl
        have i1 : (0 : Int) ≤ (xs.length : Int) - 1 := by omega
        have i2 : ((xs.length : Int) - 1) < (xs.length : Int) := by omega
        have i3 : ((xs.length : Int) - 1).toNat = xs.length - 1 := by omega
        clear hc h h0
        generalize xs[xs.length - 1] = z at *
        go_wp2
        go_ret
        exact ⟨by simp [HE.out], rfl⟩
  · have hld : decide ((xs.length : Int) ≤ most) = false := by simp; omega
    have HE : Hid (sideOk xs sy most = false) := by unfold Hid; simp only [sideOk, hld]; simp
    go_enter Tryz.func90, Tryz.ntmps90
    go_wp2_with fail
    refine (sizeInt_c _ _ _ h0).mono ?_
    rintro e w' ⟨rfl, rfl⟩
    go_wp2
    go_ret
    exact ⟨by simp [HE.out], rfl⟩
def confB (m : MachD) (c : ConfD) : Bool := inB c.q 0 (m.st - 1) && sideOk c.l m.sy 200 && sideOk c.r m.sy 200
theorem configOf_c (v u : Value) (m : MachD) (c : ConfD) (w : World) (hm : Mach w v m) (hc : Conf w u c) (h1 : 2 ≤ m.sy) (h2 : m.sy ≤ 6) (h3 : 1 ≤ m.st) (h4 : m.st ≤ 1000) :
    Calls Tryz.prog 57 #[v, u] w fun e w' => e = .returned (.bool (confB m c)) ∧ Ext w w' := by
  obtain ⟨rv, rfl, hr⟩ := hm
  obtain ⟨lv, qv, rfl, hcl, hcr⟩ := hc
  have hx0 := (Ext.alloc w (.cells #[.int .i64 m.sy, .int .i64 m.st, rv] 35)).trans (Ext.alloc _ (.cells #[.int .i64 c.q, lv, qv] 37))
  obtain ⟨Al, cl, rfl, _, _⟩ := hcl.form
  obtain ⟨Aq, cq, rfl, _, _⟩ := hcr.form
  go_enter Tryz.func57, Tryz.ntmps57
  go_wp2_with fail
  refine (within_c _ _ _ _).mono ?_
  rintro e w' ⟨rfl, rfl⟩
  cases ha : inB c.q 0 (m.st - 1) with
  | false =>
    have HE : Hid (confB m c = false) := by unfold Hid; simp only [confB, ha]; simp
    clear ha
    go_wp2
    go_ret
    exact ⟨by simp [HE.out], hx0⟩
  | true =>
    have HA := Lib.hid ha
    clear ha
    go_wp2_with fail
    refine (validSide_c _ _ _ _ _ (hcl.ext hx0) (by omega) (by omega)).mono ?_
    rintro e w' ⟨rfl, rfl⟩
    cases hb : sideOk c.l m.sy 200 with
    | false =>
      have HE : Hid (confB m c = false) := by unfold Hid; simp only [confB, hb]; simp
      clear hb
      go_wp2
      go_ret
      exact ⟨by simp [HE.out], hx0⟩
    | true =>
      have HE : Hid (confB m c = sideOk c.r m.sy 200) := by unfold Hid; simp only [confB, hb, HA.out]; simp
      clear hb
      go_wp2_with fail
      refine (validSide_c _ _ _ _ _ (hcr.ext hx0) (by omega) (by omega)).mono ?_
      rintro e w' ⟨rfl, rfl⟩
      go_wp2
      go_ret
      exact ⟨by simp [HE.out], hx0⟩
theorem machOk_bounds {m : MachD} (h : machOk m = true) : 2 ≤ m.sy ∧ m.sy ≤ 6 ∧ 1 ≤ m.st ∧ m.st ≤ 1000 := by
  simp only [machOk, inB, Bool.and_eq_true, decide_eq_true_eq] at h
  omega
theorem ValidConfig_c (v u : Value) (m : MachD) (c : ConfD) (w : World) (hm : Mach w v m) (hc : Conf w u c) :
    Calls Tryz.prog 28 #[v, u] w fun e w' => e = .returned (.bool (machOk m && confB m c)) ∧ Ext w w' := by
  obtain ⟨rv, rfl, hr⟩ := hm
  obtain ⟨lv, qv, rfl, hcl, hcr⟩ := hc
  obtain ⟨Ar, cr, rfl, _, _⟩ := hr.form
  obtain ⟨Al, cl, rfl, _, _⟩ := hcl.form
  obtain ⟨Aq, cq, rfl, _, _⟩ := hcr.form
  have hx0 := (Ext.alloc w (.cells #[.int .i64 m.sy, .int .i64 m.st, .slice Ar m.rules.length cr] 35)).trans (Ext.alloc _ (.cells #[.int .i64 c.q, .slice Al c.l.length cl, .slice Aq c.r.length cq] 37))
  have bM := (Blk.new w w.heap.size 35 #[.int .i64 m.sy, .int .i64 m.st, .slice Ar m.rules.length cr] rfl).alloc (.cells #[.int .i64 c.q, .slice Al c.l.length cl, .slice Aq c.r.length cq] 37)
  have bC := Blk.new (w.alloc (.cells #[.int .i64 m.sy, .int .i64 m.st, .slice Ar m.rules.length cr] 35)) (w.heap.size + 1) 37 #[.int .i64 c.q, .slice Al c.l.length cl, .slice Aq c.r.length cq] (by simp)
  go_enter Tryz.func28, Tryz.ntmps28
  go_wp2_with fail
  refine (ValidMachine_c _ m _ ⟨_, rfl, hr.ext hx0⟩).mono ?_
  rintro e w1 ⟨rfl, hx1⟩
  have hX1 := hx0.trans hx1
  cases ha : machOk m with
  | false =>
    go_wp2
    go_ret
    exact ⟨by simp [ha], hX1⟩
  | true =>
    obtain ⟨k1, k2, k3, k4⟩ := machOk_bounds ha
    have HA := Lib.hid ha
    clear ha
    have c0 := (bM.ext hx1).cell 0
    have c1 := (bM.ext hx1).cell 1
    have c2 := (bM.ext hx1).cell 2
    have d0 := (bC.ext hx1).cell 0
    have d1 := (bC.ext hx1).cell 1
    have d2 := (bC.ext hx1).cell 2
    simp only [List.getElem?_toArray, List.getElem?_cons_zero, List.getElem?_cons_succ] at c0 c1 c2 d0 d1 d2
    go_wp2_with fail
    refine (configOf_c _ _ m c _ ⟨_, rfl, hr.ext hX1⟩ ⟨_, _, rfl, hcl.ext hX1, hcr.ext hX1⟩ k1 k2 k3 k4).mono ?_
    rintro e w2 ⟨rfl, hx2⟩
    go_wp2
    go_ret
    exact ⟨by simp [HA.out], hX1.trans hx2⟩
def codeOf (m : MachD) (c : ConfD) (b : Int) : Int := if machOk m && confB m c then (if inB b 1 20000 then 0 else 2) else 1
def blankC : ConfD := ⟨0, [], []⟩
theorem conf_blank {m : MachD} (h : machOk m = true) : confB m blankC = true := by
  obtain ⟨_, _, _, _⟩ := machOk_bounds h
  simp [confB, blankC, sideOk, inB]
  omega
def budC (m : MachD) (b : Int) : Int := if machOk m then (if inB b 1 20000 then 0 else 2) else 1
theorem budC_eq (m : MachD) (b : Int) : codeOf m blankC b = budC m b := by
  unfold codeOf budC
  cases h : machOk m with
  | false => rfl
  | true => rw [conf_blank h]; rfl
theorem ints_nil (w : World) : Ints w (.slice none 0 0) [] := ⟨none, 0, rfl, Nat.le_refl _, by omega, rfl, fun h => by simp at h⟩
end Go.Proofs.YtjcfmlecfjmcgaaGreatDoor
end
section
namespace Go.Proofs.YtjcfmlecfjmcgaaGreatDoor
open Go Go.RowKit Go.Proofs
set_option maxHeartbeats 400000
theorem l00Has_c (v : Value) (zs : List Int) (n : Int) (w : World) (h : Ints w v zs) :
    Calls Tryz.prog 49 #[v, .int .i64 n] w fun e w' => e = .returned (.bool (decide (n ∈ zs))) ∧ w = w' := by
  obtain ⟨A, c, rfl, h2, h2'⟩ := h.form
  go_enter Tryz.func49, Tryz.ntmps49
  go_wp2
  go_loopw [5] (fun i wr => ∃ k : Nat, k ≤ zs.length ∧ i = .int .i64 k ∧ wr = w ∧ Hid (n ∉ zs.take k)) (fun i _ => zs.length - (intOf i).toNat)
  case atStart => exact ⟨0, Nat.zero_le _, rfl, rfl, by unfold Hid; simp⟩
  case round =>
    obtain ⟨k, hk, rfl, rfl, hno⟩ := hrel
    by_cases hlt : k < zs.length
    · obtain ⟨b, off, rfl, hc⟩ := h.at hlt
      have c0 := hc k hlt
      have HT := Lib.hid (List.take_succ_eq_append_getElem hlt)
      have HM := Lib.hid (List.getElem_mem hlt)
      generalize zs[k] = z at *
      clear hc
      by_cases he : z = n
      · subst he
        have HR : Hid (decide (z ∈ zs) = true) := by unfold Hid; simp [HM.out]
        go_wp2
        go_ret
        exact ⟨by rw [HR.out]; rfl, rfl⟩
      · have hb : (z == n) = false := by simp [he]
        go_wp2
        go_roundw
        case rel =>
          refine ⟨k + 1, by omega, by go_num, by first | rfl | trivial, ?_⟩
          unfold Hid
          rw [HT.out]
          intro hm
          rcases List.mem_append.1 hm with h' | h'
          · exact hno.out h'
          · simp at h'; exact he h'.symm
        case measure => simp [intOf]; omega
    · have HR : Hid (decide (n ∈ zs) = false) := by
        unfold Hid
        have := hno.out
        rw [List.take_of_length_le (by omega)] at this
        simp [this]
      go_wp2
      go_ret
      exact ⟨by rw [HR.out]; rfl, rfl⟩
theorem rev_snoc (zs : List Int) (k : Nat) (h : k < zs.length) : (zs.drop k).reverse = (zs.drop (k + 1)).reverse ++ [zs[k]] := by
  rw [List.drop_eq_getElem_cons h, List.reverse_cons]
set_option maxRecDepth 20000 in
set_option maxHeartbeats 1000000 in
theorem l03Reverse_c (v : Value) (zs : List Int) (w : World) (h : Ints w v zs) (hn : zs.length ≤ 1048576) :
    Calls Tryz.prog 50 #[v] w fun e w' => ∃ u, e = .returned u ∧ OwnInts w.heap.size w' u zs.reverse ∧ Ext w w' := by
  obtain ⟨A, c, rfl, h2, h2'⟩ := h.form
  obtain ⟨i0, hi, hz0, hz1, hz2⟩ := info_parts intInfo
  have hown0 : (w.alloc (.cells #[] 2)).ownsRow w.heap.size 2 1 (.slice (some ⟨w.heap.size, 0, none⟩) 0 0) 0 [] :=
    World.ownsRow_made (base := w.heap.size) (e := 2) (size := 1) w #[] 0 (Nat.le_refl _) (by unfold maxLen; omega) (by simp)
  go_enter Tryz.func50, Tryz.ntmps50
  go_wp2
  go_loopw [3, 4] (fun u i wr => ∃ (k : Nat), k ≤ zs.length ∧ i = .int .i64 ((k : Int) - 1) ∧ OwnInts w.heap.size wr u (zs.drop k).reverse ∧ Ext w wr) (fun _ i _ => ((intOf i) + 1).toNat)
  case atStart => exact ⟨zs.length, Nat.le_refl _, rfl, by simpa [OwnInts, ivs] using hown0, Ext.alloc _ _⟩
  case round =>
    obtain ⟨k, hk, rfl, ho, hx⟩ := hrel
    by_cases h0 : k = 0
    · subst h0
      have hd : decide (((0 : Nat) : Int) - 1 ≥ 0) = false := by decide
      obtain ⟨Au, cu, rfl, _, _⟩ := ho.ints.form
      go_wp2
      go_ret
      exact ⟨_, rfl, by simpa using ho, hx⟩
    · obtain ⟨j, rfl⟩ : ∃ j, k = j + 1 := ⟨k - 1, by omega⟩
      have hj : j < zs.length := by omega
      have e1 : (((j + 1 : Nat) : Int) - 1) = (j : Int) := by omega
      rw [e1]
      obtain ⟨b, off, rfl, hc⟩ := (h.ext hx).at hj
      have c0 := hc j hj
      have HR := Lib.hid (rev_snoc zs j hj)
      have hl : (zs.drop (j + 1)).reverse.length ≤ 1048576 := by simp; omega
      generalize zs[j] = z at *
      generalize (zs.drop (j + 1)).reverse = ys at *
      clear hc
      obtain ⟨Au, cu, rfl, _, _⟩ := ho.ints.form
      have ho1 : wr.ownsRow w.heap.size 2 1 (.slice Au ys.length cu) ys.length (ivs ys) := ho
      have ho' := ho1.alloc (.cells #[.int .i64 z] 2)
      have hs := hx.size
      go_wp2_with (at_builtin; refine wpList_append_own_at _ rfl _ _ 25 rfl w.heap.size 2 i0 (.int .i64 0) 1 8 Tryz.underlying25 hi hz0 hz1 hz2 rfl (by decide) _ _ _ rfl ho' ⟨wr.heap.size, 0, none⟩ 1 1 [.int .i64 z] rfl rfl (cell_one_new _ _ _) ?c2 ?c3 ?c4 ?c5 ?_)
      case c2 => intro u hu; simp at hu; subst hu; rfl
      case c3 => unfold maxLen; omega
      case c4 => omega
      case c5 => simp; omega
      intro v' w4 hown4 hg4 _ hloc
      obtain ⟨A', c', rfl, _, _, _⟩ := (ownsRow_row hown4).form
      have hx4 : Ext w w4 := (hx.trans (Ext.alloc _ _)).grown hg4 (fun k hk => (ho'.lt k hk).1)
      go_wp2
      go_roundw
      case rel => exact ⟨j, by omega, by go_num, by rw [HR.out]; simpa [OwnInts, ivs_append, ivs] using hown4, hx4⟩
      case measure => first | (simp [intOf]; done) | (simp [intOf]; omega)
theorem l13Cell_c (v : Value) (zs : List Int) (k : Nat) (w : World) (h : Ints w v zs) :
    Calls Tryz.prog 44 #[v, .int .i64 k] w fun e w' => e = .returned (.int .i64 (zs.getD k 0)) ∧ w = w' := by
  obtain ⟨A, c, rfl, h2, h2'⟩ := h.form
  by_cases hlt : k < zs.length
  · obtain ⟨b, off, rfl, hc⟩ := h.at hlt
    have c0 := hc k hlt
    have HR : Hid (zs.getD k 0 = zs[k]) := by unfold Hid; rw [List.getD_eq_getElem?_getD, List.getElem?_eq_getElem hlt]; rfl
    generalize zs[k] = z at *
    clear hc
    go_enter Tryz.func44, Tryz.ntmps44
    go_wp2
    go_ret
    exact ⟨by rw [HR.out]; rfl, rfl⟩
  · have HR : Hid (zs.getD k 0 = 0) := by unfold Hid; rw [List.getD_eq_getElem?_getD, List.getElem?_eq_none (by omega)]; rfl
    go_enter Tryz.func44, Tryz.ntmps44
    go_wp2
    go_ret
    exact ⟨by rw [HR.out]; rfl, rfl⟩
end Go.Proofs.YtjcfmlecfjmcgaaGreatDoor
end
