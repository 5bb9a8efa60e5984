/- What a door seat's rows share: the listed tables of the library, and the world that the program's own text lays.
Contracts of the reference's small parts of a run of a machine: copies, sides of the tape, the index of the rule.
Contracts of the reference's small parts of a run of a machine, continued. -/
import Derived.Test.YtjcfmlecfjmcgaaGreatDoorS03
import Derived.Test.YtjcfmlecfjmcgaaGreatDoorS07
import Derived.Test.YtjcfmlecfjmcgaaGreatDoorTie
import Derived.Lib.LaidTab
import Derived.Test.YtjcfmlecfjmcgaaGreatDoorS05
import Derived.Test.YtjcfmlecfjmcgaaGreatDoorS04
section
namespace Go.Proofs.YtjcfmlecfjmcgaaGreatDoor
open Go Go.RowKit Go.ChangeShapes Go.WideShapes Go.ChangeAt
theorem ownKn : ownKnob Tryz.prog.godebug = none := by kernel_rfl
theorem laidOutP : laidOutB Tryz.prog = true := by kernel_rfl
abbrev laid3 : List (String × DataW Unit) := Rows.fnExactFoldTextsRow.laid
theorem door_met (os : Os) (args : Array Value) : laidMetH Tryz.prog laid3 ((World.doorLaid Tryz.prog 24 os).forCall (fun _ _ => 0) ⟨#[], args, []⟩).memory :=
  laidMetH_of_parts3 (fuel := 8) (laidMet_of_run' 8 (by kernel_rfl) (by kernel_rfl)) (by kernel_rfl) (by kernel_rfl)
set_option maxRecDepth 100000 in
theorem tab_of_laid {W : World} (h : laidMetH Tryz.prog laid3 W) : Tab W := by
  rw [MakeChecks.laidMetH_plain _ _ _ (by kernel_rfl)] at h
  obtain ⟨ps, ⟨g0, t0, cs0, f0, p0, q0, hg0, ht0, hv0, hd0, ⟨g1, t1, cs1, f1, p1, q1, hg1, ht1, hv1, hd1, ⟨g2, t2, cs2, f2, p2, q2, hg2, ht2, hv2, hd2, _, _⟩, _⟩, _⟩, _, _⟩ := h
  obtain rfl := Option.some.inj ((show Tryz.prog.globalNamed "internal/strconv.uint64pow10" = some 0 by kernel_rfl).symm.trans hg2)
  obtain rfl := Option.some.inj ((show (Tryz.prog.globals[0]?).map (·.type) = some 190 by kernel_rfl).symm.trans ht2)
  show World.var? Tryz.prog W "internal/strconv.uint64pow10" = _
  rw [hv2, ← Lib.cells_of_tab Tryz.underlying190 Tryz.underlying183 (by kernel_rfl) (by kernel_rfl) (zs := Lib.pow10Tab) hd2]
end Go.Proofs.YtjcfmlecfjmcgaaGreatDoor
end
section
namespace Go.Proofs.YtjcfmlecfjmcgaaGreatDoor
open Go Go.RowKit Go.Proofs
set_option maxHeartbeats 400000
theorem l00Own0_c (A : Option Addr) (c : Nat) (w : World) :
    Calls Tryz.prog 79 #[.slice A 0 c] w fun e w' => ∃ u, e = .returned u ∧ OwnInts w.heap.size w' u [] ∧ Ext w w' := by
  have hown0 : (w.alloc (.cells #[] 2)).ownsRow w.heap.size 2 1 (.slice (some ⟨w.heap.size, 0, none⟩) 0 0) 0 [] :=
    World.ownsRow_made (base := w.heap.size) (e := 2) (size := 1) w #[] 0 (by simp) (by unfold maxLen; omega) (by simp)
  have HO := Lib.hid hown0
  clear hown0
  cases A with
  | none =>
    go_enter Tryz.func79, Tryz.ntmps79
    go_wp2
    go_ret
    exact ⟨_, rfl, HO.out, Ext.alloc _ _⟩
  | some a =>
    go_enter Tryz.func79, Tryz.ntmps79
    go_wp2
    go_ret
    exact ⟨_, rfl, HO.out, Ext.alloc _ _⟩
theorem l00OwnA_c (v : Value) (zs : List Int) (w : World) (h : Ints w v zs) (h1 : zs.length ≤ 1048576) :
    Calls Tryz.prog 79 #[v] w fun e w' => ∃ u, e = .returned u ∧ OwnInts w.heap.size w' u zs ∧ Ext w w' := by
  by_cases h0 : 0 < zs.length
  · exact l00Own_c v zs w h h0 h1
  · have hz : zs = [] := by simpa using h0
    subst hz
    obtain ⟨A, c, rfl, _, _⟩ := h.form
    exact l00Own0_c A c w
theorem Ints.take {w : World} {A : Option Addr} {c : Nat} {zs : List Int} (h : Ints w (.slice A zs.length c) zs) (k : Nat) (hk : k ≤ zs.length) : Ints w (.slice A k c) (zs.take k) := by
  obtain ⟨A', c', hv, g1, g2, g3, g4⟩ := h
  injection hv with hA _ hc
  subst hA
  subst hc
  have hl : (zs.take k).length = k := by simp; omega
  refine ⟨A, c, by rw [hl], by omega, g2, by simp [ivs], fun hn => ?_⟩
  rw [hl] at hn
  obtain ⟨b, off, hA, hcc⟩ := g4 (by omega)
  refine ⟨b, off, hA, fun j hj => ?_⟩
  have hj' : j < k := by rw [ivs_length, hl] at hj; exact hj
  rw [hcc j (by rw [ivs_length]; omega), ivs_get zs j (by omega), ivs_get (zs.take k) j (by omega)]
  simp
/-- How many cells a side keeps when the blanks at its end go. -/
def trimN (xs : List Int) : Nat → Nat
  | 0 => 0
  | n + 1 => if xs.getD n 0 = 0 then trimN xs n else n + 1
def trim (xs : List Int) : List Int := xs.take (trimN xs xs.length)
theorem trimN_le (xs : List Int) (n : Nat) : trimN xs n ≤ n := by
  induction n with
  | zero => exact Nat.le_refl _
  | succ n ih => unfold trimN; split <;> omega
theorem trim_len (xs : List Int) : (trim xs).length ≤ xs.length := by have := trimN_le xs xs.length; simp [trim]; omega
theorem trimN_zero (xs : List Int) : ∀ n i, trimN xs n ≤ i → i < n → xs.getD i 0 = 0 := by
  intro n
  induction n with
  | zero => intro i _ h; omega
  | succ n ih =>
    intro i h1 h2
    unfold trimN at h1
    split at h1
    · rename_i h
      by_cases c : i = n
      · subst c; exact h
      · exact ih i h1 (by omega)
    · omega
theorem trim_get (xs : List Int) (i : Nat) : (trim xs).getD i 0 = xs.getD i 0 := by
  have h1 := trimN_le xs xs.length
  by_cases c : i < trimN xs xs.length
  · simp only [trim, List.getD_eq_getElem?_getD, List.getElem?_take, if_pos c]
  · have e : (trim xs).getD i 0 = 0 := by
      rw [List.getD_eq_getElem?_getD, List.getElem?_eq_none (by simp [trim]; omega)]
      rfl
    rw [e]
    by_cases d : i < xs.length
    · exact (trimN_zero xs xs.length i (by omega) d).symm
    · rw [List.getD_eq_getElem?_getD, List.getElem?_eq_none (by omega)]
      rfl
theorem trim_mem {xs : List Int} {z : Int} (h : z ∈ trim xs) : z ∈ xs := List.mem_of_mem_take h
theorem l05Trim_c (v : Value) (xs : List Int) (w : World) (h : Ints w v xs) (h1 : xs.length ≤ 1048576) :
    Calls Tryz.prog 45 #[v] w fun e w' => ∃ u, e = .returned u ∧ OwnInts w.heap.size w' u (trim xs) ∧ Ext w w' := by
  have hI := h
  obtain ⟨A, c, rfl, h2, h2'⟩ := h.form
  go_enter Tryz.func45, Tryz.ntmps45
  go_wp2
  go_loopw [3] (fun i wr => ∃ n : Nat, n ≤ xs.length ∧ i = .int .i64 n ∧ wr = w ∧ trimN xs xs.length = trimN xs n) (fun i _ => (intOf i).toNat)
  case atStart => exact ⟨_, Nat.le_refl _, rfl, rfl, rfl⟩
  case round =>
    obtain ⟨n, hn, rfl, rfl, ht⟩ := hrel
    have HT := Lib.hid ht
    clear ht
    have done : trimN xs n = n → Ints wr (.slice A n c) (trim xs) := fun e => by
      have := hI.take n hn
      unfold trim
      rw [HT.out, e]
      exact this
    have DONE := Lib.hid done
    clear done
    by_cases h0 : n = 0
    · subst h0
      have hD := DONE.out rfl
      have hl : (trim xs).length ≤ 1048576 := by have := trim_len xs; omega
      have i1 : (0 : Int) ≤ (c : Int) := by omega
      go_wp2_with fail
      refine (l00OwnA_c _ _ _ hD hl).mono ?_
      rintro e w2 ⟨u, rfl, ho, hx⟩
      go_wp2
      go_ret
      exact ⟨_, rfl, ho, hx⟩
    · obtain ⟨k, rfl⟩ : ∃ k, n = k + 1 := ⟨n - 1, by omega⟩
      obtain ⟨b, off, rfl, hc⟩ := h.at (k := k) (by omega)
      have c0 := hc k (by omega)
      have eg : xs.getD k 0 = xs[k] := by rw [List.getD_eq_getElem?_getD, List.getElem?_eq_getElem (by omega)]; rfl
      have HEG := Lib.hid eg
      have hk0 : (0 : Int) < (k : Int) + 1 := by omega
      have hk1 : (k : Int) + 1 - 1 = (k : Int) := by omega
      clear hc eg
      by_cases hz : xs[k] = 0
      · have HZ := Lib.hid hz
        rw [hz] at c0
        clear hz
        go_wp2
        go_roundw
        case rel => exact ⟨k, by omega, by go_num, by first | rfl | trivial, by rw [HT.out]; show (if xs.getD k 0 = 0 then _ else _) = _; rw [if_pos (by rw [HEG.out, HZ.out])]⟩
        case measure => simp [intOf]
      · have hD := DONE.out (by show (if xs.getD k 0 = 0 then _ else _) = _; rw [if_neg (by rw [HEG.out]; exact hz)])
        have hl : (trim xs).length ≤ 1048576 := by have := trim_len xs; omega
        have Z : (xs[k] == 0) = false := beq_eq_false_iff_ne.2 hz
        have i1 : (k : Int) + 1 ≤ (c : Int) := by omega
        have i2 : (0 : Int) ≤ (k : Int) + 1 := by omega
        go_wp2_with fail
        refine (l00OwnA_c _ _ _ hD hl).mono ?_
        rintro e w2 ⟨u, rfl, ho, hx⟩
        go_wp2
        go_ret
        exact ⟨_, rfl, ho, hx⟩
end Go.Proofs.YtjcfmlecfjmcgaaGreatDoor
namespace Go.Proofs.YtjcfmlecfjmcgaaGreatDoor
open Go Go.RowKit Go.Proofs
set_option maxHeartbeats 400000
structure ConfR where
  q : Int
  l : List Int
  r : List Int
/-- A configuration in memory. -/
def ConfAt (w : World) (b : Nat) (c : ConfR) : Prop := ∃ lv rv, w.cell? ⟨b, 0, none⟩ = some (.int .i64 c.q) ∧ w.cell? ⟨b, 1, none⟩ = some lv ∧ w.cell? ⟨b, 2, none⟩ = some rv ∧ Ints w lv c.l ∧ Ints w rv c.r
theorem ConfAt.ext {w w' : World} {b : Nat} {c : ConfR} (h : ConfAt w b c) (he : Ext w w') : ConfAt w' b c := by
  obtain ⟨lv, rv, h1, h2, h3, h4, h5⟩ := h
  exact ⟨lv, rv, he.cell h1, he.cell h2, he.cell h3, h4.ext he, h5.ext he⟩
/-- The cell at the beginning of a side. -/
def hdR (xs : List Int) : Int := xs.getD 0 0
theorem l05Rest_c (v : Value) (xs : List Int) (w : World) (h : Ints w v xs) (h1 : xs.length ≤ 1048576) :
    Calls Tryz.prog 111 #[v] w fun e w' => ∃ u, e = .returned u ∧ OwnInts w.heap.size w' u (xs.drop 1) ∧ Ext w w' := by
  have hI := h
  obtain ⟨A, c, rfl, h2, h2'⟩ := h.form
  by_cases h0 : xs.length = 0
  · have hown0 : (w.alloc (.cells #[] 2)).ownsRow w.heap.size 2 1 (.slice (some ⟨w.heap.size, 0, none⟩) 0 0) 0 [] :=
      World.ownsRow_made (base := w.heap.size) (e := 2) (size := 1) w #[] 0 (by simp) (by unfold maxLen; omega) (by simp)
    have HO := Lib.hid hown0
    have hx : xs = [] := by simpa using h0
    subst hx
    clear hown0 h0 h hI
    go_enter Tryz.func111, Tryz.ntmps111
    go_wp2
    go_ret
    exact ⟨_, rfl, HO.out, Ext.alloc _ _⟩
  · obtain ⟨b, off, rfl, hc⟩ := h.at (k := 0) (by omega)
    have hd := hI.drop 1 (by omega)
    have hz : ((xs.length : Int) == 0) = false := beq_eq_false_iff_ne.2 (by omega)
    have hc1 : (1 : Int) ≤ (c : Int) := by omega
    have hl1 : (1 : Int) ≤ (xs.length : Int) := by omega
    clear hc
    by_cases hcc : c = 1
    · match xs, h0, h2 with
      | [x], _, _ =>
        subst hcc
        clear h hI hd
        go_enter Tryz.func111, Tryz.ntmps111
        go_wp2_with fail
        refine (l00Own0_c _ _ _).mono ?_
        rintro e w2 ⟨u, rfl, ho, hx⟩
        go_wp2
        go_ret
        exact ⟨_, rfl, ho, hx⟩
      | [], h0, _ => exact absurd rfl h0
      | x :: y :: r, _, h2 => simp at h2; omega
    go_enter Tryz.func111, Tryz.ntmps111
    go_wp2_with fail
    refine (l00OwnA_c _ _ _ hd (by simp; omega)).mono ?_
    rintro e w2 ⟨u, rfl, ho, hx⟩
    go_wp2
    go_ret
    exact ⟨_, rfl, ho, hx⟩
theorem own_litT {w : World} {base : Nat} (zs : List Int) (hb : base ≤ w.heap.size) (hl : zs.length ≤ 100) : OwnInts base (w.alloc (.cells (ivs zs).toArray 2)) (.slice (some ⟨w.heap.size, 0, none⟩) zs.length zs.length) zs :=
  ⟨by simp, .inr ⟨w.heap.size, zs.length, (ivs zs).toArray, rfl, hb, heap_alloc_new w _, Nat.le_refl _, by unfold maxLen; omega, by simp, by simp [List.take_of_length_le]⟩⟩
set_option maxRecDepth 20000 in
theorem l05Push_c (s : Int) (v : Value) (xs : List Int) (w : World) (h : Ints w v xs) (h1 : xs.length ≤ 10000) :
    Calls Tryz.prog 112 #[.int .i64 s, v] w fun e w' => ∃ u, e = .returned u ∧ OwnInts w.heap.size w' u (trim (s :: xs)) ∧ Ext w w' := by
  have hI := h
  obtain ⟨i0, hi, hz0, hz1, hz2⟩ := info_parts intInfo
  obtain ⟨A, c, rfl, h2, h2'⟩ := h.form
  obtain ⟨W, hW⟩ : ∃ W, W = w.alloc (.cells #[.int .i64 s] 2) := ⟨_, rfl⟩
  have hown : OwnInts w.heap.size W (.slice (some ⟨w.heap.size, 0, none⟩) 1 1) [s] := by rw [hW]; exact own_litT [s] (Nat.le_refl _) (by simp)
  have hX : Ext w W := by rw [hW]; exact Ext.alloc _ _
  by_cases h0 : xs.length = 0
  · have hx : xs = [] := by simpa using h0
    subst hx
    clear h0 h hI
    cases A with
    | none =>
      go_enter Tryz.func112, Tryz.ntmps112
      go_wp2_with fail
      rw [← hW]
      refine (l05Trim_c _ _ _ hown.ints (by simp)).mono ?_
      rintro e w2 ⟨u, rfl, ho, hx⟩
      go_wp2
      go_ret
      exact ⟨_, rfl, ownsRow_base ho hX.size, hX.trans hx⟩
    | some a =>
      go_enter Tryz.func112, Tryz.ntmps112
      go_wp2_with fail
      rw [← hW]
      refine (l05Trim_c _ _ _ hown.ints (by simp)).mono ?_
      rintro e w2 ⟨u, rfl, ho, hx⟩
      go_wp2
      go_ret
      exact ⟨_, rfl, ownsRow_base ho hX.size, hX.trans hx⟩
  · obtain ⟨b, off, rfl, hc⟩ := h.at (k := 0) (by omega)
    have hcl := ints_cells hc
    have hcl2 : ∀ j u, (ivs xs)[j]? = some u → W.cell? ((⟨b, off, none⟩ : Addr).add j) = some u := by
      intro j u hj
      have hadd : (⟨b, off, none⟩ : Addr).add j = ⟨b, off + j, none⟩ := by unfold Addr.add; split <;> simp_all
      rw [hadd]
      exact hX.cell (hcl j u hj)
    have hm : 1 + xs.length ≤ maxLen := by unfold maxLen; omega
    have HC := Lib.hid hcl2
    have HO : Hid (W.ownsRow w.heap.size 2 1 (.slice (some ⟨w.heap.size, 0, none⟩) 1 1) 1 [.int .i64 s]) := hown
    have hsz : w.heap.size ≤ W.heap.size := hX.size
    clear hcl2 hcl hc hown
    go_enter Tryz.func112, Tryz.ntmps112
    go_wp2_with (at_builtin; (rw [← hW]; refine wpList_append_own _ rfl _ _ 25 rfl w.heap.size 2 i0 (.int .i64 0) 1 8 Tryz.underlying25 hi hz0 hz1 hz2 rfl (by decide) _ _ _ rfl HO.out ⟨b, off, none⟩ xs.length c (ivs xs) rfl (by simp) HC.out (ivs_one xs) hm (by omega) (by omega) ?_))
    intro v' w1 hown' hgrow _
    rw [← hW] at hgrow
    have ho1 : OwnInts w.heap.size w1 v' (s :: xs) := by
      unfold OwnInts
      have e : (s :: xs).length = 1 + xs.length := by simp; omega
      rw [e]
      exact hown'
    have hx1 : Ext w w1 := hX.grown hgrow (fun b hb => (World.ownsRow.lt HO.out b hb).1)
    go_wp2_with fail
    refine (l05Trim_c _ _ _ ho1.ints (by simp; omega)).mono ?_
    rintro e w2 ⟨u, rfl, ho, hx⟩
    go_wp2
    go_ret
    exact ⟨_, rfl, ownsRow_base ho hx1.size, hx1.trans hx⟩
theorem l05Head_c (b : Nat) (c : ConfR) (w : World) (h : ConfAt w b c) :
    Calls Tryz.prog 48 #[.pointer (some ⟨b, 0, none⟩)] w fun e w' => e = .returned (.int .i64 (hdR c.r)) ∧ w = w' := by
  obtain ⟨lv, rv, c0, c1, c2, hl, hr⟩ := h
  obtain ⟨A, k, rfl, h2, h2'⟩ := hr.form
  by_cases h0 : c.r.length = 0
  · have hx : c.r = [] := by simpa using h0
    rw [hx] at c2
    have HX := Lib.hid hx
    clear hx h0 hr hl
    go_enter Tryz.func48, Tryz.ntmps48
    go_wp2
    go_ret
    exact ⟨by rw [HX.out]; rfl, rfl⟩
  · obtain ⟨b', off, rfl, hc⟩ := hr.at (k := 0) (by omega)
    have d0 := hc 0 (by omega)
    have hz : ((c.r.length : Int) == 0) = false := beq_eq_false_iff_ne.2 (by omega)
    have hl0 : (0 : Int) < (c.r.length : Int) := by omega
    have HE : Hid (hdR c.r = c.r[0]) := by unfold Hid hdR; rw [List.getD_eq_getElem?_getD, List.getElem?_eq_getElem (by omega)]; rfl
    simp only [Nat.add_zero] at d0
    generalize c.r[0] = z at *
    clear hc
    go_enter Tryz.func48, Tryz.ntmps48
    go_wp2
    go_ret
    exact ⟨by rw [HE.out]; rfl, rfl⟩
theorem l05At_c (b bc : Nat) (m : MachD) (c : ConfR) (w : World) (hm : MachAt w b m) (h : ConfAt w bc c) (q0 : 0 ≤ c.q) (q1 : c.q ≤ 1000) (s0 : 2 ≤ m.sy) (s1 : m.sy ≤ 6) (r0 : 0 ≤ hdR c.r) (r1 : hdR c.r ≤ 6) :
    Calls Tryz.prog 110 #[.pointer (some ⟨b, 0, none⟩), .pointer (some ⟨bc, 0, none⟩)] w fun e w' => e = .returned (.int .i64 (c.q * m.sy + hdR c.r)) ∧ Ext w w' := by
  have hC := h
  obtain ⟨rv, p0, _, _, _⟩ := hm
  obtain ⟨_, _, c0, _, _, _, _⟩ := h
  have d0 := cellR p0
  have d1 := cellR c0
  have hb : 0 ≤ c.q * m.sy ∧ c.q * m.sy ≤ 6000 := ⟨Int.mul_nonneg q0 (by omega), by
    have a1 := Int.mul_le_mul_of_nonneg_right q1 (show 0 ≤ m.sy by omega)
    have a2 := Int.mul_le_mul_of_nonneg_left s1 (show (0 : Int) ≤ 1000 by omega)
    omega⟩
  go_enter Tryz.func110, Tryz.ntmps110
  go_wp2
  refine wp_region_ext (by kernel_rfl) (by kernel_rfl) ?_
  repeat (go_big_quiet_step ((go_at_call 48; exact Calls.sameR (l05Head_c _ _ _ (hC.ext (below_regrown _ _ _))))))
  refine wpQuiet_nil ?_
  intro w2 hx2
  go_wp2
  go_ret
  exact ⟨rfl, hx2⟩
end Go.Proofs.YtjcfmlecfjmcgaaGreatDoor
end
