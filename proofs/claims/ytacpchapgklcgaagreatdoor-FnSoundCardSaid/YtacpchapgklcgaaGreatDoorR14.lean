/- Contract on a machine with two automata: a function is called with each outline to which one leads.
Contract on a machine with two automata: all outlines that are reached.
Contract of the reference's test of an automaton, and of the program's product of two automata. -/
import Derived.Test.YtacpchapgklcgaaGreatDoorR13
import Derived.StillTailTactics
import Derived.Test.YtacpchapgklcgaaGreatDoorR08
section
set_option linter.unusedSimpArgs false
set_option linter.unusedVariables false
set_option linter.unusedSectionVars false
set_option maxHeartbeats 4000000
namespace Go.Proofs.YtacpchapgklcgaaGreatDoor
open Go Go.RowKit Go.Proofs Go.Maps
theorem Ext.trans' {a b c : World} {n : Nat} (h : Ext a b) (k : Below n b c) (hn : a.heap.size ≤ n) : Ext a c := Below.trans h (Below.mono k hn)
theorem FSt.below {base : Nat} {w : World} {bs bl : Nat} {l : List Outl} {lv : Value} {bm : Nat} (h : FSt base w bs bl l lv bm) : base ≤ w.heap.size := Nat.le_trans h.lowS (Nat.le_of_lt h.blkS.lt)
theorem FRes.refl {base : Nat} {w w' : World} {bs bl : Nat} {l : List Outl} {lv : Value} {bm : Nat} (h : FSt base w bs bl l lv bm) (he : Ext w w') (hb : base ≤ w.heap.size) : FRes base w bs bl l bm w' :=
  ⟨⟨lv, h.ext he⟩, Below.mono he hb, he.size, fun g t cs hg _ _ => hg.ext he⟩
theorem FRes.trans {base : Nat} {w w' w'' : World} {bs bl : Nat} {l l' : List Outl} {bm : Nat} (h : FRes base w bs bl l bm w') (h2 : FRes base w' bs bl l' bm w'') : FRes base w bs bl l' bm w'' :=
  ⟨h2.1, h.2.1.trans h2.2.1, Nat.le_trans h.2.2.1 h2.2.2.1, fun g t cs hg n1 n2 => h2.2.2.2 g t cs (h.2.2.2 g t cs hg n1 n2) n1 n2⟩
theorem FRes.ext {base : Nat} {w w' w'' : World} {bs bl : Nat} {l : List Outl} {bm : Nat} (h : FRes base w bs bl l bm w') (he : Ext w' w'') (hb : base ≤ w.heap.size) : FRes base w bs bl l bm w'' := by
  obtain ⟨⟨lv, h1⟩, h2, h3, h4⟩ := h
  exact ⟨⟨lv, h1.ext he⟩, h2.trans (Below.mono he (by omega)), Nat.le_trans h3 he.size, fun g t cs hg n1 n2 => (h4 g t cs hg n1 n2).ext he⟩
theorem foldA_len (l xs : List Outl) : (foldA l xs).length ≤ l.length + xs.length := by
  induction xs generalizing l with
  | nil => exact Nat.le_refl _
  | cons a t ih =>
    have h1 := ih (addA l a)
    have h2 : (addA l a).length ≤ l.length + 1 := by unfold addA; split <;> simp
    show (foldA (addA l a) t).length ≤ _
    simp only [List.length_cons]
    omega
theorem foldA_snoc (l xs : List Outl) (a : Outl) : foldA l (xs ++ [a]) = addA (foldA l xs) a := by
  unfold foldA
  rw [List.foldl_append]
  rfl
theorem orgK_len (d : DfaD) (t sy : Int) (k : Nat) : (orgK d t sy k).length ≤ k := by
  unfold orgK
  have := List.length_filterMap_le (fun k => if d.nx.getD k 0 = t then some ((k : Int) / sy, (k : Int) % sy) else none) (List.range k)
  simpa using this
set_option maxRecDepth 20000 in
theorem successors_c (base : Nat) (w0 w : World) (bs bl : Nat) (l : List Outl) (lv : Value) (bm : Nat) (v : Value) (m : MachD) (L R : DfaD) (a : Outl) (h : FSt base w bs bl l lv bm) (hA : Autos w0 v m L R) (he : Ext w0 w) (hb0 : w0.heap.size ≤ base) (hn : l.length ≤ 10000)
    (hm : machOk m = true) (hL : dfaOk L m.sy = true) (hR : dfaOk R m.sy = true) (ha : okA m L R a) :
    Calls Tryz.prog 94 #[v, outV a, .func (.func 93) #[] #[.pointer (some ⟨bs, 0, none⟩), .pointer (some ⟨bl, 0, none⟩)]] w fun e w' => e = .returned (.bool (isR (m.rules.getD (a.2.1 * m.sy + a.2.2.1).toNat noR))) ∧ FRes base w bs bl (foldA l (succA m L R a)) bm w' := by
  obtain ⟨rv, uv, tv, rfl, h1, h2, h3⟩ := hA
  obtain ⟨a0, a1, a2, a3⟩ := a
  obtain ⟨⟨p0, p1⟩, ⟨q0, q1⟩, ⟨s0, s1⟩, ⟨t0, t1⟩⟩ := ha
  simp only at p0 p1 q0 q1 s0 s1 t0 t1
  obtain ⟨⟨m1, m2, m3, m4⟩, hlen, hall⟩ := machOk_five hm
  obtain ⟨k, hk, ek⟩ : ∃ k : Nat, k < m.rules.length ∧ a1 * m.sy + a2 = (k : Int) := by
    have e1 := Int.mul_nonneg q0 (show 0 ≤ m.sy by omega)
    have e2 : a1 * m.sy + m.sy ≤ m.st * m.sy := by
      have := Int.mul_le_mul_of_nonneg_right (show a1 + 1 ≤ m.st from q1) (show 0 ≤ m.sy by omega)
      rw [Int.add_mul, Int.one_mul] at this
      exact this
    rw [Int.mul_comm] at hlen
    exact ⟨(a1 * m.sy + a2).toNat, by omega, by omega⟩
  obtain ⟨r, hr⟩ : ∃ r, r = m.rules[k] := ⟨_, rfl⟩
  have hget : m.rules.getD (a1 * m.sy + a2).toNat noR = r := by rw [ek, Int.toNat_natCast, List.getD_eq_getElem?_getD, List.getElem?_eq_getElem hk, hr]; rfl
  have hro := hall _ (List.getElem_mem hk)
  rw [← hr] at hro
  simp only [hget]
  obtain ⟨A, c, rfl, g1, g2⟩ := (h1.ext he).form
  obtain ⟨b, off, rfl, hc⟩ := (h1.ext he).at hk
  obtain ⟨c0, c1, c2⟩ := hc k hk
  rw [← hr] at c0 c1 c2
  clear hc hr hall
  have hmul : 0 ≤ a1 * m.sy ∧ a1 * m.sy ≤ 6000 := by
    have e1 := Int.mul_nonneg q0 (show 0 ≤ m.sy by omega)
    have e2 := Int.mul_le_mul (show a1 ≤ 1000 by omega) (show m.sy ≤ 6 by omega) (by omega) (by omega)
    omega
  have hw1 : IntKind.i64.wrap (a1 * m.sy) = a1 * m.sy := IntWalk.i64_in _ (by omega)
  have hw2 : IntKind.i64.wrap (a1 * m.sy + a2) = (k : Int) := by rw [IntWalk.i64_in _ (by omega), ek]
  have i1 : (0 : Int) ≤ (k : Int) := by omega
  have i2 : (k : Int) < (m.rules.length : Int) := by omega
  have hlen' := Lib.hid hlen
  clear hlen
  obtain ⟨W, hW⟩ : ∃ W, W = ((w.alloc (.cells #[.int .i64 m.sy, .int .i64 m.st, .slice (some ⟨b, off, none⟩) m.rules.length c, .int .i64 L.st, uv, .int .i64 R.st, tv] 66)).alloc (.cells #[.int .i64 a0, .int .i64 a1, .int .i64 a2, .int .i64 a3] 147)).alloc
      (.cells #[.func (.func 93) #[] #[.pointer (some ⟨bs, 0, none⟩), .pointer (some ⟨bl, 0, none⟩)]] 148) := ⟨_, rfl⟩
  have hXW : Ext w W := by rw [hW]; exact ((Ext.alloc _ _).trans (Ext.alloc _ _)).trans (Ext.alloc _ _)
  obtain ⟨W2, hW2⟩ : ∃ W2, W2 = W.alloc (.cells #[.int .i64 r.w, .int .i64 r.m, .int .i64 r.n] 38) := ⟨_, rfl⟩
  have hXW2 : Ext w W2 := by rw [hW2]; exact hXW.trans (Ext.alloc _ _)
  have bA : Blk W2 w.heap.size 66 #[.int .i64 m.sy, .int .i64 m.st, .slice (some ⟨b, off, none⟩) m.rules.length c, .int .i64 L.st, uv, .int .i64 R.st, tv] := by rw [hW2, hW]; exact (((Blk.new _ _ _ _ rfl).ext (Ext.alloc _ _)).ext (Ext.alloc _ _)).ext (Ext.alloc _ _)
  have bO : Blk W2 (w.heap.size + 1) 147 #[.int .i64 a0, .int .i64 a1, .int .i64 a2, .int .i64 a3] := by rw [hW2, hW]; exact ((Blk.new _ _ _ _ (by simp)).ext (Ext.alloc _ _)).ext (Ext.alloc _ _)
  have bF : Blk W2 (w.heap.size + 1 + 1) 148 #[.func (.func 93) #[] #[.pointer (some ⟨bs, 0, none⟩), .pointer (some ⟨bl, 0, none⟩)]] := by rw [hW2, hW]; exact (Blk.new _ _ _ _ (by simp)).ext (Ext.alloc _ _)
  have bR : Blk W2 (w.heap.size + 1 + 1 + 1) 38 #[.int .i64 r.w, .int .i64 r.m, .int .i64 r.n] := by rw [hW2, hW]; exact Blk.new _ _ _ _ (by simp)
  have hbw := h.below
  have hF := FRes.refl h hXW2 hbw
  have hX0 := he.trans hXW2
  have d0 := hXW.cell c0
  have d1 := hXW.cell c1
  have d2 := hXW.cell c2
  rw [hW] at d0 d1 d2
  go_enter Tryz.func94, Tryz.ntmps94
  simp only [outV]
  go_wp2_with fail
  rw [← hW, ← hW2]
  clear d0 d1 d2 hW hW2
  refine (isRule_c r.w r.m r.n W2).mono ?_
  rintro e w3 ⟨rfl, hx3⟩
  have bA3 := bA.ext hx3
  have bO3 := bO.ext hx3
  have bF3 := bF.ext hx3
  have bR3 := bR.ext hx3
  have hF3 := hF.ext hx3 hbw
  have hX3 := hX0.trans hx3
  clear bA bO bF bR hF hX0 c0 c1 c2
  generalize w.heap.size = g0 at *
  have hmv := hro
  have HR := Lib.hid hro
  clear hro
  cases hi : isR r with
  | false =>
    have e0 : succA m L R (a0, a1, a2, a3) = [] := by
      simp only [succA, hget, hi]
      simp
    go_wp2
    go_ret
    rw [e0]
    exact ⟨by rw [hi]; rfl, hF3⟩
  | true =>
    have hrn : ¬ r = noR := by simpa [isR, rEq] using hi
    simp only [ruleOk, hrn, decide_false, Bool.false_or, Bool.and_eq_true, Bool.or_eq_true, beq_iff_eq, inB, decide_eq_true_eq] at hmv
    obtain ⟨⟨hw0, hmv⟩, hn0⟩ := hmv
    have x0 := bA3.cell 0
    have x3 := bA3.cell 3
    have x4 := bA3.cell 4
    have x5 := bA3.cell 5
    have x6 := bA3.cell 6
    have y0 := bO3.cell 0
    have y3 := bO3.cell 3
    have z0 := bR3.cell 0
    have z1 := bR3.cell 1
    simp only [List.getElem?_toArray, List.getElem?_cons_zero, List.getElem?_cons_succ] at x0 x3 x4 x5 x6 y0 y3 z0 z1
    have hLD : Dfas w3 (.agg #[.int .i64 L.st, uv]) L := ⟨uv, rfl, h2.ext hX3⟩
    have hRD : Dfas w3 (.agg #[.int .i64 R.st, tv]) R := ⟨tv, rfl, h3.ext hX3⟩
    have hsy : Hid (m.sy ≤ 6 ∧ 2 ≤ m.sy) := Lib.hid ⟨m2, m1⟩
    rcases hmv with e | e
    · have e0 : Hid (succA m L R (a0, a1, a2, a3) = (orgD R a3 m.sy).map fun p : Int × Int => (toD L a0 r.w m.sy, r.n, p.2, p.1)) := Lib.hid (by
        simp only [succA, hget, hi, e]
        simp)
      have hxr := toD_range hL p0 p1 (x := r.w) (by omega) (by omega)
      rw [e] at z1
      have hto := to_c (.agg #[.int .i64 L.st, uv]) L m.sy a0 r.w w3 hLD hL p0 p1 (by omega) (by omega)
      generalize toD L a0 r.w m.sy = x at *
      go_wp2_with fail
      refine hto.mono ?_
      rintro e4 w4 ⟨rfl, hx4⟩
      have bA4 := bA3.ext hx4
      have bO4 := bO3.ext hx4
      obtain ⟨w5, hw5⟩ : ∃ w5, w5 = w4.alloc (.cells #[.int .i64 x] 2) := ⟨_, rfl⟩
      have hx5 : Ext w4 w5 := by rw [hw5]; exact Ext.alloc _ _
      have bX5 : Blk w5 w4.heap.size 2 #[.int .i64 x] := by rw [hw5]; exact Blk.new _ _ _ _ rfl
      have bF5 := (bF3.ext hx4).ext hx5
      have bR5 := (bR3.ext hx4).ext hx5
      have hF5 := (hF3.ext hx4 h.below).ext hx5 h.below
      have hX5 := (hX3.trans hx4).trans hx5
      obtain ⟨lv5, S5⟩ := hF5.1
      have hI : ∀ l' w', FRes base w5 bs bl l' bm w' → Ext w0 w' := fun l' w' h => hX5.trans' h.2.1 hb0
      have hOr := origins1_c #[.pointer (some ⟨g0 + 1 + 1, 0, none⟩), .pointer (some ⟨w4.heap.size, 0, none⟩), .pointer (some ⟨g0 + 1 + 1 + 1, 0, none⟩)] tv R a3 m.sy w5 (fun ps w' => FRes base w5 bs bl (foldA l (ps.map fun p : Int × Int => (x, r.n, p.2, p.1))) bm w') (h3.ext hX5) hR
        (FRes.refl S5 (Ext.refl _) S5.below) (fun ps w' w'' h he => h.ext he S5.below) (fun ps w' h => h3.ext (hI _ _ h)) (fun j w' hF' hj hz => by
          obtain ⟨lv', S'⟩ := hF'.1
          have hl1 := foldA_len l ((orgK R a3 m.sy j).map fun p : Int × Int => (x, r.n, p.2, p.1))
          have hl2 := orgK_len R a3 m.sy j
          obtain ⟨_, hR2, hR3, _, _⟩ := dfaOk_parts hR
          have hj120 : (R.nx.length : Int) ≤ 120 := by
            have := Int.mul_le_mul hR2.2 hsy.out.1 (by have := hsy.out; omega) (by omega)
            omega
          have hu0 : 0 ≤ (j : Int) / m.sy := Int.ediv_nonneg (by omega) (by have := hsy.out; omega)
          have hu1 : (j : Int) / m.sy ≤ j := Int.ediv_le_self _ (by omega)
          have ht0 := Int.emod_nonneg (j : Int) (b := m.sy) (by have := hsy.out; omega)
          have ht1 := Int.emod_lt_of_pos (j : Int) (b := m.sy) (by have := hsy.out; omega)
          have hL2 := (dfaOk_parts hL).2.1
          refine (succ1_c base w' bs bl (g0 + 1 + 1) w4.heap.size (g0 + 1 + 1 + 1) _ lv' bm x ((j : Int) / m.sy) ((j : Int) % m.sy) r S' S'.below (by simp at hl1; omega)
            (hF'.2.2.2 _ _ _ bF5 (by decide) (by decide)) (hF'.2.2.2 _ _ _ bX5 (by decide) (by decide)) (hF'.2.2.2 _ _ _ bR5 (by decide) (by decide)) ⟨by simp only; omega, by simp only; omega, by simp only; have := hsy.out; omega, by simp only; omega⟩).mono ?_
          rintro e w'' ⟨rfl, hF''⟩
          refine ⟨rfl, ?_⟩
          rw [orgK_yes hz, List.map_append, List.map_cons, List.map_nil, foldA_snoc]
          exact hF'.trans hF'')
      have x5 := (bA4.ext hx5).cell 5
      have x6 := (bA4.ext hx5).cell 6
      have x0 := (bA4.ext hx5).cell 0
      have y3 := (bO4.ext hx5).cell 3
      simp only [List.getElem?_toArray, List.getElem?_cons_zero, List.getElem?_cons_succ] at x0 x5 x6 y3
      rw [hw5] at hOr x0 x5 x6 y3
      go_wp2_with (go_at_call 120; refine hOr.mono ?_; rintro e6 w6 ⟨rfl, hF6⟩)
      go_ret
      rw [e0.out]
      exact ⟨by rw [hi]; rfl, (hw5 ▸ hF5).trans hF6⟩
    · have e0 : Hid (succA m L R (a0, a1, a2, a3) = (orgD L a0 m.sy).map fun p : Int × Int => (p.1, r.n, p.2, toD R a3 r.w m.sy)) := Lib.hid (by
        simp only [succA, hget, hi, e]
        simp)
      have hxr := toD_range hR t0 t1 (x := r.w) (by omega) (by omega)
      rw [e] at z1
      have hto := to_c (.agg #[.int .i64 R.st, tv]) R m.sy a3 r.w w3 hRD hR t0 t1 (by omega) (by omega)
      generalize toD R a3 r.w m.sy = x at *
      go_wp2_with fail
      refine hto.mono ?_
      rintro e4 w4 ⟨rfl, hx4⟩
      have bA4 := bA3.ext hx4
      have bO4 := bO3.ext hx4
      obtain ⟨w5, hw5⟩ : ∃ w5, w5 = w4.alloc (.cells #[.int .i64 x] 2) := ⟨_, rfl⟩
      have hx5 : Ext w4 w5 := by rw [hw5]; exact Ext.alloc _ _
      have bX5 : Blk w5 w4.heap.size 2 #[.int .i64 x] := by rw [hw5]; exact Blk.new _ _ _ _ rfl
      have bF5 := (bF3.ext hx4).ext hx5
      have bR5 := (bR3.ext hx4).ext hx5
      have hF5 := (hF3.ext hx4 h.below).ext hx5 h.below
      have hX5 := (hX3.trans hx4).trans hx5
      obtain ⟨lv5, S5⟩ := hF5.1
      have hI : ∀ l' w', FRes base w5 bs bl l' bm w' → Ext w0 w' := fun l' w' h => hX5.trans' h.2.1 hb0
      have hOr := origins2_c #[.pointer (some ⟨g0 + 1 + 1, 0, none⟩), .pointer (some ⟨g0 + 1 + 1 + 1, 0, none⟩), .pointer (some ⟨w4.heap.size, 0, none⟩)] uv L a0 m.sy w5 (fun ps w' => FRes base w5 bs bl (foldA l (ps.map fun p : Int × Int => (p.1, r.n, p.2, x))) bm w') (h2.ext hX5) hL
        (FRes.refl S5 (Ext.refl _) S5.below) (fun ps w' w'' h he => h.ext he S5.below) (fun ps w' h => h2.ext (hI _ _ h)) (fun j w' hF' hj hz => by
          obtain ⟨lv', S'⟩ := hF'.1
          have hl1 := foldA_len l ((orgK L a0 m.sy j).map fun p : Int × Int => (p.1, r.n, p.2, x))
          have hl2 := orgK_len L a0 m.sy j
          obtain ⟨_, hR2, hR3, _, _⟩ := dfaOk_parts hL
          have hj120 : (L.nx.length : Int) ≤ 120 := by
            have := Int.mul_le_mul hR2.2 hsy.out.1 (by have := hsy.out; omega) (by omega)
            omega
          have hu0 : 0 ≤ (j : Int) / m.sy := Int.ediv_nonneg (by omega) (by have := hsy.out; omega)
          have hu1 : (j : Int) / m.sy ≤ j := Int.ediv_le_self _ (by omega)
          have ht0 := Int.emod_nonneg (j : Int) (b := m.sy) (by have := hsy.out; omega)
          have ht1 := Int.emod_lt_of_pos (j : Int) (b := m.sy) (by have := hsy.out; omega)
          have hL2 := (dfaOk_parts hR).2.1
          refine (succ2_c base w' bs bl (g0 + 1 + 1) w4.heap.size (g0 + 1 + 1 + 1) _ lv' bm x ((j : Int) / m.sy) ((j : Int) % m.sy) r S' S'.below (by simp at hl1; omega)
            (hF'.2.2.2 _ _ _ bF5 (by decide) (by decide)) (hF'.2.2.2 _ _ _ bX5 (by decide) (by decide)) (hF'.2.2.2 _ _ _ bR5 (by decide) (by decide)) ⟨by simp only; omega, by simp only; omega, by simp only; have := hsy.out; omega, by simp only; omega⟩).mono ?_
          rintro e w'' ⟨rfl, hF''⟩
          refine ⟨rfl, ?_⟩
          rw [orgK_yes hz, List.map_append, List.map_cons, List.map_nil, foldA_snoc]
          exact hF'.trans hF'')
      have x5 := (bA4.ext hx5).cell 3
      have x6 := (bA4.ext hx5).cell 4
      have x0 := (bA4.ext hx5).cell 0
      have y3 := (bO4.ext hx5).cell 0
      simp only [List.getElem?_toArray, List.getElem?_cons_zero, List.getElem?_cons_succ] at x0 x5 x6 y3
      rw [hw5] at hOr x0 x5 x6 y3
      go_wp2_with (go_at_call 120; refine hOr.mono ?_; rintro e6 w6 ⟨rfl, hF6⟩)
      go_ret
      rw [e0.out]
      exact ⟨by rw [hi]; rfl, (hw5 ▸ hF5).trans hF6⟩
end Go.Proofs.YtacpchapgklcgaaGreatDoor
end
section
set_option linter.unusedSimpArgs false
set_option linter.unusedVariables false
set_option linter.unusedSectionVars false
set_option maxHeartbeats 4000000
namespace Go.Proofs.YtacpchapgklcgaaGreatDoor
open Go Go.RowKit Go.Proofs Go.Maps
/-- Each of the first k outlines has a rule. -/
def rulA (m : MachD) (L R : DfaD) (k : Nat) : Bool := ((rndA m L R k).take k).all fun a => isR (m.rules.getD (a.2.1 * m.sy + a.2.2.1).toNat noR)
theorem rndA_next {m : MachD} {L R : DfaD} {k : Nat} (h : k < (rndA m L R k).length) : rndA m L R (k + 1) = foldA (rndA m L R k) (succA m L R (rndA m L R k)[k]) := by
  rw [rndA, List.getElem?_eq_getElem h]
theorem rulA_next {m : MachD} {L R : DfaD} {k : Nat} (h : k < (rndA m L R k).length) : rulA m L R (k + 1) = (isR (m.rules.getD ((rndA m L R k)[k].2.1 * m.sy + (rndA m L R k)[k].2.2.1).toNat noR) && rulA m L R k) := by
  unfold rulA
  have hp := rndA_prefix m L R k
  have e : (rndA m L R (k + 1)).take (k + 1) = (rndA m L R k).take (k + 1) := by
    obtain ⟨t, ht⟩ := hp
    rw [← ht, List.take_append_of_le_length (by omega)]
  rw [e, List.take_succ_eq_append_getElem h, List.all_append, Bool.and_comm]
  simp
/-- What the closure answers. -/
def CloRes (w : World) (m : MachD) (L R : DfaD) (e : Ending) (w' : World) : Prop :=
  Ext w w' ∧ ((∃ K lv, (rndA m L R K).length ≤ K ∧ (rndA m L R K).length ≤ 3000 ∧ w'.ownsRow w.heap.size 147 4 lv (rndA m L R K).length (ovs (rndA m L R K)) ∧ e = .returned (.tuple #[lv, .bool (rulA m L R K), .bool true])) ∨
    (∃ K, 3000 < (rndA m L R K).length ∧ e = .returned (.tuple #[.slice none 0 0, .bool false, .bool false])))
theorem ovs_at {w : World} {base : Nat} {A : Option Addr} {c : Nat} {l : List Outl} (h : w.ownsRow base 147 4 (.slice A l.length c) l.length (ovs l)) {k : Nat} (hk : k < l.length) :
    ∃ g, A = some ⟨g, 0, none⟩ ∧ w.cell? ⟨g, k * 4, none⟩ = some (.int .i64 l[k].1) ∧ w.cell? ⟨g, k * 4 + 1, none⟩ = some (.int .i64 l[k].2.1) ∧ w.cell? ⟨g, k * 4 + 2, none⟩ = some (.int .i64 l[k].2.2.1) ∧ w.cell? ⟨g, k * 4 + 3, none⟩ = some (.int .i64 l[k].2.2.2) := by
  obtain ⟨g, hA, _, _⟩ := own_at h (by omega)
  obtain ⟨b, off, hA2, hc⟩ := Row.at (ownsRow_row h) hk
  rw [hA] at hA2
  injection hA2 with hA2
  injection hA2 with e1 e2 e3
  subst e1 e2
  have hv : ∀ (l : List Outl) (k : Nat) (hk : k < l.length), (ovs l)[k * 4]? = some (.int .i64 l[k].1) ∧ (ovs l)[k * 4 + 1]? = some (.int .i64 l[k].2.1) ∧ (ovs l)[k * 4 + 2]? = some (.int .i64 l[k].2.2.1) ∧ (ovs l)[k * 4 + 3]? = some (.int .i64 l[k].2.2.2) := by
    intro l
    induction l with
    | nil => intro k hk; simp at hk
    | cons a t ih =>
      intro k hk
      have e : ovs (a :: t) = .int .i64 a.1 :: .int .i64 a.2.1 :: .int .i64 a.2.2.1 :: .int .i64 a.2.2.2 :: ovs t := rfl
      cases k with
      | zero => rw [e]; exact ⟨rfl, rfl, rfl, rfl⟩
      | succ k =>
        have := ih k (by simpa using hk)
        rw [e]
        have e1 : (k + 1) * 4 = k * 4 + 1 + 1 + 1 + 1 := by omega
        rw [e1]
        simpa using this
  obtain ⟨v0, v1, v2, v3⟩ := hv l k hk
  refine ⟨g, hA, ?_, ?_, ?_, ?_⟩
  · have := hc (k * 4) (by omega); rw [Nat.zero_add] at this; rw [this, v0]
  · have := hc (k * 4 + 1) (by omega); rw [Nat.zero_add] at this; rw [this, v1]
  · have := hc (k * 4 + 2) (by omega); rw [Nat.zero_add] at this; rw [this, v2]
  · have := hc (k * 4 + 3) (by omega); rw [Nat.zero_add] at this; rw [this, v3]
set_option maxRecDepth 20000 in
theorem closure_c (v : Value) (m : MachD) (L R : DfaD) (w : World) (hA : Autos w v m L R) (hm : machOk m = true) (hL : dfaOk L m.sy = true) (hR : dfaOk R m.sy = true) :
    Calls Tryz.prog 59 #[v] w (CloRes w m L R) := by
  have hA0 := hA
  obtain ⟨rv, uv, tv, rfl, h1, h2, h3⟩ := hA
  obtain ⟨W, hW⟩ : ∃ W, W = (((w.alloc (.cells #[.int .i64 m.sy, .int .i64 m.st, rv, .int .i64 L.st, uv, .int .i64 R.st, tv] 66)).alloc (.cells #[.slice none 0 0] 111)).alloc (.map #[] 0)).alloc (.cells #[.map (some (w.heap.size + 1 + 1))] 145) := ⟨_, rfl⟩
  have hXW : Ext w W := by rw [hW]; exact (((Ext.alloc _ _).trans (Ext.alloc _ _)).trans (Ext.alloc _ _)).trans (Ext.alloc _ _)
  have bA : Blk W w.heap.size 66 #[.int .i64 m.sy, .int .i64 m.st, rv, .int .i64 L.st, uv, .int .i64 R.st, tv] := by rw [hW]; exact (((Blk.new _ _ _ _ rfl).ext (Ext.alloc _ _)).ext (Ext.alloc _ _)).ext (Ext.alloc _ _)
  have bL : Blk W (w.heap.size + 1) 111 #[.slice none 0 0] := by rw [hW]; exact ((Blk.new _ _ _ _ (by simp)).ext (Ext.alloc _ _)).ext (Ext.alloc _ _)
  have bS : Blk W (w.heap.size + 1 + 1 + 1) 145 #[.map (some (w.heap.size + 1 + 1))] := by rw [hW]; exact Blk.new _ _ _ _ (by simp)
  have hT : TblB Tryz.prog 147 4 outV W (w.heap.size + 1 + 1) 0 (fun _ => false) := by
    have := TblB.made Tryz.prog 147 4 outV ((w.alloc (.cells #[.int .i64 m.sy, .int .i64 m.st, rv, .int .i64 L.st, uv, .int .i64 R.st, tv] 66)).alloc (.cells #[.slice none 0 0] 111))
    simp only [World.size_alloc] at this
    rw [hW]
    exact this.ext (Ext.alloc _ _)
  have hF : FSt w.heap.size W (w.heap.size + 1 + 1 + 1) (w.heap.size + 1) [] (.slice none 0 0) (w.heap.size + 1 + 1) :=
    ⟨bS, bL, ⟨by simp [ovs], .inl ⟨rfl, rfl⟩⟩, hT, by omega, by omega, by omega⟩
  have hfind := findO_c w.heap.size W _ _ [] (0, 0, 0, 0) _ _ hF hXW.size (by simp) ⟨by simp, by simp, by simp, by simp⟩
  simp only [outV] at hfind
  have hmm := @run_makeMap Tryz.prog
  generalize hg0 : w.heap.size = g0 at *
  go_enter Tryz.func59, Tryz.ntmps59
  go_wp2_with fail
  rw [← hW]
  clear hW
  refine hfind.mono ?_
  rintro e w1 ⟨rfl, hF1⟩
  have bA1 := hF1.2.2.2 _ _ _ bA (by decide) (by decide)
  have e00 : addA [] (0, 0, 0, 0) = rndA m L R 0 := rfl
  rw [e00] at hF1
  have hb0 : g0 ≤ w1.heap.size := by have := hXW.size; have := hF1.2.2.1; omega
  have HM := Lib.hid hm
  have HL := Lib.hid hL
  have HR := Lib.hid hR
  have HA := Lib.hid hA0
  have hX1 : Ext w w1 := hXW.trans' hF1.2.1 (by omega)
  obtain ⟨lv1, S1⟩ := hF1.1
  have hFr := FRes.refl S1 (Ext.refl _) hb0
  clear hfind hF bL bS hT bA hA0 hm hL hR h1 h2 h3 hmm e00 S1
  go_wp2_with fail
  go_loopw [7, 3] (fun i r wr => ∃ k : Nat, i = .int .i64 k ∧ r = .bool (rulA m L R k) ∧ k ≤ (rndA m L R k).length ∧ (rndA m L R k).length ≤ 3000 ∧ FRes g0 w1 (g0 + 1 + 1 + 1) (g0 + 1) (rndA m L R k) (g0 + 1 + 1) wr) (fun i _ _ => 3001 - (intOf i).toNat)
  case atStart => exact ⟨0, rfl, rfl, by simp [rndA], by simp [rndA], hFr⟩
  case round =>
    obtain ⟨k, rfl, rfl, hk, hlen, hFk⟩ := hrel
    obtain ⟨lv, S⟩ := hFk.1
    have bA2 := hFk.2.2.2 _ _ _ bA1 (by decide) (by decide)
    have bl2 := S.blkL.cell 0
    have fl2 := S.blkL.frozen 0
    have a0 := bA2.cell 0
    have a1 := bA2.cell 1
    have a2 := bA2.cell 2
    have a3 := bA2.cell 3
    have a4 := bA2.cell 4
    have a5 := bA2.cell 5
    have a6 := bA2.cell 6
    simp only [List.getElem?_toArray, List.getElem?_cons_zero, List.getElem?_cons_succ] at bl2 a0 a1 a2 a3 a4 a5 a6
    obtain ⟨Al, cl, rfl, _, _, _⟩ := (ownsRow_row S.own).form
    have hXk : Ext w wr := hX1.trans' hFk.2.1 (by omega)
    have hOwn := Lib.hid S.own
    by_cases hlt : k < (rndA m L R k).length
    · obtain ⟨gl, rfl, l0, l1, l2, l3⟩ := ovs_at S.own hlt
      have hnx := rndA_next (m := m) (L := L) (R := R) hlt
      have hrl := rulA_next (m := m) (L := L) (R := R) hlt
      have hok := rndA_ok HM.out HL.out HR.out k _ (List.getElem_mem hlt)
      have hsuc := successors_c g0 w wr.drew (g0 + 1 + 1 + 1) (g0 + 1) (rndA m L R k) _ (g0 + 1 + 1) _ m L R (rndA m L R k)[k] (S.ext (Ext.drew _)) HA.out (hXk.trans (Ext.drew _)) (by omega) (by omega) HM.out HL.out HR.out hok
      have hkn0 : Hid (k + 1 ≤ (rndA m L R (k + 1)).length) := Lib.hid (by
        have := (rndA_prefix m L R k).length_le
        omega)
      have hNX := Lib.hid hnx
      have hRL := Lib.hid hrl
      clear hnx hrl hok
      have hlN : Hid ((rndA m L R k).length ≤ 3000) := Lib.hid hlen
      simp only [outV] at hsuc
      rw [← hNX.out] at hsuc
      have hRL2 : Hid ((isR (m.rules.getD ((rndA m L R k)[k].2.1 * m.sy + (rndA m L R k)[k].2.2.1).toNat noR) && rulA m L R k) = rulA m L R (k + 1)) := Lib.hid hRL.out.symm
      generalize isR (m.rules.getD ((rndA m L R k)[k].2.1 * m.sy + (rndA m L R k)[k].2.2.1).toNat noR) = q at *
      generalize (rndA m L R k)[k] = x at *
      generalize rulA m L R k = rk at *
      generalize (rndA m L R k).length = n at *
      go_wp2_with fail
      go_still_tail 6, (by kernel_rfl)
      change wpList _ _ _ _ _ wr.drew
      go_wp2_with fail
      refine hsuc.mono ?_
      rintro e w2 ⟨rfl, hF2⟩
      have hF3 := (hFk.ext (Ext.drew _) hb0).trans hF2
      obtain ⟨lv2, S2⟩ := hF2.1
      obtain ⟨A2, c2, rfl, g2, g2', _⟩ := (ownsRow_row S2.own).form
      have u2 := S2.blkL.cell 0
      have f2 := S2.blkL.frozen 0
      simp only [List.getElem?_toArray, List.getElem?_cons_zero, List.getElem?_cons_succ] at u2
      have hs2 : Ext w w2 := hX1.trans' hF3.2.1 (by omega)
      clear bl2 fl2 a0 a1 a2 a3 a4 a5 a6 l0 l1 l2 l3 hF2 S2 S hsuc
      have hlt2 := Lib.hid hlt
      obtain ⟨n2, hn2⟩ : ∃ n2, n2 = (rndA m L R (k + 1)).length := ⟨_, rfl⟩
      rw [← hn2] at u2 g2
      have hN2 := Lib.hid hn2
      clear hn2
      have hkn : k + 1 ≤ n2 := by
        have := hkn0.out
        rw [← hN2.out] at this
        exact this
      by_cases h3 : 3000 < n2
      · have hi3 : (3000 : Int) < (n2 : Int) := by omega
        cases q <;> cases rk
        all_goals
          go_wp2
          refine bodyPost_ret (v := .tuple #[.slice none 0 0, .bool false, .bool false]) (by simp [results, Tryz.results59, go_sem, u2]) rfl ⟨?_, .inr ⟨k + 1, by rw [← hN2.out]; exact h3, rfl⟩⟩
          exact hs2.setCell (p := ⟨g0 + 1, 0, none⟩) (by simp; omega) _
      · have hi3 : ¬ (3000 : Int) < (n2 : Int) := by omega
        have hR2 := hRL2
        cases q <;> cases rk
        all_goals
          go_wp2
          go_roundw
          case rel => exact ⟨k + 1, by go_num, by rw [← hRL2.out]; rfl, by rw [← hN2.out]; exact hkn, by rw [← hN2.out]; omega, hF3⟩
          case measure => simp [intOf]; omega
    · have hk' : k = (rndA m L R k).length := by omega
      have hlN : Hid ((rndA m L R k).length ≤ 3000 ∧ (rndA m L R k).length ≤ k) := Lib.hid ⟨hlen, by omega⟩
      obtain ⟨n, hn⟩ : ∃ n, n = (rndA m L R k).length := ⟨_, rfl⟩
      have hOwn2 : Hid (wr.ownsRow w.heap.size 147 4 (.slice Al n cl) n (ovs (rndA m L R k))) := Lib.hid (by rw [hg0, hn]; exact hOwn.out)
      have hN := Lib.hid hn
      rw [← hn] at bl2 hk' hlt
      clear hlen hk hn
      have hS := Lib.hid S
      clear S
      go_wp2
      refine bodyPost_ret (v := .tuple #[.slice Al n cl, .bool (rulA m L R k), .bool true]) (by simp [results, Tryz.results59, go_sem, bl2]) rfl ?_
      have hE : (rulA m L R k) = rulA m L R k := rfl
      have hs3 : Ext w (wr.setCell ⟨g0 + 1, 0, none⟩ (.slice Al n cl)) := hXk.setCell (p := ⟨g0 + 1, 0, none⟩) (by simp; omega) _
      have hown : (wr.setCell ⟨g0 + 1, 0, none⟩ (.slice Al n cl)).ownsRow w.heap.size 147 4 (.slice Al n cl) n (ovs (rndA m L R k)) :=
        own_kept hOwn2.out (grownBy_setCell wr ⟨g0 + 1, 0, none⟩ (.slice Al n cl)) (blk_ne_row hS.out.blkL hOwn2.out (by decide))
      rw [hN.out] at hown ⊢
      refine ⟨by rw [hN.out] at hs3; exact hs3, .inl ⟨k, _, hlN.out.2, hlN.out.1, hown, rfl⟩⟩
end Go.Proofs.YtacpchapgklcgaaGreatDoor
end
section
set_option linter.unusedSimpArgs false
set_option linter.unusedVariables false
set_option linter.unusedSectionVars false
set_option maxHeartbeats 4000000
namespace Go.Proofs.YtacpchapgklcgaaGreatDoor
open Go Go.RowKit Go.Proofs
theorem dfa_no_st {d : DfaD} {sy : Int} (h : inB d.st 1 20 = false) : dfaOk d sy = false := by simp [dfaOk, h]
theorem dfa_no_len {d : DfaD} {sy : Int} (h : ¬ (d.nx.length : Int) = d.st * sy) : dfaOk d sy = false := by simp [dfaOk, h]
theorem dfa_no_zero {d : DfaD} {sy : Int} {z : Int} {l : List Int} (e : d.nx = z :: l) (h : ¬ z = 0) : dfaOk d sy = false := by simp [dfaOk, e, h]
theorem dfa_no_all {d : DfaD} {sy : Int} {k : Nat} (hk : k < d.nx.length) (h : inB d.nx[k] 0 (d.st - 1) = false) : dfaOk d sy = false := by
  have : (d.nx.all fun z => inB z 0 (d.st - 1)) = false := all_no hk h
  simp [dfaOk, this]
theorem dfa_yes {d : DfaD} {sy z : Int} {l : List Int} (s1 : 2 ≤ sy) (s2 : sy ≤ 6) (h1 : inB d.st 1 20 = true) (h2 : (d.nx.length : Int) = d.st * sy) (e : d.nx = z :: l) (h3 : z = 0) (h4 : allTo (fun z => inB z 0 (d.st - 1)) d.nx d.nx.length) : dfaOk d sy = true := by
  have := allTo_end h4 (Nat.le_refl _)
  have hb : inB sy 2 6 = true := inB_iff.2 ⟨s1, s2⟩
  unfold dfaOk
  rw [hb, h1, this, h2, e, h3]
  simp
end Go.Proofs.YtacpchapgklcgaaGreatDoor
end
