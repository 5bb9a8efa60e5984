/- Contract on a machine with two automata: a function is called with each outline to which one leads. -/
import Derived.Test.YtkdigfgodjjiaaaGreatAbF
set_option linter.unusedSimpArgs false
set_option linter.unusedVariables false
set_option linter.unusedSectionVars false
set_option maxHeartbeats 4000000
namespace Go.Proofs.YtkdigfgodjjiaaaGreat
open Go Go.RowKit Go.Proofs Go.Maps
theorem Ext.trans' {a b c : World} {n : Nat} (h : Ext a b) (k : Below n b c) (hn : a.heap.size ≤ n) : Ext a c := Below.trans h (Below.mono k hn)
theorem FSt.below {base : Nat} {w : World} {bs bl : Nat} {l : List Outl} {lv : Value} {bm : Nat} (h : FSt base w bs bl l lv bm) : base ≤ w.heap.size := Nat.le_trans h.lowS (Nat.le_of_lt h.blkS.lt)
theorem FRes.refl {base : Nat} {w w' : World} {bs bl : Nat} {l : List Outl} {lv : Value} {bm : Nat} (h : FSt base w bs bl l lv bm) (he : Ext w w') (hb : base ≤ w.heap.size) : FRes base w bs bl l bm w' :=
  ⟨⟨lv, h.ext he⟩, Below.mono he hb, he.size, fun g t cs hg _ _ => hg.ext he⟩
theorem FRes.trans {base : Nat} {w w' w'' : World} {bs bl : Nat} {l l' : List Outl} {bm : Nat} (h : FRes base w bs bl l bm w') (h2 : FRes base w' bs bl l' bm w'') : FRes base w bs bl l' bm w'' :=
  ⟨h2.1, h.2.1.trans h2.2.1, Nat.le_trans h.2.2.1 h2.2.2.1, fun g t cs hg n1 n2 => h2.2.2.2 g t cs (h.2.2.2 g t cs hg n1 n2) n1 n2⟩
theorem FRes.ext {base : Nat} {w w' w'' : World} {bs bl : Nat} {l : List Outl} {bm : Nat} (h : FRes base w bs bl l bm w') (he : Ext w' w'') (hb : base ≤ w.heap.size) : FRes base w bs bl l bm w'' := by
  obtain ⟨⟨lv, h1⟩, h2, h3, h4⟩ := h
  exact ⟨⟨lv, h1.ext he⟩, h2.trans (Below.mono he (by omega)), Nat.le_trans h3 he.size, fun g t cs hg n1 n2 => (h4 g t cs hg n1 n2).ext he⟩
theorem foldA_len (l xs : List Outl) : (foldA l xs).length ≤ l.length + xs.length := by
  induction xs generalizing l with
  | nil => exact Nat.le_refl _
  | cons a t ih =>
    have h1 := ih (addA l a)
    have h2 : (addA l a).length ≤ l.length + 1 := by unfold addA; split <;> simp
    show (foldA (addA l a) t).length ≤ _
    simp only [List.length_cons]
    omega
theorem foldA_snoc (l xs : List Outl) (a : Outl) : foldA l (xs ++ [a]) = addA (foldA l xs) a := by
  unfold foldA
  rw [List.foldl_append]
  rfl
theorem orgK_len (d : DfaD) (t sy : Int) (k : Nat) : (orgK d t sy k).length ≤ k := by
  unfold orgK
  have := List.length_filterMap_le (fun k => if d.nx.getD k 0 = t then some ((k : Int) / sy, (k : Int) % sy) else none) (List.range k)
  simpa using this
set_option maxRecDepth 20000 in
theorem successors_c (base : Nat) (w0 w : World) (bs bl : Nat) (l : List Outl) (lv : Value) (bm : Nat) (v : Value) (m : MachD) (L R : DfaD) (a : Outl) (h : FSt base w bs bl l lv bm) (hA : Autos w0 v m L R) (he : Ext w0 w) (hb0 : w0.heap.size ≤ base) (hn : l.length ≤ 10000)
    (hm : machOk m = true) (hL : dfaOk L m.sy = true) (hR : dfaOk R m.sy = true) (ha : okA m L R a) :
    Calls Tryz.prog 47 #[v, outV a, .func (.func 46) #[] #[.pointer (some ⟨bs, 0, none⟩), .pointer (some ⟨bl, 0, none⟩)]] w fun e w' => e = .returned (.bool (isR (m.rules.getD (a.2.1 * m.sy + a.2.2.1).toNat noR))) ∧ FRes base w bs bl (foldA l (succA m L R a)) bm w' := by
  obtain ⟨rv, uv, tv, rfl, h1, h2, h3⟩ := hA
  obtain ⟨a0, a1, a2, a3⟩ := a
  obtain ⟨⟨p0, p1⟩, ⟨q0, q1⟩, ⟨s0, s1⟩, ⟨t0, t1⟩⟩ := ha
  simp only at p0 p1 q0 q1 s0 s1 t0 t1
  obtain ⟨⟨m1, m2, m3, m4⟩, hlen, hall⟩ := machOk_five hm
  obtain ⟨k, hk, ek⟩ : ∃ k : Nat, k < m.rules.length ∧ a1 * m.sy + a2 = (k : Int) := by
    have e1 := Int.mul_nonneg q0 (show 0 ≤ m.sy by omega)
    have e2 : a1 * m.sy + m.sy ≤ m.st * m.sy := by
      have := Int.mul_le_mul_of_nonneg_right (show a1 + 1 ≤ m.st from q1) (show 0 ≤ m.sy by omega)
      rw [Int.add_mul, Int.one_mul] at this
      exact this
    rw [Int.mul_comm] at hlen
    exact ⟨(a1 * m.sy + a2).toNat, by omega, by omega⟩
  obtain ⟨r, hr⟩ : ∃ r, r = m.rules[k] := ⟨_, rfl⟩
  have hget : m.rules.getD (a1 * m.sy + a2).toNat noR = r := by rw [ek, Int.toNat_natCast, List.getD_eq_getElem?_getD, List.getElem?_eq_getElem hk, hr]; rfl
  have hro := hall _ (List.getElem_mem hk)
  rw [← hr] at hro
  simp only [hget]
  obtain ⟨A, c, rfl, g1, g2⟩ := (h1.ext he).form
  obtain ⟨b, off, rfl, hc⟩ := (h1.ext he).at hk
  obtain ⟨c0, c1, c2⟩ := hc k hk
  rw [← hr] at c0 c1 c2
  clear hc hr hall
  have hmul : 0 ≤ a1 * m.sy ∧ a1 * m.sy ≤ 6000 := by
    have e1 := Int.mul_nonneg q0 (show 0 ≤ m.sy by omega)
    have e2 := Int.mul_le_mul (show a1 ≤ 1000 by omega) (show m.sy ≤ 6 by omega) (by omega) (by omega)
    omega
  have hw1 : IntKind.i64.wrap (a1 * m.sy) = a1 * m.sy := IntWalk.i64_in _ (by omega)
  have hw2 : IntKind.i64.wrap (a1 * m.sy + a2) = (k : Int) := by rw [IntWalk.i64_in _ (by omega), ek]
  have i1 : (0 : Int) ≤ (k : Int) := by omega
  have i2 : (k : Int) < (m.rules.length : Int) := by omega
  have hlen' := Lib.hid hlen
  clear hlen
  obtain ⟨W, hW⟩ : ∃ W, W = ((w.alloc (.cells #[.int .i64 m.sy, .int .i64 m.st, .slice (some ⟨b, off, none⟩) m.rules.length c, .int .i64 L.st, uv, .int .i64 R.st, tv] 62)).alloc (.cells #[.int .i64 a0, .int .i64 a1, .int .i64 a2, .int .i64 a3] 68)).alloc
      (.cells #[.func (.func 46) #[] #[.pointer (some ⟨bs, 0, none⟩), .pointer (some ⟨bl, 0, none⟩)]] 95) := ⟨_, rfl⟩
  have hXW : Ext w W := by rw [hW]; exact ((Ext.alloc _ _).trans (Ext.alloc _ _)).trans (Ext.alloc _ _)
  obtain ⟨W2, hW2⟩ : ∃ W2, W2 = W.alloc (.cells #[.int .i64 r.w, .int .i64 r.m, .int .i64 r.n] 87) := ⟨_, rfl⟩
  have hXW2 : Ext w W2 := by rw [hW2]; exact hXW.trans (Ext.alloc _ _)
  have bA : Blk W2 w.heap.size 62 #[.int .i64 m.sy, .int .i64 m.st, .slice (some ⟨b, off, none⟩) m.rules.length c, .int .i64 L.st, uv, .int .i64 R.st, tv] := by rw [hW2, hW]; exact (((Blk.new _ _ _ _ rfl).ext (Ext.alloc _ _)).ext (Ext.alloc _ _)).ext (Ext.alloc _ _)
  have bO : Blk W2 (w.heap.size + 1) 68 #[.int .i64 a0, .int .i64 a1, .int .i64 a2, .int .i64 a3] := by rw [hW2, hW]; exact ((Blk.new _ _ _ _ (by simp)).ext (Ext.alloc _ _)).ext (Ext.alloc _ _)
  have bF : Blk W2 (w.heap.size + 1 + 1) 95 #[.func (.func 46) #[] #[.pointer (some ⟨bs, 0, none⟩), .pointer (some ⟨bl, 0, none⟩)]] := by rw [hW2, hW]; exact (Blk.new _ _ _ _ (by simp)).ext (Ext.alloc _ _)
  have bR : Blk W2 (w.heap.size + 1 + 1 + 1) 87 #[.int .i64 r.w, .int .i64 r.m, .int .i64 r.n] := by rw [hW2, hW]; exact Blk.new _ _ _ _ (by simp)
  have hbw := h.below
  have hF := FRes.refl h hXW2 hbw
  have hX0 := he.trans hXW2
  have d0 := hXW.cell c0
  have d1 := hXW.cell c1
  have d2 := hXW.cell c2
  rw [hW] at d0 d1 d2
  go_enter Tryz.func47, Tryz.ntmps47
  simp only [outV]
  go_wp2_with fail
  rw [← hW, ← hW2]
  clear d0 d1 d2 hW hW2
  refine (isRule_c r.w r.m r.n W2).mono ?_
  rintro e w3 ⟨rfl, hx3⟩
  have bA3 := bA.ext hx3
  have bO3 := bO.ext hx3
  have bF3 := bF.ext hx3
  have bR3 := bR.ext hx3
  have hF3 := hF.ext hx3 hbw
  have hX3 := hX0.trans hx3
  clear bA bO bF bR hF hX0 c0 c1 c2
  generalize w.heap.size = g0 at *
  have hmv := hro
  have HR := Lib.hid hro
  clear hro
  cases hi : isR r with
  | false =>
    have e0 : succA m L R (a0, a1, a2, a3) = [] := by
      simp only [succA, hget, hi]
      simp
    go_wp2
    go_ret
    rw [e0]
    exact ⟨by rw [hi]; rfl, hF3⟩
  | true =>
    have hrn : ¬ r = noR := by simpa [isR, rEq] using hi
    simp only [ruleOk, hrn, decide_false, Bool.false_or, Bool.and_eq_true, Bool.or_eq_true, beq_iff_eq, inB, decide_eq_true_eq] at hmv
    obtain ⟨⟨hw0, hmv⟩, hn0⟩ := hmv
    have x0 := bA3.cell 0
    have x3 := bA3.cell 3
    have x4 := bA3.cell 4
    have x5 := bA3.cell 5
    have x6 := bA3.cell 6
    have y0 := bO3.cell 0
    have y3 := bO3.cell 3
    have z0 := bR3.cell 0
    have z1 := bR3.cell 1
    simp only [List.getElem?_toArray, List.getElem?_cons_zero, List.getElem?_cons_succ] at x0 x3 x4 x5 x6 y0 y3 z0 z1
    have hLD : Dfas w3 (.agg #[.int .i64 L.st, uv]) L := ⟨uv, rfl, h2.ext hX3⟩
    have hRD : Dfas w3 (.agg #[.int .i64 R.st, tv]) R := ⟨tv, rfl, h3.ext hX3⟩
    have hsy : Hid (m.sy ≤ 6 ∧ 2 ≤ m.sy) := Lib.hid ⟨m2, m1⟩
    rcases hmv with e | e
    · have e0 : Hid (succA m L R (a0, a1, a2, a3) = (orgD R a3 m.sy).map fun p : Int × Int => (toD L a0 r.w m.sy, r.n, p.2, p.1)) := Lib.hid (by
        simp only [succA, hget, hi, e]
        simp)
      have hxr := toD_range hL p0 p1 (x := r.w) (by omega) (by omega)
      rw [e] at z1
      have hto := to_c (.agg #[.int .i64 L.st, uv]) L m.sy a0 r.w w3 hLD hL p0 p1 (by omega) (by omega)
      generalize toD L a0 r.w m.sy = x at *
      go_wp2_with fail
      refine hto.mono ?_
      rintro e4 w4 ⟨rfl, hx4⟩
      have bA4 := bA3.ext hx4
      have bO4 := bO3.ext hx4
      obtain ⟨w5, hw5⟩ : ∃ w5, w5 = w4.alloc (.cells #[.int .i64 x] 2) := ⟨_, rfl⟩
      have hx5 : Ext w4 w5 := by rw [hw5]; exact Ext.alloc _ _
      have bX5 : Blk w5 w4.heap.size 2 #[.int .i64 x] := by rw [hw5]; exact Blk.new _ _ _ _ rfl
      have bF5 := (bF3.ext hx4).ext hx5
      have bR5 := (bR3.ext hx4).ext hx5
      have hF5 := (hF3.ext hx4 h.below).ext hx5 h.below
      have hX5 := (hX3.trans hx4).trans hx5
      obtain ⟨lv5, S5⟩ := hF5.1
      have hI : ∀ l' w', FRes base w5 bs bl l' bm w' → Ext w0 w' := fun l' w' h => hX5.trans' h.2.1 hb0
      have hOr := origins1_c #[.pointer (some ⟨g0 + 1 + 1, 0, none⟩), .pointer (some ⟨w4.heap.size, 0, none⟩), .pointer (some ⟨g0 + 1 + 1 + 1, 0, none⟩)] tv R a3 m.sy w5 (fun ps w' => FRes base w5 bs bl (foldA l (ps.map fun p : Int × Int => (x, r.n, p.2, p.1))) bm w') (h3.ext hX5) hR
        (FRes.refl S5 (Ext.refl _) S5.below) (fun ps w' w'' h he => h.ext he S5.below) (fun ps w' h => h3.ext (hI _ _ h)) (fun j w' hF' hj hz => by
          obtain ⟨lv', S'⟩ := hF'.1
          have hl1 := foldA_len l ((orgK R a3 m.sy j).map fun p : Int × Int => (x, r.n, p.2, p.1))
          have hl2 := orgK_len R a3 m.sy j
          obtain ⟨_, hR2, hR3, _, _⟩ := dfaOk_parts hR
          have hj120 : (R.nx.length : Int) ≤ 120 := by
            have := Int.mul_le_mul hR2.2 hsy.out.1 (by have := hsy.out; omega) (by omega)
            omega
          have hu0 : 0 ≤ (j : Int) / m.sy := Int.ediv_nonneg (by omega) (by have := hsy.out; omega)
          have hu1 : (j : Int) / m.sy ≤ j := Int.ediv_le_self _ (by omega)
          have ht0 := Int.emod_nonneg (j : Int) (b := m.sy) (by have := hsy.out; omega)
          have ht1 := Int.emod_lt_of_pos (j : Int) (b := m.sy) (by have := hsy.out; omega)
          have hL2 := (dfaOk_parts hL).2.1
          refine (succ1_c base w' bs bl (g0 + 1 + 1) w4.heap.size (g0 + 1 + 1 + 1) _ lv' bm x ((j : Int) / m.sy) ((j : Int) % m.sy) r S' S'.below (by simp at hl1; omega)
            (hF'.2.2.2 _ _ _ bF5 (by decide) (by decide)) (hF'.2.2.2 _ _ _ bX5 (by decide) (by decide)) (hF'.2.2.2 _ _ _ bR5 (by decide) (by decide)) ⟨by simp only; omega, by simp only; omega, by simp only; have := hsy.out; omega, by simp only; omega⟩).mono ?_
          rintro e w'' ⟨rfl, hF''⟩
          refine ⟨rfl, ?_⟩
          rw [orgK_yes hz, List.map_append, List.map_cons, List.map_nil, foldA_snoc]
          exact hF'.trans hF'')
      have x5 := (bA4.ext hx5).cell 5
      have x6 := (bA4.ext hx5).cell 6
      have x0 := (bA4.ext hx5).cell 0
      have y3 := (bO4.ext hx5).cell 3
      simp only [List.getElem?_toArray, List.getElem?_cons_zero, List.getElem?_cons_succ] at x0 x5 x6 y3
      rw [hw5] at hOr x0 x5 x6 y3
      go_wp2_with (go_at_call 69; refine hOr.mono ?_; rintro e6 w6 ⟨rfl, hF6⟩)
      go_ret
      rw [e0.out]
      exact ⟨by rw [hi]; rfl, (hw5 ▸ hF5).trans hF6⟩
    · have e0 : Hid (succA m L R (a0, a1, a2, a3) = (orgD L a0 m.sy).map fun p : Int × Int => (p.1, r.n, p.2, toD R a3 r.w m.sy)) := Lib.hid (by
        simp only [succA, hget, hi, e]
        simp)
      have hxr := toD_range hR t0 t1 (x := r.w) (by omega) (by omega)
      rw [e] at z1
      have hto := to_c (.agg #[.int .i64 R.st, tv]) R m.sy a3 r.w w3 hRD hR t0 t1 (by omega) (by omega)
      generalize toD R a3 r.w m.sy = x at *
      go_wp2_with fail
      refine hto.mono ?_
      rintro e4 w4 ⟨rfl, hx4⟩
      have bA4 := bA3.ext hx4
      have bO4 := bO3.ext hx4
      obtain ⟨w5, hw5⟩ : ∃ w5, w5 = w4.alloc (.cells #[.int .i64 x] 2) := ⟨_, rfl⟩
      have hx5 : Ext w4 w5 := by rw [hw5]; exact Ext.alloc _ _
      have bX5 : Blk w5 w4.heap.size 2 #[.int .i64 x] := by rw [hw5]; exact Blk.new _ _ _ _ rfl
      have bF5 := (bF3.ext hx4).ext hx5
      have bR5 := (bR3.ext hx4).ext hx5
      have hF5 := (hF3.ext hx4 h.below).ext hx5 h.below
      have hX5 := (hX3.trans hx4).trans hx5
      obtain ⟨lv5, S5⟩ := hF5.1
      have hI : ∀ l' w', FRes base w5 bs bl l' bm w' → Ext w0 w' := fun l' w' h => hX5.trans' h.2.1 hb0
      have hOr := origins2_c #[.pointer (some ⟨g0 + 1 + 1, 0, none⟩), .pointer (some ⟨g0 + 1 + 1 + 1, 0, none⟩), .pointer (some ⟨w4.heap.size, 0, none⟩)] uv L a0 m.sy w5 (fun ps w' => FRes base w5 bs bl (foldA l (ps.map fun p : Int × Int => (p.1, r.n, p.2, x))) bm w') (h2.ext hX5) hL
        (FRes.refl S5 (Ext.refl _) S5.below) (fun ps w' w'' h he => h.ext he S5.below) (fun ps w' h => h2.ext (hI _ _ h)) (fun j w' hF' hj hz => by
          obtain ⟨lv', S'⟩ := hF'.1
          have hl1 := foldA_len l ((orgK L a0 m.sy j).map fun p : Int × Int => (p.1, r.n, p.2, x))
          have hl2 := orgK_len L a0 m.sy j
          obtain ⟨_, hR2, hR3, _, _⟩ := dfaOk_parts hL
          have hj120 : (L.nx.length : Int) ≤ 120 := by
            have := Int.mul_le_mul hR2.2 hsy.out.1 (by have := hsy.out; omega) (by omega)
            omega
          have hu0 : 0 ≤ (j : Int) / m.sy := Int.ediv_nonneg (by omega) (by have := hsy.out; omega)
          have hu1 : (j : Int) / m.sy ≤ j := Int.ediv_le_self _ (by omega)
          have ht0 := Int.emod_nonneg (j : Int) (b := m.sy) (by have := hsy.out; omega)
          have ht1 := Int.emod_lt_of_pos (j : Int) (b := m.sy) (by have := hsy.out; omega)
          have hL2 := (dfaOk_parts hR).2.1
          refine (succ2_c base w' bs bl (g0 + 1 + 1) w4.heap.size (g0 + 1 + 1 + 1) _ lv' bm x ((j : Int) / m.sy) ((j : Int) % m.sy) r S' S'.below (by simp at hl1; omega)
            (hF'.2.2.2 _ _ _ bF5 (by decide) (by decide)) (hF'.2.2.2 _ _ _ bX5 (by decide) (by decide)) (hF'.2.2.2 _ _ _ bR5 (by decide) (by decide)) ⟨by simp only; omega, by simp only; omega, by simp only; have := hsy.out; omega, by simp only; omega⟩).mono ?_
          rintro e w'' ⟨rfl, hF''⟩
          refine ⟨rfl, ?_⟩
          rw [orgK_yes hz, List.map_append, List.map_cons, List.map_nil, foldA_snoc]
          exact hF'.trans hF'')
      have x5 := (bA4.ext hx5).cell 3
      have x6 := (bA4.ext hx5).cell 4
      have x0 := (bA4.ext hx5).cell 0
      have y3 := (bO4.ext hx5).cell 0
      simp only [List.getElem?_toArray, List.getElem?_cons_zero, List.getElem?_cons_succ] at x0 x5 x6 y3
      rw [hw5] at hOr x0 x5 x6 y3
      go_wp2_with (go_at_call 69; refine hOr.mono ?_; rintro e6 w6 ⟨rfl, hF6⟩)
      go_ret
      rw [e0.out]
      exact ⟨by rw [hi]; rfl, (hw5 ▸ hF5).trans hF6⟩
end Go.Proofs.YtkdigfgodjjiaaaGreat
