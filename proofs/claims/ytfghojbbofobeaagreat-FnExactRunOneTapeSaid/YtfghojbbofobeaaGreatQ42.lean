/- Contracts of the laws' marks in machines with several tapes.
Contracts of the laws' copies, comparisons and marks of configurations. Lists are short; the marks stay below 2 to the power of 62.
Contracts of the laws' comparison of configurations with several tapes that are equal. -/
import Derived.Test.YtfghojbbofobeaaGreatQ41
import Derived.Test.YtfghojbbofobeaaGreatQ03
import Derived.Test.YtfghojbbofobeaaGreatQ05
import Derived.Test.YtfghojbbofobeaaGreatQ02
import Derived.Test.YtfghojbbofobeaaGreatQ15
import Derived.Test.YtfghojbbofobeaaGreatQ30
import Derived.Test.YtfghojbbofobeaaGreatQ01
section
set_option linter.unusedVariables false
set_option linter.unusedSimpArgs false
namespace Go.Proofs.YtfghojbbofobeaaGreat
open Go Go.RowKit Go.Proofs
set_option maxHeartbeats 400000
/-- Cells of rules whose lists are of the lengths of the given rules', each in a block of its own below T. -/
structure MarkM (base T : Nat) (w : World) (cl : List Value) (rs : List MRuleD) : Prop where
  len : cl.length = rs.length * 5
  at_ : ∀ i, (h : i < rs.length) → ∃ (vr vw vm : Value) (a b c : List Int) (s t : Int), cl[i * 5]? = some (.int .i64 s) ∧ cl[i * 5 + 1]? = some vr ∧ cl[i * 5 + 2]? = some vw ∧ cl[i * 5 + 3]? = some vm ∧ cl[i * 5 + 4]? = some (.int .i64 t) ∧
    (OwnInts base w vr a ∧ a.length = rs[i].rd.length) ∧ (OwnInts base w vw b ∧ b.length = rs[i].wr.length) ∧ (OwnInts base w vm c ∧ c.length = rs[i].mv.length)
  lt : ∀ (j : Nat) (u : Value) (g : Nat), cl[j]? = some u → u.ownBlock = some g → g < T
  ap : ∀ (i j : Nat) (u u' : Value) (g : Nat), i ≠ j → cl[i]? = some u → cl[j]? = some u' → u.ownBlock = some g → u'.ownBlock ≠ some g
theorem MarkM.of {base : Nat} {w0 w : World} {cl : List Value} {rs : List MRuleD} (h : FillM base w0 cl rs rs.length) (he : Ext w0 w) : MarkM base w0.heap.size w cl rs := by
  refine ⟨h.len, fun i hi => ?_, fun j u g hu hg => ?_, fun i j u u' g hij hu hu' => ?_⟩
  · obtain ⟨a, b, c, e0, e1, e2, e3, e4, o1, o2, o3⟩ := h.at_ i hi hi
    exact ⟨a, b, c, _, _, _, _, _, e0, e1, e2, e3, e4, ⟨o1.ext he, rfl⟩, ⟨o2.ext he, rfl⟩, ⟨o3.ext he, rfl⟩⟩
  · have := (List.getElem?_eq_some_iff.1 hu).1
    exact h.lt j u g (by have := h.len; omega) hu hg
  · have a := (List.getElem?_eq_some_iff.1 hu).1
    have b := (List.getElem?_eq_some_iff.1 hu').1
    have := h.len
    exact h.ap i j u u' g (by omega) (by omega) hij hu hu'
/-- A number of a rule is written. -/
theorem MarkM.setI {base T : Nat} {w w' : World} {cl : List Value} {rs : List MRuleD} (h : MarkM base T w cl rs) {k j : Nat} (hk : k < rs.length) (hj : j = k * 5 ∨ j = k * 5 + 4) (z : Int) (hf : ∀ (b : Nat) (u : Value) (zs : List Int), OwnInts b w u zs → OwnInts b w' u zs) : MarkM base T w' (cl.set j (.int .i64 z)) rs := by
  have hl := h.len
  have get : ∀ (i : Nat) (u : Value), (cl.set j (.int .i64 z))[i]? = some u → (i = j ∧ u = .int .i64 z) ∨ (i ≠ j ∧ cl[i]? = some u) := fun i u hu => by
    by_cases e : i = j
    · subst e
      rw [List.getElem?_set_self (by omega)] at hu
      injection hu with hu
      exact .inl ⟨rfl, hu.symm⟩
    · rw [List.getElem?_set_ne (Ne.symm e)] at hu
      exact .inr ⟨e, hu⟩
  refine ⟨by simp [hl], fun i hi => ?_, fun i u g hu hg => ?_, fun a b u u' g hab hu hu' hg => ?_⟩
  · obtain ⟨vr, vw, vm, a, b, c, s, t, e0, e1, e2, e3, e4, ⟨o1, l1⟩, ⟨o2, l2⟩, ⟨o3, l3⟩⟩ := h.at_ i hi
    have r1 : (cl.set j (.int .i64 z))[i * 5 + 1]? = some vr := by rw [List.getElem?_set_ne (by omega)]; exact e1
    have r2 : (cl.set j (.int .i64 z))[i * 5 + 2]? = some vw := by rw [List.getElem?_set_ne (by omega)]; exact e2
    have r3 : (cl.set j (.int .i64 z))[i * 5 + 3]? = some vm := by rw [List.getElem?_set_ne (by omega)]; exact e3
    have r0 : ∃ s', (cl.set j (.int .i64 z))[i * 5]? = some (.int .i64 s') := by
      by_cases e : j = i * 5
      · subst e; exact ⟨z, List.getElem?_set_self (by omega)⟩
      · exact ⟨s, by rw [List.getElem?_set_ne e]; exact e0⟩
    have r4 : ∃ s', (cl.set j (.int .i64 z))[i * 5 + 4]? = some (.int .i64 s') := by
      by_cases e : j = i * 5 + 4
      · subst e; exact ⟨z, List.getElem?_set_self (by omega)⟩
      · exact ⟨t, by rw [List.getElem?_set_ne e]; exact e4⟩
    obtain ⟨s', r0⟩ := r0
    obtain ⟨t', r4⟩ := r4
    exact ⟨vr, vw, vm, a, b, c, s', t', r0, r1, r2, r3, r4, ⟨hf _ _ _ o1, l1⟩, ⟨hf _ _ _ o2, l2⟩, ⟨hf _ _ _ o3, l3⟩⟩
  · rcases get i u hu with ⟨_, rfl⟩ | ⟨_, hu⟩
    · cases hg
    · exact h.lt i u g hu hg
  · rcases get a u hu with ⟨_, rfl⟩ | ⟨_, hu⟩
    · cases hg
    · rcases get b u' hu' with ⟨_, rfl⟩ | ⟨_, hu'⟩
      · intro e; cases e
      · exact h.ap a b u u' g hab hu hu' hg
/-- A list of a rule is written. -/
theorem MarkM.mark {base T : Nat} {w w' : World} {cl : List Value} {rs : List MRuleD} (h : MarkM base T w cl rs) {j : Nat} {u : Value} {zs zs' : List Int} (hu : cl[j]? = some u) (ho : OwnInts base w u zs) (ho' : OwnInts base w' u zs') (hl : zs'.length = zs.length) (hg : w.grownBy w' u.ownBlock) : MarkM base T w' cl rs := by
  have one : ∀ (i : Nat) (v : Value) (a : List Int) (n : Nat), cl[i]? = some v → OwnInts base w v a ∧ a.length = n → ∃ a', OwnInts base w' v a' ∧ a'.length = n := fun i v a n hv ⟨hv1, hv2⟩ => by
    by_cases e : i = j
    · subst e
      rw [hu] at hv
      injection hv with hv
      subst hv
      obtain ⟨A1, c1, e1, _, _⟩ := ho.ints.form
      obtain ⟨A2, c2, e2, _, _⟩ := hv1.ints.form
      rw [e1] at e2
      injection e2 with _ e3 _
      exact ⟨zs', ho', by omega⟩
    · refine ⟨a, World.ownsRow.kept hv1 hg ?_, hv2⟩
      cases hb : v.ownBlock with
      | none => exact .inl rfl
      | some g => exact .inr fun he => h.ap i j v u g e hv hu hb he.symm
  refine ⟨h.len, fun i hi => ?_, h.lt, h.ap⟩
  obtain ⟨vr, vw, vm, a, b, c, s, t, e0, e1, e2, e3, e4, o1, o2, o3⟩ := h.at_ i hi
  obtain ⟨a', o1⟩ := one _ _ _ _ e1 o1
  obtain ⟨b', o2⟩ := one _ _ _ _ e2 o2
  obtain ⟨c', o3⟩ := one _ _ _ _ e3 o3
  exact ⟨vr, vw, vm, a', b', c', s, t, e0, e1, e2, e3, e4, o1, o2, o3⟩
/-- What lies from T on is as it was. -/
def TopF (T : Nat) (w w' : World) : Prop := ∀ j, T ≤ j → j < w.heap.size → w'.heap[j]? = w.heap[j]?
theorem TopF.refl (T : Nat) (w : World) : TopF T w w := fun _ _ _ => rfl
theorem TopF.grown {T : Nat} {a b c : World} {row : Option Nat} (h : TopF T a b) (hs : a.heap.size ≤ b.heap.size) (hg : b.grownBy c row) (hr : ∀ k, row = some k → k < T) : TopF T a c := fun j h1 h2 =>
  (hg.block j (Nat.lt_of_lt_of_le h2 hs) (fun e => by have := hr j e.symm; omega)).trans (h j h1 h2)
set_option maxRecDepth 20000 in
set_option maxHeartbeats 4000000 in
theorem markMultiRuleS_c (base : Nat) (v : Value) (rs : List MRuleD) (k : Int) (w0 w : World) (h : OwnMA base w0 v rs) (hx : Ext w0 w) (hb : base ≤ w.heap.size) (h0 : 0 ≤ k) (h1 : k + (2 * rs.length + totM rs : Nat) ≤ 4611686018427387904) :
    Calls Tryz.prog 38 #[v, .int .i64 k] w fun e w' => e = .returned (.int .i64 (k + (2 * rs.length + totM rs : Nat))) ∧ Below base w w' ∧ TopF w0.heap.size w w' := by
  obtain ⟨cl, ho, hf⟩ := h
  have hM := MarkM.of hf hx
  have hrT := fun g hg => (ho.lt g hg).2
  have ho := ownsRow_ext ho hx
  clear hf hx
  generalize w0.heap.size = T at *
  obtain ⟨A, c, rfl, _, _, _⟩ := (ownsRow_row ho).form
  go_enter Tryz.func38, Tryz.ntmps38
  go_wp2
  go_loopw [1, 5] (fun q i wr => ∃ (j : Nat) (cl : List Value), j ≤ rs.length ∧ i = .int .i64 j ∧ q = .int .i64 (k + (2 * j + totM (rs.take j) : Nat)) ∧ Below base w wr ∧ TopF T w wr ∧ wr.ownsRow base 94 5 (.slice A rs.length c) rs.length cl ∧ MarkM base T wr cl rs) (fun _ i _ => rs.length - (intOf i).toNat)
  case atStart => exact ⟨0, cl, Nat.zero_le _, rfl, by simp [totM], Below.refl _ _, TopF.refl _ _, ho, hM⟩
  case round =>
    clear ho hM
    obtain ⟨j, cl, hj, rfl, rfl, hB, hT, ho, hM⟩ := hrel
    by_cases hlt : j < rs.length
    · obtain ⟨g, rfl, hbg, hgl⟩ := own_at ho (by omega)
      obtain ⟨vr, vw, vm, a, b, c', s, t, e0, e1, e2, e3, e4, ⟨o1, l1⟩, ⟨o2, l2⟩, ⟨o3, l3⟩⟩ := hM.at_ j hlt
      have hl := ho.1
      have HTS := Lib.hid (totM_take_succ rs j hlt)
      have HTT := Lib.hid (totM_take_succ rs j hlt)
      have hle := totM_take_le rs (j + 1)
      rw [HTS.out] at hle
      have hsz : szR rs[j] = rs[j].rd.length + rs[j].wr.length + rs[j].mv.length := rfl
      obtain ⟨n1, hn1⟩ : ∃ n, rs[j].rd.length = n := ⟨_, rfl⟩
      obtain ⟨n2, hn2⟩ : ∃ n, rs[j].wr.length = n := ⟨_, rfl⟩
      obtain ⟨n3, hn3⟩ : ∃ n, rs[j].mv.length = n := ⟨_, rfl⟩
      rw [hn1] at l1 hsz
      rw [hn2] at l2 hsz
      rw [hn3] at l3 hsz
      rw [hsz] at hle
      subst l1 l2 l3
      have HSZ := Lib.hid hsz
      obtain ⟨z, hz⟩ : ∃ z, k + ((2 * j + totM (rs.take j) : Nat) : Int) = z := ⟨_, rfl⟩
      have HZ := Lib.hid hz
      have hz0 : 0 ≤ z := by omega
      have hz1 : z + 2 + a.length + b.length + c'.length ≤ 4611686018427387904 := by omega
      rw [hz]
      obtain ⟨B1, d1, rfl, _, _⟩ := id o1.ints.form
      obtain ⟨B2, d2, rfl, _, _⟩ := id o2.ints.form
      obtain ⟨B3, d3, rfl, _, _⟩ := id o3.ints.form
      have q0 := ho.cellAt (j * 5) (by omega)
      rw [List.getElem?_eq_getElem (by omega)] at q0
      have z0 := ho.frozenAt (j * 5)
      obtain ⟨S1, hS1⟩ : ∃ x, x = wr.setCell ⟨g, j * 5, none⟩ (.int .i64 z) := ⟨_, rfl⟩
      obtain ⟨s1, t1⟩ := ho.stored (j * 5) (.int .i64 z)
      have keep1 : ∀ (b : Nat) (u : Value) (zs : List Int), OwnInts b wr u zs → OwnInts b S1 u zs := fun b u zs hu => by
        rw [hS1]
        exact World.ownsRow.kept hu t1 (own_ne hu ho (by decide))
      rw [← hS1] at s1 t1
      have M1 := hM.setI hlt (.inl rfl) z keep1
      have bB1 : Below base w S1 := by rw [hS1]; exact hB.setCell (p := ⟨g, j * 5, none⟩) hbg _
      have tT1 := hT.grown hB.size t1 hrT
      have p1 := keep1 _ _ _ o1
      have p2 := keep1 _ _ _ o2
      have p3 := keep1 _ _ _ o3
      have f1 : (cl.set (j * 5) (.int .i64 z))[j * 5 + 1]? = some (.slice B1 a.length d1) := by rw [List.getElem?_set_ne (by omega)]; exact e1
      have f2 : (cl.set (j * 5) (.int .i64 z))[j * 5 + 2]? = some (.slice B2 b.length d2) := by rw [List.getElem?_set_ne (by omega)]; exact e2
      have f3 : (cl.set (j * 5) (.int .i64 z))[j * 5 + 3]? = some (.slice B3 c'.length d3) := by rw [List.getElem?_set_ne (by omega)]; exact e3
      have f4 : (cl.set (j * 5) (.int .i64 z))[j * 5 + 4]? = some (.int .i64 t) := by rw [List.getElem?_set_ne (by omega)]; exact e4
      have hl1 : (cl.set (j * 5) (.int .i64 z)).length = rs.length * 5 := by simp [hl]
      generalize cl.set (j * 5) (.int .i64 z) = C at *
      have x1 : (wr.setCell ⟨g, j * 5, none⟩ (.int .i64 z)).cell? ⟨g, j * 5 + 1, none⟩ = some (.slice B1 a.length d1) := by
        rw [← hS1]
        exact (s1.cellAt (j * 5 + 1) (by omega)).trans f1
      have hbs1 : base ≤ S1.heap.size := Nat.le_trans hb bB1.size
      have MK1 := markInt64S_c base _ a (z + 1) S1 p1 (by omega) (by omega)
      have HD := Lib.hid hS1
      clear hM hB hT o1 o2 o3 e0 e1 e2 e3 e4 keep1 hz HTS hle hsz hn1 hn2 hn3 ho
      go_wp2_with fail
      try rw [← hS1]
      clear hS1 q0 z0 x1
      refine MK1.mono ?_
      rintro e w2 ⟨rfl, r1, g1⟩
      have M2 := M1.mark f1 p1 r1 (by simp) g1
      have s2 := World.ownsRow.kept s1 g1 (own_ne s1 p1 (by decide))
      have bB2 := bB1.grown g1 hbs1 (fun q hq => (p1.lt q hq).1)
      have tT2 := tT1.grown bB1.size g1 (fun q hq => M1.lt _ _ q f1 hq)
      have apt : ∀ {x y : World} {i1 i2 : Nat} {u u' : Value} {zs : List Int}, i1 ≠ i2 → C[i1]? = some u → C[i2]? = some u' → OwnInts base x u zs → x.grownBy y u'.ownBlock → OwnInts base y u zs := fun {x y i1 i2 u u' zs} hne hu hu' ho hg =>
        World.ownsRow.kept ho hg (by
          cases hb : u.ownBlock with
          | none => exact .inl rfl
          | some q => exact .inr fun he => M1.ap _ _ _ _ q hne hu hu' hb he.symm)
      have k2 := apt (by omega) f2 f1 p2 g1
      have k3 := apt (by omega) f3 f1 p3 g1
      have x2 := (s2.cellAt (j * 5 + 2) (by omega)).trans f2
      have hbs2 : base ≤ w2.heap.size := Nat.le_trans hb bB2.size
      have MK2 := markInt64S_c base _ b (z + 1 + a.length) w2 k2 (by omega) (by omega)
      clear MK1 p1 p2 p3 r1 s1 tT1 g1 bB1 t1
      go_wp2_with fail
      refine MK2.mono ?_
      rintro e w3 ⟨rfl, r2, g2⟩
      have M3 := M2.mark f2 k2 r2 (by simp) g2
      have s3 := World.ownsRow.kept s2 g2 (own_ne s2 k2 (by decide))
      have bB3 := bB2.grown g2 hbs2 (fun q hq => (k2.lt q hq).1)
      have tT3 := tT2.grown bB2.size g2 (fun q hq => M2.lt _ _ q f2 hq)
      have m3 := apt (by omega) f3 f2 k3 g2
      have x3 := (s3.cellAt (j * 5 + 3) (by omega)).trans f3
      have hbs3 : base ≤ w3.heap.size := Nat.le_trans hb bB3.size
      have MK3 := markInt64S_c base _ c' (z + 1 + a.length + b.length) w3 m3 (by omega) (by omega)
      clear MK2 k2 k3 r2 s2 tT2 g2 bB2 x2 M2
      go_wp2_with fail
      refine MK3.mono ?_
      rintro e w4 ⟨rfl, r3, g3⟩
      have M4 := M3.mark f3 m3 r3 (by simp) g3
      have s4 := World.ownsRow.kept s3 g3 (own_ne s3 m3 (by decide))
      have bB4 := bB3.grown g3 hbs3 (fun q hq => (m3.lt q hq).1)
      have tT4 := tT3.grown bB3.size g3 (fun q hq => M3.lt _ _ q f3 hq)
      have x4 := (s4.cellAt (j * 5 + 4) (by omega)).trans f4
      have z4 := s4.frozenAt (j * 5 + 4)
      obtain ⟨s5, t5⟩ := s4.stored (j * 5 + 4) (.int .i64 (z + 1 + a.length + b.length + c'.length))
      have M5 := M4.setI (w' := w4.setCell ⟨g, j * 5 + 4, none⟩ (.int .i64 (z + 1 + a.length + b.length + c'.length))) hlt (.inr rfl) (z + 1 + a.length + b.length + c'.length) (fun b u zs hu => World.ownsRow.kept hu t5 (own_ne hu s4 (by decide)))
      have bB5 := bB4.setCell (p := ⟨g, j * 5 + 4, none⟩) hbg (.int .i64 (z + 1 + a.length + b.length + c'.length))
      have tT5 := tT4.grown bB4.size t5 hrT
      have HS5 := Lib.hid s5
      have HM5 := Lib.hid M5
      have HB5 := Lib.hid bB5
      have HT5 := Lib.hid tT5
      have HEND : Hid (z + 1 + a.length + b.length + c'.length + 1 = k + ((2 * (j + 1) + totM (rs.take (j + 1)) : Nat) : Int)) := Lib.hid (by
        have a1 := HZ.out
        have a2 := HTT.out
        have a3 := HSZ.out
        omega)
      clear MK3 m3 r3 s3 tT3 g3 bB3 x3 M3 M4 s5 t5 M5 bB5 tT5 s4 tT4 bB4
      go_wp2_with fail
      go_roundw
      case rel => exact ⟨j + 1, _, by omega, by go_num, by rw [← HEND.out], HB5.out, HT5.out, HS5.out, HM5.out⟩
      case measure => simp [intOf]; omega
    · go_wp2
      go_ret
      obtain rfl : j = rs.length := by omega
      rw [List.take_of_length_le (Nat.le_refl _)]
      exact ⟨rfl, hB, hT⟩
theorem markMulti_c (base : Nat) (x y z : Int) (v : Value) (rs : List MRuleD) (k : Int) (w0 w : World) (h : OwnMA base w0 v rs) (hx : Ext w0 w) (hb : base ≤ w.heap.size) (h0 : 0 ≤ k) (h1 : k + (2 * rs.length + totM rs : Nat) ≤ 4611686018427387904) :
    Calls Tryz.prog 13 #[.agg #[.int .i64 x, .int .i64 y, .int .i64 z, v], .int .i64 k] w fun e w' => e = .returned (.int .i64 (k + (2 * rs.length + totM rs : Nat))) ∧ Below base w w' ∧ TopF w0.heap.size w w' := by
  obtain ⟨A, c, rfl, _, _⟩ := h.form
  have hA := Ext.alloc w (.cells #[.int .i64 x, .int .i64 y, .int .i64 z, .slice A rs.length c] 35)
  have MS := markMultiRuleS_c base _ rs k w0 _ h (hx.trans hA) (Nat.le_trans hb hA.size) h0 h1
  have hbB : Below base w (w.alloc (.cells #[.int .i64 x, .int .i64 y, .int .i64 z, .slice A rs.length c] 35)) := (Below.refl base w).alloc hb _
  obtain ⟨n, hn⟩ : ∃ n, (k + ((2 * rs.length + totM rs : Nat) : Int)) = n := ⟨_, rfl⟩
  rw [hn] at MS ⊢
  clear hn
  go_enter Tryz.func13, Tryz.ntmps13
  go_wp2_with fail
  refine MS.mono ?_
  rintro e w1 ⟨rfl, hB, hT⟩
  have H1 := Lib.hid (Below.trans hbB hB)
  have H2 : Hid (TopF w0.heap.size w w1) := Lib.hid fun j h1 h2 => (hT j h1 (Nat.lt_of_lt_of_le h2 hA.size)).trans (Below.block hA j h2)
  clear MS hB hT
  go_wp2
  go_ret
  exact ⟨rfl, H1.out, H2.out⟩
end Go.Proofs.YtfghojbbofobeaaGreat
end
section
namespace Go.Proofs.YtfghojbbofobeaaGreat
open Go Go.RowKit Go.Proofs
set_option maxHeartbeats 400000
theorem ownsRow_lowC {w : World} {base : Nat} {e : TypeId} {size : Nat} {v : Value} {n : Nat} {xs : List Value} (h : w.ownsRow base e size v n xs) {p : Addr} (hp : p.block < base) (u : Value) : (w.setCell p u).ownsRow base e size v n xs :=
  ownsRow_far h (fun k hk => by have := (h.lt k hk).1; omega) u
/-- Only the blocks of two slices may have changed. -/
def TwoOnly (w w' : World) (u v : Value) : Prop := w.heap.size ≤ w'.heap.size ∧ ∀ g, g < w.heap.size → u.ownBlock ≠ some g → v.ownBlock ≠ some g → w'.heap[g]? = w.heap[g]?
theorem TwoOnly.own {w w' : World} {u v : Value} (h : TwoOnly w w' u v) {base : Nat} {e : TypeId} {size : Nat} {x : Value} {n : Nat} {xs : List Value} (ho : w.ownsRow base e size x n xs) (h1 : ∀ g, x.ownBlock = some g → u.ownBlock ≠ some g ∧ v.ownBlock ≠ some g) : w'.ownsRow base e size x n xs := by
  obtain ⟨a, b⟩ := ho
  refine ⟨a, ?_⟩
  rcases b with b | ⟨g, cap, cur, rfl, hb, hh, r⟩
  · exact .inl b
  · obtain ⟨n1, n2⟩ := h1 g rfl
    exact .inr ⟨g, cap, cur, rfl, hb, (h.2 g (Array.getElem?_eq_some_iff.1 hh).1 n1 n2).trans hh, r⟩
theorem TwoOnly.row {w w' : World} {u v : Value} (h : TwoOnly w w' u v) {size n : Nat} {x : Value} {xs : List Value} (ho : Row w size x n xs) (h1 : ∀ g o s, x = .slice (some ⟨g, o, s⟩) n (match x with | .slice _ _ c => c | _ => 0) → u.ownBlock ≠ some g ∧ v.ownBlock ≠ some g) : Row w' size x n xs := by
  obtain ⟨A, c, rfl, h2, h3, h4, h5⟩ := ho
  refine ⟨A, c, rfl, h2, h3, h4, fun hn => ?_⟩
  obtain ⟨b, off, rfl, hc⟩ := h5 hn
  refine ⟨b, off, rfl, fun j hj => ?_⟩
  obtain ⟨n1, n2⟩ := h1 b off none rfl
  have := hc j hj
  rw [List.getElem?_eq_getElem hj] at this ⊢
  have hlt := World.block_lt_of_cell? w _ this
  exact (World.cell?_of_block (h.2 b hlt n1 n2)).trans this
end Go.Proofs.YtfghojbbofobeaaGreat
end
section
set_option linter.unusedVariables false
set_option linter.unusedSimpArgs false
namespace Go.Proofs.YtfghojbbofobeaaGreat
open Go Go.RowKit Go.Proofs
set_option maxHeartbeats 400000
theorem eqTape_c (l1 r1 l2 r2 : Value) (t : TapeD) (w : World) (a1 : Ints w l1 t.l) (a2 : Ints w r1 t.r) (b1 : Ints w l2 t.l) (b2 : Ints w r2 t.r) :
    Calls Tryz.prog 74 #[.agg #[l1, r1], .agg #[l2, r2]] w fun e w' => e = .returned (.bool true) ∧ Ext w w' := by
  have hx0 := (Ext.alloc w (.cells #[l1, r1] 106)).trans (Ext.alloc _ (.cells #[l2, r2] 106))
  obtain ⟨A1, c1, rfl, _, _⟩ := a1.form
  obtain ⟨A2, c2, rfl, _, _⟩ := a2.form
  obtain ⟨B1, d1, rfl, _, _⟩ := b1.form
  obtain ⟨B2, d2, rfl, _, _⟩ := b2.form
  have ba := (Blk.new w w.heap.size 106 #[.slice A1 t.l.length c1, .slice A2 t.r.length c2] rfl).alloc (.cells #[.slice B1 t.l.length d1, .slice B2 t.r.length d2] 106)
  have bb := Blk.new (w.alloc (.cells #[.slice A1 t.l.length c1, .slice A2 t.r.length c2] 106)) (w.heap.size + 1) 106 #[.slice B1 t.l.length d1, .slice B2 t.r.length d2] (by simp)
  go_enter Tryz.func74, Tryz.ntmps74
  go_wp2_with fail
  refine (eqInt64S_c _ _ _ _ _ (a1.ext hx0) (b1.ext hx0)).mono ?_
  rintro e w1 ⟨rfl, hx1⟩
  rw [lEq_true rfl]
  have e0 := (ba.ext hx1).cell 1
  have e1 := (bb.ext hx1).cell 1
  simp only [List.getElem?_toArray, List.getElem?_cons_zero, List.getElem?_cons_succ] at e0 e1
  go_wp2_with fail
  refine (eqInt64S_c _ _ _ _ _ ((a2.ext hx0).ext hx1) ((b2.ext hx0).ext hx1)).mono ?_
  rintro e w2 ⟨rfl, hx2⟩
  rw [lEq_true rfl]
  go_wp2
  go_ret
  exact ⟨rfl, (hx0.trans hx1).trans hx2⟩
theorem eqTapeS_c (u v : Value) (ts : List TapeD) (w : World) (ha : Tapes w u ts) (hb : Tapes w v ts) :
    Calls Tryz.prog 35 #[u, v] w fun e w' => e = .returned (.bool true) ∧ Ext w w' := by
  obtain ⟨A, ca, rfl, h1, h1'⟩ := ha.form
  obtain ⟨B, cb, rfl, h2, h2'⟩ := hb.form
  have hl1 : ((ts.length : Int) != (ts.length : Int)) = false := by simp
  go_enter Tryz.func35, Tryz.ntmps35
  go_wp2
  go_loopw [5] (fun i wr => ∃ k : Nat, k ≤ ts.length ∧ i = .int .i64 k ∧ Ext w wr) (fun i _ => ts.length - (intOf i).toNat)
  case atStart => exact ⟨0, Nat.zero_le _, rfl, Ext.refl _⟩
  case round =>
    obtain ⟨k, hk, rfl, hx⟩ := hrel
    by_cases hlt : k < ts.length
    · obtain ⟨b, off, vl, vr, rfl, c0, c1, i1, i2⟩ := ha.at hlt
      obtain ⟨b', off', ul, ur, rfl, d0, d1, j1, j2⟩ := hb.at hlt
      have c0 := cellR (hx.cell c0)
      have c1 := cellR (hx.cell c1)
      have d0 := cellR (hx.cell d0)
      have d1 := cellR (hx.cell d1)
      have EQ := fun d os => eqTape_c vl vr ul ur ts[k] (Sort.grow (redrawn wr d) os) ((i1.ext hx).ext (below_regrown _ _ _)) ((i2.ext hx).ext (below_regrown _ _ _)) ((j1.ext hx).ext (below_regrown _ _ _)) ((j2.ext hx).ext (below_regrown _ _ _))
      clear ha hb i1 i2 j1 j2
      generalize ts[k] = y at *
      go_wp2
      refine wp_region_ext (by kernel_rfl) (by kernel_rfl) ?_
      repeat (go_big_quiet_step ((go_at_call 74; with_reducible exact Calls.extR (EQ _ _))))
      refine wpQuiet_nil ?_
      intro w2 hx2
      go_wp2
      go_roundw
      case rel => exact ⟨k + 1, by omega, by go_num, hx.trans hx2⟩
      case measure => simp [intOf]; omega
    · go_wp2
      go_ret
      exact ⟨rfl, hx⟩
theorem eqMultiConfig_c (u v : Value) (q : Int) (ts : List TapeD) (w : World) (ha : Tapes w u ts) (hb : Tapes w v ts) :
    Calls Tryz.prog 10 #[.agg #[.int .i64 q, u], .agg #[.int .i64 q, v]] w fun e w' => e = .returned (.bool true) ∧ Ext w w' := by
  have hx0 := (Ext.alloc w (.cells #[.int .i64 q, u] 30)).trans (Ext.alloc _ (.cells #[.int .i64 q, v] 30))
  obtain ⟨A, ca, rfl, _, _⟩ := ha.form
  obtain ⟨B, cb, rfl, _, _⟩ := hb.form
  have ES := eqTapeS_c _ _ _ _ (ha.ext hx0) (hb.ext hx0)
  have h1 : (q != q) = false := by simp
  go_enter Tryz.func10, Tryz.ntmps10
  go_wp2_with fail
  refine ES.mono ?_
  rintro e w1 ⟨rfl, hx1⟩
  go_wp2
  go_ret
  exact ⟨rfl, hx0.trans hx1⟩
end Go.Proofs.YtfghojbbofobeaaGreat
end
