/- Contracts of the laws' marks in machines with several tapes.
Contract of the laws' marks in lists of lists, with what stays as it was.
Contracts of the laws' copies of lists of lists and of proofs. Lists are short. -/
import Derived.Test.YtkbpchdncljlbaaDoorR41
import Derived.Test.YtkbpchdncljlbaaDoorR31
section
set_option linter.unusedVariables false
set_option linter.unusedSimpArgs false
namespace Go.Proofs.YtkbpchdncljlbaaDoor
open Go Go.RowKit Go.Proofs
set_option maxHeartbeats 400000
/-- Cells of rules whose lists are of the lengths of the given rules', each in a block of its own below T. -/
structure MarkM (base T : Nat) (w : World) (cl : List Value) (rs : List MRuleD) : Prop where
  len : cl.length = rs.length * 5
  at_ : ∀ i, (h : i < rs.length) → ∃ (vr vw vm : Value) (a b c : List Int) (s t : Int), cl[i * 5]? = some (.int .i64 s) ∧ cl[i * 5 + 1]? = some vr ∧ cl[i * 5 + 2]? = some vw ∧ cl[i * 5 + 3]? = some vm ∧ cl[i * 5 + 4]? = some (.int .i64 t) ∧
    (OwnInts base w vr a ∧ a.length = rs[i].rd.length) ∧ (OwnInts base w vw b ∧ b.length = rs[i].wr.length) ∧ (OwnInts base w vm c ∧ c.length = rs[i].mv.length)
  lt : ∀ (j : Nat) (u : Value) (g : Nat), cl[j]? = some u → u.ownBlock = some g → g < T
  ap : ∀ (i j : Nat) (u u' : Value) (g : Nat), i ≠ j → cl[i]? = some u → cl[j]? = some u' → u.ownBlock = some g → u'.ownBlock ≠ some g
theorem MarkM.of {base : Nat} {w0 w : World} {cl : List Value} {rs : List MRuleD} (h : FillM base w0 cl rs rs.length) (he : Ext w0 w) : MarkM base w0.heap.size w cl rs := by
  refine ⟨h.len, fun i hi => ?_, fun j u g hu hg => ?_, fun i j u u' g hij hu hu' => ?_⟩
  · obtain ⟨a, b, c, e0, e1, e2, e3, e4, o1, o2, o3⟩ := h.at_ i hi hi
    exact ⟨a, b, c, _, _, _, _, _, e0, e1, e2, e3, e4, ⟨o1.ext he, rfl⟩, ⟨o2.ext he, rfl⟩, ⟨o3.ext he, rfl⟩⟩
  · have := (List.getElem?_eq_some_iff.1 hu).1
    exact h.lt j u g (by have := h.len; omega) hu hg
  · have a := (List.getElem?_eq_some_iff.1 hu).1
    have b := (List.getElem?_eq_some_iff.1 hu').1
    have := h.len
    exact h.ap i j u u' g (by omega) (by omega) hij hu hu'
/-- A number of a rule is written. -/
theorem MarkM.setI {base T : Nat} {w w' : World} {cl : List Value} {rs : List MRuleD} (h : MarkM base T w cl rs) {k j : Nat} (hk : k < rs.length) (hj : j = k * 5 ∨ j = k * 5 + 4) (z : Int) (hf : ∀ (b : Nat) (u : Value) (zs : List Int), OwnInts b w u zs → OwnInts b w' u zs) : MarkM base T w' (cl.set j (.int .i64 z)) rs := by
  have hl := h.len
  have get : ∀ (i : Nat) (u : Value), (cl.set j (.int .i64 z))[i]? = some u → (i = j ∧ u = .int .i64 z) ∨ (i ≠ j ∧ cl[i]? = some u) := fun i u hu => by
    by_cases e : i = j
    · subst e
      rw [List.getElem?_set_self (by omega)] at hu
      injection hu with hu
      exact .inl ⟨rfl, hu.symm⟩
    · rw [List.getElem?_set_ne (Ne.symm e)] at hu
      exact .inr ⟨e, hu⟩
  refine ⟨by simp [hl], fun i hi => ?_, fun i u g hu hg => ?_, fun a b u u' g hab hu hu' hg => ?_⟩
  · obtain ⟨vr, vw, vm, a, b, c, s, t, e0, e1, e2, e3, e4, ⟨o1, l1⟩, ⟨o2, l2⟩, ⟨o3, l3⟩⟩ := h.at_ i hi
    have r1 : (cl.set j (.int .i64 z))[i * 5 + 1]? = some vr := by rw [List.getElem?_set_ne (by omega)]; exact e1
    have r2 : (cl.set j (.int .i64 z))[i * 5 + 2]? = some vw := by rw [List.getElem?_set_ne (by omega)]; exact e2
    have r3 : (cl.set j (.int .i64 z))[i * 5 + 3]? = some vm := by rw [List.getElem?_set_ne (by omega)]; exact e3
    have r0 : ∃ s', (cl.set j (.int .i64 z))[i * 5]? = some (.int .i64 s') := by
      by_cases e : j = i * 5
      · subst e; exact ⟨z, List.getElem?_set_self (by omega)⟩
      · exact ⟨s, by rw [List.getElem?_set_ne e]; exact e0⟩
    have r4 : ∃ s', (cl.set j (.int .i64 z))[i * 5 + 4]? = some (.int .i64 s') := by
      by_cases e : j = i * 5 + 4
      · subst e; exact ⟨z, List.getElem?_set_self (by omega)⟩
      · exact ⟨t, by rw [List.getElem?_set_ne e]; exact e4⟩
    obtain ⟨s', r0⟩ := r0
    obtain ⟨t', r4⟩ := r4
    exact ⟨vr, vw, vm, a, b, c, s', t', r0, r1, r2, r3, r4, ⟨hf _ _ _ o1, l1⟩, ⟨hf _ _ _ o2, l2⟩, ⟨hf _ _ _ o3, l3⟩⟩
  · rcases get i u hu with ⟨_, rfl⟩ | ⟨_, hu⟩
    · cases hg
    · exact h.lt i u g hu hg
  · rcases get a u hu with ⟨_, rfl⟩ | ⟨_, hu⟩
    · cases hg
    · rcases get b u' hu' with ⟨_, rfl⟩ | ⟨_, hu'⟩
      · intro e; cases e
      · exact h.ap a b u u' g hab hu hu' hg
/-- A list of a rule is written. -/
theorem MarkM.mark {base T : Nat} {w w' : World} {cl : List Value} {rs : List MRuleD} (h : MarkM base T w cl rs) {j : Nat} {u : Value} {zs zs' : List Int} (hu : cl[j]? = some u) (ho : OwnInts base w u zs) (ho' : OwnInts base w' u zs') (hl : zs'.length = zs.length) (hg : w.grownBy w' u.ownBlock) : MarkM base T w' cl rs := by
  have one : ∀ (i : Nat) (v : Value) (a : List Int) (n : Nat), cl[i]? = some v → OwnInts base w v a ∧ a.length = n → ∃ a', OwnInts base w' v a' ∧ a'.length = n := fun i v a n hv ⟨hv1, hv2⟩ => by
    by_cases e : i = j
    · subst e
      rw [hu] at hv
      injection hv with hv
      subst hv
      obtain ⟨A1, c1, e1, _, _⟩ := ho.ints.form
      obtain ⟨A2, c2, e2, _, _⟩ := hv1.ints.form
      rw [e1] at e2
      injection e2 with _ e3 _
      exact ⟨zs', ho', by omega⟩
    · refine ⟨a, World.ownsRow.kept hv1 hg ?_, hv2⟩
      cases hb : v.ownBlock with
      | none => exact .inl rfl
      | some g => exact .inr fun he => h.ap i j v u g e hv hu hb he.symm
  refine ⟨h.len, fun i hi => ?_, h.lt, h.ap⟩
  obtain ⟨vr, vw, vm, a, b, c, s, t, e0, e1, e2, e3, e4, o1, o2, o3⟩ := h.at_ i hi
  obtain ⟨a', o1⟩ := one _ _ _ _ e1 o1
  obtain ⟨b', o2⟩ := one _ _ _ _ e2 o2
  obtain ⟨c', o3⟩ := one _ _ _ _ e3 o3
  exact ⟨vr, vw, vm, a', b', c', s, t, e0, e1, e2, e3, e4, o1, o2, o3⟩
/-- What lies from T on is as it was. -/
def TopF (T : Nat) (w w' : World) : Prop := ∀ j, T ≤ j → j < w.heap.size → w'.heap[j]? = w.heap[j]?
theorem TopF.refl (T : Nat) (w : World) : TopF T w w := fun _ _ _ => rfl
theorem TopF.grown {T : Nat} {a b c : World} {row : Option Nat} (h : TopF T a b) (hs : a.heap.size ≤ b.heap.size) (hg : b.grownBy c row) (hr : ∀ k, row = some k → k < T) : TopF T a c := fun j h1 h2 =>
  (hg.block j (Nat.lt_of_lt_of_le h2 hs) (fun e => by have := hr j e.symm; omega)).trans (h j h1 h2)
set_option maxRecDepth 20000 in
set_option maxHeartbeats 4000000 in
theorem markMultiRuleS_c (base : Nat) (v : Value) (rs : List MRuleD) (k : Int) (w0 w : World) (h : OwnMA base w0 v rs) (hx : Ext w0 w) (hb : base ≤ w.heap.size) (h0 : 0 ≤ k) (h1 : k + (2 * rs.length + totM rs : Nat) ≤ 4611686018427387904) :
    Calls Tryd.prog 35 #[v, .int .i64 k] w fun e w' => e = .returned (.int .i64 (k + (2 * rs.length + totM rs : Nat))) ∧ Below base w w' ∧ TopF w0.heap.size w w' := by
  obtain ⟨cl, ho, hf⟩ := h
  have hM := MarkM.of hf hx
  have hrT := fun g hg => (ho.lt g hg).2
  have ho := ownsRow_ext ho hx
  clear hf hx
  generalize w0.heap.size = T at *
  obtain ⟨A, c, rfl, _, _, _⟩ := (ownsRow_row ho).form
  go_enter Tryd.func35, Tryd.ntmps35
  go_wp2
  go_loopw [1, 5] (fun q i wr => ∃ (j : Nat) (cl : List Value), j ≤ rs.length ∧ i = .int .i64 j ∧ q = .int .i64 (k + (2 * j + totM (rs.take j) : Nat)) ∧ Below base w wr ∧ TopF T w wr ∧ wr.ownsRow base 74 5 (.slice A rs.length c) rs.length cl ∧ MarkM base T wr cl rs) (fun _ i _ => rs.length - (intOf i).toNat)
  case atStart => exact ⟨0, cl, Nat.zero_le _, rfl, by simp [totM], Below.refl _ _, TopF.refl _ _, ho, hM⟩
  case round =>
    clear ho hM
    obtain ⟨j, cl, hj, rfl, rfl, hB, hT, ho, hM⟩ := hrel
    by_cases hlt : j < rs.length
    · obtain ⟨g, rfl, hbg, hgl⟩ := own_at ho (by omega)
      obtain ⟨vr, vw, vm, a, b, c', s, t, e0, e1, e2, e3, e4, ⟨o1, l1⟩, ⟨o2, l2⟩, ⟨o3, l3⟩⟩ := hM.at_ j hlt
      have hl := ho.1
      have HTS := Lib.hid (totM_take_succ rs j hlt)
      have HTT := Lib.hid (totM_take_succ rs j hlt)
      have hle := totM_take_le rs (j + 1)
      rw [HTS.out] at hle
      have hsz : szR rs[j] = rs[j].rd.length + rs[j].wr.length + rs[j].mv.length := rfl
      obtain ⟨n1, hn1⟩ : ∃ n, rs[j].rd.length = n := ⟨_, rfl⟩
      obtain ⟨n2, hn2⟩ : ∃ n, rs[j].wr.length = n := ⟨_, rfl⟩
      obtain ⟨n3, hn3⟩ : ∃ n, rs[j].mv.length = n := ⟨_, rfl⟩
      rw [hn1] at l1 hsz
      rw [hn2] at l2 hsz
      rw [hn3] at l3 hsz
      rw [hsz] at hle
      subst l1 l2 l3
      have HSZ := Lib.hid hsz
      obtain ⟨z, hz⟩ : ∃ z, k + ((2 * j + totM (rs.take j) : Nat) : Int) = z := ⟨_, rfl⟩
      have HZ := Lib.hid hz
      have hz0 : 0 ≤ z := by omega
      have hz1 : z + 2 + a.length + b.length + c'.length ≤ 4611686018427387904 := by omega
      rw [hz]
      obtain ⟨B1, d1, rfl, _, _⟩ := id o1.ints.form
      obtain ⟨B2, d2, rfl, _, _⟩ := id o2.ints.form
      obtain ⟨B3, d3, rfl, _, _⟩ := id o3.ints.form
      have q0 := ho.cellAt (j * 5) (by omega)
      rw [List.getElem?_eq_getElem (by omega)] at q0
      have z0 := ho.frozenAt (j * 5)
      obtain ⟨S1, hS1⟩ : ∃ x, x = wr.setCell ⟨g, j * 5, none⟩ (.int .i64 z) := ⟨_, rfl⟩
      obtain ⟨s1, t1⟩ := ho.stored (j * 5) (.int .i64 z)
      have keep1 : ∀ (b : Nat) (u : Value) (zs : List Int), OwnInts b wr u zs → OwnInts b S1 u zs := fun b u zs hu => by
        rw [hS1]
        exact World.ownsRow.kept hu t1 (own_ne hu ho (by decide))
      rw [← hS1] at s1 t1
      have M1 := hM.setI hlt (.inl rfl) z keep1
      have bB1 : Below base w S1 := by rw [hS1]; exact hB.setCell (p := ⟨g, j * 5, none⟩) hbg _
      have tT1 := hT.grown hB.size t1 hrT
      have p1 := keep1 _ _ _ o1
      have p2 := keep1 _ _ _ o2
      have p3 := keep1 _ _ _ o3
      have f1 : (cl.set (j * 5) (.int .i64 z))[j * 5 + 1]? = some (.slice B1 a.length d1) := by rw [List.getElem?_set_ne (by omega)]; exact e1
      have f2 : (cl.set (j * 5) (.int .i64 z))[j * 5 + 2]? = some (.slice B2 b.length d2) := by rw [List.getElem?_set_ne (by omega)]; exact e2
      have f3 : (cl.set (j * 5) (.int .i64 z))[j * 5 + 3]? = some (.slice B3 c'.length d3) := by rw [List.getElem?_set_ne (by omega)]; exact e3
      have f4 : (cl.set (j * 5) (.int .i64 z))[j * 5 + 4]? = some (.int .i64 t) := by rw [List.getElem?_set_ne (by omega)]; exact e4
      have hl1 : (cl.set (j * 5) (.int .i64 z)).length = rs.length * 5 := by simp [hl]
      generalize cl.set (j * 5) (.int .i64 z) = C at *
      have x1 : (wr.setCell ⟨g, j * 5, none⟩ (.int .i64 z)).cell? ⟨g, j * 5 + 1, none⟩ = some (.slice B1 a.length d1) := by
        rw [← hS1]
        exact (s1.cellAt (j * 5 + 1) (by omega)).trans f1
      have hbs1 : base ≤ S1.heap.size := Nat.le_trans hb bB1.size
      have MK1 := markInt64S_c base _ a (z + 1) S1 p1 (by omega) (by omega)
      have HD := Lib.hid hS1
      clear hM hB hT o1 o2 o3 e0 e1 e2 e3 e4 keep1 hz HTS hle hsz hn1 hn2 hn3 ho
      go_wp2_with fail
      try rw [← hS1]
      clear hS1 q0 z0 x1
      refine MK1.mono ?_
      rintro e w2 ⟨rfl, r1, g1⟩
      have M2 := M1.mark f1 p1 r1 (by simp) g1
      have s2 := World.ownsRow.kept s1 g1 (own_ne s1 p1 (by decide))
      have bB2 := bB1.grown g1 hbs1 (fun q hq => (p1.lt q hq).1)
      have tT2 := tT1.grown bB1.size g1 (fun q hq => M1.lt _ _ q f1 hq)
      have apt : ∀ {x y : World} {i1 i2 : Nat} {u u' : Value} {zs : List Int}, i1 ≠ i2 → C[i1]? = some u → C[i2]? = some u' → OwnInts base x u zs → x.grownBy y u'.ownBlock → OwnInts base y u zs := fun {x y i1 i2 u u' zs} hne hu hu' ho hg =>
        World.ownsRow.kept ho hg (by
          cases hb : u.ownBlock with
          | none => exact .inl rfl
          | some q => exact .inr fun he => M1.ap _ _ _ _ q hne hu hu' hb he.symm)
      have k2 := apt (by omega) f2 f1 p2 g1
      have k3 := apt (by omega) f3 f1 p3 g1
      have x2 := (s2.cellAt (j * 5 + 2) (by omega)).trans f2
      have hbs2 : base ≤ w2.heap.size := Nat.le_trans hb bB2.size
      have MK2 := markInt64S_c base _ b (z + 1 + a.length) w2 k2 (by omega) (by omega)
      clear MK1 p1 p2 p3 r1 s1 tT1 g1 bB1 t1
      go_wp2_with fail
      refine MK2.mono ?_
      rintro e w3 ⟨rfl, r2, g2⟩
      have M3 := M2.mark f2 k2 r2 (by simp) g2
      have s3 := World.ownsRow.kept s2 g2 (own_ne s2 k2 (by decide))
      have bB3 := bB2.grown g2 hbs2 (fun q hq => (k2.lt q hq).1)
      have tT3 := tT2.grown bB2.size g2 (fun q hq => M2.lt _ _ q f2 hq)
      have m3 := apt (by omega) f3 f2 k3 g2
      have x3 := (s3.cellAt (j * 5 + 3) (by omega)).trans f3
      have hbs3 : base ≤ w3.heap.size := Nat.le_trans hb bB3.size
      have MK3 := markInt64S_c base _ c' (z + 1 + a.length + b.length) w3 m3 (by omega) (by omega)
      clear MK2 k2 k3 r2 s2 tT2 g2 bB2 x2 M2
      go_wp2_with fail
      refine MK3.mono ?_
      rintro e w4 ⟨rfl, r3, g3⟩
      have M4 := M3.mark f3 m3 r3 (by simp) g3
      have s4 := World.ownsRow.kept s3 g3 (own_ne s3 m3 (by decide))
      have bB4 := bB3.grown g3 hbs3 (fun q hq => (m3.lt q hq).1)
      have tT4 := tT3.grown bB3.size g3 (fun q hq => M3.lt _ _ q f3 hq)
      have x4 := (s4.cellAt (j * 5 + 4) (by omega)).trans f4
      have z4 := s4.frozenAt (j * 5 + 4)
      obtain ⟨s5, t5⟩ := s4.stored (j * 5 + 4) (.int .i64 (z + 1 + a.length + b.length + c'.length))
      have M5 := M4.setI (w' := w4.setCell ⟨g, j * 5 + 4, none⟩ (.int .i64 (z + 1 + a.length + b.length + c'.length))) hlt (.inr rfl) (z + 1 + a.length + b.length + c'.length) (fun b u zs hu => World.ownsRow.kept hu t5 (own_ne hu s4 (by decide)))
      have bB5 := bB4.setCell (p := ⟨g, j * 5 + 4, none⟩) hbg (.int .i64 (z + 1 + a.length + b.length + c'.length))
      have tT5 := tT4.grown bB4.size t5 hrT
      have HS5 := Lib.hid s5
      have HM5 := Lib.hid M5
      have HB5 := Lib.hid bB5
      have HT5 := Lib.hid tT5
      have HEND : Hid (z + 1 + a.length + b.length + c'.length + 1 = k + ((2 * (j + 1) + totM (rs.take (j + 1)) : Nat) : Int)) := Lib.hid (by
        have a1 := HZ.out
        have a2 := HTT.out
        have a3 := HSZ.out
        omega)
      clear MK3 m3 r3 s3 tT3 g3 bB3 x3 M3 M4 s5 t5 M5 bB5 tT5 s4 tT4 bB4
      go_wp2_with fail
      go_roundw
      case rel => exact ⟨j + 1, _, by omega, by go_num, by rw [← HEND.out], HB5.out, HT5.out, HS5.out, HM5.out⟩
      case measure => simp [intOf]; omega
    · go_wp2
      go_ret
      obtain rfl : j = rs.length := by omega
      rw [List.take_of_length_le (Nat.le_refl _)]
      exact ⟨rfl, hB, hT⟩
theorem markMulti_c (base : Nat) (x y z : Int) (v : Value) (rs : List MRuleD) (k : Int) (w0 w : World) (h : OwnMA base w0 v rs) (hx : Ext w0 w) (hb : base ≤ w.heap.size) (h0 : 0 ≤ k) (h1 : k + (2 * rs.length + totM rs : Nat) ≤ 4611686018427387904) :
    Calls Tryd.prog 13 #[.agg #[.int .i64 x, .int .i64 y, .int .i64 z, v], .int .i64 k] w fun e w' => e = .returned (.int .i64 (k + (2 * rs.length + totM rs : Nat))) ∧ Below base w w' ∧ TopF w0.heap.size w w' := by
  obtain ⟨A, c, rfl, _, _⟩ := h.form
  have hA := Ext.alloc w (.cells #[.int .i64 x, .int .i64 y, .int .i64 z, .slice A rs.length c] 33)
  have MS := markMultiRuleS_c base _ rs k w0 _ h (hx.trans hA) (Nat.le_trans hb hA.size) h0 h1
  have hbB : Below base w (w.alloc (.cells #[.int .i64 x, .int .i64 y, .int .i64 z, .slice A rs.length c] 33)) := (Below.refl base w).alloc hb _
  obtain ⟨n, hn⟩ : ∃ n, (k + ((2 * rs.length + totM rs : Nat) : Int)) = n := ⟨_, rfl⟩
  rw [hn] at MS ⊢
  clear hn
  go_enter Tryd.func13, Tryd.ntmps13
  go_wp2_with fail
  refine MS.mono ?_
  rintro e w1 ⟨rfl, hB, hT⟩
  have H1 := Lib.hid (Below.trans hbB hB)
  have H2 : Hid (TopF w0.heap.size w w1) := Lib.hid fun j h1 h2 => (hT j h1 (Nat.lt_of_lt_of_le h2 hA.size)).trans (Below.block hA j h2)
  clear MS hB hT
  go_wp2
  go_ret
  exact ⟨rfl, H1.out, H2.out⟩
end Go.Proofs.YtkbpchdncljlbaaDoor
end
section
set_option linter.unusedVariables false
set_option linter.unusedSimpArgs false
namespace Go.Proofs.YtkbpchdncljlbaaDoor
open Go Go.RowKit Go.Proofs
set_option maxHeartbeats 400000
set_option maxRecDepth 20000 in
set_option maxHeartbeats 2000000 in
theorem markInt64SST_c (base : Nat) (v : Value) (xss : List (List Int)) (k : Int) (w0 w : World) (h : OwnIntRows base w0 v xss) (hk : ∀ g, base ≤ g → g < w0.heap.size → w.heap[g]? = w0.heap[g]?) (hb : base ≤ w.heap.size) (h0 : 0 ≤ k) (h1 : k + tot xss ≤ 4611686018427387904) :
    Calls Tryd.prog 14 #[v, .int .i64 k] w fun e w' => e = .returned (.int .i64 (k + tot xss)) ∧ Below base w w' ∧ TopF w0.heap.size w w' := by
  obtain ⟨vs, o1, o2, o3⟩ := h
  have hlo : ∀ (i : Nat) (u : Value) (g : Nat), i < xss.length → vs[i]? = some u → u.ownBlock = some g → g < w0.heap.size := fun i u g hi hu hg => by
    obtain ⟨u', e, o⟩ := o2 i hi
    rw [hu] at e
    injection e with e
    subst e
    exact (o.lt g hg).2
  have oM : ∀ i, (h : i < xss.length) → ∃ u zs, vs[i]? = some u ∧ OwnInts base w u zs ∧ zs.length = xss[i].length := fun i hi => by
    obtain ⟨u, e, o⟩ := o2 i hi
    exact ⟨u, _, e, own_same o (fun g hg => hk g (o.lt g hg).1 (o.lt g hg).2), rfl⟩
  have o1 := own_same o1 (fun g hg => hk g (o1.lt g hg).1 (o1.lt g hg).2)
  clear o2 hk
  generalize w0.heap.size = T at *
  obtain ⟨A, c, rfl, _, _, _⟩ := (ownsRow_row o1).form
  go_enter Tryd.func14, Tryd.ntmps14
  go_wp2
  go_loopw [1, 5] (fun q i wr => ∃ j : Nat, j ≤ xss.length ∧ i = .int .i64 j ∧ q = .int .i64 (k + (tot (xss.take j) : Nat)) ∧ Below base w wr ∧ TopF T w wr ∧ wr.ownsRow base 44 1 (.slice A xss.length c) xss.length vs ∧ Hid (∀ i, (h : i < xss.length) → ∃ u zs, vs[i]? = some u ∧ OwnInts base wr u zs ∧ zs.length = xss[i].length)) (fun _ i _ => xss.length - (intOf i).toNat)
  case atStart => exact ⟨0, Nat.zero_le _, rfl, by simp [tot], Below.refl _ _, TopF.refl _ _, o1, oM⟩
  case round =>
    clear o1 oM
    obtain ⟨j, hj, rfl, rfl, hB, hT, ho, hM⟩ := hrel
    by_cases hlt : j < xss.length
    · have HT := Lib.hid (tot_take_succ xss j hlt)
      have ht1 := tot_take_le xss (j + 1)
      rw [HT.out] at ht1
      have hbs : base ≤ wr.heap.size := Nat.le_trans hb hB.size
      obtain ⟨g, rfl, hbg, hgl⟩ := own_at ho (by omega)
      obtain ⟨u, zs, hu, hru, hzl⟩ := hM.out j hlt
      have q0 := (ho.cellAt j (by have := ho.1; omega)).trans hu
      obtain ⟨A1, c1, rfl, _, _⟩ := hru.ints.form
      have MK := markInt64S_c base _ zs (k + (tot (xss.take j) : Nat)) wr hru (by omega) (by omega)
      have HZL := Lib.hid hzl
      clear hzl
      go_wp2_with fail
      refine MK.mono ?_
      rintro e w2 ⟨rfl, hr2, hg2⟩
      have b2 := Lib.hid (hB.grown hg2 hbs (fun q hq => (hru.lt q hq).1))
      have t2 := Lib.hid (hT.grown hB.size hg2 (fun q hq => hlo j _ q hlt hu hq))
      have s2 := Lib.hid (World.ownsRow.kept ho hg2 (own_ne ho hru (by decide)))
      have m2 : Hid (∀ i, (h : i < xss.length) → ∃ u zs, vs[i]? = some u ∧ OwnInts base w2 u zs ∧ zs.length = xss[i].length) := Lib.hid fun i hi => by
        by_cases e : i = j
        · subst e
          exact ⟨_, _, hu, hr2, by simp [HZL.out]⟩
        · obtain ⟨u', zs', e', o', l'⟩ := hM.out i hi
          refine ⟨u', zs', e', World.ownsRow.kept o' hg2 ?_, l'⟩
          cases hb : u'.ownBlock with
          | none => exact .inl rfl
          | some q => exact .inr fun he => e (o3 i j u' _ q e' hu hb he.symm)
      clear q0 MK hB hT ho hM hru hr2 hg2
      go_wp2_with fail
      go_roundw
      case rel => exact ⟨j + 1, by omega, by go_num, by rw [HT.out, HZL.out]; congr 1; omega, b2.out, t2.out, s2.out, m2.out⟩
      case measure => simp [intOf]; omega
    · have hje : j = xss.length := by omega
      subst hje
      go_wp2
      go_ret
      exact ⟨by simp [List.take_of_length_le (Nat.le_refl _)], hB, hT⟩
end Go.Proofs.YtkbpchdncljlbaaDoor
end
section
namespace Go.Proofs.YtkbpchdncljlbaaDoor
open Go Go.RowKit Go.Proofs
set_option maxHeartbeats 400000
theorem rowInfo' : (Tryd.prog.info? 44).map (fun i => (i.zero, i.size, i.bytes)) = some (some (.slice none 0 0), 1, 24) := by kernel_rfl
/-- The first k rows are copied. -/
def RowsTo (b : Nat) (w : World) (xss : List (List Int)) (k : Nat) (vs : List Value) : Prop :=
  (∀ i, (h : i < xss.length) → i < k → ∃ u, vs[i]? = some u ∧ OwnInts b w u xss[i]) ∧
    ∀ (i j : Nat) (u u' : Value) (g : Nat), i < k → j < k → vs[i]? = some u → vs[j]? = some u' → u.ownBlock = some g → u'.ownBlock = some g → i = j
theorem RowsTo.ext {b : Nat} {w w' : World} {xss : List (List Int)} {k : Nat} {vs : List Value} (h : RowsTo b w xss k vs) (he : Ext w w') : RowsTo b w' xss k vs :=
  ⟨fun i hi hk => by obtain ⟨u, e, hu⟩ := h.1 i hi hk; exact ⟨u, e, hu.ext he⟩, h.2⟩
theorem far_of_ne {w : World} {base base' : Nat} {e e' : TypeId} {size size' : Nat} {v v' : Value} {n n' : Nat} {xs xs' : List Value} (h : w.ownsRow base e size v n xs) (h' : w.ownsRow base' e' size' v' n' xs') (hne : e ≠ e') {g : Nat} (hg : v'.ownBlock = some g) : ∀ k, v.ownBlock = some k → k ≠ g := by
  intro k hk he
  rcases own_ne h h' hne with c | c
  · rw [c] at hk; cases hk
  · exact c (by rw [hk, hg, he])
theorem RowsTo.step {g c0 : Nat} {w w2 : World} {xss : List (List Int)} {k n : Nat} {vs : List Value} {u : Value} (h : RowsTo g w xss k vs) (hx : Ext w w2) (ho : w2.ownsRow g 44 1 (.slice (some ⟨g, 0, none⟩) n c0) n vs) (hk : k < xss.length) (hn : k < vs.length)
    (hu : OwnInts w.heap.size w2 u xss[k]) (hb : g ≤ w.heap.size) : RowsTo g (w2.setCell ⟨g, k, none⟩ u) xss (k + 1) (vs.set k u) := by
  have keep : ∀ {b : Nat} {v : Value} {zs : List Int}, OwnInts b w2 v zs → OwnInts b (w2.setCell ⟨g, k, none⟩ u) v zs := fun hv => ownsRow_far (p := ⟨g, k, none⟩) hv (far_of_ne hv ho (by decide) rfl) u
  refine ⟨fun i hi hik => ?_, fun i j x x' b hi hj hxi hxj hb1 hb2 => ?_⟩
  · by_cases c : i = k
    · subst c
      exact ⟨u, List.getElem?_set_self hn, keep (ownsRow_base hu hb)⟩
    · obtain ⟨x, e, hx'⟩ := h.1 i hi (by omega)
      exact ⟨x, by rw [List.getElem?_set_ne (Ne.symm c)]; exact e, keep (hx'.ext hx)⟩
  · have old : ∀ (i : Nat) (x : Value), i < k → vs[i]? = some x → x.ownBlock = some b → b < w.heap.size := fun i x hi hx1 hb1 => by
      obtain ⟨x', e, hx'⟩ := h.1 i (by omega) hi
      rw [hx1] at e
      injection e with e
      subst e
      exact (hx'.lt b hb1).2
    have new : u.ownBlock = some b → w.heap.size ≤ b := fun hb1 => (hu.lt b hb1).1
    by_cases ci : i = k <;> by_cases cj : j = k
    · omega
    · subst ci
      rw [List.getElem?_set_self hn] at hxi
      injection hxi with hxi
      subst hxi
      rw [List.getElem?_set_ne (Ne.symm cj)] at hxj
      have := old j x' (by omega) hxj hb2
      have := new hb1
      omega
    · subst cj
      rw [List.getElem?_set_self hn] at hxj
      injection hxj with hxj
      subst hxj
      rw [List.getElem?_set_ne (Ne.symm ci)] at hxi
      have := old i x (by omega) hxi hb1
      have := new hb2
      omega
    · rw [List.getElem?_set_ne (Ne.symm ci)] at hxi
      rw [List.getElem?_set_ne (Ne.symm cj)] at hxj
      exact h.2 i j x x' b (by omega) (by omega) hxi hxj hb1 hb2
theorem toInt64SS_c (v : Value) (xss : List (List Int)) (w : World) (h : IntRows w v xss) (hn : xss.length + tot xss ≤ 1048576) :
    Calls Tryd.prog 8 #[v] w fun e w' => ∃ u, e = .returned u ∧ OwnIntRows w.heap.size w' u xss ∧ Ext w w' := by
  obtain ⟨A, c, rfl, h2, h3⟩ := h.form
  obtain ⟨i0, hi, hz0, hz1, hz2⟩ := info_parts rowInfo'
  go_enter Tryd.func8, Tryd.ntmps8
  go_wp2_with (at_make; refine wpList_make_full _ rfl _ _ 25 rfl w.heap.size 44 i0 _ 1 Tryd.underlying25 hi hz0 hz1 .i64 .i64 _ _ xss.length rfl rfl rfl rfl ?c1 ?c2 ?c3 ?_)
  case c1 => rw [hz2]; omega
  case c2 => unfold maxLen; omega
  case c3 => exact Nat.le_refl _
  intro w1 hown hgr
  have hx1 : Ext w w1 := (Ext.refl _).grown hgr (by simp)
  obtain ⟨cs, hown⟩ : ∃ cs, w1.ownsRow w.heap.size 44 1 (.slice (some ⟨w.heap.size, 0, none⟩) xss.length xss.length) xss.length cs := ⟨_, hown⟩
  clear hgr hi hz0 hz1 hz2
  have hsz : w.heap.size < w1.heap.size := (hown.lt _ rfl).2
  generalize hg : w.heap.size = g at *
  have HG := Lib.hid hg
  clear hg
  go_wp2
  go_loopw [4] (fun i wr => ∃ k : Nat, k ≤ xss.length ∧ i = .int .i64 k ∧ Ext w wr ∧ ∃ vs, wr.ownsRow g 44 1 (.slice (some ⟨g, 0, none⟩) xss.length xss.length) xss.length vs ∧ RowsTo g wr xss k vs) (fun i _ => xss.length - (intOf i).toNat)
  case atStart => exact ⟨0, Nat.zero_le _, rfl, hx1, cs, hown, fun i _ hk => by omega, fun i j u u' b hi => by omega⟩
  case round =>
    obtain ⟨k, hk, rfl, hx, vs, ho, hf⟩ := hrel
    by_cases hlt : k < xss.length
    · obtain ⟨b, off, rfl, hc⟩ := h.at hlt
      obtain ⟨A1, d1, c0, r0⟩ := hc k hlt
      have d0 := hx.cell c0
      have r0 := r0.ext hx
      have hb : w.heap.size ≤ g := Nat.le_of_eq HG.out
      have hyl : xss[k].length ≤ 1048576 := by
        have := tot_take_succ xss k hlt
        have := tot_take_le xss (k + 1)
        omega
      have HF : Hid (∀ (w2 : World) (u : Value), Ext wr w2 → OwnInts wr.heap.size w2 u xss[k] → RowsTo g (w2.setCell ⟨g, k, none⟩ u) xss (k + 1) (vs.set k u)) := fun w2 u hx2 hu =>
        hf.step hx2 (ownsRow_ext ho hx2) hlt (by have := ho.1; omega) hu (by have := (ho.lt g rfl).2; omega)
      clear hc c0
      generalize xss[k] = y at *
      go_wp2_with fail
      refine (toInt64S_c _ y _ r0 hyl).mono ?_
      rintro e w2 ⟨u, rfl, hu, hx2⟩
      have ho2 := ownsRow_ext ho hx2
      have hl := ho.1
      have q0 := ho2.cellAt k (by omega)
      rw [List.getElem?_eq_getElem (by omega)] at q0
      have f0 := ho2.frozenAt k
      obtain ⟨A2, c2, rfl, _, _⟩ := hu.ints.form
      clear d0
      go_wp2
      go_roundw
      case rel => exact ⟨k + 1, by omega, by go_num, (hx.trans hx2).setCell hb _, _, (ho2.stored k _).1, HF.out _ _ hx2 hu⟩
      case measure => simp [intOf]; omega
    · go_wp2
      go_ret
      refine ⟨_, rfl, ?_, hx⟩
      have hl := ho.1
      rw [HG.out]
      refine ⟨vs, ho, fun i hi => hf.1 i hi (by omega), fun i j u u' b hi hj => ?_⟩
      have a1 := (List.getElem?_eq_some_iff.1 hi).1
      have a2 := (List.getElem?_eq_some_iff.1 hj).1
      exact hf.2 i j u u' b (by omega) (by omega) hi hj
theorem ownsRow_low {w : World} {base : Nat} {e : TypeId} {size : Nat} {v : Value} {n : Nat} {xs : List Value} (h : w.ownsRow base e size v n xs) {p : Addr} (hp : p.block < base) (u : Value) : (w.setCell p u).ownsRow base e size v n xs :=
  ownsRow_far h (fun k hk => by have := (h.lt k hk).1; omega) u
theorem OwnIntRows.low {w : World} {base : Nat} {v : Value} {xss : List (List Int)} (h : OwnIntRows base w v xss) {p : Addr} (hp : p.block < base) (u : Value) : OwnIntRows base (w.setCell p u) v xss := by
  obtain ⟨vs, h1, h2, h3⟩ := h
  exact ⟨vs, ownsRow_low h1 hp u, fun i hi => by obtain ⟨x, e, hx⟩ := h2 i hi; exact ⟨x, e, ownsRow_low hx hp u⟩, h3⟩
theorem OwnIntRows.base {w : World} {base base' : Nat} {v : Value} {xss : List (List Int)} (h : OwnIntRows base w v xss) (hb : base' ≤ base) : OwnIntRows base' w v xss := by
  obtain ⟨vs, h1, h2, h3⟩ := h
  exact ⟨vs, ownsRow_base h1 hb, fun i hi => by obtain ⟨x, e, hx⟩ := h2 i hi; exact ⟨x, e, ownsRow_base hx hb⟩, h3⟩
/-- A proof. -/
structure ProofD where
  k : Int
  ns : List Int
  ws : List (List Int)
deriving DecidableEq
def Prf (w : World) (v : Value) (p : ProofD) : Prop := ∃ nv wv, v = .agg #[.int .i64 p.k, nv, wv] ∧ Ints w nv p.ns ∧ IntRows w wv p.ws
theorem Prf.ext {w w' : World} {v : Value} {p : ProofD} (h : Prf w v p) (he : Ext w w') : Prf w' v p := by
  obtain ⟨nv, wv, hv, h1, h2⟩ := h; exact ⟨nv, wv, hv, h1.ext he, h2.ext he⟩
def prfSize (p : ProofD) : Nat := p.ns.length + (p.ws.length + tot p.ws)
end Go.Proofs.YtkbpchdncljlbaaDoor
end
