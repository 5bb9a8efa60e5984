/- Words for machines with several tapes in memory: rules, sides of tapes, configurations. No condition.
A machine with several tapes as an argument. No condition.
Contracts of the laws' copies, comparisons and marks of configurations. Lists are short; the marks stay below 2 to the power of 62. -/
import Derived.Test.YtfghojbbofobeaaP07
import Derived.Test.YtfghojbbofobeaaP02
import Derived.Test.YtfghojbbofobeaaP04
import Derived.Test.YtfghojbbofobeaaP03
import Derived.Test.YtfghojbbofobeaaP05
section
set_option linter.unusedVariables false
set_option linter.unusedSimpArgs false
namespace Go.Proofs.Ytfghojbbofobeaa
open Go Go.RowKit Go.Proofs
/-- Rules of a machine with several tapes. -/
def MRules (w : World) (v : Value) (rs : List MRuleD) : Prop :=
  ∃ A c, v = .slice A rs.length c ∧ rs.length ≤ c ∧ c ≤ 9223372036854775807 ∧ (0 < rs.length → ∃ b off, A = some ⟨b, off, none⟩ ∧ ∀ i, (h : i < rs.length) → ∃ vr vw vm,
    w.cell? ⟨b, off + i * 5, none⟩ = some (.int .i64 rs[i].st) ∧ w.cell? ⟨b, off + i * 5 + 1, none⟩ = some vr ∧ w.cell? ⟨b, off + i * 5 + 2, none⟩ = some vw ∧ w.cell? ⟨b, off + i * 5 + 3, none⟩ = some vm ∧ w.cell? ⟨b, off + i * 5 + 4, none⟩ = some (.int .i64 rs[i].nx) ∧
    Ints w vr rs[i].rd ∧ Ints w vw rs[i].wr ∧ Ints w vm rs[i].mv)
theorem MRules.ext {w w' : World} {v : Value} {rs : List MRuleD} (h : MRules w v rs) (he : Ext w w') : MRules w' v rs := by
  obtain ⟨A, c, rfl, h1, h2, h3⟩ := h
  refine ⟨A, c, rfl, h1, h2, fun hn => ?_⟩
  obtain ⟨b, off, e, hc⟩ := h3 hn
  refine ⟨b, off, e, fun i hi => ?_⟩
  obtain ⟨vr, vw, vm, c0, c1, c2, c3, c4, i1, i2, i3⟩ := hc i hi
  exact ⟨vr, vw, vm, he.cell c0, he.cell c1, he.cell c2, he.cell c3, he.cell c4, i1.ext he, i2.ext he, i3.ext he⟩
theorem MRules.form {w : World} {v : Value} {rs : List MRuleD} (h : MRules w v rs) : ∃ A c, v = .slice A rs.length c ∧ rs.length ≤ c ∧ c ≤ 9223372036854775807 := by
  obtain ⟨A, c, e, h1, h2, _⟩ := h
  exact ⟨A, c, e, h1, h2⟩
theorem MRules.at {w : World} {A : Option Addr} {c : Nat} {rs : List MRuleD} (h : MRules w (.slice A rs.length c) rs) {i : Nat} (hi : i < rs.length) : ∃ b off vr vw vm, A = some ⟨b, off, none⟩ ∧
    w.cell? ⟨b, off + i * 5, none⟩ = some (.int .i64 rs[i].st) ∧ w.cell? ⟨b, off + i * 5 + 1, none⟩ = some vr ∧ w.cell? ⟨b, off + i * 5 + 2, none⟩ = some vw ∧ w.cell? ⟨b, off + i * 5 + 3, none⟩ = some vm ∧ w.cell? ⟨b, off + i * 5 + 4, none⟩ = some (.int .i64 rs[i].nx) ∧
    Ints w vr rs[i].rd ∧ Ints w vw rs[i].wr ∧ Ints w vm rs[i].mv := by
  obtain ⟨A', c', e, _, _, h3⟩ := h
  injection e with e1 _ _
  subst e1
  obtain ⟨b, off, e, hc⟩ := h3 (by omega)
  obtain ⟨vr, vw, vm, hh⟩ := hc i hi
  exact ⟨b, off, vr, vw, vm, e, hh⟩
/-- A machine with several tapes as a value. -/
def Mult (w : World) (v : Value) (m : MultiD) : Prop := ∃ rv, v = .agg #[.int .i64 m.tp, .int .i64 m.sy, .int .i64 m.st, rv] ∧ MRules w rv m.rules
theorem Mult.ext {w w' : World} {v : Value} {m : MultiD} (h : Mult w v m) (he : Ext w w') : Mult w' v m := by
  obtain ⟨rv, e, hr⟩ := h
  exact ⟨rv, e, hr.ext he⟩
/-- A rule as a value. -/
def MRul (w : World) (v : Value) (r : MRuleD) : Prop := ∃ vr vw vm, v = .agg #[.int .i64 r.st, vr, vw, vm, .int .i64 r.nx] ∧ Ints w vr r.rd ∧ Ints w vw r.wr ∧ Ints w vm r.mv
theorem MRul.ext {w w' : World} {v : Value} {r : MRuleD} (h : MRul w v r) (he : Ext w w') : MRul w' v r := by
  obtain ⟨vr, vw, vm, e, h1, h2, h3⟩ := h
  exact ⟨vr, vw, vm, e, h1.ext he, h2.ext he, h3.ext he⟩
/-- The block of a slice that is not empty. -/
def _root_.Go.Value.ownS (v : Value) : Option Nat := match v with | .slice (some a) (_ + 1) _ => some a.block | _ => none
theorem ownS_some {a : Addr} {n c g : Nat} (h : (Value.slice (some a) n c).ownS = some g) : a.block = g ∧ 0 < n := by
  cases n with
  | zero => simp [Value.ownS] at h
  | succ n => exact ⟨by simpa [Value.ownS] using h, by omega⟩
theorem ownS_pos {a : Addr} {n c : Nat} (h : 0 < n) : (Value.slice (some a) n c).ownS = some a.block := by
  cases n with
  | zero => omega
  | succ n => rfl
theorem ownS_zero {A : Option Addr} {c : Nat} : (Value.slice A 0 c).ownS = none := by cases A <;> rfl
theorem ownS_less {A : Option Addr} {n k c c' g : Nat} (hk : k ≤ n) (h : (Value.slice A k c).ownS = some g) : (Value.slice A n c').ownS = some g := by
  cases A with
  | none => simp [Value.ownS] at h
  | some a =>
    obtain ⟨e, h0⟩ := ownS_some h
    rw [ownS_pos (by omega), e]
/-- A side of a tape: a list in a block of its own, from whatever place of it on; an empty one may lie anywhere. -/
def Side (base : Nat) (w : World) (v : Value) (xs : List Int) : Prop :=
  (xs = [] ∧ (v = .slice none 0 0 ∨ ∃ b off c, v = .slice (some ⟨b, off, none⟩) 0 c ∧ c ≤ 9223372036854775807)) ∨ ∃ g off c cs, v = .slice (some ⟨g, off, none⟩) xs.length c ∧ xs.length ≤ c ∧ c ≤ 9223372036854775807 ∧ base ≤ g ∧ Blk w g 2 cs ∧ ∀ j, (h : j < xs.length) → cs[off + j]? = some (.int .i64 xs[j])
section
variable {base : Nat} {w w' : World} {v : Value} {xs : List Int}
theorem Side.ints (h : Side base w v xs) : Ints w v xs := by
  rcases h with ⟨rfl, rfl | ⟨b, off, c, rfl, hc⟩⟩ | ⟨g, off, c, cs, rfl, h1, h2, hb, hg, hc⟩
  · exact ⟨none, 0, rfl, by simp, by omega, rfl, fun h => by simp at h⟩
  · exact ⟨_, c, rfl, by simp, hc, rfl, fun h => by simp at h⟩
  · refine ⟨_, c, rfl, h1, h2, by simp, fun _ => ⟨g, off, rfl, fun j hj => ?_⟩⟩
    have hj' : j < xs.length := by simpa using hj
    rw [hg.cell, hc j hj', ivs_get xs j hj']
theorem Side.ext (h : Side base w v xs) (he : Ext w w') : Side base w' v xs := by
  rcases h with h | ⟨g, off, c, cs, e, h1, h2, hb, hg, hc⟩
  · exact .inl h
  · exact .inr ⟨g, off, c, cs, e, h1, h2, hb, hg.ext he, hc⟩
theorem Side.lt (h : Side base w v xs) : ∀ g, v.ownS = some g → base ≤ g ∧ g < w.heap.size := by
  intro g hg
  rcases h with ⟨_, rfl | ⟨b, off, c, rfl, hc⟩⟩ | ⟨g', off, c, cs, rfl, _, _, hb, hb', _⟩
  · simp [Value.ownS] at hg
  · rw [ownS_zero] at hg
    cases hg
  · obtain ⟨e, _⟩ := ownS_some hg
    have e : g' = g := e
    subst e
    exact ⟨hb, hb'.lt⟩
/-- What leaves a side's block leaves the side. -/
theorem Side.same (h : Side base w v xs) (hs : ∀ g, v.ownS = some g → w'.heap[g]? = w.heap[g]?) : Side base w' v xs := by
  rcases h with h | ⟨g, off, c, cs, rfl, h1, h2, hb, hg, hc⟩
  · exact .inl h
  · by_cases h0 : 0 < xs.length
    · exact .inr ⟨g, off, c, cs, rfl, h1, h2, hb, (hs g (ownS_pos h0)).trans hg, hc⟩
    · have e : xs = [] := List.length_eq_zero_iff.1 (by omega)
      subst e
      exact .inl ⟨rfl, .inr ⟨_, _, _, rfl, h2⟩⟩
theorem Side.far (h : Side base w v xs) {p : Addr} (hp : v.ownS ≠ some p.block) (u : Value) : Side base (w.setCell p u) v xs :=
  h.same fun g hg => Below.heap_setCell w p u g (fun e => hp (by rw [← e]; exact hg))
theorem Side.low (h : Side base w v xs) {base' : Nat} (hb : base' ≤ base) : Side base' w v xs := by
  rcases h with h | ⟨g, off, c, cs, e, h1, h2, hb', hg, hc⟩
  · exact .inl h
  · exact .inr ⟨g, off, c, cs, e, h1, h2, by omega, hg, hc⟩
theorem Side.ofOwn (h : OwnInts base w v xs) : Side base w v xs := by
  obtain ⟨h1, h2⟩ := h
  rcases h2 with ⟨rfl, hz⟩ | ⟨g, cap, cur, rfl, hb, hh, hnc, hcm, hcs, htk⟩
  · exact .inl ⟨List.length_eq_zero_iff.1 hz, .inl rfl⟩
  · refine .inr ⟨g, 0, cap, cur, rfl, hnc, by simpa [maxLen] using hcm, hb, hh, fun j hj => ?_⟩
    have := ivs_get xs j hj
    rw [← htk, List.getElem?_take, if_pos (by omega)] at this
    simpa using this
end
end Go.Proofs.Ytfghojbbofobeaa
end
section
namespace Go.Proofs.Ytfghojbbofobeaa
open Go Go.RowKit Go.ChangeShapes Go.WideShapes Go.ChangeAt Go.Deep Go.Joins
section
variable {H : Type} {enc : TypeId × Value → H} {w : World}
theorem trod_struct5 {P : Program} {base : Nat} {spare : Nat → Bool} {held : Bool} {t : TypeId} {f0 f1 f2 f3 f4 : Field} {fuel : Nat} {cs : List Value} {x : DataW H × List MemPlace} (ht : P.underlying t = some (.struct #[f0, f1, f2, f3, f4])) (h : DataW.trod enc P w base spare held fuel t cs = some x) :
    ∃ y0 y1 y2 y3 y4 n, cs.length = P.cellsOf t ∧ DataW.trod enc P w base spare held n f0.type ((cs.drop f0.offset).take (P.cellsOf f0.type)) = some y0 ∧
      DataW.trod enc P w base spare held n f1.type ((cs.drop f1.offset).take (P.cellsOf f1.type)) = some y1 ∧ DataW.trod enc P w base spare held n f2.type ((cs.drop f2.offset).take (P.cellsOf f2.type)) = some y2 ∧
      DataW.trod enc P w base spare held n f3.type ((cs.drop f3.offset).take (P.cellsOf f3.type)) = some y3 ∧ DataW.trod enc P w base spare held n f4.type ((cs.drop f4.offset).take (P.cellsOf f4.type)) = some y4 := by
  obtain ⟨xs, n, _, rfl, hl, hlen, hf⟩ := DataW.trod_struct ht h
  match xs, hlen with
  | [y0, y1, y2, y3, y4], _ => exact ⟨y0, y1, y2, y3, y4, n, hl, by simpa using hf 0 f0 rfl, by simpa using hf 1 f1 rfl, by simpa using hf 2 f2 rfl, by simpa using hf 3 f3 rfl, by simpa using hf 4 f4 rfl⟩
theorem cellsMRule : Try.prog.cellsOf 79 = 5 := by kernel_rfl
theorem cellsInts : Try.prog.cellsOf 25 = 1 := by kernel_rfl
theorem one_of_drop {cs : List Value} {k : Nat} (h : k < cs.length) : (cs.drop k).take 1 = [cs[k]] := by
  rw [List.drop_eq_getElem_cons h]; rfl
theorem open_mrules {t : TypeId} {fuel : Nat} {v : Value} {x : DataW H × List MemPlace} (ht : Try.prog.underlying t = some (.slice 79)) (h : DataW.trod enc Try.prog w 0 (fun _ => true) true fuel t [v] = some x) : ∃ rs, MRules w v rs := by
  obtain ⟨ls, xs, h1, h2⟩ := open_rows (size := 5) (fun cs (r : MRuleD) => cs.length = 5 ∧ cs[0]? = some (.int .i64 r.st) ∧ (∃ u, cs[1]? = some u ∧ Ints w u r.rd) ∧ (∃ u, cs[2]? = some u ∧ Ints w u r.wr) ∧ (∃ u, cs[3]? = some u ∧ Ints w u r.mv) ∧ cs[4]? = some (.int .i64 r.nx)) ht (by kernel_rfl) (by omega) (fun n cs y hy => by
    obtain ⟨y0, y1, y2, y3, y4, n', hlen, g0, g1, g2, g3, g4⟩ := trod_struct5 Try.underlying79 hy
    have hlen5 : cs.length = 5 := hlen.trans cellsMRule
    simp only [cellsI64, cellsInts] at g0 g1 g2 g3 g4
    match cs, hlen5 with
    | [a, b, c, d, e], _ =>
      simp only [List.drop_succ_cons, List.drop_zero, List.take_succ_cons, List.take_zero] at g0 g1 g2 g3 g4
      obtain ⟨k0, e0, _⟩ := open_i64 Try.underlying2 g0
      obtain ⟨k4, e4, _⟩ := open_i64 Try.underlying2 g4
      obtain ⟨z1, i1⟩ := open_ints Try.underlying25 g1
      obtain ⟨z2, i2⟩ := open_ints Try.underlying25 g2
      obtain ⟨z3, i3⟩ := open_ints Try.underlying25 g3
      simp only [List.cons.injEq, and_true] at e0 e4
      subst e0 e4
      exact ⟨⟨k0, z1, z2, z3, k4⟩, rfl, rfl, ⟨_, rfl, i1⟩, ⟨_, rfl, i2⟩, ⟨_, rfl, i3⟩, rfl⟩) h
  refine ⟨ls, ?_⟩
  obtain ⟨A, c, hv, hc1, hc2, hl⟩ := h1.form
  refine ⟨A, c, hv, hc1, hc2, fun hn => ?_⟩
  obtain ⟨A', c', hv', _, _, hl', hcl⟩ := id h1
  obtain ⟨b, off, hA, hcell⟩ := hcl (by omega)
  rw [hv] at hv'
  injection hv' with hv' _ _
  subst hv'
  refine ⟨b, off, hA, fun i hi => ?_⟩
  obtain ⟨q5, q0, ⟨u1, q1, i1⟩, ⟨u2, q2, i2⟩, ⟨u3, q3, i3⟩, q4⟩ := h2 i hi
  have hlt : i * 5 + 5 ≤ xs.length := by
    have : (i + 1) * 5 ≤ ls.length * 5 := Nat.mul_le_mul_right _ hi
    omega
  have ce : ∀ k, k < 5 → w.cell? ⟨b, off + i * 5 + k, none⟩ = ((xs.drop (i * 5)).take 5)[k]? := fun k hk => by
    rw [List.getElem?_take_of_lt hk, List.getElem?_drop]
    have := hcell (i * 5 + k) (by omega)
    rw [← Nat.add_assoc] at this
    exact this
  refine ⟨u1, u2, u3, (ce 0 (by omega)).trans q0, (ce 1 (by omega)).trans q1, (ce 2 (by omega)).trans q2, (ce 3 (by omega)).trans q3, (ce 4 (by omega)).trans q4, i1, i2, i3⟩
set_option maxRecDepth 100000 in
theorem open_mult {r : Reach} {b0 : Nat} {v : Value} {d : DataW H} {p : List MemPlace} (hv : Value.okWide Try.prog w r b0 24 v) (h : DataW.Trod enc Try.prog w 0 (fun _ => true) true 24 v d p) : ∃ m, Mult w v m := by
  obtain ⟨v0, v1, v2, v3, y0, y1, y2, y3, n, rfl, _, _, h0, h1, h2, h3⟩ := open_agg4 Try.underlying24 (by kernel_rfl) (by kernel_rfl) hv h
  obtain ⟨k0, e0, _⟩ := open_i64 Try.underlying2 h0
  obtain ⟨k1, e1, _⟩ := open_i64 Try.underlying2 h1
  obtain ⟨k2, e2, _⟩ := open_i64 Try.underlying2 h2
  obtain ⟨rs, hr⟩ := open_mrules Try.underlying22 h3
  injection e0 with e0 _
  injection e1 with e1 _
  injection e2 with e2 _
  subst e0 e1 e2
  exact ⟨⟨k0, k1, k2, rs⟩, v3, rfl, hr⟩
set_option maxRecDepth 100000 in
theorem open_words {r : Reach} {b0 : Nat} {v : Value} {d : DataW H} {p : List MemPlace} (hv : Value.okWide Try.prog w r b0 86 v) (h : DataW.Trod enc Try.prog w 0 (fun _ => true) true 86 v d p) : ∃ xss, IntRows w v xss := by
  obtain ⟨a, l, c, rfl⟩ := okWide_slice Try.underlying86 hv
  obtain ⟨n, h⟩ := h
  exact open_introws Try.underlying86 h
end
end Go.Proofs.Ytfghojbbofobeaa
end
section
namespace Go.Proofs.Ytfghojbbofobeaa
open Go Go.RowKit Go.Proofs
set_option maxHeartbeats 400000
theorem ownsRow_lowC {w : World} {base : Nat} {e : TypeId} {size : Nat} {v : Value} {n : Nat} {xs : List Value} (h : w.ownsRow base e size v n xs) {p : Addr} (hp : p.block < base) (u : Value) : (w.setCell p u).ownsRow base e size v n xs :=
  ownsRow_far h (fun k hk => by have := (h.lt k hk).1; omega) u
theorem szConfig_c (v : Value) (c : ConfD) (left : Int) (w : World) (h : Conf w v c) (h0 : 0 ≤ left) (h1 : left ≤ 1048576) :
    Calls Try.prog 5 #[v, .int .i64 left] w fun e w' => e = .returned (.int .i64 (szF left (c.l.length + c.r.length))) ∧ Ext w w' := by
  obtain ⟨lv, rv, rfl, hl', hr⟩ := h
  have hx := Ext.alloc w (.cells #[.int .i64 c.q, lv, rv] 27)
  go_enter Try.func5, Try.ntmps5
  go_wp2_with fail
  refine (szInt64S_c _ _ _ _ (hl'.ext hx) h0 h1).mono ?_
  rintro e w' ⟨rfl, rfl⟩
  by_cases hl : left < c.l.length
  · rw [szF_no hl]
    go_wp2
    go_ret
    exact ⟨by rw [szF_no (by omega)]; simp, hx⟩
  · rw [szF_yes hl]
    go_wp2_with fail
    refine (szInt64S_c _ _ _ _ (hr.ext hx) (by omega) (by omega)).mono ?_
    rintro e w' ⟨rfl, rfl⟩
    by_cases hl2 : left - c.l.length < (c.r.length : Int)
    · rw [szF_no hl2]
      go_wp2
      go_ret
      exact ⟨by rw [szF_no (by omega)]; simp, hx⟩
    · rw [szF_yes hl2]
      have hp : 0 ≤ left - c.l.length - (c.r.length : Int) := by omega
      have HV : Hid (szF left (c.l.length + c.r.length) = left - c.l.length - (c.r.length : Int)) := by unfold Hid; rw [szF_yes (by omega)]; omega
      generalize left - c.l.length - (c.r.length : Int) = r at *
      go_wp2
      go_ret
      exact ⟨by rw [HV.out]; simp, hx⟩
set_option maxHeartbeats 1000000 in
theorem toConfig_c (v : Value) (p : ConfD) (w : World) (h : Conf w v p) (hn : p.l.length + p.r.length ≤ 1048576) :
    Calls Try.prog 8 #[v] w fun e w' => ∃ nv wv, e = .returned (.agg #[.int .i64 p.q, nv, wv]) ∧ OwnInts w.heap.size w' nv p.l ∧ OwnInts w.heap.size w' wv p.r ∧ (∀ g, nv.ownBlock = some g → wv.ownBlock ≠ some g) ∧ Ext w w' := by
  obtain ⟨nv0, wv0, rfl, h1, h2⟩ := h
  have HB : ∃ W, W = (((w.alloc (.cells #[.int .i64 p.q, nv0, wv0] 27)).alloc (.cells #[.int .i64 0, .slice none 0 0, .slice none 0 0] 39)).alloc (.cells #[.int .i64 p.q, .slice none 0 0, .slice none 0 0] 39)) := ⟨_, rfl⟩
  obtain ⟨W, hW⟩ := HB
  have hX0 : Ext w W := by rw [hW]; exact ((Ext.alloc _ _).trans (Ext.alloc _ _)).trans (Ext.alloc _ _)
  have b0 : Blk W w.heap.size 27 #[.int .i64 p.q, nv0, wv0] := by rw [hW]; exact ((Blk.new _ _ _ _ rfl).alloc _).alloc _
  have b1 : Blk W (w.heap.size + 1) 39 #[.int .i64 0, .slice none 0 0, .slice none 0 0] := by rw [hW]; exact (Blk.new _ _ _ _ (by simp)).alloc _
  have b2 : Blk W (w.heap.size + 1 + 1) 39 #[.int .i64 p.q, .slice none 0 0, .slice none 0 0] := by rw [hW]; exact Blk.new _ _ _ _ (by simp)
  go_enter Try.func8, Try.ntmps8
  go_wp2_with fail
  rw [← hW]
  clear hW
  refine (toInt64S_c _ p.l W (h1.ext hX0) (by omega)).mono ?_
  rintro e w1 ⟨u1, rfl, ho1, hx1⟩
  obtain ⟨A1, c1, rfl, _, _⟩ := ho1.ints.form
  have hX1 := hX0.trans hx1
  have hs0 := hX0.size
  have hsW := b2.lt
  generalize hg : w.heap.size = g at *
  have HG := Lib.hid hg
  have B0 := b0.ext hx1
  have B2 := b2.ext hx1
  have c0 := B0.cell 2
  have c2 := B2.cell 1
  have f2 := B2.frozen 1
  simp only [List.getElem?_toArray, List.getElem?_cons_zero, List.getElem?_cons_succ] at c0 c2
  have n1 : ∀ k, (Value.slice A1 p.l.length c1).ownBlock = some k → k ≠ g + 1 + 1 := fun k hk => by have := (ho1.lt k hk).1; omega
  have n1' : ∀ k, (Value.slice A1 p.l.length c1).ownBlock = some k → k ≠ g + 1 := fun k hk => by have := (ho1.lt k hk).1; omega
  have n2 : ∀ k, (Value.slice A1 p.l.length c1).ownBlock = some k → k < w1.heap.size := fun k hk => (ho1.lt k hk).2
  have B0' := B0.far (p := ⟨g + 1 + 1, 1, none⟩) (by simp; omega) (.slice A1 p.l.length c1)
  have B1' := (b1.ext hx1).far (p := ⟨g + 1 + 1, 1, none⟩) (by simp) (.slice A1 p.l.length c1)
  have B2' := B2.set_ 1 (.slice A1 p.l.length c1)
  have o1' : OwnInts W.heap.size (w1.setCell ⟨g + 1 + 1, 1, none⟩ (.slice A1 p.l.length c1)) (.slice A1 p.l.length c1) p.l := ownsRow_far ho1 n1 _
  have hX2 : Ext w (w1.setCell ⟨g + 1 + 1, 1, none⟩ (.slice A1 p.l.length c1)) := hX1.setCell (by have := HG.out; simp; omega) _
  have hsz2 : (w1.setCell ⟨g + 1 + 1, 1, none⟩ (.slice A1 p.l.length c1)).heap.size = w1.heap.size := by simp [World.setCell]
  clear B0 b0 b1 b2 B2 hg hx1 ho1
  go_wp2_with fail
  clear c0 c2 f2
  generalize w1.setCell ⟨g + 1 + 1, 1, none⟩ (.slice A1 p.l.length c1) = W2 at *
  refine (toInt64S_c _ p.r W2 (h2.ext hX2) (by omega)).mono ?_
  rintro e w3 ⟨u3, rfl, ho3, hx3⟩
  obtain ⟨A3, c3, rfl, _, _⟩ := ho3.ints.form
  have hX3 := hX2.trans hx3
  have B1 := B1'.ext hx3
  have B2 := B2'.ext hx3
  have o1 := o1'.ext hx3
  have hs3 := B1'.lt
  have hs4 := B2'.lt
  clear B0' B1' B2' o1'
  have c1' := B1.cell
  have f1 := B1.frozen
  have c2 := B2.cell
  have f2 := B2.frozen
  have hb : w.heap.size ≤ g := Nat.le_of_eq HG.out
  go_wp2
  refine bodyPost_ret (v := .agg #[.int .i64 p.q, .slice A1 p.l.length c1, .slice A3 p.r.length c3]) (by simp [results, Try.results8, go_sem, c1']) rfl ⟨_, _, rfl, ?_, ?_, ?_, ?_⟩
  · exact ownsRow_base (ownsRow_lowC (ownsRow_lowC (ownsRow_lowC (ownsRow_lowC o1 (by simp; omega) _) (by simp; omega) _) (by simp; omega) _) (by simp; omega) _) (by omega)
  · exact ownsRow_base (ownsRow_lowC (ownsRow_lowC (ownsRow_lowC (ownsRow_lowC ho3 (by simp; omega) _) (by simp; omega) _) (by simp; omega) _) (by simp; omega) _) (by omega)
  · intro k hk hk'
    have q1 := n2 k hk
    have q2 := (ho3.lt k hk').1
    omega
  · exact (((hX3.setCell (by simp; omega) _).setCell (by simp; omega) _).setCell (by simp; omega) _).setCell (by simp; omega) _
theorem eqConfig_c (w : World) (u v : Value) (a b : ConfD) (ha : Conf w u a) (hb : Conf w v b) :
    Calls Try.prog 12 #[u, v] w fun e w' => e = .returned (.bool (decide (a = b))) ∧ Ext w w' := by
  obtain ⟨na, wa, rfl, ha1, ha2⟩ := ha
  obtain ⟨nb, wb, rfl, hb1, hb2⟩ := hb
  have hx0 := (Ext.alloc w (.cells #[.int .i64 a.q, na, wa] 39)).trans (Ext.alloc _ (.cells #[.int .i64 b.q, nb, wb] 39))
  obtain ⟨ak, ans, aws⟩ := a
  obtain ⟨bk, bns, bws⟩ := b
  obtain ⟨Aw, cw, rfl, _, _⟩ := ha2.form
  obtain ⟨Bw, dw, rfl, _, _⟩ := hb2.form
  have ba := (Blk.new w w.heap.size 39 #[.int .i64 ak, na, .slice Aw aws.length cw] rfl).alloc (.cells #[.int .i64 bk, nb, .slice Bw bws.length dw] 39)
  have bb := Blk.new (w.alloc (.cells #[.int .i64 ak, na, .slice Aw aws.length cw] 39)) (w.heap.size + 1) 39 #[.int .i64 bk, nb, .slice Bw bws.length dw] (by simp)
  by_cases h1 : ak = bk
  · subst h1
    go_enter Try.func12, Try.ntmps12
    go_wp2_with fail
    refine (eqInt64S_c _ _ _ _ _ (ha1.ext hx0) (hb1.ext hx0)).mono ?_
    rintro e w1 ⟨rfl, hx1⟩
    by_cases h2 : ans = bns
    · rw [lEq_true h2]
      have c0 := (ba.ext hx1).cell 2
      have c1 := (bb.ext hx1).cell 2
      simp only [List.getElem?_toArray, List.getElem?_cons_zero, List.getElem?_cons_succ] at c0 c1
      go_wp2_with fail
      refine (eqInt64S_c _ _ _ _ _ ((ha2.ext hx0).ext hx1) ((hb2.ext hx0).ext hx1)).mono ?_
      rintro e w2 ⟨rfl, hx2⟩
      have hX := (hx0.trans hx1).trans hx2
      by_cases h3 : aws = bws
      · rw [lEq_true h3]
        go_wp2
        go_ret
        exact ⟨by simp [h2, h3], hX⟩
      · rw [lEq_false h3]
        go_wp2
        go_ret
        exact ⟨by simp [h3], hX⟩
    · rw [lEq_false h2]
      go_wp2
      go_ret
      exact ⟨by simp [h2], hx0.trans hx1⟩
  · have h1' : (ak != bk) = true := by simp [h1]
    go_enter Try.func12, Try.ntmps12
    go_wp2
    go_ret
    exact ⟨by simp, hx0⟩
/-- Only the blocks of two slices may have changed. -/
def TwoOnly (w w' : World) (u v : Value) : Prop := w.heap.size ≤ w'.heap.size ∧ ∀ g, g < w.heap.size → u.ownBlock ≠ some g → v.ownBlock ≠ some g → w'.heap[g]? = w.heap[g]?
theorem TwoOnly.own {w w' : World} {u v : Value} (h : TwoOnly w w' u v) {base : Nat} {e : TypeId} {size : Nat} {x : Value} {n : Nat} {xs : List Value} (ho : w.ownsRow base e size x n xs) (h1 : ∀ g, x.ownBlock = some g → u.ownBlock ≠ some g ∧ v.ownBlock ≠ some g) : w'.ownsRow base e size x n xs := by
  obtain ⟨a, b⟩ := ho
  refine ⟨a, ?_⟩
  rcases b with b | ⟨g, cap, cur, rfl, hb, hh, r⟩
  · exact .inl b
  · obtain ⟨n1, n2⟩ := h1 g rfl
    exact .inr ⟨g, cap, cur, rfl, hb, (h.2 g (Array.getElem?_eq_some_iff.1 hh).1 n1 n2).trans hh, r⟩
theorem TwoOnly.row {w w' : World} {u v : Value} (h : TwoOnly w w' u v) {size n : Nat} {x : Value} {xs : List Value} (ho : Row w size x n xs) (h1 : ∀ g o s, x = .slice (some ⟨g, o, s⟩) n (match x with | .slice _ _ c => c | _ => 0) → u.ownBlock ≠ some g ∧ v.ownBlock ≠ some g) : Row w' size x n xs := by
  obtain ⟨A, c, rfl, h2, h3, h4, h5⟩ := ho
  refine ⟨A, c, rfl, h2, h3, h4, fun hn => ?_⟩
  obtain ⟨b, off, rfl, hc⟩ := h5 hn
  refine ⟨b, off, rfl, fun j hj => ?_⟩
  obtain ⟨n1, n2⟩ := h1 b off none rfl
  have := hc j hj
  rw [List.getElem?_eq_getElem hj] at this ⊢
  have hlt := World.block_lt_of_cell? w _ this
  exact (World.cell?_of_block (h.2 b hlt n1 n2)).trans this
theorem markConfig_c (base : Nat) (q : Int) (lv rv : Value) (l r : List Int) (k : Int) (w : World) (h : OwnInts base w lv l) (h' : OwnInts base w rv r) (hap : ∀ g, lv.ownBlock = some g → rv.ownBlock ≠ some g) (hb : base ≤ w.heap.size) (h0 : 0 ≤ k) (h1 : k + l.length + r.length ≤ 4611686018427387904) :
    Calls Try.prog 14 #[.agg #[.int .i64 q, lv, rv], .int .i64 k] w fun e w' => e = .returned (.int .i64 (k + l.length + r.length)) ∧ OwnInts base w' lv (nums k l.length) ∧ OwnInts base w' rv (nums (k + l.length) r.length) ∧ Below base w w' ∧ TwoOnly w w' lv rv := by
  obtain ⟨A, c, rfl, _, _⟩ := h.ints.form
  obtain ⟨B, d, rfl, _, _⟩ := h'.ints.form
  have hx0 := Ext.alloc w (.cells #[.int .i64 q, .slice A l.length c, .slice B r.length d] 39)
  have b0 := Blk.new w w.heap.size 39 #[.int .i64 q, .slice A l.length c, .slice B r.length d] rfl
  have o0 := h.ext hx0
  have o0' := h'.ext hx0
  go_enter Try.func14, Try.ntmps14
  go_wp2_with fail
  refine (markInt64S_c base _ l k _ o0 h0 (by omega)).mono ?_
  rintro e w1 ⟨rfl, ho1, hg1⟩
  have b1 := Blk.apart b0 o0 (by decide) hg1
  have c2 := b1.cell 2
  simp only [List.getElem?_toArray, List.getElem?_cons_zero, List.getElem?_cons_succ] at c2
  have hb1 : Below base w w1 := ((Below.refl _ _).alloc hb _).grown hg1 (by simp; omega) (fun g hg => (o0.lt g hg).1)
  have o1' : OwnInts base w1 (.slice B r.length d) r := by
    refine World.ownsRow.kept o0' hg1 ?_
    by_cases e : (Value.slice A l.length c).ownBlock = none
    · cases h9 : (Value.slice B r.length d).ownBlock with
      | none => exact .inl rfl
      | some z => exact .inr (by rw [e]; simp)
    · obtain ⟨z, hz⟩ := Option.ne_none_iff_exists'.1 e
      exact .inr (by rw [hz]; exact hap z hz)
  go_wp2_with fail
  refine (markInt64S_c base _ r _ _ o1' (by omega) (by omega)).mono ?_
  rintro e w2 ⟨rfl, ho2, hg2⟩
  go_wp2
  go_ret
  refine ⟨rfl, ?_, ho2, hb1.grown hg2 (by have := hb1.size; omega) (fun g hg => (o1'.lt g hg).1), ?_, fun g hg n1 n2 => ?_⟩
  · refine World.ownsRow.kept ho1 hg2 ?_
    cases h9 : (Value.slice A l.length c).ownBlock with
    | none => exact .inl rfl
    | some z => exact .inr (Ne.symm (hap z h9))
  · have := hg1.size
    have := hg2.size
    have := hx0.size
    omega
  · have e1 := hg1.block g (by simp; omega) (by simpa using n1.symm)
    have e2 := hg2.block g (by have := hg1.size; simp at this; omega) (by simpa using n2.symm)
    have e0 := Below.block hx0 g hg
    exact e2.trans (e1.trans e0)
end Go.Proofs.Ytfghojbbofobeaa
end
