/- Words for machines with several tapes in memory: rules, sides of tapes, configurations. No condition.
A machine with several tapes as an argument. No condition. -/
import Derived.Test.YtfghojbbofobeaaGreatQ07
import Derived.Test.YtfghojbbofobeaaGreatQ02
import Derived.Test.YtfghojbbofobeaaGreatQ04
section
set_option linter.unusedVariables false
set_option linter.unusedSimpArgs false
namespace Go.Proofs.YtfghojbbofobeaaGreat
open Go Go.RowKit Go.Proofs
/-- Rules of a machine with several tapes. -/
def MRules (w : World) (v : Value) (rs : List MRuleD) : Prop :=
  ∃ A c, v = .slice A rs.length c ∧ rs.length ≤ c ∧ c ≤ 9223372036854775807 ∧ (0 < rs.length → ∃ b off, A = some ⟨b, off, none⟩ ∧ ∀ i, (h : i < rs.length) → ∃ vr vw vm,
    w.cell? ⟨b, off + i * 5, none⟩ = some (.int .i64 rs[i].st) ∧ w.cell? ⟨b, off + i * 5 + 1, none⟩ = some vr ∧ w.cell? ⟨b, off + i * 5 + 2, none⟩ = some vw ∧ w.cell? ⟨b, off + i * 5 + 3, none⟩ = some vm ∧ w.cell? ⟨b, off + i * 5 + 4, none⟩ = some (.int .i64 rs[i].nx) ∧
    Ints w vr rs[i].rd ∧ Ints w vw rs[i].wr ∧ Ints w vm rs[i].mv)
theorem MRules.ext {w w' : World} {v : Value} {rs : List MRuleD} (h : MRules w v rs) (he : Ext w w') : MRules w' v rs := by
  obtain ⟨A, c, rfl, h1, h2, h3⟩ := h
  refine ⟨A, c, rfl, h1, h2, fun hn => ?_⟩
  obtain ⟨b, off, e, hc⟩ := h3 hn
  refine ⟨b, off, e, fun i hi => ?_⟩
  obtain ⟨vr, vw, vm, c0, c1, c2, c3, c4, i1, i2, i3⟩ := hc i hi
  exact ⟨vr, vw, vm, he.cell c0, he.cell c1, he.cell c2, he.cell c3, he.cell c4, i1.ext he, i2.ext he, i3.ext he⟩
theorem MRules.form {w : World} {v : Value} {rs : List MRuleD} (h : MRules w v rs) : ∃ A c, v = .slice A rs.length c ∧ rs.length ≤ c ∧ c ≤ 9223372036854775807 := by
  obtain ⟨A, c, e, h1, h2, _⟩ := h
  exact ⟨A, c, e, h1, h2⟩
theorem MRules.at {w : World} {A : Option Addr} {c : Nat} {rs : List MRuleD} (h : MRules w (.slice A rs.length c) rs) {i : Nat} (hi : i < rs.length) : ∃ b off vr vw vm, A = some ⟨b, off, none⟩ ∧
    w.cell? ⟨b, off + i * 5, none⟩ = some (.int .i64 rs[i].st) ∧ w.cell? ⟨b, off + i * 5 + 1, none⟩ = some vr ∧ w.cell? ⟨b, off + i * 5 + 2, none⟩ = some vw ∧ w.cell? ⟨b, off + i * 5 + 3, none⟩ = some vm ∧ w.cell? ⟨b, off + i * 5 + 4, none⟩ = some (.int .i64 rs[i].nx) ∧
    Ints w vr rs[i].rd ∧ Ints w vw rs[i].wr ∧ Ints w vm rs[i].mv := by
  obtain ⟨A', c', e, _, _, h3⟩ := h
  injection e with e1 _ _
  subst e1
  obtain ⟨b, off, e, hc⟩ := h3 (by omega)
  obtain ⟨vr, vw, vm, hh⟩ := hc i hi
  exact ⟨b, off, vr, vw, vm, e, hh⟩
/-- A machine with several tapes as a value. -/
def Mult (w : World) (v : Value) (m : MultiD) : Prop := ∃ rv, v = .agg #[.int .i64 m.tp, .int .i64 m.sy, .int .i64 m.st, rv] ∧ MRules w rv m.rules
theorem Mult.ext {w w' : World} {v : Value} {m : MultiD} (h : Mult w v m) (he : Ext w w') : Mult w' v m := by
  obtain ⟨rv, e, hr⟩ := h
  exact ⟨rv, e, hr.ext he⟩
/-- A rule as a value. -/
def MRul (w : World) (v : Value) (r : MRuleD) : Prop := ∃ vr vw vm, v = .agg #[.int .i64 r.st, vr, vw, vm, .int .i64 r.nx] ∧ Ints w vr r.rd ∧ Ints w vw r.wr ∧ Ints w vm r.mv
theorem MRul.ext {w w' : World} {v : Value} {r : MRuleD} (h : MRul w v r) (he : Ext w w') : MRul w' v r := by
  obtain ⟨vr, vw, vm, e, h1, h2, h3⟩ := h
  exact ⟨vr, vw, vm, e, h1.ext he, h2.ext he, h3.ext he⟩
/-- The block of a slice that is not empty. -/
def _root_.Go.Value.ownS (v : Value) : Option Nat := match v with | .slice (some a) (_ + 1) _ => some a.block | _ => none
theorem ownS_some {a : Addr} {n c g : Nat} (h : (Value.slice (some a) n c).ownS = some g) : a.block = g ∧ 0 < n := by
  cases n with
  | zero => simp [Value.ownS] at h
  | succ n => exact ⟨by simpa [Value.ownS] using h, by omega⟩
theorem ownS_pos {a : Addr} {n c : Nat} (h : 0 < n) : (Value.slice (some a) n c).ownS = some a.block := by
  cases n with
  | zero => omega
  | succ n => rfl
theorem ownS_zero {A : Option Addr} {c : Nat} : (Value.slice A 0 c).ownS = none := by cases A <;> rfl
theorem ownS_less {A : Option Addr} {n k c c' g : Nat} (hk : k ≤ n) (h : (Value.slice A k c).ownS = some g) : (Value.slice A n c').ownS = some g := by
  cases A with
  | none => simp [Value.ownS] at h
  | some a =>
    obtain ⟨e, h0⟩ := ownS_some h
    rw [ownS_pos (by omega), e]
/-- A side of a tape: a list in a block of its own, from whatever place of it on; an empty one may lie anywhere. -/
def Side (base : Nat) (w : World) (v : Value) (xs : List Int) : Prop :=
  (xs = [] ∧ (v = .slice none 0 0 ∨ ∃ b off c, v = .slice (some ⟨b, off, none⟩) 0 c ∧ c ≤ 9223372036854775807)) ∨ ∃ g off c cs, v = .slice (some ⟨g, off, none⟩) xs.length c ∧ xs.length ≤ c ∧ c ≤ 9223372036854775807 ∧ base ≤ g ∧ Blk w g 2 cs ∧ ∀ j, (h : j < xs.length) → cs[off + j]? = some (.int .i64 xs[j])
section
variable {base : Nat} {w w' : World} {v : Value} {xs : List Int}
theorem Side.ints (h : Side base w v xs) : Ints w v xs := by
  rcases h with ⟨rfl, rfl | ⟨b, off, c, rfl, hc⟩⟩ | ⟨g, off, c, cs, rfl, h1, h2, hb, hg, hc⟩
  · exact ⟨none, 0, rfl, by simp, by omega, rfl, fun h => by simp at h⟩
  · exact ⟨_, c, rfl, by simp, hc, rfl, fun h => by simp at h⟩
  · refine ⟨_, c, rfl, h1, h2, by simp, fun _ => ⟨g, off, rfl, fun j hj => ?_⟩⟩
    have hj' : j < xs.length := by simpa using hj
    rw [hg.cell, hc j hj', ivs_get xs j hj']
theorem Side.ext (h : Side base w v xs) (he : Ext w w') : Side base w' v xs := by
  rcases h with h | ⟨g, off, c, cs, e, h1, h2, hb, hg, hc⟩
  · exact .inl h
  · exact .inr ⟨g, off, c, cs, e, h1, h2, hb, hg.ext he, hc⟩
theorem Side.lt (h : Side base w v xs) : ∀ g, v.ownS = some g → base ≤ g ∧ g < w.heap.size := by
  intro g hg
  rcases h with ⟨_, rfl | ⟨b, off, c, rfl, hc⟩⟩ | ⟨g', off, c, cs, rfl, _, _, hb, hb', _⟩
  · simp [Value.ownS] at hg
  · rw [ownS_zero] at hg
    cases hg
  · obtain ⟨e, _⟩ := ownS_some hg
    have e : g' = g := e
    subst e
    exact ⟨hb, hb'.lt⟩
/-- What leaves a side's block leaves the side. -/
theorem Side.same (h : Side base w v xs) (hs : ∀ g, v.ownS = some g → w'.heap[g]? = w.heap[g]?) : Side base w' v xs := by
  rcases h with h | ⟨g, off, c, cs, rfl, h1, h2, hb, hg, hc⟩
  · exact .inl h
  · by_cases h0 : 0 < xs.length
    · exact .inr ⟨g, off, c, cs, rfl, h1, h2, hb, (hs g (ownS_pos h0)).trans hg, hc⟩
    · have e : xs = [] := List.length_eq_zero_iff.1 (by omega)
      subst e
      exact .inl ⟨rfl, .inr ⟨_, _, _, rfl, h2⟩⟩
theorem Side.far (h : Side base w v xs) {p : Addr} (hp : v.ownS ≠ some p.block) (u : Value) : Side base (w.setCell p u) v xs :=
  h.same fun g hg => Below.heap_setCell w p u g (fun e => hp (by rw [← e]; exact hg))
theorem Side.low (h : Side base w v xs) {base' : Nat} (hb : base' ≤ base) : Side base' w v xs := by
  rcases h with h | ⟨g, off, c, cs, e, h1, h2, hb', hg, hc⟩
  · exact .inl h
  · exact .inr ⟨g, off, c, cs, e, h1, h2, by omega, hg, hc⟩
theorem Side.ofOwn (h : OwnInts base w v xs) : Side base w v xs := by
  obtain ⟨h1, h2⟩ := h
  rcases h2 with ⟨rfl, hz⟩ | ⟨g, cap, cur, rfl, hb, hh, hnc, hcm, hcs, htk⟩
  · exact .inl ⟨List.length_eq_zero_iff.1 hz, .inl rfl⟩
  · refine .inr ⟨g, 0, cap, cur, rfl, hnc, by simpa [maxLen] using hcm, hb, hh, fun j hj => ?_⟩
    have := ivs_get xs j hj
    rw [← htk, List.getElem?_take, if_pos (by omega)] at this
    simpa using this
end
end Go.Proofs.YtfghojbbofobeaaGreat
end
section
namespace Go.Proofs.YtfghojbbofobeaaGreat
open Go Go.RowKit Go.ChangeShapes Go.WideShapes Go.ChangeAt Go.Deep Go.Joins
section
variable {H : Type} {enc : TypeId × Value → H} {w : World}
theorem trod_struct5 {P : Program} {base : Nat} {spare : Nat → Bool} {held : Bool} {t : TypeId} {f0 f1 f2 f3 f4 : Field} {fuel : Nat} {cs : List Value} {x : DataW H × List MemPlace} (ht : P.underlying t = some (.struct #[f0, f1, f2, f3, f4])) (h : DataW.trod enc P w base spare held fuel t cs = some x) :
    ∃ y0 y1 y2 y3 y4 n, cs.length = P.cellsOf t ∧ DataW.trod enc P w base spare held n f0.type ((cs.drop f0.offset).take (P.cellsOf f0.type)) = some y0 ∧
      DataW.trod enc P w base spare held n f1.type ((cs.drop f1.offset).take (P.cellsOf f1.type)) = some y1 ∧ DataW.trod enc P w base spare held n f2.type ((cs.drop f2.offset).take (P.cellsOf f2.type)) = some y2 ∧
      DataW.trod enc P w base spare held n f3.type ((cs.drop f3.offset).take (P.cellsOf f3.type)) = some y3 ∧ DataW.trod enc P w base spare held n f4.type ((cs.drop f4.offset).take (P.cellsOf f4.type)) = some y4 := by
  obtain ⟨xs, n, _, rfl, hl, hlen, hf⟩ := DataW.trod_struct ht h
  match xs, hlen with
  | [y0, y1, y2, y3, y4], _ => exact ⟨y0, y1, y2, y3, y4, n, hl, by simpa using hf 0 f0 rfl, by simpa using hf 1 f1 rfl, by simpa using hf 2 f2 rfl, by simpa using hf 3 f3 rfl, by simpa using hf 4 f4 rfl⟩
theorem cellsMRule : Tryz.prog.cellsOf 91 = 5 := by kernel_rfl
theorem cellsInts : Tryz.prog.cellsOf 46 = 1 := by kernel_rfl
theorem one_of_drop {cs : List Value} {k : Nat} (h : k < cs.length) : (cs.drop k).take 1 = [cs[k]] := by
  rw [List.drop_eq_getElem_cons h]; rfl
theorem open_mrules {t : TypeId} {fuel : Nat} {v : Value} {x : DataW H × List MemPlace} (ht : Tryz.prog.underlying t = some (.slice 91)) (h : DataW.trod enc Tryz.prog w 0 (fun _ => true) true fuel t [v] = some x) : ∃ rs, MRules w v rs := by
  obtain ⟨ls, xs, h1, h2⟩ := open_rows (size := 5) (fun cs (r : MRuleD) => cs.length = 5 ∧ cs[0]? = some (.int .i64 r.st) ∧ (∃ u, cs[1]? = some u ∧ Ints w u r.rd) ∧ (∃ u, cs[2]? = some u ∧ Ints w u r.wr) ∧ (∃ u, cs[3]? = some u ∧ Ints w u r.mv) ∧ cs[4]? = some (.int .i64 r.nx)) ht (by kernel_rfl) (by omega) (fun n cs y hy => by
    obtain ⟨y0, y1, y2, y3, y4, n', hlen, g0, g1, g2, g3, g4⟩ := trod_struct5 Tryz.underlying91 hy
    have hlen5 : cs.length = 5 := hlen.trans cellsMRule
    simp only [cellsI64, cellsInts] at g0 g1 g2 g3 g4
    match cs, hlen5 with
    | [a, b, c, d, e], _ =>
      simp only [List.drop_succ_cons, List.drop_zero, List.take_succ_cons, List.take_zero] at g0 g1 g2 g3 g4
      obtain ⟨k0, e0, _⟩ := open_i64 Tryz.underlying2 g0
      obtain ⟨k4, e4, _⟩ := open_i64 Tryz.underlying2 g4
      obtain ⟨z1, i1⟩ := open_ints Tryz.underlying46 g1
      obtain ⟨z2, i2⟩ := open_ints Tryz.underlying46 g2
      obtain ⟨z3, i3⟩ := open_ints Tryz.underlying46 g3
      simp only [List.cons.injEq, and_true] at e0 e4
      subst e0 e4
      exact ⟨⟨k0, z1, z2, z3, k4⟩, rfl, rfl, ⟨_, rfl, i1⟩, ⟨_, rfl, i2⟩, ⟨_, rfl, i3⟩, rfl⟩) h
  refine ⟨ls, ?_⟩
  obtain ⟨A, c, hv, hc1, hc2, hl⟩ := h1.form
  refine ⟨A, c, hv, hc1, hc2, fun hn => ?_⟩
  obtain ⟨A', c', hv', _, _, hl', hcl⟩ := id h1
  obtain ⟨b, off, hA, hcell⟩ := hcl (by omega)
  rw [hv] at hv'
  injection hv' with hv' _ _
  subst hv'
  refine ⟨b, off, hA, fun i hi => ?_⟩
  obtain ⟨q5, q0, ⟨u1, q1, i1⟩, ⟨u2, q2, i2⟩, ⟨u3, q3, i3⟩, q4⟩ := h2 i hi
  have hlt : i * 5 + 5 ≤ xs.length := by
    have : (i + 1) * 5 ≤ ls.length * 5 := Nat.mul_le_mul_right _ hi
    omega
  have ce : ∀ k, k < 5 → w.cell? ⟨b, off + i * 5 + k, none⟩ = ((xs.drop (i * 5)).take 5)[k]? := fun k hk => by
    rw [List.getElem?_take_of_lt hk, List.getElem?_drop]
    have := hcell (i * 5 + k) (by omega)
    rw [← Nat.add_assoc] at this
    exact this
  refine ⟨u1, u2, u3, (ce 0 (by omega)).trans q0, (ce 1 (by omega)).trans q1, (ce 2 (by omega)).trans q2, (ce 3 (by omega)).trans q3, (ce 4 (by omega)).trans q4, i1, i2, i3⟩
set_option maxRecDepth 100000 in
theorem open_mult {r : Reach} {b0 : Nat} {v : Value} {d : DataW H} {p : List MemPlace} (hv : Value.okWide Tryz.prog w r b0 24 v) (h : DataW.Trod enc Tryz.prog w 0 (fun _ => true) true 24 v d p) : ∃ m, Mult w v m := by
  obtain ⟨v0, v1, v2, v3, y0, y1, y2, y3, n, rfl, _, _, h0, h1, h2, h3⟩ := open_agg4 Tryz.underlying24 (by kernel_rfl) (by kernel_rfl) hv h
  obtain ⟨k0, e0, _⟩ := open_i64 Tryz.underlying2 h0
  obtain ⟨k1, e1, _⟩ := open_i64 Tryz.underlying2 h1
  obtain ⟨k2, e2, _⟩ := open_i64 Tryz.underlying2 h2
  obtain ⟨rs, hr⟩ := open_mrules Tryz.underlying22 h3
  injection e0 with e0 _
  injection e1 with e1 _
  injection e2 with e2 _
  subst e0 e1 e2
  exact ⟨⟨k0, k1, k2, rs⟩, v3, rfl, hr⟩
set_option maxRecDepth 100000 in
theorem open_words {r : Reach} {b0 : Nat} {v : Value} {d : DataW H} {p : List MemPlace} (hv : Value.okWide Tryz.prog w r b0 25 v) (h : DataW.Trod enc Tryz.prog w 0 (fun _ => true) true 25 v d p) : ∃ xss, IntRows w v xss := by
  obtain ⟨a, l, c, rfl⟩ := okWide_slice Tryz.underlying25 hv
  obtain ⟨n, h⟩ := h
  exact open_introws Tryz.underlying25 h
end
end Go.Proofs.YtfghojbbofobeaaGreat
end
