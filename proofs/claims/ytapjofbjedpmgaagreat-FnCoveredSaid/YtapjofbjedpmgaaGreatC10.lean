/- What a store into one block leaves of other blocks and rows. No condition.
Words for machines with several tapes in memory: rules, sides of tapes, configurations. No condition.
A made map to numbers, as a function on what its keys stand for: what a look-up answers and what a store leaves. No condition. -/
import Derived.Test.YtapjofbjedpmgaaGreatC01
import Derived.Test.YtapjofbjedpmgaaGreatC09
import Derived.Test.YtapjofbjedpmgaaGreatC02
import Derived.Maps.Own
import Derived.Maps.OwnSet
import Derived.Maps.Keyed
import Derived.Maps.Views
import Derived.DeepKeys4
section
namespace Go.Proofs.YtapjofbjedpmgaaGreat
open Go Go.RowKit Go.Proofs
theorem Blk.kept {w w' : World} {g : Nat} {t : TypeId} {cs : Array Value} {row : Option Nat} (h : Blk w g t cs) (hg : w.grownBy w' row) (hne : some g ≠ row) : Blk w' g t cs := (hg.block g h.lt hne).trans h
theorem blk_ne_row {w : World} {g : Nat} {t : TypeId} {cs : Array Value} (hb : Blk w g t cs) {base : Nat} {e : TypeId} {size : Nat} {v : Value} {n : Nat} {xs : List Value} (ho : w.ownsRow base e size v n xs) (hne : t ≠ e) : some g ≠ v.ownBlock := by
  rcases ho.2 with ⟨rfl, _⟩ | ⟨g', cap, cur, rfl, _, hh, _⟩
  · simp [Value.ownBlock]
  · intro he
    have : g = g' := by simpa [Value.ownBlock] using he
    subst this
    unfold Blk at hb
    rw [hb] at hh
    injection hh with hh
    injection hh with _ ht
    exact hne ht
theorem grownBy_setCell (w : World) (p : Addr) (u : Value) : w.grownBy (w.setCell p u) (some p.block) :=
  ⟨rfl, rfl, rfl, by simp [World.setCell], fun k _ hk => Below.heap_setCell w p u k (fun e => hk (by rw [e]))⟩
theorem blk_type {w : World} {g : Nat} {t t' : TypeId} {cs cs' : Array Value} (h : Blk w g t cs) (h' : Blk w g t' cs') : t = t' := by
  unfold Blk at h h'
  rw [h] at h'
  injection h' with h'
  injection h' with _ e
end Go.Proofs.YtapjofbjedpmgaaGreat
end
section
set_option linter.unusedVariables false
set_option linter.unusedSimpArgs false
namespace Go.Proofs.YtapjofbjedpmgaaGreat
open Go Go.RowKit Go.Proofs
/-- Rules of a machine with several tapes. -/
def MRules (w : World) (v : Value) (rs : List MRuleD) : Prop :=
  ∃ A c, v = .slice A rs.length c ∧ rs.length ≤ c ∧ c ≤ 9223372036854775807 ∧ (0 < rs.length → ∃ b off, A = some ⟨b, off, none⟩ ∧ ∀ i, (h : i < rs.length) → ∃ vr vw vm,
    w.cell? ⟨b, off + i * 5, none⟩ = some (.int .i64 rs[i].st) ∧ w.cell? ⟨b, off + i * 5 + 1, none⟩ = some vr ∧ w.cell? ⟨b, off + i * 5 + 2, none⟩ = some vw ∧ w.cell? ⟨b, off + i * 5 + 3, none⟩ = some vm ∧ w.cell? ⟨b, off + i * 5 + 4, none⟩ = some (.int .i64 rs[i].nx) ∧
    Ints w vr rs[i].rd ∧ Ints w vw rs[i].wr ∧ Ints w vm rs[i].mv)
theorem MRules.ext {w w' : World} {v : Value} {rs : List MRuleD} (h : MRules w v rs) (he : Ext w w') : MRules w' v rs := by
  obtain ⟨A, c, rfl, h1, h2, h3⟩ := h
  refine ⟨A, c, rfl, h1, h2, fun hn => ?_⟩
  obtain ⟨b, off, e, hc⟩ := h3 hn
  refine ⟨b, off, e, fun i hi => ?_⟩
  obtain ⟨vr, vw, vm, c0, c1, c2, c3, c4, i1, i2, i3⟩ := hc i hi
  exact ⟨vr, vw, vm, he.cell c0, he.cell c1, he.cell c2, he.cell c3, he.cell c4, i1.ext he, i2.ext he, i3.ext he⟩
theorem MRules.form {w : World} {v : Value} {rs : List MRuleD} (h : MRules w v rs) : ∃ A c, v = .slice A rs.length c ∧ rs.length ≤ c ∧ c ≤ 9223372036854775807 := by
  obtain ⟨A, c, e, h1, h2, _⟩ := h
  exact ⟨A, c, e, h1, h2⟩
theorem MRules.at {w : World} {A : Option Addr} {c : Nat} {rs : List MRuleD} (h : MRules w (.slice A rs.length c) rs) {i : Nat} (hi : i < rs.length) : ∃ b off vr vw vm, A = some ⟨b, off, none⟩ ∧
    w.cell? ⟨b, off + i * 5, none⟩ = some (.int .i64 rs[i].st) ∧ w.cell? ⟨b, off + i * 5 + 1, none⟩ = some vr ∧ w.cell? ⟨b, off + i * 5 + 2, none⟩ = some vw ∧ w.cell? ⟨b, off + i * 5 + 3, none⟩ = some vm ∧ w.cell? ⟨b, off + i * 5 + 4, none⟩ = some (.int .i64 rs[i].nx) ∧
    Ints w vr rs[i].rd ∧ Ints w vw rs[i].wr ∧ Ints w vm rs[i].mv := by
  obtain ⟨A', c', e, _, _, h3⟩ := h
  injection e with e1 _ _
  subst e1
  obtain ⟨b, off, e, hc⟩ := h3 (by omega)
  obtain ⟨vr, vw, vm, hh⟩ := hc i hi
  exact ⟨b, off, vr, vw, vm, e, hh⟩
/-- A machine with several tapes as a value. -/
def Mult (w : World) (v : Value) (m : MultiD) : Prop := ∃ rv, v = .agg #[.int .i64 m.tp, .int .i64 m.sy, .int .i64 m.st, rv] ∧ MRules w rv m.rules
theorem Mult.ext {w w' : World} {v : Value} {m : MultiD} (h : Mult w v m) (he : Ext w w') : Mult w' v m := by
  obtain ⟨rv, e, hr⟩ := h
  exact ⟨rv, e, hr.ext he⟩
/-- A rule as a value. -/
def MRul (w : World) (v : Value) (r : MRuleD) : Prop := ∃ vr vw vm, v = .agg #[.int .i64 r.st, vr, vw, vm, .int .i64 r.nx] ∧ Ints w vr r.rd ∧ Ints w vw r.wr ∧ Ints w vm r.mv
theorem MRul.ext {w w' : World} {v : Value} {r : MRuleD} (h : MRul w v r) (he : Ext w w') : MRul w' v r := by
  obtain ⟨vr, vw, vm, e, h1, h2, h3⟩ := h
  exact ⟨vr, vw, vm, e, h1.ext he, h2.ext he, h3.ext he⟩
/-- The block of a slice that is not empty. -/
def _root_.Go.Value.ownS (v : Value) : Option Nat := match v with | .slice (some a) (_ + 1) _ => some a.block | _ => none
theorem ownS_some {a : Addr} {n c g : Nat} (h : (Value.slice (some a) n c).ownS = some g) : a.block = g ∧ 0 < n := by
  cases n with
  | zero => simp [Value.ownS] at h
  | succ n => exact ⟨by simpa [Value.ownS] using h, by omega⟩
theorem ownS_pos {a : Addr} {n c : Nat} (h : 0 < n) : (Value.slice (some a) n c).ownS = some a.block := by
  cases n with
  | zero => omega
  | succ n => rfl
theorem ownS_zero {A : Option Addr} {c : Nat} : (Value.slice A 0 c).ownS = none := by cases A <;> rfl
/-- A side of a tape: a list in a block of its own, from whatever place of it on; an empty one may lie anywhere. -/
def Side (base : Nat) (w : World) (v : Value) (xs : List Int) : Prop :=
  (xs = [] ∧ (v = .slice none 0 0 ∨ ∃ b off c, v = .slice (some ⟨b, off, none⟩) 0 c ∧ c ≤ 9223372036854775807)) ∨ ∃ g off c cs, v = .slice (some ⟨g, off, none⟩) xs.length c ∧ xs.length ≤ c ∧ c ≤ 9223372036854775807 ∧ base ≤ g ∧ Blk w g 2 cs ∧ ∀ j, (h : j < xs.length) → cs[off + j]? = some (.int .i64 xs[j])
section
variable {base : Nat} {w w' : World} {v : Value} {xs : List Int}
theorem Side.ints (h : Side base w v xs) : Ints w v xs := by
  rcases h with ⟨rfl, rfl | ⟨b, off, c, rfl, hc⟩⟩ | ⟨g, off, c, cs, rfl, h1, h2, hb, hg, hc⟩
  · exact ⟨none, 0, rfl, by simp, by omega, rfl, fun h => by simp at h⟩
  · exact ⟨_, c, rfl, by simp, hc, rfl, fun h => by simp at h⟩
  · refine ⟨_, c, rfl, h1, h2, by simp, fun _ => ⟨g, off, rfl, fun j hj => ?_⟩⟩
    have hj' : j < xs.length := by simpa using hj
    rw [hg.cell, hc j hj', ivs_get xs j hj']
theorem Side.ext (h : Side base w v xs) (he : Ext w w') : Side base w' v xs := by
  rcases h with h | ⟨g, off, c, cs, e, h1, h2, hb, hg, hc⟩
  · exact .inl h
  · exact .inr ⟨g, off, c, cs, e, h1, h2, hb, hg.ext he, hc⟩
theorem Side.lt (h : Side base w v xs) : ∀ g, v.ownS = some g → base ≤ g ∧ g < w.heap.size := by
  intro g hg
  rcases h with ⟨_, rfl | ⟨b, off, c, rfl, hc⟩⟩ | ⟨g', off, c, cs, rfl, _, _, hb, hb', _⟩
  · simp [Value.ownS] at hg
  · rw [ownS_zero] at hg
    cases hg
  · obtain ⟨e, _⟩ := ownS_some hg
    have e : g' = g := e
    subst e
    exact ⟨hb, hb'.lt⟩
/-- What leaves a side's block leaves the side. -/
theorem Side.same (h : Side base w v xs) (hs : ∀ g, v.ownS = some g → w'.heap[g]? = w.heap[g]?) : Side base w' v xs := by
  rcases h with h | ⟨g, off, c, cs, rfl, h1, h2, hb, hg, hc⟩
  · exact .inl h
  · by_cases h0 : 0 < xs.length
    · exact .inr ⟨g, off, c, cs, rfl, h1, h2, hb, (hs g (ownS_pos h0)).trans hg, hc⟩
    · have e : xs = [] := List.length_eq_zero_iff.1 (by omega)
      subst e
      exact .inl ⟨rfl, .inr ⟨_, _, _, rfl, h2⟩⟩
theorem Side.far (h : Side base w v xs) {p : Addr} (hp : v.ownS ≠ some p.block) (u : Value) : Side base (w.setCell p u) v xs :=
  h.same fun g hg => Below.heap_setCell w p u g (fun e => hp (by rw [← e]; exact hg))
theorem Side.low (h : Side base w v xs) {base' : Nat} (hb : base' ≤ base) : Side base' w v xs := by
  rcases h with h | ⟨g, off, c, cs, e, h1, h2, hb', hg, hc⟩
  · exact .inl h
  · exact .inr ⟨g, off, c, cs, e, h1, h2, by omega, hg, hc⟩
end
end Go.Proofs.YtapjofbjedpmgaaGreat
end
section
namespace Go.Proofs.YtapjofbjedpmgaaGreat
open Go Go.RowKit Go.Proofs Go.Maps
/-- A type of maps to numbers. -/
structure MapTy (P : Program) (t k e : TypeId) : Prop where
  keyed : Keyed P k
  und : P.underlying t = some (.map k e)
  el : P.underlying e = some (.int .i64)
  zero : ∀ w, (zeroValue e).run P w = .ok (.int .i64 0) w
section
variable {P : Program} {t k e : TypeId} {α : Type} {enc : α → Value} {w w' : World} {b n : Nat} {T T' : α → Option Int}
/-- The map in block b has T a at the key of a, in at most n entries. -/
def Tbl (P : Program) (k e : TypeId) (enc : α → Value) (w : World) (b n : Nat) (T : α → Option Int) : Prop :=
  ∃ D : DataW Unit, w.ownsMap P k (plainElem P e) b n D ∧ ∀ a l, keyOf P k (enc a) = some l → Maps.has D l = (T a).isSome ∧ D.atKey l (.lit (.int .i64 0)) = .lit (.int .i64 ((T a).getD 0))
theorem Tbl.made (P : Program) (k e : TypeId) (enc : α → Value) (w : World) : Tbl P k e enc (w.alloc (.map #[] 0)) w.heap.size 0 (fun _ => none) :=
  ⟨_, World.ownsMap_made _ _ _ _, fun _ _ _ => ⟨rfl, rfl⟩⟩
theorem Tbl.kept {row : Option Nat} (h : Tbl P k e enc w b n T) (hg : w.grownBy w' row) (hne : some b ≠ row) : Tbl P k e enc w' b n T := by
  obtain ⟨D, h1, h2⟩ := h
  exact ⟨D, h1.kept hg hne, h2⟩
theorem Tbl.ext (h : Tbl P k e enc w b n T) (he : Ext w w') : Tbl P k e enc w' b n T :=
  h.kept (row := none) ⟨he.os, he.tape, he.output, he.size, fun k hk _ => Below.block he k hk⟩ (by simp)
theorem Tbl.setCell (h : Tbl P k e enc w b n T) {a : Addr} (ha : b ≠ a.block) (u : Value) : Tbl P k e enc (w.setCell a u) b n T := by
  obtain ⟨D, h1, h2⟩ := h
  exact ⟨D, h1.setCell ha u, h2⟩
theorem Tbl.mono {n' : Nat} (h : Tbl P k e enc w b n T) (hn : n ≤ n') : Tbl P k e enc w b n' T := by
  obtain ⟨D, h1, h2⟩ := h
  exact ⟨D, h1.mono hn, h2⟩
theorem Tbl.lt (h : Tbl P k e enc w b n T) : b < w.heap.size := by
  obtain ⟨D, h1, _⟩ := h
  exact h1.lt
theorem lit_int_inj {a b : Int} (h : (DataW.lit (.int .i64 a) : DataW Unit) = .lit (.int .i64 b)) : a = b := by
  injection h with h
  injection h
theorem Tbl.lookup (h : Tbl P k e enc w b n T) (M : MapTy P t k e) (a : α) (hk : ∃ l, keyOf P k (enc a) = some l) :
    (Instr.lookup t (.map (some b)) (enc a) false).run P w = .ok (.int .i64 ((T a).getD 0)) w := by
  obtain ⟨D, h1, h2⟩ := h
  obtain ⟨l, hl⟩ := hk
  obtain ⟨c, hrun, hat, _⟩ := h1.lookup_int M.keyed M.und M.el (M.zero w) hl
  rw [(h2 a l hl).2] at hat
  rw [lit_int_inj hat]
  exact hrun
theorem Tbl.update [DecidableEq α] (h : Tbl P k e enc w b n T) (M : MapTy P t k e) (hinj : ∀ x y, enc x = enc y → x = y) (hn : n < maxLen) (a : α) (hk : ∃ l, keyOf P k (enc a) = some l) (c : Int) (hc : (Lit.int .i64 c).wf = true) :
    ∃ w', (Instr.mapUpdate t (.map (some b)) (enc a) (.int .i64 c)).run P w = .ok () w' ∧ Tbl P k e enc w' b (n + 1) (fun x => if x = a then some c else T x) ∧ w.grownBy w' (some b) := by
  obtain ⟨D, h1, h2⟩ := h
  obtain ⟨l, hl⟩ := hk
  obtain ⟨w', hrun, h3, h4⟩ := h1.update M.keyed M.und hn hl (plainElem_int M.el hc)
  refine ⟨w', hrun, ⟨_, h3, fun x lx hx => ?_⟩, h4⟩
  by_cases e : x = a
  · subst e
    rw [hl] at hx
    injection hx with hx
    subst hx
    rw [has_put_same h1.isMap (M.keyed.key hl), atKey_put_same h1.isMap (M.keyed.key hl)]
    simp
  · have hne : lx ≠ l := fun e' => e (hinj _ _ (M.keyed.inj hx (e' ▸ hl)))
    rw [has_put_other hne, atKey_put_other hne]
    simp only [e, if_false]
    exact h2 x lx hx
end
end Go.Proofs.YtapjofbjedpmgaaGreat
end
