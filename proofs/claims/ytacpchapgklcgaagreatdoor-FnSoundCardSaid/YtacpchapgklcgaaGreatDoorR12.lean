/- Contracts on a machine with two automata, continued: the abstraction of a configuration.
A made map to numbers, as a function on what its keys stand for: what a look-up answers and what a store leaves. No condition.
A made map to bools, as a function on what its keys stand for: what a look-up answers and what a store leaves. No condition. -/
import Derived.Test.YtacpchapgklcgaaGreatDoorR08
import Derived.Test.YtacpchapgklcgaaGreatDoorR10
import Derived.Test.YtacpchapgklcgaaGreatDoorR11
import Derived.Deep.RegionHeld3
import Derived.Test.YtacpchapgklcgaaGreatDoorR01
import Derived.Maps.Own
import Derived.Maps.OwnSet
import Derived.Maps.Keyed
import Derived.Maps.Views
import Derived.DeepKeys4
section
set_option linter.unusedSimpArgs false
set_option linter.unusedVariables false
set_option linter.unusedSectionVars false
set_option maxHeartbeats 4000000
namespace Go.Proofs.YtacpchapgklcgaaGreatDoor
open Go Go.RowKit Go.Proofs
theorem beyV_flat {w : World} {v : Value} {xs : List Int} (hi : Ints w v xs) (h : Flat v) : Flat (beyV v xs.length) := by
  obtain ⟨A, c, rfl, g1, g2⟩ := hi.form
  rcases h with e | ⟨b, off, k, c', e⟩
  · injection e with e1 e2 e3
    subst e1 e3
    left
    simp only [beyV, e2, if_true]
  · injection e with e1 e2 e3
    subst e1
    right
    by_cases h0 : xs.length = 0
    · exact ⟨b, off, 0, c, by simp only [beyV, h0, if_true]⟩
    · by_cases h1 : c = 1
      · exact ⟨b, off, 0, 0, by simp only [beyV, h0, h1, if_true, if_false]⟩
      · exact ⟨b, off + 1, xs.length - 1, c - 1, by simp [beyV, h0, h1, Addr.add]⟩
/-- An outline as a value. -/
def outV (a : Outl) : Value := .agg #[.int .i64 a.1, .int .i64 a.2.1, .int .i64 a.2.2.1, .int .i64 a.2.2.2]
theorem KSgen {W w8 : World} {g : Nat} {t1 t2 : TypeId} {a0 a1 a2 a3 a4 a5 a6 k0 k1 k2 : Value} (bA : Blk W g t1 #[a0, a1, a2, a3, a4, a5, a6]) (bC : Blk W (g + 1) t2 #[k0, k1, k2]) (hE : Ext W w8) (x y z t : Value) :
    ((((w8.setCell ⟨g + 1 + 1, 0, none⟩ x).setCell ⟨g + 1 + 1, 1, none⟩ y).setCell ⟨g + 1 + 1, 2, none⟩ z).setCell ⟨g + 1 + 1, 3, none⟩ t).cell? ⟨g, 3, none⟩ = some a3 ∧ ((((w8.setCell ⟨g + 1 + 1, 0, none⟩ x).setCell ⟨g + 1 + 1, 1, none⟩ y).setCell ⟨g + 1 + 1, 2, none⟩ z).setCell ⟨g + 1 + 1, 3, none⟩ t).cell? ⟨g, 4, none⟩ = some a4 ∧
    ((((w8.setCell ⟨g + 1 + 1, 0, none⟩ x).setCell ⟨g + 1 + 1, 1, none⟩ y).setCell ⟨g + 1 + 1, 2, none⟩ z).setCell ⟨g + 1 + 1, 3, none⟩ t).cell? ⟨g, 5, none⟩ = some a5 ∧ ((((w8.setCell ⟨g + 1 + 1, 0, none⟩ x).setCell ⟨g + 1 + 1, 1, none⟩ y).setCell ⟨g + 1 + 1, 2, none⟩ z).setCell ⟨g + 1 + 1, 3, none⟩ t).cell? ⟨g, 6, none⟩ = some a6 ∧
    ((((w8.setCell ⟨g + 1 + 1, 0, none⟩ x).setCell ⟨g + 1 + 1, 1, none⟩ y).setCell ⟨g + 1 + 1, 2, none⟩ z).setCell ⟨g + 1 + 1, 3, none⟩ t).cell? ⟨g + 1, 0, none⟩ = some k0 ∧ ((((w8.setCell ⟨g + 1 + 1, 0, none⟩ x).setCell ⟨g + 1 + 1, 1, none⟩ y).setCell ⟨g + 1 + 1, 2, none⟩ z).setCell ⟨g + 1 + 1, 3, none⟩ t).cell? ⟨g + 1, 1, none⟩ = some k1 ∧
    ((((w8.setCell ⟨g + 1 + 1, 0, none⟩ x).setCell ⟨g + 1 + 1, 1, none⟩ y).setCell ⟨g + 1 + 1, 2, none⟩ z).setCell ⟨g + 1 + 1, 3, none⟩ t).cell? ⟨g + 1, 2, none⟩ = some k2 := by
  have na : g ≠ g + 1 + 1 := by omega
  have nc : g + 1 ≠ g + 1 + 1 := by omega
  have hA := ((((bA.ext hE).far (p := ⟨g + 1 + 1, 0, none⟩) na x).far (p := ⟨g + 1 + 1, 1, none⟩) na y).far (p := ⟨g + 1 + 1, 2, none⟩) na z).far (p := ⟨g + 1 + 1, 3, none⟩) na t
  have hC := ((((bC.ext hE).far (p := ⟨g + 1 + 1, 0, none⟩) nc x).far (p := ⟨g + 1 + 1, 1, none⟩) nc y).far (p := ⟨g + 1 + 1, 2, none⟩) nc z).far (p := ⟨g + 1 + 1, 3, none⟩) nc t
  exact ⟨hA.cell 3, hA.cell 4, hA.cell 5, hA.cell 6, hC.cell 0, hC.cell 1, hC.cell 2⟩
end Go.Proofs.YtacpchapgklcgaaGreatDoor
end
section
namespace Go.Proofs.YtacpchapgklcgaaGreatDoor
open Go Go.RowKit Go.Proofs Go.Maps
/-- A type of maps to numbers. -/
structure MapTy (P : Program) (t k e : TypeId) : Prop where
  keyed : Keyed P k
  und : P.underlying t = some (.map k e)
  el : P.underlying e = some (.int .i64)
  zero : ∀ w, (zeroValue e).run P w = .ok (.int .i64 0) w
section
variable {P : Program} {t k e : TypeId} {α : Type} {enc : α → Value} {w w' : World} {b n : Nat} {T T' : α → Option Int}
/-- The map in block b has T a at the key of a, in at most n entries. -/
def Tbl (P : Program) (k e : TypeId) (enc : α → Value) (w : World) (b n : Nat) (T : α → Option Int) : Prop :=
  ∃ D : DataW Unit, w.ownsMap P k (plainElem P e) b n D ∧ ∀ a l, keyOf P k (enc a) = some l → Maps.has D l = (T a).isSome ∧ D.atKey l (.lit (.int .i64 0)) = .lit (.int .i64 ((T a).getD 0))
theorem Tbl.made (P : Program) (k e : TypeId) (enc : α → Value) (w : World) : Tbl P k e enc (w.alloc (.map #[] 0)) w.heap.size 0 (fun _ => none) :=
  ⟨_, World.ownsMap_made _ _ _ _, fun _ _ _ => ⟨rfl, rfl⟩⟩
theorem Tbl.kept {row : Option Nat} (h : Tbl P k e enc w b n T) (hg : w.grownBy w' row) (hne : some b ≠ row) : Tbl P k e enc w' b n T := by
  obtain ⟨D, h1, h2⟩ := h
  exact ⟨D, h1.kept hg hne, h2⟩
theorem Tbl.ext (h : Tbl P k e enc w b n T) (he : Ext w w') : Tbl P k e enc w' b n T :=
  h.kept (row := none) ⟨he.os, he.tape, he.output, he.size, fun k hk _ => Below.block he k hk⟩ (by simp)
theorem Tbl.setCell (h : Tbl P k e enc w b n T) {a : Addr} (ha : b ≠ a.block) (u : Value) : Tbl P k e enc (w.setCell a u) b n T := by
  obtain ⟨D, h1, h2⟩ := h
  exact ⟨D, h1.setCell ha u, h2⟩
theorem Tbl.mono {n' : Nat} (h : Tbl P k e enc w b n T) (hn : n ≤ n') : Tbl P k e enc w b n' T := by
  obtain ⟨D, h1, h2⟩ := h
  exact ⟨D, h1.mono hn, h2⟩
theorem Tbl.lt (h : Tbl P k e enc w b n T) : b < w.heap.size := by
  obtain ⟨D, h1, _⟩ := h
  exact h1.lt
theorem Tbl.ne_row (h : Tbl P k e enc w b n T) {base : Nat} {e' : TypeId} {size : Nat} {v : Value} {m : Nat} {xs : List Value} (ho : w.ownsRow base e' size v m xs) : some b ≠ v.ownBlock := by
  obtain ⟨D, ⟨es, clock, hb, _⟩, _⟩ := h
  rcases ho.2 with ⟨rfl, _⟩ | ⟨g, cap, cur, rfl, _, hg, _⟩
  · simp [Value.ownBlock]
  · intro e
    have : b = g := by simpa [Value.ownBlock] using e
    subst this
    rw [hb] at hg
    cases hg
theorem Tbl.ne_blk (h : Tbl P k e enc w b n T) {g : Nat} {t' : TypeId} {cs : Array Value} (hg : Blk w g t' cs) : b ≠ g := by
  obtain ⟨D, ⟨es, clock, hb, _⟩, _⟩ := h
  rintro rfl
  unfold Blk at hg
  rw [hb] at hg
  cases hg
theorem lit_int_inj {a b : Int} (h : (DataW.lit (.int .i64 a) : DataW Unit) = .lit (.int .i64 b)) : a = b := by
  injection h with h
  injection h
theorem Tbl.lookup (h : Tbl P k e enc w b n T) (M : MapTy P t k e) (a : α) (hk : ∃ l, keyOf P k (enc a) = some l) :
    (Instr.lookup t (.map (some b)) (enc a) false).run P w = .ok (.int .i64 ((T a).getD 0)) w := by
  obtain ⟨D, h1, h2⟩ := h
  obtain ⟨l, hl⟩ := hk
  obtain ⟨c, hrun, hat, _⟩ := h1.lookup_int M.keyed M.und M.el (M.zero w) hl
  rw [(h2 a l hl).2] at hat
  rw [lit_int_inj hat]
  exact hrun
theorem Tbl.lookup2 (h : Tbl P k e enc w b n T) (M : MapTy P t k e) (a : α) (hk : ∃ l, keyOf P k (enc a) = some l) :
    (Instr.lookup t (.map (some b)) (enc a) true).run P w = .ok (.tuple #[.int .i64 ((T a).getD 0), .bool (T a).isSome]) w := by
  obtain ⟨D, h1, h2⟩ := h
  obtain ⟨l, hl⟩ := hk
  obtain ⟨v, ps, hrun, hv⟩ := h1.look_ok M.keyed M.und (M.zero w) (plainElem_int M.el (by decide)) hl
  obtain ⟨c, rfl, hc, _⟩ := plainElem_int_inv M.el hv
  have hc1 := congrArg Prod.fst hc
  simp only at hc1
  rw [(h2 a l hl).2] at hc1
  rw [(h2 a l hl).1, ← lit_int_inj hc1] at hrun
  exact hrun
theorem Tbl.update [DecidableEq α] (h : Tbl P k e enc w b n T) (M : MapTy P t k e) (hinj : ∀ x y, enc x = enc y → x = y) (hn : n < maxLen) (a : α) (hk : ∃ l, keyOf P k (enc a) = some l) (c : Int) (hc : (Lit.int .i64 c).wf = true) :
    ∃ w', (Instr.mapUpdate t (.map (some b)) (enc a) (.int .i64 c)).run P w = .ok () w' ∧ Tbl P k e enc w' b (n + 1) (fun x => if x = a then some c else T x) ∧ w.grownBy w' (some b) := by
  obtain ⟨D, h1, h2⟩ := h
  obtain ⟨l, hl⟩ := hk
  obtain ⟨w', hrun, h3, h4⟩ := h1.update M.keyed M.und hn hl (plainElem_int M.el hc)
  refine ⟨w', hrun, ⟨_, h3, fun x lx hx => ?_⟩, h4⟩
  by_cases e : x = a
  · subst e
    rw [hl] at hx
    injection hx with hx
    subst hx
    rw [has_put_same h1.isMap (M.keyed.key hl), atKey_put_same h1.isMap (M.keyed.key hl)]
    simp
  · have hne : lx ≠ l := fun e' => e (hinj _ _ (M.keyed.inj hx (e' ▸ hl)))
    rw [has_put_other hne, atKey_put_other hne]
    simp only [e, if_false]
    exact h2 x lx hx
end
end Go.Proofs.YtacpchapgklcgaaGreatDoor
end
section
namespace Go.Proofs.YtacpchapgklcgaaGreatDoor
open Go Go.RowKit Go.Proofs Go.Maps
/-- A type of maps to bools. -/
structure MapTyB (P : Program) (t k e : TypeId) : Prop where
  keyed : Keyed P k
  und : P.underlying t = some (.map k e)
  el : P.underlying e = some .bool
  zero : ∀ w, (zeroValue e).run P w = .ok (.bool false) w
theorem plainElem_boolInv {H : Type} {P : Program} {e : TypeId} (he : P.underlying e = some .bool) {v : Value} {z : DataW H × List MemPlace} (h : plainElem P e v = some z) : ∃ x, v = .bool x ∧ z = (.lit (.bool x), []) := by
  unfold plainElem at h
  rw [he] at h
  cases v <;> simp at h
  exact ⟨_, rfl, h.symm⟩
section
variable {P : Program} {t k e : TypeId} {α : Type} {enc : α → Value} {w w' : World} {b n : Nat} {T T' : α → Bool}
/-- The map in block b has T a at the key of a, in at most n entries. -/
def TblB (P : Program) (k e : TypeId) (enc : α → Value) (w : World) (b n : Nat) (T : α → Bool) : Prop :=
  ∃ D : DataW Unit, w.ownsMap P k (plainElem P e) b n D ∧ ∀ a l, keyOf P k (enc a) = some l → D.atKey l (.lit (.bool false)) = .lit (.bool (T a))
theorem TblB.made (P : Program) (k e : TypeId) (enc : α → Value) (w : World) : TblB P k e enc (w.alloc (.map #[] 0)) w.heap.size 0 (fun _ => false) :=
  ⟨_, World.ownsMap_made _ _ _ _, fun _ _ _ => rfl⟩
theorem TblB.kept {row : Option Nat} (h : TblB P k e enc w b n T) (hg : w.grownBy w' row) (hne : some b ≠ row) : TblB P k e enc w' b n T := by
  obtain ⟨D, h1, h2⟩ := h
  exact ⟨D, h1.kept hg hne, h2⟩
theorem TblB.ext (h : TblB P k e enc w b n T) (he : Ext w w') : TblB P k e enc w' b n T :=
  h.kept (row := none) ⟨he.os, he.tape, he.output, he.size, fun k hk _ => Below.block he k hk⟩ (by simp)
theorem TblB.setCell (h : TblB P k e enc w b n T) {a : Addr} (ha : b ≠ a.block) (u : Value) : TblB P k e enc (w.setCell a u) b n T := by
  obtain ⟨D, h1, h2⟩ := h
  exact ⟨D, h1.setCell ha u, h2⟩
theorem TblB.mono {n' : Nat} (h : TblB P k e enc w b n T) (hn : n ≤ n') : TblB P k e enc w b n' T := by
  obtain ⟨D, h1, h2⟩ := h
  exact ⟨D, h1.mono hn, h2⟩
theorem TblB.lt (h : TblB P k e enc w b n T) : b < w.heap.size := by
  obtain ⟨D, h1, _⟩ := h
  exact h1.lt
theorem TblB.ne_row (h : TblB P k e enc w b n T) {base : Nat} {e' : TypeId} {size : Nat} {v : Value} {m : Nat} {xs : List Value} (ho : w.ownsRow base e' size v m xs) : some b ≠ v.ownBlock := by
  obtain ⟨D, ⟨es, clock, hb, _⟩, _⟩ := h
  rcases ho.2 with ⟨rfl, _⟩ | ⟨g, cap, cur, rfl, _, hg, _⟩
  · simp [Value.ownBlock]
  · intro e
    have : b = g := by simpa [Value.ownBlock] using e
    subst this
    rw [hb] at hg
    cases hg
theorem TblB.ne_blk (h : TblB P k e enc w b n T) {g : Nat} {t' : TypeId} {cs : Array Value} (hg : Blk w g t' cs) : b ≠ g := by
  obtain ⟨D, ⟨es, clock, hb, _⟩, _⟩ := h
  rintro rfl
  unfold Blk at hg
  rw [hb] at hg
  cases hg
theorem lit_boolInj {a b : Bool} (h : (DataW.lit (.bool a) : DataW Unit) = .lit (.bool b)) : a = b := by
  injection h with h
  injection h
theorem TblB.lookup (h : TblB P k e enc w b n T) (M : MapTyB P t k e) (a : α) (hk : ∃ l, keyOf P k (enc a) = some l) :
    (Instr.lookup t (.map (some b)) (enc a) false).run P w = .ok (.bool (T a)) w := by
  obtain ⟨D, h1, h2⟩ := h
  obtain ⟨l, hl⟩ := hk
  obtain ⟨v, ps, hrun, hv⟩ := h1.lookup M.keyed M.und (M.zero w) (plainElem_bool M.el false) hl
  obtain ⟨x, hvx, hx⟩ := plainElem_boolInv M.el hv
  have hx1 := congrArg Prod.fst hx
  rw [h2 a l hl] at hx1
  rw [lit_boolInj hx1, ← hvx]
  exact hrun
theorem TblB.update [DecidableEq α] (h : TblB P k e enc w b n T) (M : MapTyB P t k e) (hinj : ∀ x y, enc x = enc y → x = y) (hn : n < maxLen) (a : α) (hk : ∃ l, keyOf P k (enc a) = some l) (c : Bool) :
    ∃ w', (Instr.mapUpdate t (.map (some b)) (enc a) (.bool c)).run P w = .ok () w' ∧ TblB P k e enc w' b (n + 1) (fun x => if x = a then c else T x) ∧ w.grownBy w' (some b) := by
  obtain ⟨D, h1, h2⟩ := h
  obtain ⟨l, hl⟩ := hk
  obtain ⟨w', hrun, h3, h4⟩ := h1.update M.keyed M.und hn hl (plainElem_bool M.el c)
  refine ⟨w', hrun, ⟨_, h3, fun x lx hx => ?_⟩, h4⟩
  by_cases e : x = a
  · subst e
    rw [hl] at hx
    injection hx with hx
    subst hx
    rw [atKey_put_same h1.isMap (M.keyed.key hl)]
    simp
  · have hne : lx ≠ l := fun e' => e (hinj _ _ (M.keyed.inj hx (e' ▸ hl)))
    rw [atKey_put_other hne]
    simp only [e, if_false]
    exact h2 x lx hx
end
end Go.Proofs.YtacpchapgklcgaaGreatDoor
end
