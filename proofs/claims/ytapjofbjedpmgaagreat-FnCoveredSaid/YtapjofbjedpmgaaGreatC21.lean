/- Contracts: where the head of a formula tape is.
Contract: a formula tape without blanks at its ends.
Contract: symbols go over a repeater of a formula tape. -/
import Derived.Test.YtapjofbjedpmgaaGreatC20
import Derived.Deep.CutBlock
import Derived.Deep.DeepCutAuto
section
set_option linter.unusedSimpArgs false
set_option linter.unusedVariables false
namespace Go.Proofs.YtapjofbjedpmgaaGreat
open Go Go.RowKit Go.Proofs
set_option maxHeartbeats 400000
theorem sizeLL_c (A : Option Addr) (n c : Nat) (w : World) : Calls Tryz.prog 87 #[.slice A n c] w fun e w' => e = .returned (.int .i64 n) ∧ w = w' := by
  go_enter Tryz.func87, Tryz.ntmps87
  go_wp2
  go_ret
  exact ⟨rfl, rfl⟩
/-- On which repeater the head is, and from which side it has come. -/
def onB (f : FoD) : Int × Int := if f.at_ = -1 then (f.hd - 1, -1) else if f.at_ = ((f.ws.getD f.hd.toNat []).length : Int) then (f.hd, 1) else (0, 0)
theorem getD_get {α : Type} {xs : List α} {d : α} {i : Nat} (h : i < xs.length) : xs.getD i d = xs[i] := by rw [List.getD_eq_getElem?_getD, List.getElem?_eq_getElem h]; rfl
end Go.Proofs.YtapjofbjedpmgaaGreat
end
section
set_option linter.unusedSimpArgs false
set_option linter.unusedVariables false
namespace Go.Proofs.YtapjofbjedpmgaaGreat
open Go Go.RowKit Go.Proofs
set_option maxHeartbeats 400000
theorem IL.nil {w : World} {go c n : Nat} {A : Option Addr} {xs : List Int} (h : IL w go (.slice A n c) xs) (c' : Nat) (hc : c' ≤ c) : IL w go (.slice A 0 c') [] := by
  have ht := h.take (k := 0) (Nat.zero_le _)
  obtain ⟨A', c2, e, h1, h2⟩ := h.ints.form
  injection e with e1 e2 e3
  subst e1 e2 e3
  refine ⟨⟨A, c', rfl, Nat.zero_le _, by omega, rfl, fun h => absurd h (by simp)⟩, ?_, fun b hb => h.blk b (by cases A with | none => simp [Value.ownBlock] at hb | some p => simpa [Value.ownBlock] using hb)⟩
  rcases h.flat with e | ⟨b, off, n, c'', e⟩
  · injection e with e1 e2 e3
    subst e1 e3
    have : c' = 0 := by omega
    subst this
    exact .inl rfl
  · injection e with e1 e2 e3
    exact .inr ⟨b, off, 0, c', by rw [e1]⟩
theorem sizeIN_c (A : Option Addr) (n c : Nat) (w : World) : Calls Tryz.prog 88 #[.slice A n c] w fun e w' => e = .returned (.int .i64 n) ∧ w = w' := by
  go_enter Tryz.func88, Tryz.ntmps88
  go_wp2
  go_ret
  exact ⟨rfl, rfl⟩
end Go.Proofs.YtapjofbjedpmgaaGreat
end
section
set_option linter.unusedSimpArgs false
set_option linter.unusedVariables false
namespace Go.Proofs.YtapjofbjedpmgaaGreat
open Go Go.RowKit Go.Proofs
set_option maxHeartbeats 400000
/-- The lists at a repeater. -/
def foMid (q hd a : Int) (A : List (List Int)) (u x : List Int) (C B : List (List Int)) (v : List Int) (D : List (List Int)) (os : List Int) : FoD := ⟨q, hd, a, A ++ u :: x :: C, B ++ v :: D, os⟩
theorem IL.one {w : World} {go base gx : Nat} {z : Int} (hb : Blk w gx 2 #[.int .i64 z]) (hg : gx ≠ go) : IL w go (.slice (some ⟨gx, 0, none⟩) 1 1) [z] :=
  ⟨⟨some ⟨gx, 0, none⟩, 1, rfl, Nat.le_refl _, by omega, rfl, fun _ => ⟨gx, 0, rfl, fun j hj => by
    have : j = 0 := by simpa [ivs] using hj
    subst this
    exact hb.cell 0⟩⟩, .inr ⟨gx, 0, 1, 1, rfl⟩, fun b hb' => by
    have e : gx = b := by simpa [Value.ownBlock] using hb'
    subst e
    exact ⟨hg, _, hb⟩⟩
theorem IL.cellAt {w : World} {go : Nat} {z : Value} {xs : List Int} (h : IL w go z xs) {k : Nat} (hk : k < xs.length) : ∃ b off c, z = .slice (some ⟨b, off, none⟩) xs.length c ∧ xs.length ≤ c ∧ c ≤ 9223372036854775807 ∧ w.cell? ⟨b, off + k, none⟩ = some (.int .i64 (xs.getD k 0)) := by
  obtain ⟨A, c, rfl, h1, h2⟩ := h.ints.form
  obtain ⟨b, off, rfl, hc⟩ := h.ints.at hk
  exact ⟨b, off, c, rfl, h1, h2, by rw [hc k hk, getD_get hk]⟩
/-- Nothing older than w0 has changed, and of the blocks of w only those of the formula tape. -/
structure XF (g gw gr go : Nat) (w0 w W : World) : Prop where
  ext : Ext w0 W
  keep : ∀ (b : Nat) (t : TypeId) (cs : Array Value), Blk w b t cs → b ≠ g → b ≠ gw → b ≠ gr → b ≠ go → Blk W b t cs
theorem XF.start {g gw gr go : Nat} {w0 w : World} (h : Ext w0 w) : XF g gw gr go w0 w w := ⟨h, fun _ _ _ h _ _ _ _ => h⟩
theorem XF.trans {g gw gr go : Nat} {w0 w W W' : World} (h : XF g gw gr go w0 w W) (e : Ext W W') : XF g gw gr go w0 w W' := ⟨h.ext.trans e, fun b t cs hb h1 h2 h3 h4 => (h.keep b t cs hb h1 h2 h3 h4).ext e⟩
theorem XF.setCell {g gw gr go : Nat} {w0 w W : World} (h : XF g gw gr go w0 w W) {p : Addr} (hp : w0.heap.size ≤ p.block) (v : Value) (hm : p.block = g ∨ p.block = gw ∨ p.block = gr ∨ p.block = go := by simp) : XF g gw gr go w0 w (W.setCell p v) :=
  ⟨h.ext.setCell hp v, fun b t cs hb h1 h2 h3 h4 => (h.keep b t cs hb h1 h2 h3 h4).far (p := p) (by rcases hm with e | e | e | e <;> rw [e] <;> assumption) v⟩
end Go.Proofs.YtapjofbjedpmgaaGreat
end
