/- A made map from strings to bools: what a look-up answers and what a store leaves. -/
import Derived.Test.YtdkdmcaehinkhaaDoorDec
import Derived.Maps.Own
import Derived.Maps.OwnOps
import Derived.Maps.OwnSet
import Derived.Maps.Keyed
import Derived.Maps.Views
import Derived.StringKeys
namespace Go.Proofs.YtdkdmcaehinkhaaDoor
open Go Go.RowKit Go.Proofs Go.Maps
set_option maxHeartbeats 400000
theorem plainElem_bool_inv {H : Type} {P : Program} {e : TypeId} (he : P.underlying e = some .bool) {v : Value} {z : DataW H × List MemPlace} (h : plainElem P e v = some z) : ∃ x, v = .bool x ∧ z = (.lit (.bool x), []) := by
  unfold plainElem at h
  rw [he] at h
  cases v <;> simp at h
  exact ⟨_, rfl, h.symm⟩
theorem strKeyed : Keyed Tryd.prog 9 := string_keyed Tryd.underlying9
theorem boolZero (w : World) : (zeroValue 4).run Tryd.prog w = .ok (.bool false) w := by kernel_rfl
/-- The map in block b holds true just for the keys of S, in at most n entries. -/
def Seen (w : World) (b n : Nat) (S : List UInt8 → Bool) : Prop :=
  ∃ D : DataW Unit, w.ownsMap Tryd.prog 9 (plainElem Tryd.prog 4) b n D ∧ ∀ kl, D.atKey (.string kl) (.lit (.bool false)) = .lit (.bool (S kl))
theorem Seen.made (w : World) : Seen (w.alloc (.map #[] 0)) w.heap.size 0 (fun _ => false) :=
  ⟨_, World.ownsMap_made _ _ _ _, fun _ => rfl⟩
theorem Seen.ext {w w' : World} {b n : Nat} {S : List UInt8 → Bool} (h : Seen w b n S) (he : Ext w w') : Seen w' b n S := by
  obtain ⟨D, h1, h2⟩ := h
  exact ⟨D, h1.kept (row := none) ⟨he.os, he.tape, he.output, he.size, fun k hk _ => Below.block he k hk⟩ (by simp), h2⟩
theorem Seen.kept {w w' : World} {b n : Nat} {S : List UInt8 → Bool} {row : Option Nat} (h : Seen w b n S) (hg : w.grownBy w' row) (hne : some b ≠ row) : Seen w' b n S := by
  obtain ⟨D, h1, h2⟩ := h
  exact ⟨D, h1.kept hg hne, h2⟩
theorem Seen.setCell {w : World} {b n : Nat} {S : List UInt8 → Bool} (h : Seen w b n S) {a : Addr} (ha : b ≠ a.block) (u : Value) : Seen (w.setCell a u) b n S := by
  obtain ⟨D, h1, h2⟩ := h
  exact ⟨D, h1.setCell ha u, h2⟩
theorem Seen.mono {w : World} {b n n' : Nat} {S : List UInt8 → Bool} (h : Seen w b n S) (hn : n ≤ n') : Seen w b n' S := by
  obtain ⟨D, h1, h2⟩ := h
  exact ⟨D, h1.mono hn, h2⟩
theorem Seen.lt {w : World} {b n : Nat} {S : List UInt8 → Bool} (h : Seen w b n S) : b < w.heap.size := by
  obtain ⟨D, h1, _⟩ := h
  exact h1.lt
/-- The block of a map is no row of cells. -/
theorem Seen.ne_row {w : World} {b n : Nat} {S : List UInt8 → Bool} (h : Seen w b n S) {base : Nat} {e : TypeId} {size : Nat} {v : Value} {m : Nat} {xs : List Value} (ho : w.ownsRow base e size v m xs) : some b ≠ v.ownBlock := by
  obtain ⟨D, ⟨es, clock, hb, _⟩, _⟩ := h
  rcases ho.2 with ⟨rfl, _⟩ | ⟨g, cap, cur, rfl, _, hg, _⟩
  · simp [Value.ownBlock]
  · intro e
    have : b = g := by simpa [Value.ownBlock] using e
    subst this
    rw [hb] at hg
    cases hg
theorem Seen.ne_blk {w : World} {b n : Nat} {S : List UInt8 → Bool} (h : Seen w b n S) {g : Nat} {t : TypeId} {cs : Array Value} (hg : Blk w g t cs) : b ≠ g := by
  obtain ⟨D, ⟨es, clock, hb, _⟩, _⟩ := h
  rintro rfl
  unfold Blk at hg
  rw [hb] at hg
  cases hg
theorem lit_bool_inj {a b : Bool} (h : (DataW.lit (.bool a) : DataW Unit) = .lit (.bool b)) : a = b := by
  injection h with h
  injection h
theorem Seen.lookup {w : World} {b n : Nat} {S : List UInt8 → Bool} (h : Seen w b n S) (s : ByteArray) (hs : s.size ≤ maxLen) :
    (Instr.lookup 62 (.map (some b)) (.string s) false).run Tryd.prog w = .ok (.bool (S s.data.toList)) w := by
  obtain ⟨D, h1, h2⟩ := h
  obtain ⟨v, ps, hrun, hv⟩ := h1.lookup strKeyed Tryd.underlying62 (boolZero w) (plainElem_bool Tryd.underlying4 false) (Go.WideMaps.keyOf_string_mk Tryd.underlying9 hs)
  obtain ⟨x, hvx, hx⟩ := plainElem_bool_inv Tryd.underlying4 hv
  have hx1 := congrArg Prod.fst hx
  rw [h2] at hx1
  rw [lit_bool_inj hx1, ← hvx]
  exact hrun
theorem Seen.update {w : World} {b n : Nat} {S : List UInt8 → Bool} (h : Seen w b n S) (hn : n < maxLen) (s : ByteArray) (hs : s.size ≤ maxLen) :
    ∃ w', (Instr.mapUpdate 62 (.map (some b)) (.string s) (.bool true)).run Tryd.prog w = .ok () w' ∧ Seen w' b (n + 1) (fun k => decide (k = s.data.toList) || S k) ∧ w.grownBy w' (some b) := by
  obtain ⟨D, h1, h2⟩ := h
  obtain ⟨w', hrun, h3, h4⟩ := h1.update strKeyed Tryd.underlying62 hn (Go.WideMaps.keyOf_string_mk Tryd.underlying9 hs) (plainElem_bool Tryd.underlying4 true)
  refine ⟨w', hrun, ⟨_, h3, fun kl => ?_⟩, h4⟩
  by_cases e : kl = s.data.toList
  · subst e
    rw [atKey_put_same h1.isMap (by exact trivial)]
    simp
  · rw [atKey_put_other (by intro h; injection h with h; exact e h), h2]
    simp [e]
end Go.Proofs.YtdkdmcaehinkhaaDoor
