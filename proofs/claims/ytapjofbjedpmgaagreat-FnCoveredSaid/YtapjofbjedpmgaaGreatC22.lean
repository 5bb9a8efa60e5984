/- Plain words: the lists of a formula tape stay short while it is brought to its normal form.
Contract: the normal form of a formula tape.
Words for what the reference's calls on configurations come to, and for a configuration in a block that has been made. -/
import Derived.Test.YtapjofbjedpmgaaGreatC21
import Derived.Test.YtapjofbjedpmgaaGreatC04
import Derived.Test.YtapjofbjedpmgaaGreatC05
import Derived.Test.YtapjofbjedpmgaaGreatC10
import Derived.Test.YtapjofbjedpmgaaGreatC02
section
set_option linter.unusedSimpArgs false
set_option linter.unusedVariables false
namespace Go.Proofs.YtapjofbjedpmgaaGreat
open Go Go.RowKit Go.Proofs
def totL (xss : List (List Int)) : Nat := (xss.map List.length).sum
theorem totL_app (a b : List (List Int)) : totL (a ++ b) = totL a + totL b := by simp [totL]
theorem totL_cons (x : List Int) (b : List (List Int)) : totL (x :: b) = x.length + totL b := by simp [totL]
theorem totL_mem {xss : List (List Int)} {x : List Int} (h : x ∈ xss) : x.length ≤ totL xss := by
  obtain ⟨a, b, rfl⟩ := List.append_of_mem h
  rw [totL_app, totL_cons]
  omega
/-- The lists are short, the numbers are small. -/
structure NB (f : FoD) (n k : Int) : Prop where
  r1 : 1 ≤ f.rs.length ∧ f.rs.length ≤ 3
  ws : f.ws.length = f.rs.length + 1
  os : f.os.length = f.rs.length
  hd : 0 ≤ f.hd ∧ f.hd ≤ f.rs.length
  tot : totL f.ws ≤ 400
  rep : ∀ v ∈ f.rs, 1 ≤ v.length ∧ v.length ≤ 20
  at_ : -n ≤ f.at_ ∧ f.at_ ≤ n
  off : ∀ o ∈ f.os, -k ≤ o ∧ o ≤ k
theorem NB.more {f : FoD} {n k n' k' : Int} (h : NB f n k) (h1 : n ≤ n') (h2 : k ≤ k') : NB f n' k' :=
  ⟨h.r1, h.ws, h.os, h.hd, h.tot, h.rep, by have := h.at_; omega, fun o ho => by have := h.off o ho; omega⟩
theorem NB.small {f : FoD} {n k : Int} (h : NB f n k) : FoSmall f :=
  ⟨h.r1, h.ws, h.os, fun x hx => by have := totL_mem hx; have := h.tot; omega, fun x hx => by have := h.rep x hx; omega⟩
/-- The lists around a repeater. -/
theorem NB.split {f : FoD} {n k : Int} (h : NB f n k) {i : Nat} (hi : i < f.rs.length) : ∃ A u x C B v D, f = foMid f.q f.hd f.at_ A u x C B v D f.os ∧ A.length = i ∧ B.length = i ∧ C.length = D.length ∧ D.length ≤ 2 := by
  have h1 := h.ws
  have h2 := h.r1
  obtain ⟨A, u, W, hA, lA⟩ := split_mid (xs := f.ws) (i := i) (by omega)
  obtain ⟨B, v, D, hB, lB⟩ := split_mid (xs := f.rs) hi
  cases W with
  | nil => rw [hA] at h1; rw [hB] at h1 hi; simp at h1 hi; omega
  | cons x C =>
    refine ⟨A, u, x, C, B, v, D, ?_, lA, lB, ?_, ?_⟩
    · cases f; simp only at hA hB; subst hA hB; rfl
    · rw [hA, hB] at h1; simp at h1; omega
    · rw [hB] at h2; simp at h2; omega
end Go.Proofs.YtapjofbjedpmgaaGreat
end
section
set_option linter.unusedSimpArgs false
set_option linter.unusedVariables false
namespace Go.Proofs.YtapjofbjedpmgaaGreat
open Go Go.RowKit Go.Proofs
set_option maxHeartbeats 400000
theorem XF.next {g gw gr go : Nat} {w0 w W W' : World} (h : XF g gw gr go w0 w W) (k : XF g gw gr go w0 W W') : XF g gw gr go w0 w W' :=
  ⟨k.ext, fun b t cs hb h1 h2 h3 h4 => k.keep b t cs (h.keep b t cs hb h1 h2 h3 h4) h1 h2 h3 h4⟩
end Go.Proofs.YtapjofbjedpmgaaGreat
end
section
set_option linter.unusedSimpArgs false
set_option linter.unusedVariables false
namespace Go.Proofs.YtapjofbjedpmgaaGreat
open Go Go.RowKit Go.Proofs
/-- A configuration and a code, as the reference's functions give them. -/
def SpecRes (w : World) (r : ConfD × Int) (e : Ending) (w' : World) : Prop :=
  (∃ lv rv base, e = .returned (.tuple #[.agg #[.int .i64 r.1.q, lv, rv], .int .i64 r.2]) ∧ OwnInts base w' lv r.1.l ∧ OwnInts base w' rv r.1.r) ∧ Ext w w'
theorem ints_far {base : Nat} {w : World} {v : Value} {zs : List Int} (h : OwnInts base w v zs) {p : Addr} (hp : ∀ k, v.ownBlock = some k → k ≠ p.block) (u : Value) : OwnInts base (w.setCell p u) v zs := ownsRow_far h hp u
theorem SpecRes.done {w w1 : World} {r : ConfD × Int} {b base : Nat} {lv rv : Value} (hb : w.heap.size ≤ b) (hX : Ext w w1)
    (hl : OwnInts base w1 lv r.1.l) (hr : OwnInts base w1 rv r.1.r) (n1 : ∀ g, lv.ownBlock = some g → g ≠ b) (n2 : ∀ g, rv.ownBlock = some g → g ≠ b) (x y z : Value) :
    SpecRes w r (.returned (.tuple #[.agg #[.int .i64 r.1.q, lv, rv], .int .i64 r.2])) (((w1.setCell ⟨b, 0, none⟩ x).setCell ⟨b, 1, none⟩ y).setCell ⟨b, 2, none⟩ z) :=
  ⟨⟨_, _, base, rfl, ints_far (ints_far (ints_far hl n1 _) n1 _) n1 _, ints_far (ints_far (ints_far hr n2 _) n2 _) n2 _⟩, ((hX.setCell hb _).setCell hb _).setCell hb _⟩
theorem SpecRes.none {w w1 : World} {k : Int} {b : Nat} (hb : w.heap.size ≤ b) (hX : Ext w w1) (x y z : Value) :
    SpecRes w (blankC, k) (.returned (.tuple #[.agg #[.int .i64 0, .slice none 0 0, .slice none 0 0], .int .i64 k])) (((w1.setCell ⟨b, 0, none⟩ x).setCell ⟨b, 1, none⟩ y).setCell ⟨b, 2, none⟩ z) :=
  SpecRes.done (r := (blankC, k)) (base := 0) hb hX (World.ownsRow_nil ..) (World.ownsRow_nil ..) (fun g hg => by simp [Value.ownBlock] at hg) (fun g hg => by simp [Value.ownBlock] at hg) x y z
end Go.Proofs.YtapjofbjedpmgaaGreat
end
