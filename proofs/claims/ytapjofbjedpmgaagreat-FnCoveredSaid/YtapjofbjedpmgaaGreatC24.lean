/- A formula tape that is being drawn: its block, its lists in blocks of their own, no two in one block.
Plain words: a configuration seen as cells on a line with a head.
Plain words: steps of a formula tape, and why a machine with a bouncer's formula never halts. -/
import Derived.Test.YtapjofbjedpmgaaGreatC23
import Derived.Test.YtapjofbjedpmgaaGreatC05
import Derived.Test.YtapjofbjedpmgaaGreatC17
import Derived.Test.YtapjofbjedpmgaaGreatC21
section
set_option linter.unusedSimpArgs false
set_option linter.unusedVariables false
namespace Go.Proofs.YtapjofbjedpmgaaGreat
open Go Go.RowKit Go.Proofs
set_option maxHeartbeats 400000
def AptF (u v : Value) : Prop := ∀ g, u.ownBlock = some g → v.ownBlock ≠ some g
theorem AptF.symm {u v : Value} (h : AptF u v) : AptF v u := fun g hv hu => h g hu hv
theorem AptF.ne {u v : Value} (h : AptF u v) : u.ownBlock = none ∨ u.ownBlock ≠ v.ownBlock := by
  cases e : u.ownBlock with
  | none => exact .inl rfl
  | some g => exact .inr (fun e2 => h g e e2.symm)
theorem far_blkF {w : World} {base : Nat} {e : TypeId} {size n : Nat} {v : Value} {xs : List Value} {g : Nat} {t : TypeId} {cs : Array Value} (h : w.ownsRow base e size v n xs) (hb : Blk w g t cs) (hne : t ≠ e) (i : Nat) (x : Value) : (w.setCell ⟨g, i, none⟩ x).ownsRow base e size v n xs :=
  ownsRow_far h (fun k hk e => blk_ne_row hb h hne (by rw [hk]; exact congrArg some e.symm)) x
end Go.Proofs.YtapjofbjedpmgaaGreat
end
section
set_option linter.unusedSimpArgs false
set_option linter.unusedVariables false
namespace Go.Proofs.YtapjofbjedpmgaaGreat
open Go Go.RowKit Go.Proofs
/-- The cells of a configuration, and the place of its head. -/
structure Ln (x : ConfD) (f : Int → Int) (p : Int) : Prop where
  r : ∀ i : Nat, x.r.getD i 0 = f (p + i)
  l : ∀ i : Nat, x.l.getD i 0 = f (p - 1 - i)
def updF (f : Int → Int) (p v : Int) : Int → Int := fun i => if i = p then v else f i
theorem updF_same (f : Int → Int) (p v : Int) : updF f p v p = v := if_pos rfl
theorem updF_other (f : Int → Int) (p v : Int) {i : Int} (h : i ≠ p) : updF f p v i = f i := if_neg h
theorem pushL_zero (s : Int) (xs : List Int) : (pushL s xs).getD 0 0 = s := by
  unfold pushL
  split
  · rename_i h; simp [h.1]
  · rfl
theorem pushL_succ (s : Int) (xs : List Int) (i : Nat) : (pushL s xs).getD (i + 1) 0 = xs.getD i 0 := by
  unfold pushL
  split
  · rename_i h; simp [h.2]
  · rfl
theorem drop_getD (xs : List Int) (i : Nat) : (xs.drop 1).getD i 0 = xs.getD (i + 1) 0 := by
  rw [List.getD_eq_getElem?_getD, List.getD_eq_getElem?_getD, List.getElem?_drop, Nat.add_comm 1 i]
theorem Ln.head {x : ConfD} {f : Int → Int} {p : Int} (h : Ln x f p) : hdD x.r = f p := by
  have := h.r 0
  simpa [hdD] using this
theorem Ln.right {x : ConfD} {f : Int → Int} {p w n : Int} (h : Ln x f p) : Ln (stepI ⟨w, 1, n⟩ x) (updF f p w) (p + 1) := by
  unfold stepI
  rw [if_pos (by show (0 : Int) < 1; decide)]
  refine ⟨fun i => ?_, fun i => ?_⟩
  · rw [drop_getD, h.r, updF_other _ _ _ (by omega)]
    congr 1; omega
  · cases i with
    | zero => rw [pushL_zero, show p + 1 - 1 - ((0 : Nat) : Int) = p by omega, updF_same]
    | succ i => rw [pushL_succ, h.l, updF_other _ _ _ (by omega)]; congr 1; omega
theorem Ln.left {x : ConfD} {f : Int → Int} {p w n : Int} (h : Ln x f p) : Ln (stepI ⟨w, -1, n⟩ x) (updF f p w) (p - 1) := by
  unfold stepI
  rw [if_neg (by show ¬ (0 : Int) < -1; decide)]
  refine ⟨fun i => ?_, fun i => ?_⟩
  · cases i with
    | zero =>
      rw [pushL_zero, updF_other _ _ _ (by omega)]
      have := h.l 0
      simp only [hdD]
      rw [this]; congr 1
      try omega
    | succ i =>
      rw [pushL_succ]
      cases i with
      | zero => rw [pushL_zero, show p - 1 + ((0 + 1 : Nat) : Int) = p by omega, updF_same]
      | succ i => rw [pushL_succ, drop_getD, h.r, updF_other _ _ _ (by omega)]; congr 1; omega
  · rw [drop_getD, h.l, updF_other _ _ _ (by omega)]
    congr 1; omega
end Go.Proofs.YtapjofbjedpmgaaGreat
end
section
set_option linter.unusedSimpArgs false
set_option linter.unusedVariables false
namespace Go.Proofs.YtapjofbjedpmgaaGreat
open Go Go.RowKit Go.Proofs
/-- A configuration on a line. -/
structure LC where
  q : Int
  t : Int → Int
  p : Int
def ruleL (m : MachD) (q s : Int) : RuleD := m.rules.getD (q * m.sy + s).toNat noR
def stepL (r : RuleD) (c : LC) : LC := ⟨r.n, updF c.t c.p r.w, if 0 < r.m then c.p + 1 else c.p - 1⟩
/-- So many steps lead from one to the other. -/
def LR (m : MachD) : Nat → LC → LC → Prop
  | 0, c, d => c = d
  | n + 1, c, d => ¬ ruleL m c.q (c.t c.p) = noR ∧ LR m n (stepL (ruleL m c.q (c.t c.p)) c) d
theorem LR.trans {m : MachD} : ∀ {a b : Nat} {c d e : LC}, LR m a c d → LR m b d e → LR m (a + b) c e
  | 0, b, c, d, e, h, h' => by
    have h : c = d := h
    subst h
    rwa [Nat.zero_add]
  | a + 1, b, c, d, e, h, h' => by
    rw [show a + 1 + b = (a + b) + 1 by omega]
    exact ⟨h.1, LR.trans h.2 h'⟩
/-- A list of cells laid from a place on. -/
def TL (l : List Int) (s : Int) : Int → Int := fun i => cellZ l (i - s)
/-- A run over a word until the head leaves it. -/
def shR (m : MachD) (q0 side : Int) : Nat → List Int → Int → Int → Option (List Int)
  | 0, _, _, _ => none
  | n + 1, out, a, q =>
    if ruleL m q (out.getD a.toNat 0) = noR then none
    else if inB (a + (ruleL m q (out.getD a.toNat 0)).m) 0 ((out.length : Int) - 1) = true then shR m q0 side n (out.set a.toNat (ruleL m q (out.getD a.toNat 0)).w) (a + (ruleL m q (out.getD a.toNat 0)).m) (ruleL m q (out.getD a.toNat 0)).n
    else if (ruleL m q (out.getD a.toNat 0)).m = side ∧ (ruleL m q (out.getD a.toNat 0)).n = q0 then some (out.set a.toNat (ruleL m q (out.getD a.toNat 0)).w) else none
def shF (m : MachD) (q : Int) (w : List Int) (side : Int) : Option (List Int) := shR m q side 200 w (if side = -1 then (w.length : Int) - 1 else 0) q
end Go.Proofs.YtapjofbjedpmgaaGreat
end
