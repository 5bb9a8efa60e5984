/- Plain words: a step of a formula tape stands for steps of the machine.
Plain words: a bouncer never halts.
A formula tape behind a pointer that is stepped: every list in a block of its own, no two in one, none of them among the blocks K. -/
import Derived.Test.YtapjofbjedpmgaaGreatC24
section
set_option linter.unusedSimpArgs false
set_option linter.unusedVariables false
namespace Go.Proofs.YtapjofbjedpmgaaGreat
open Go Go.RowKit Go.Proofs
/-- The first or the last wall made longer where the head has left it outwards. -/
def wideF (f : FoD) : FoD :=
  if f.at_ = -1 ∧ f.hd = 0 then ⟨f.q, f.hd, 0, f.ws.set 0 (0 :: f.ws.getD 0 []), f.rs, f.os⟩
  else if f.at_ = ((f.ws.getD f.hd.toNat []).length : Int) ∧ f.hd = (f.ws.length : Int) - 1 then ⟨f.q, f.hd, f.at_, f.ws.set f.hd.toNat (f.ws.getD f.hd.toNat [] ++ [0]), f.rs, f.os⟩ else f
def ruleW (m : MachD) (f : FoD) : RuleD := ruleL m f.q ((f.ws.getD f.hd.toNat []).getD f.at_.toNat 0)
def stW (m : MachD) (f : FoD) : FoD :=
  wideF ⟨(ruleW m f).n, f.hd, f.at_ + (ruleW m f).m, f.ws.set f.hd.toNat ((f.ws.getD f.hd.toNat []).set f.at_.toNat (ruleW m f).w), f.rs, f.os⟩
def passF (f : FoD) (i side : Int) (w : List Int) : FoD :=
  wideF ⟨f.q, if side = 1 then i + 1 else i, if side = -1 then ((f.ws.getD i.toNat []).length : Int) - 1 else 0, f.ws, f.rs.set i.toNat w, f.os⟩
def unrF (f : FoD) (i side : Int) : FoD :=
  if side = 1 then ⟨f.q, f.hd, f.at_, f.ws.set i.toNat (f.ws.getD i.toNat [] ++ f.rs.getD i.toNat []), f.rs, f.os.set i.toNat (f.os.getD i.toNat 0 - 1)⟩
  else ⟨f.q, f.hd, ((f.rs.getD i.toNat []).length : Int) - 1, f.ws.set (i.toNat + 1) (f.rs.getD i.toNat [] ++ f.ws.getD (i.toNat + 1) []), f.rs, f.os.set i.toNat (f.os.getD i.toNat 0 - 1)⟩
/-- What a step leaves before it is judged: its kind, its repeater. -/
def rawF (m : MachD) (f : FoD) : Option (Int × FoD) :=
  if (onB f).2 = 0 then (if ruleW m f = noR then none else some (0, stW m f))
  else match shF m f.q (f.rs.getD (onB f).1.toNat []) (onB f).2 with
    | some w => some (1, passF f (onB f).1 (onB f).2 w)
    | none => some (2, unrF f (onB f).1 (onB f).2)
def stepF (m : MachD) (f : FoD) : Option (Int × FoD) :=
  match rawF m f with
  | some (k, g) => if foOk m g = true then some (k, g) else none
  | none => none
end Go.Proofs.YtapjofbjedpmgaaGreat
end
section
set_option linter.unusedSimpArgs false
set_option linter.unusedVariables false
namespace Go.Proofs.YtapjofbjedpmgaaGreat
open Go Go.RowKit Go.Proofs
def shapeB (f g : FoD) : Bool := decide (f.q = g.q) && decide (f.hd = g.hd) && decide (f.at_ = g.at_) && decide (f.ws = g.ws) && decide (f.rs = g.rs)
def subL (ys xs : List Int) : List Int := List.zipWith (fun y x => y - x) ys xs
def addL (ys xs : List Int) : List Int := List.zipWith (fun y x => y + x) ys xs
/-- How a formula tape has grown, where it has. -/
def growF (m : MachD) (f g : FoD) : Option (List Int) :=
  if (foOk m (normFo f) && foOk m (normFo g) && shapeB (normFo f) (normFo g) && (subL (normFo g).os (normFo f).os).all (fun z => inB z 0 2000)) = true then some (subL (normFo g).os (normFo f).os) else none
/-- The numbers of steps for which a formula tape is accepted. -/
def accR (m : MachD) (f0 : FoD) (cs : List Int) : Nat → Nat → FoD → Bool → List Nat
  | 0, _, _, _ => []
  | k + 1, n, f, real => match stepF m f with
    | none => []
    | some (kind, g) =>
      if kind = 2 ∧ cs.getD (onB f).1.toNat 0 + f.os.getD (onB f).1.toNat 0 < 1 then []
      else (if ((real || decide (kind = 0)) && (growF m f0 g).isSome) = true then [n] else []) ++ accR m f0 cs k (n + 1) g (real || decide (kind = 0))
theorem getD_set_ne {α : Type} {xs : List α} {i j : Nat} (h : i ≠ j) (x d : α) : (xs.set i x).getD j d = xs.getD j d := by
  rw [List.getD_eq_getElem?_getD, List.getElem?_set_ne h, List.getD_eq_getElem?_getD]
end Go.Proofs.YtapjofbjedpmgaaGreat
end
section
set_option linter.unusedSimpArgs false
set_option linter.unusedVariables false
namespace Go.Proofs.YtapjofbjedpmgaaGreat
open Go Go.RowKit Go.Proofs
set_option maxHeartbeats 400000
/-- The kept blocks are as they were. -/
def KpB (K : Nat → Prop) (w w' : World) : Prop := ∀ k, K k → w'.heap[k]? = w.heap[k]?
theorem KpB.refl (K : Nat → Prop) (w : World) : KpB K w w := fun _ _ => rfl
theorem KpB.trans {K : Nat → Prop} {a b c : World} (h : KpB K a b) (h' : KpB K b c) : KpB K a c := fun k hk => (h' k hk).trans (h k hk)
theorem KpB.ext {K : Nat → Prop} {w w' : World} (he : Ext w w') (hK : ∀ k, K k → k < w.heap.size) : KpB K w w' := fun k hk => Below.block he k (hK k hk)
theorem KpB.grown {K : Nat → Prop} {w w' : World} {q : Nat} (hg : w.grownBy w' (some q)) (hK : ∀ k, K k → k < w.heap.size) (hq : ¬ K q) : KpB K w w' := fun k hk => hg.block k (hK k hk) (fun e => hq (by injection e with e; exact e ▸ hk))
theorem KpB.blk {K : Nat → Prop} {w w' : World} (h : KpB K w w') {b : Nat} {t : TypeId} {cs : Array Value} (hb : Blk w b t cs) (hk : K b) : Blk w' b t cs := (h b hk).trans hb
section
variable {w0 : World} {K : Nat → Prop} {w W : World} {g : Nat} {f : FoD} {gw gr go cw cr co : Nat} {vw vr : List Value}
end
end Go.Proofs.YtapjofbjedpmgaaGreat
end
