/- Contract of the reference's copy of a configuration with several tapes.
Contract of the reference's drawing of a tape.
Contract of the reference's drawing of a valid machine with several tapes. -/
import Derived.Test.YtgeckhjkahnonaaGreatDoorO37
import Derived.Test.YtgeckhjkahnonaaGreatDoorO11
import Derived.Test.YtgeckhjkahnonaaGreatDoorO05
import Derived.Test.YtgeckhjkahnonaaGreatDoorO20
import Derived.Test.YtgeckhjkahnonaaGreatDoorO13
import Derived.Test.YtgeckhjkahnonaaGreatDoorO02
import Derived.Test.YtgeckhjkahnonaaGreatDoorO07
import Derived.Test.YtgeckhjkahnonaaGreatDoorO14
import Derived.Test.YtgeckhjkahnonaaGreatDoorO28
import Derived.Test.YtgeckhjkahnonaaGreatDoorO16
import Derived.Test.YtgeckhjkahnonaaGreatDoorO21
import Derived.Test.YtgeckhjkahnonaaGreatDoorO30
import Derived.Deep.CutBlock
import Derived.Deep.DeepCutAuto
section
set_option linter.unusedVariables false
set_option linter.unusedSimpArgs false
namespace Go.Proofs.YtgeckhjkahnonaaGreatDoor
open Go Go.RowKit Go.Proofs Go.Maps
set_option maxHeartbeats 400000
theorem OwnT.low {base base' : Nat} {w : World} {v : Value} {ts : List TapeD} (h : OwnT base w v ts) (hb : base' ≤ base) : OwnT base' w v ts := by
  obtain ⟨cl, p1, p2⟩ := h
  exact ⟨cl, ownsRow_base p1 hb, p2.1, fun i hi => by
    obtain ⟨x, y, c0, c1, o1, o2⟩ := p2.2 i hi
    exact ⟨x, y, c0, c1, ownsRow_base o1 hb, ownsRow_base o2 hb⟩⟩
end Go.Proofs.YtgeckhjkahnonaaGreatDoor
end
section
set_option linter.unusedVariables false
set_option linter.unusedSimpArgs false
namespace Go.Proofs.YtgeckhjkahnonaaGreatDoor
open Go Go.RowKit Go.Proofs Go.Maps
set_option maxHeartbeats 400000
structure CellT (B b gO n d : Nat) (w : World) (u : Value) (xs : List Int) (W : World) : Prop where
  out : Blk W gO 91 #[.slice none 0 0, .slice none 0 0]
  own : OwnInts w.heap.size W u xs
  src : Src B W b (n + d)
  grown : w.grownBy W (some b)
theorem CellT.ext {B b gO n d : Nat} {w : World} {u : Value} {xs : List Int} {W W' : World} (h : CellT B b gO n d w u xs W) (he : Ext W W') : CellT B b gO n d w u xs W' :=
  ⟨h.out.ext he, ownsRow_ext h.own he, h.src.ext he, grownBy_trans h.grown (ext_grownBy he _)⟩
theorem CellT.src' {B b gO n d d' : Nat} {w : World} {u : Value} {xs : List Int} {W W' : World} (h : CellT B b gO n d w u xs W) (hs : Src B W' b (n + d')) (hg : W.grownBy W' (some b)) : CellT B b gO n d' w u xs W' :=
  ⟨blk_src h.src hg h.out (by decide), own_src h.src hg h.own (by decide), hs, grownBy_trans h.grown hg⟩
theorem CellT.snoc {B b gO n d : Nat} {w : World} {u v : Value} {xs ys : List Int} {W W' : World} (h : CellT B b gO n d w u xs W) (hB : B ≤ w.heap.size) (hb : b < w.heap.size)
    (ho : OwnInts w.heap.size W' v ys) (hg : W.grownBy W' u.ownBlock) : CellT B b gO n d w v ys W' :=
  ⟨Blk.apart h.out h.own (by decide) hg, ho, h.src.kept hg (fun k hk => by have := (h.own.lt k hk).1; exact ⟨by omega, by omega⟩),
   grownBy_step h.grown hg (fun k hk => .inl (h.own.lt k hk).1)⟩
end Go.Proofs.YtgeckhjkahnonaaGreatDoor
end
section
set_option linter.unusedVariables false
set_option linter.unusedSimpArgs false
namespace Go.Proofs.YtgeckhjkahnonaaGreatDoor
open Go Go.RowKit Go.Proofs Go.Maps
set_option maxHeartbeats 400000
theorem OwnMR.src {B b n base : Nat} {w w' : World} {v : Value} {rs : List MRuleD} (h : OwnMR base w v rs) (hs : Src B w b n) (hg : w.grownBy w' (some b)) : OwnMR base w' v rs := by
  obtain ⟨cl, h1, h2⟩ := h
  refine ⟨cl, own_src hs hg h1 (by decide), h2.same fun q cs hq => hg.block q hq.lt (fun e => ?_)⟩
  injection e with e
  subst e
  obtain ⟨_, _, _, _, _, hb, _⟩ := hs
  exact absurd (blk_type hb hq) (by decide)
def AwayV (u v : Value) : Prop := ∀ q, u.ownBlock = some q → v.ownBlock ≠ some q
theorem AwayV.symm {u v : Value} (h : AwayV u v) : AwayV v u := fun q hq e => h q e hq
/-- Three rows of numbers in blocks of their own. -/
structure R3 (base : Nat) (w : World) (u v x : Value) (a b c : List Int) : Prop where
  o1 : OwnInts base w u a
  o2 : OwnInts base w v b
  o3 : OwnInts base w x c
  n1 : AwayV u v
  n2 : AwayV v x
  n3 : AwayV x u
theorem R3.rot {base : Nat} {w : World} {u v x : Value} {a b c : List Int} (h : R3 base w u v x a b c) : R3 base w v x u b c a := ⟨h.o2, h.o3, h.o1, h.n2, h.n3, h.n1⟩
theorem R3.ext {base : Nat} {w w' : World} {u v x : Value} {a b c : List Int} (h : R3 base w u v x a b c) (he : Ext w w') : R3 base w' u v x a b c := ⟨OwnInts.ext h.o1 he, OwnInts.ext h.o2 he, OwnInts.ext h.o3 he, h.n1, h.n2, h.n3⟩
theorem R3.src {B b n base : Nat} {w w' : World} {u v x : Value} {a c d : List Int} (h : R3 base w u v x a c d) (hs : Src B w b n) (hg : w.grownBy w' (some b)) : R3 base w' u v x a c d :=
  ⟨own_src hs hg h.o1 (by decide), own_src hs hg h.o2 (by decide), own_src hs hg h.o3 (by decide), h.n1, h.n2, h.n3⟩
theorem R3.far {base : Nat} {w : World} {u v x : Value} {a c d : List Int} (h : R3 base w u v x a c d) {g : Nat} {t : TypeId} {cs : Array Value} (hb : Blk w g t cs) (ht : t ≠ 2) (i : Nat) (y : Value) : R3 base (w.setCell ⟨g, i, none⟩ y) u v x a c d := by
  have f : ∀ {z : Value} {zs : List Int}, OwnInts base w z zs → OwnInts base (w.setCell ⟨g, i, none⟩ y) z zs := fun {z zs} o => ownsRow_far o (fun q hq e => by
    have e : q = g := e
    subst e
    exact blk_ne_row hb o ht hq.symm) y
  exact ⟨f h.o1, f h.o2, f h.o3, h.n1, h.n2, h.n3⟩
/-- The first row grows. -/
theorem R3.grow {base : Nat} {w w' : World} {u u' v x : Value} {a a' c d : List Int} (h : R3 base w u v x a c d) (ho : OwnInts base w' u' a') (hg : w.grownBy w' u.ownBlock) (hu : u'.ownBlock = u.ownBlock ∨ u'.ownBlock = some w.heap.size) : R3 base w' u' v x a' c d := by
  have k2 : OwnInts base w' v c := own_same h.o2 fun q hq => hg.block q (h.o2.lt q hq).2 (fun e => h.n1 q e.symm hq)
  have k3 : OwnInts base w' x d := own_same h.o3 fun q hq => hg.block q (h.o3.lt q hq).2 (fun e => h.n3 q hq e.symm)
  refine ⟨ho, k2, k3, fun q hq e => ?_, h.n2, fun q hq e => ?_⟩
  · rcases hu with hu | hu
    · exact h.n1 q (hu ▸ hq) e
    · rw [hu] at hq
      injection hq with hq
      subst hq
      exact Nat.lt_irrefl _ (h.o2.lt _ e).2
  · rcases hu with hu | hu
    · exact h.n3 q hq (hu ▸ e)
    · rw [hu] at e
      injection e with e
      subst e
      exact Nat.lt_irrefl _ (h.o3.lt _ hq).2
/-- A rule that the reference is drawing; w is the world in which its round began. -/
structure InM (B b n d gr : Nat) (w : World) (q nx : Int) (a1 a2 a3 : List Int) (u v x : Value) (W : World) : Prop where
  rul : Blk W gr 43 #[.int .i64 q, u, v, x, .int .i64 nx]
  r3 : R3 w.heap.size W u v x a1 a2 a3
  src : Src B W b (n + d)
  grown : w.grownBy W (some b)
  new : w.heap.size ≤ gr
theorem InM.ext {B b n d gr : Nat} {w : World} {q nx : Int} {a1 a2 a3 : List Int} {u v x : Value} {W W' : World} (h : InM B b n d gr w q nx a1 a2 a3 u v x W) (he : Ext W W') : InM B b n d gr w q nx a1 a2 a3 u v x W' :=
  ⟨h.rul.ext he, h.r3.ext he, h.src.ext he, grownBy_trans h.grown (ext_grownBy he _), h.new⟩
theorem InM.src' {B b n d d' gr : Nat} {w : World} {q nx : Int} {a1 a2 a3 : List Int} {u v x : Value} {W W' : World} (h : InM B b n d gr w q nx a1 a2 a3 u v x W) (hs : Src B W' b (n + d')) (hg : W.grownBy W' (some b)) : InM B b n d' gr w q nx a1 a2 a3 u v x W' :=
  ⟨blk_src h.src hg h.rul (by decide), h.r3.src h.src hg, hs, grownBy_trans h.grown hg, h.new⟩
theorem InM.put {B b n d gr : Nat} {w : World} {q nx : Int} {a1 a2 a3 a1' : List Int} {u v x u' : Value} {W W' : World} (h : InM B b n d gr w q nx a1 a2 a3 u v x W) (hB : B ≤ w.heap.size) (hb : b < w.heap.size) (ho : OwnInts w.heap.size W' u' a1') (hg : W.grownBy W' u.ownBlock) (hu : u'.ownBlock = u.ownBlock ∨ u'.ownBlock = some W.heap.size) :
    InM B b n d gr w q nx a1' a2 a3 u' v x (W'.setCell ⟨gr, 1, none⟩ u') ∧ Blk W' gr 43 #[.int .i64 q, u, v, x, .int .i64 nx] := by
  have b1 := Blk.apart h.rul h.r3.o1 (by decide) hg
  have hs := h.src.kept hg (fun k hk => by have := (h.r3.o1.lt k hk).1; exact ⟨by omega, by omega⟩)
  have g1 : w.grownBy W' (some b) := grownBy_step h.grown hg (fun k hk => .inl (h.r3.o1.lt k hk).1)
  have hbgr : gr ≠ b := by have := h.new; omega
  exact ⟨⟨b1.set_ 1 u', (h.r3.grow ho hg hu).far b1 (by decide) 1 u', hs.kept (set_grownBy W' ⟨gr, 1, none⟩ u') (fun k hk => by injection hk with hk; subst hk; have := h.new; exact ⟨by show B ≤ gr; omega, hbgr⟩),
    grownBy_step g1 (set_grownBy W' ⟨gr, 1, none⟩ u') (fun k hk => .inl (by injection hk with hk; subst hk; exact h.new)), h.new⟩, b1⟩
theorem InM.put2 {B b n d gr : Nat} {w : World} {q nx : Int} {a1 a2 a3 a1' : List Int} {u v x u' : Value} {W W' : World} (h : InM B b n d gr w q nx a1 a2 a3 u v x W) (hB : B ≤ w.heap.size) (hb : b < w.heap.size) (ho : OwnInts w.heap.size W' u' a1') (hg : W.grownBy W' v.ownBlock) (hu : u'.ownBlock = v.ownBlock ∨ u'.ownBlock = some W.heap.size) :
    InM B b n d gr w q nx a1 a1' a3 u u' x (W'.setCell ⟨gr, 2, none⟩ u') ∧ Blk W' gr 43 #[.int .i64 q, u, v, x, .int .i64 nx] := by
  have b1 := Blk.apart h.rul h.r3.o2 (by decide) hg
  have hs := h.src.kept hg (fun k hk => by have := (h.r3.o2.lt k hk).1; exact ⟨by omega, by omega⟩)
  have g1 : w.grownBy W' (some b) := grownBy_step h.grown hg (fun k hk => .inl (h.r3.o2.lt k hk).1)
  have hbgr : gr ≠ b := by have := h.new; omega
  exact ⟨⟨b1.set_ 2 u', ((h.r3.rot.grow ho hg hu).far b1 (by decide) 2 u').rot.rot, hs.kept (set_grownBy W' ⟨gr, 2, none⟩ u') (fun k hk => by injection hk with hk; subst hk; have := h.new; exact ⟨by show B ≤ gr; omega, hbgr⟩),
    grownBy_step g1 (set_grownBy W' ⟨gr, 2, none⟩ u') (fun k hk => .inl (by injection hk with hk; subst hk; exact h.new)), h.new⟩, b1⟩
theorem InM.put3 {B b n d gr : Nat} {w : World} {q nx : Int} {a1 a2 a3 a1' : List Int} {u v x u' : Value} {W W' : World} (h : InM B b n d gr w q nx a1 a2 a3 u v x W) (hB : B ≤ w.heap.size) (hb : b < w.heap.size) (ho : OwnInts w.heap.size W' u' a1') (hg : W.grownBy W' x.ownBlock) (hu : u'.ownBlock = x.ownBlock ∨ u'.ownBlock = some W.heap.size) :
    InM B b n d gr w q nx a1 a2 a1' u v u' (W'.setCell ⟨gr, 3, none⟩ u') ∧ Blk W' gr 43 #[.int .i64 q, u, v, x, .int .i64 nx] := by
  have b1 := Blk.apart h.rul h.r3.o3 (by decide) hg
  have hs := h.src.kept hg (fun k hk => by have := (h.r3.o3.lt k hk).1; exact ⟨by omega, by omega⟩)
  have g1 : w.grownBy W' (some b) := grownBy_step h.grown hg (fun k hk => .inl (h.r3.o3.lt k hk).1)
  have hbgr : gr ≠ b := by have := h.new; omega
  exact ⟨⟨b1.set_ 3 u', ((h.r3.rot.rot.grow ho hg hu).far b1 (by decide) 3 u').rot, hs.kept (set_grownBy W' ⟨gr, 3, none⟩ u') (fun k hk => by injection hk with hk; subst hk; have := h.new; exact ⟨by show B ≤ gr; omega, hbgr⟩),
    grownBy_step g1 (set_grownBy W' ⟨gr, 3, none⟩ u') (fun k hk => .inl (by injection hk with hk; subst hk; exact h.new)), h.new⟩, b1⟩
theorem InM.start {B b n d gr n' : Nat} {w W : World} (hb : Blk W gr 43 #[.int .i64 0, .slice none 0 0, .slice none 0 0, .slice none 0 0, .int .i64 0]) (hs : Src B W b n') (hg : w.grownBy W (some b)) (hn : w.heap.size ≤ gr) (hB : B ≤ w.heap.size) (hbl : b < w.heap.size) (q nx : Int) (hd : n' ≤ n + d := by omega) :
    InM B b n d gr w q nx [] [] [] (.slice none 0 0) (.slice none 0 0) (.slice none 0 0) (((((W.setCell ⟨gr, 0, none⟩ (.int .i64 q)).setCell ⟨gr, 1, none⟩ (.slice none 0 0)).setCell ⟨gr, 2, none⟩ (.slice none 0 0)).setCell ⟨gr, 3, none⟩ (.slice none 0 0)).setCell ⟨gr, 4, none⟩ (.int .i64 nx)) := by
  have g1 : W.grownBy (((((W.setCell ⟨gr, 0, none⟩ (.int .i64 q)).setCell ⟨gr, 1, none⟩ (.slice none 0 0)).setCell ⟨gr, 2, none⟩ (.slice none 0 0)).setCell ⟨gr, 3, none⟩ (.slice none 0 0)).setCell ⟨gr, 4, none⟩ (.int .i64 nx)) (some gr) :=
    grownBy_trans (set_grownBy _ ⟨gr, 0, none⟩ _) (grownBy_trans (set_grownBy _ ⟨gr, 1, none⟩ _) (grownBy_trans (set_grownBy _ ⟨gr, 2, none⟩ _) (grownBy_trans (set_grownBy _ ⟨gr, 3, none⟩ _) (set_grownBy _ ⟨gr, 4, none⟩ _))))
  exact ⟨((((hb.set_ 0 _).set_ 1 _).set_ 2 _).set_ 3 _).set_ 4 _, ⟨World.ownsRow_nil .., World.ownsRow_nil .., World.ownsRow_nil .., fun q h => by simp [Value.ownBlock] at h, fun q h => by simp [Value.ownBlock] at h, fun q h => by simp [Value.ownBlock] at h⟩,
    (hs.kept g1 (fun k hk => by injection hk with hk; subst hk; exact ⟨by omega, by omega⟩)).mono hd, grownBy_step hg g1 (fun k hk => .inl (by injection hk with hk; subst hk; exact hn)), hn⟩
/-- A machine that the reference is drawing. -/
structure DrM (B b n d gO gm : Nat) (w : World) (tp sy st : Int) (rs : List MRuleD) (v : Value) (W : World) : Prop where
  out : Blk W gO 26 #[.int .i64 0, .int .i64 0, .int .i64 0, .slice none 0 0]
  cur : Blk W gm 26 #[.int .i64 tp, .int .i64 sy, .int .i64 st, v]
  own : OwnMR w.heap.size W v rs
  src : Src B W b (n + d)
  grown : w.grownBy W (some b)
theorem DrM.ext {B b n d gO gm : Nat} {w : World} {tp sy st : Int} {rs : List MRuleD} {v : Value} {W W' : World} (h : DrM B b n d gO gm w tp sy st rs v W) (he : Ext W W') : DrM B b n d gO gm w tp sy st rs v W' :=
  ⟨h.out.ext he, h.cur.ext he, h.own.ext he, h.src.ext he, grownBy_trans h.grown (ext_grownBy he _)⟩
theorem DrM.src' {B b n d d' gO gm : Nat} {w : World} {tp sy st : Int} {rs : List MRuleD} {v : Value} {W W' : World} (h : DrM B b n d gO gm w tp sy st rs v W) (hs : Src B W' b (n + d')) (hg : W.grownBy W' (some b)) : DrM B b n d' gO gm w tp sy st rs v W' :=
  ⟨blk_src h.src hg h.out (by decide), blk_src h.src hg h.cur (by decide), h.own.src h.src hg, hs, grownBy_trans h.grown hg⟩
theorem DrM.put {B b n d gO gm : Nat} {w : World} {tp sy st : Int} {rs rs' : List MRuleD} {v v' : Value} {W W' : World} (h : DrM B b n d gO gm w tp sy st rs v W) (hB : B ≤ w.heap.size) (hb : b < w.heap.size) (hne : gO ≠ gm) (hm : w.heap.size ≤ gm) (ho : OwnMR w.heap.size W' v' rs') (hg : W.grownBy W' v.ownBlock) :
    DrM B b n d gO gm w tp sy st rs' v' (W'.setCell ⟨gm, 3, none⟩ v') ∧ Blk W' gm 26 #[.int .i64 tp, .int .i64 sy, .int .i64 st, v] := by
  obtain ⟨cl, h1, h2⟩ := h.own
  have b1 := Blk.apart h.cur h1 (by decide) hg
  have b2 := Blk.apart h.out h1 (by decide) hg
  have hs := h.src.kept hg (fun k hk => by have := (h1.lt k hk).1; exact ⟨by omega, by omega⟩)
  have g1 : w.grownBy W' (some b) := grownBy_step h.grown hg (fun k hk => .inl (h1.lt k hk).1)
  exact ⟨⟨b2.far (p := ⟨gm, 3, none⟩) hne _, b1.set_ 3 v', ho.far b1 (by decide) (by decide) 3 v', hs.kept (set_grownBy W' ⟨gm, 3, none⟩ v') (fun k hk => by injection hk with hk; subst hk; exact ⟨by show B ≤ gm; omega, by show gm ≠ b; omega⟩),
    grownBy_step g1 (set_grownBy W' ⟨gm, 3, none⟩ v') (fun k hk => .inl (by injection hk with hk; subst hk; exact hm))⟩, b1⟩
theorem DrM.done {B b n d gO gm : Nat} {w : World} {tp sy st : Int} {rs : List MRuleD} {v : Value} {W : World} (h : DrM B b n d gO gm w tp sy st rs v W) (hB : B ≤ w.heap.size) (hb : b < w.heap.size) (hm : w.heap.size ≤ gO) (u0 u1 u2 u3 : Value) :
    OwnMR w.heap.size ((((W.setCell ⟨gO, 0, none⟩ u0).setCell ⟨gO, 1, none⟩ u1).setCell ⟨gO, 2, none⟩ u2).setCell ⟨gO, 3, none⟩ u3) v rs ∧ Src B ((((W.setCell ⟨gO, 0, none⟩ u0).setCell ⟨gO, 1, none⟩ u1).setCell ⟨gO, 2, none⟩ u2).setCell ⟨gO, 3, none⟩ u3) b (n + d) ∧ w.grownBy ((((W.setCell ⟨gO, 0, none⟩ u0).setCell ⟨gO, 1, none⟩ u1).setCell ⟨gO, 2, none⟩ u2).setCell ⟨gO, 3, none⟩ u3) (some b) := by
  have b0 := h.out
  have b1 := b0.set_ 0 u0
  have b2 := b1.set_ 1 u1
  have b3 := b2.set_ 2 u2
  have hg : W.grownBy ((((W.setCell ⟨gO, 0, none⟩ u0).setCell ⟨gO, 1, none⟩ u1).setCell ⟨gO, 2, none⟩ u2).setCell ⟨gO, 3, none⟩ u3) (some gO) :=
    grownBy_trans (set_grownBy _ ⟨gO, 0, none⟩ _) (grownBy_trans (set_grownBy _ ⟨gO, 1, none⟩ _) (grownBy_trans (set_grownBy _ ⟨gO, 2, none⟩ _) (set_grownBy _ ⟨gO, 3, none⟩ _)))
  exact ⟨(((h.own.far b0 (by decide) (by decide) 0 u0).far b1 (by decide) (by decide) 1 u1).far b2 (by decide) (by decide) 2 u2).far b3 (by decide) (by decide) 3 u3,
    h.src.kept hg (fun k hk => by injection hk with hk; subst hk; exact ⟨by omega, by omega⟩), grownBy_step h.grown hg (fun k hk => .inl (by injection hk with hk; subst hk; exact hm))⟩
end Go.Proofs.YtgeckhjkahnonaaGreatDoor
end
