/- Contract of the reference's drawing of a valid machine with several tapes.
Contract of the reference's drawing of a machine with several tapes and of a configuration of it.
Contract of the program's text of a valid machine with several tapes. -/
import Derived.Test.YtkbpchdncljlbaaGreatDoorV40
import Derived.Test.YtkbpchdncljlbaaGreatDoorV42
import Derived.Test.YtkbpchdncljlbaaGreatDoorV34
import Derived.Test.YtkbpchdncljlbaaGreatDoorV35
import Derived.Test.YtkbpchdncljlbaaGreatDoorV28
import Derived.Test.YtkbpchdncljlbaaGreatDoorV06
section
set_option linter.unusedVariables false
set_option linter.unusedSimpArgs false
namespace Go.Proofs.YtkbpchdncljlbaaGreatDoor
open Go Go.RowKit Go.Proofs Go.Maps
set_option maxHeartbeats 400000
theorem OwnMR.src {B b n base : Nat} {w w' : World} {v : Value} {rs : List MRuleD} (h : OwnMR base w v rs) (hs : Src B w b n) (hg : w.grownBy w' (some b)) : OwnMR base w' v rs := by
  obtain ⟨cl, h1, h2⟩ := h
  refine ⟨cl, own_src hs hg h1 (by decide), h2.same fun q cs hq => hg.block q hq.lt (fun e => ?_)⟩
  injection e with e
  subst e
  obtain ⟨_, _, _, _, _, hb, _⟩ := hs
  exact absurd (blk_type hb hq) (by decide)
def AwayV (u v : Value) : Prop := ∀ q, u.ownBlock = some q → v.ownBlock ≠ some q
theorem AwayV.symm {u v : Value} (h : AwayV u v) : AwayV v u := fun q hq e => h q e hq
/-- Three rows of numbers in blocks of their own. -/
structure R3 (base : Nat) (w : World) (u v x : Value) (a b c : List Int) : Prop where
  o1 : OwnInts base w u a
  o2 : OwnInts base w v b
  o3 : OwnInts base w x c
  n1 : AwayV u v
  n2 : AwayV v x
  n3 : AwayV x u
theorem R3.rot {base : Nat} {w : World} {u v x : Value} {a b c : List Int} (h : R3 base w u v x a b c) : R3 base w v x u b c a := ⟨h.o2, h.o3, h.o1, h.n2, h.n3, h.n1⟩
theorem R3.ext {base : Nat} {w w' : World} {u v x : Value} {a b c : List Int} (h : R3 base w u v x a b c) (he : Ext w w') : R3 base w' u v x a b c := ⟨OwnInts.ext h.o1 he, OwnInts.ext h.o2 he, OwnInts.ext h.o3 he, h.n1, h.n2, h.n3⟩
theorem R3.src {B b n base : Nat} {w w' : World} {u v x : Value} {a c d : List Int} (h : R3 base w u v x a c d) (hs : Src B w b n) (hg : w.grownBy w' (some b)) : R3 base w' u v x a c d :=
  ⟨own_src hs hg h.o1 (by decide), own_src hs hg h.o2 (by decide), own_src hs hg h.o3 (by decide), h.n1, h.n2, h.n3⟩
theorem R3.far {base : Nat} {w : World} {u v x : Value} {a c d : List Int} (h : R3 base w u v x a c d) {g : Nat} {t : TypeId} {cs : Array Value} (hb : Blk w g t cs) (ht : t ≠ 2) (i : Nat) (y : Value) : R3 base (w.setCell ⟨g, i, none⟩ y) u v x a c d := by
  have f : ∀ {z : Value} {zs : List Int}, OwnInts base w z zs → OwnInts base (w.setCell ⟨g, i, none⟩ y) z zs := fun {z zs} o => ownsRow_far o (fun q hq e => by
    have e : q = g := e
    subst e
    exact blk_ne_row hb o ht hq.symm) y
  exact ⟨f h.o1, f h.o2, f h.o3, h.n1, h.n2, h.n3⟩
/-- The first row grows. -/
theorem R3.grow {base : Nat} {w w' : World} {u u' v x : Value} {a a' c d : List Int} (h : R3 base w u v x a c d) (ho : OwnInts base w' u' a') (hg : w.grownBy w' u.ownBlock) (hu : u'.ownBlock = u.ownBlock ∨ u'.ownBlock = some w.heap.size) : R3 base w' u' v x a' c d := by
  have k2 : OwnInts base w' v c := own_same h.o2 fun q hq => hg.block q (h.o2.lt q hq).2 (fun e => h.n1 q e.symm hq)
  have k3 : OwnInts base w' x d := own_same h.o3 fun q hq => hg.block q (h.o3.lt q hq).2 (fun e => h.n3 q hq e.symm)
  refine ⟨ho, k2, k3, fun q hq e => ?_, h.n2, fun q hq e => ?_⟩
  · rcases hu with hu | hu
    · exact h.n1 q (hu ▸ hq) e
    · rw [hu] at hq
      injection hq with hq
      subst hq
      exact Nat.lt_irrefl _ (h.o2.lt _ e).2
  · rcases hu with hu | hu
    · exact h.n3 q hq (hu ▸ e)
    · rw [hu] at e
      injection e with e
      subst e
      exact Nat.lt_irrefl _ (h.o3.lt _ hq).2
/-- A rule that the reference is drawing; w is the world in which its round began. -/
structure InM (B b n d gr : Nat) (w : World) (q nx : Int) (a1 a2 a3 : List Int) (u v x : Value) (W : World) : Prop where
  rul : Blk W gr 64 #[.int .i64 q, u, v, x, .int .i64 nx]
  r3 : R3 w.heap.size W u v x a1 a2 a3
  src : Src B W b (n + d)
  grown : w.grownBy W (some b)
  new : w.heap.size ≤ gr
theorem InM.ext {B b n d gr : Nat} {w : World} {q nx : Int} {a1 a2 a3 : List Int} {u v x : Value} {W W' : World} (h : InM B b n d gr w q nx a1 a2 a3 u v x W) (he : Ext W W') : InM B b n d gr w q nx a1 a2 a3 u v x W' :=
  ⟨h.rul.ext he, h.r3.ext he, h.src.ext he, grownBy_trans h.grown (ext_grownBy he _), h.new⟩
theorem InM.src' {B b n d d' gr : Nat} {w : World} {q nx : Int} {a1 a2 a3 : List Int} {u v x : Value} {W W' : World} (h : InM B b n d gr w q nx a1 a2 a3 u v x W) (hs : Src B W' b (n + d')) (hg : W.grownBy W' (some b)) : InM B b n d' gr w q nx a1 a2 a3 u v x W' :=
  ⟨blk_src h.src hg h.rul (by decide), h.r3.src h.src hg, hs, grownBy_trans h.grown hg, h.new⟩
theorem InM.put {B b n d gr : Nat} {w : World} {q nx : Int} {a1 a2 a3 a1' : List Int} {u v x u' : Value} {W W' : World} (h : InM B b n d gr w q nx a1 a2 a3 u v x W) (hB : B ≤ w.heap.size) (hb : b < w.heap.size) (ho : OwnInts w.heap.size W' u' a1') (hg : W.grownBy W' u.ownBlock) (hu : u'.ownBlock = u.ownBlock ∨ u'.ownBlock = some W.heap.size) :
    InM B b n d gr w q nx a1' a2 a3 u' v x (W'.setCell ⟨gr, 1, none⟩ u') ∧ Blk W' gr 64 #[.int .i64 q, u, v, x, .int .i64 nx] := by
  have b1 := Blk.apart h.rul h.r3.o1 (by decide) hg
  have hs := h.src.kept hg (fun k hk => by have := (h.r3.o1.lt k hk).1; exact ⟨by omega, by omega⟩)
  have g1 : w.grownBy W' (some b) := grownBy_step h.grown hg (fun k hk => .inl (h.r3.o1.lt k hk).1)
  have hbgr : gr ≠ b := by have := h.new; omega
  exact ⟨⟨b1.set_ 1 u', (h.r3.grow ho hg hu).far b1 (by decide) 1 u', hs.kept (set_grownBy W' ⟨gr, 1, none⟩ u') (fun k hk => by injection hk with hk; subst hk; have := h.new; exact ⟨by show B ≤ gr; omega, hbgr⟩),
    grownBy_step g1 (set_grownBy W' ⟨gr, 1, none⟩ u') (fun k hk => .inl (by injection hk with hk; subst hk; exact h.new)), h.new⟩, b1⟩
theorem InM.put2 {B b n d gr : Nat} {w : World} {q nx : Int} {a1 a2 a3 a1' : List Int} {u v x u' : Value} {W W' : World} (h : InM B b n d gr w q nx a1 a2 a3 u v x W) (hB : B ≤ w.heap.size) (hb : b < w.heap.size) (ho : OwnInts w.heap.size W' u' a1') (hg : W.grownBy W' v.ownBlock) (hu : u'.ownBlock = v.ownBlock ∨ u'.ownBlock = some W.heap.size) :
    InM B b n d gr w q nx a1 a1' a3 u u' x (W'.setCell ⟨gr, 2, none⟩ u') ∧ Blk W' gr 64 #[.int .i64 q, u, v, x, .int .i64 nx] := by
  have b1 := Blk.apart h.rul h.r3.o2 (by decide) hg
  have hs := h.src.kept hg (fun k hk => by have := (h.r3.o2.lt k hk).1; exact ⟨by omega, by omega⟩)
  have g1 : w.grownBy W' (some b) := grownBy_step h.grown hg (fun k hk => .inl (h.r3.o2.lt k hk).1)
  have hbgr : gr ≠ b := by have := h.new; omega
  exact ⟨⟨b1.set_ 2 u', ((h.r3.rot.grow ho hg hu).far b1 (by decide) 2 u').rot.rot, hs.kept (set_grownBy W' ⟨gr, 2, none⟩ u') (fun k hk => by injection hk with hk; subst hk; have := h.new; exact ⟨by show B ≤ gr; omega, hbgr⟩),
    grownBy_step g1 (set_grownBy W' ⟨gr, 2, none⟩ u') (fun k hk => .inl (by injection hk with hk; subst hk; exact h.new)), h.new⟩, b1⟩
theorem InM.put3 {B b n d gr : Nat} {w : World} {q nx : Int} {a1 a2 a3 a1' : List Int} {u v x u' : Value} {W W' : World} (h : InM B b n d gr w q nx a1 a2 a3 u v x W) (hB : B ≤ w.heap.size) (hb : b < w.heap.size) (ho : OwnInts w.heap.size W' u' a1') (hg : W.grownBy W' x.ownBlock) (hu : u'.ownBlock = x.ownBlock ∨ u'.ownBlock = some W.heap.size) :
    InM B b n d gr w q nx a1 a2 a1' u v u' (W'.setCell ⟨gr, 3, none⟩ u') ∧ Blk W' gr 64 #[.int .i64 q, u, v, x, .int .i64 nx] := by
  have b1 := Blk.apart h.rul h.r3.o3 (by decide) hg
  have hs := h.src.kept hg (fun k hk => by have := (h.r3.o3.lt k hk).1; exact ⟨by omega, by omega⟩)
  have g1 : w.grownBy W' (some b) := grownBy_step h.grown hg (fun k hk => .inl (h.r3.o3.lt k hk).1)
  have hbgr : gr ≠ b := by have := h.new; omega
  exact ⟨⟨b1.set_ 3 u', ((h.r3.rot.rot.grow ho hg hu).far b1 (by decide) 3 u').rot, hs.kept (set_grownBy W' ⟨gr, 3, none⟩ u') (fun k hk => by injection hk with hk; subst hk; have := h.new; exact ⟨by show B ≤ gr; omega, hbgr⟩),
    grownBy_step g1 (set_grownBy W' ⟨gr, 3, none⟩ u') (fun k hk => .inl (by injection hk with hk; subst hk; exact h.new)), h.new⟩, b1⟩
theorem InM.start {B b n d gr n' : Nat} {w W : World} (hb : Blk W gr 64 #[.int .i64 0, .slice none 0 0, .slice none 0 0, .slice none 0 0, .int .i64 0]) (hs : Src B W b n') (hg : w.grownBy W (some b)) (hn : w.heap.size ≤ gr) (hB : B ≤ w.heap.size) (hbl : b < w.heap.size) (q nx : Int) (hd : n' ≤ n + d := by omega) :
    InM B b n d gr w q nx [] [] [] (.slice none 0 0) (.slice none 0 0) (.slice none 0 0) (((((W.setCell ⟨gr, 0, none⟩ (.int .i64 q)).setCell ⟨gr, 1, none⟩ (.slice none 0 0)).setCell ⟨gr, 2, none⟩ (.slice none 0 0)).setCell ⟨gr, 3, none⟩ (.slice none 0 0)).setCell ⟨gr, 4, none⟩ (.int .i64 nx)) := by
  have g1 : W.grownBy (((((W.setCell ⟨gr, 0, none⟩ (.int .i64 q)).setCell ⟨gr, 1, none⟩ (.slice none 0 0)).setCell ⟨gr, 2, none⟩ (.slice none 0 0)).setCell ⟨gr, 3, none⟩ (.slice none 0 0)).setCell ⟨gr, 4, none⟩ (.int .i64 nx)) (some gr) :=
    grownBy_trans (set_grownBy _ ⟨gr, 0, none⟩ _) (grownBy_trans (set_grownBy _ ⟨gr, 1, none⟩ _) (grownBy_trans (set_grownBy _ ⟨gr, 2, none⟩ _) (grownBy_trans (set_grownBy _ ⟨gr, 3, none⟩ _) (set_grownBy _ ⟨gr, 4, none⟩ _))))
  exact ⟨((((hb.set_ 0 _).set_ 1 _).set_ 2 _).set_ 3 _).set_ 4 _, ⟨World.ownsRow_nil .., World.ownsRow_nil .., World.ownsRow_nil .., fun q h => by simp [Value.ownBlock] at h, fun q h => by simp [Value.ownBlock] at h, fun q h => by simp [Value.ownBlock] at h⟩,
    (hs.kept g1 (fun k hk => by injection hk with hk; subst hk; exact ⟨by omega, by omega⟩)).mono hd, grownBy_step hg g1 (fun k hk => .inl (by injection hk with hk; subst hk; exact hn)), hn⟩
/-- A machine that the reference is drawing. -/
structure DrM (B b n d gO gm : Nat) (w : World) (tp sy st : Int) (rs : List MRuleD) (v : Value) (W : World) : Prop where
  out : Blk W gO 26 #[.int .i64 0, .int .i64 0, .int .i64 0, .slice none 0 0]
  cur : Blk W gm 26 #[.int .i64 tp, .int .i64 sy, .int .i64 st, v]
  own : OwnMR w.heap.size W v rs
  src : Src B W b (n + d)
  grown : w.grownBy W (some b)
theorem DrM.ext {B b n d gO gm : Nat} {w : World} {tp sy st : Int} {rs : List MRuleD} {v : Value} {W W' : World} (h : DrM B b n d gO gm w tp sy st rs v W) (he : Ext W W') : DrM B b n d gO gm w tp sy st rs v W' :=
  ⟨h.out.ext he, h.cur.ext he, h.own.ext he, h.src.ext he, grownBy_trans h.grown (ext_grownBy he _)⟩
theorem DrM.src' {B b n d d' gO gm : Nat} {w : World} {tp sy st : Int} {rs : List MRuleD} {v : Value} {W W' : World} (h : DrM B b n d gO gm w tp sy st rs v W) (hs : Src B W' b (n + d')) (hg : W.grownBy W' (some b)) : DrM B b n d' gO gm w tp sy st rs v W' :=
  ⟨blk_src h.src hg h.out (by decide), blk_src h.src hg h.cur (by decide), h.own.src h.src hg, hs, grownBy_trans h.grown hg⟩
theorem DrM.put {B b n d gO gm : Nat} {w : World} {tp sy st : Int} {rs rs' : List MRuleD} {v v' : Value} {W W' : World} (h : DrM B b n d gO gm w tp sy st rs v W) (hB : B ≤ w.heap.size) (hb : b < w.heap.size) (hne : gO ≠ gm) (hm : w.heap.size ≤ gm) (ho : OwnMR w.heap.size W' v' rs') (hg : W.grownBy W' v.ownBlock) :
    DrM B b n d gO gm w tp sy st rs' v' (W'.setCell ⟨gm, 3, none⟩ v') ∧ Blk W' gm 26 #[.int .i64 tp, .int .i64 sy, .int .i64 st, v] := by
  obtain ⟨cl, h1, h2⟩ := h.own
  have b1 := Blk.apart h.cur h1 (by decide) hg
  have b2 := Blk.apart h.out h1 (by decide) hg
  have hs := h.src.kept hg (fun k hk => by have := (h1.lt k hk).1; exact ⟨by omega, by omega⟩)
  have g1 : w.grownBy W' (some b) := grownBy_step h.grown hg (fun k hk => .inl (h1.lt k hk).1)
  exact ⟨⟨b2.far (p := ⟨gm, 3, none⟩) hne _, b1.set_ 3 v', ho.far b1 (by decide) (by decide) 3 v', hs.kept (set_grownBy W' ⟨gm, 3, none⟩ v') (fun k hk => by injection hk with hk; subst hk; exact ⟨by show B ≤ gm; omega, by show gm ≠ b; omega⟩),
    grownBy_step g1 (set_grownBy W' ⟨gm, 3, none⟩ v') (fun k hk => .inl (by injection hk with hk; subst hk; exact hm))⟩, b1⟩
theorem DrM.done {B b n d gO gm : Nat} {w : World} {tp sy st : Int} {rs : List MRuleD} {v : Value} {W : World} (h : DrM B b n d gO gm w tp sy st rs v W) (hB : B ≤ w.heap.size) (hb : b < w.heap.size) (hm : w.heap.size ≤ gO) (u0 u1 u2 u3 : Value) :
    OwnMR w.heap.size ((((W.setCell ⟨gO, 0, none⟩ u0).setCell ⟨gO, 1, none⟩ u1).setCell ⟨gO, 2, none⟩ u2).setCell ⟨gO, 3, none⟩ u3) v rs ∧ Src B ((((W.setCell ⟨gO, 0, none⟩ u0).setCell ⟨gO, 1, none⟩ u1).setCell ⟨gO, 2, none⟩ u2).setCell ⟨gO, 3, none⟩ u3) b (n + d) ∧ w.grownBy ((((W.setCell ⟨gO, 0, none⟩ u0).setCell ⟨gO, 1, none⟩ u1).setCell ⟨gO, 2, none⟩ u2).setCell ⟨gO, 3, none⟩ u3) (some b) := by
  have b0 := h.out
  have b1 := b0.set_ 0 u0
  have b2 := b1.set_ 1 u1
  have b3 := b2.set_ 2 u2
  have hg : W.grownBy ((((W.setCell ⟨gO, 0, none⟩ u0).setCell ⟨gO, 1, none⟩ u1).setCell ⟨gO, 2, none⟩ u2).setCell ⟨gO, 3, none⟩ u3) (some gO) :=
    grownBy_trans (set_grownBy _ ⟨gO, 0, none⟩ _) (grownBy_trans (set_grownBy _ ⟨gO, 1, none⟩ _) (grownBy_trans (set_grownBy _ ⟨gO, 2, none⟩ _) (set_grownBy _ ⟨gO, 3, none⟩ _)))
  exact ⟨(((h.own.far b0 (by decide) (by decide) 0 u0).far b1 (by decide) (by decide) 1 u1).far b2 (by decide) (by decide) 2 u2).far b3 (by decide) (by decide) 3 u3,
    h.src.kept hg (fun k hk => by injection hk with hk; subst hk; exact ⟨by omega, by omega⟩), grownBy_step h.grown hg (fun k hk => .inl (by injection hk with hk; subst hk; exact hm))⟩
/-- What the drawing gives. -/
def DrawM (B b n : Nat) (w : World) (e : Ending) (w' : World) : Prop :=
  (∃ (m : MultiD) (A : Option Addr) (c : Nat), e = .returned (.agg #[.int .i64 m.tp, .int .i64 m.sy, .int .i64 m.st, .slice A m.rules.length c]) ∧ OwnMR w.heap.size w' (.slice A m.rules.length c) m.rules ∧ multiOk m = true) ∧ Src B w' b (n + 1000) ∧ w.grownBy w' (some b)
set_option maxRecDepth 20000 in
set_option maxHeartbeats 8000000 in
theorem l06DrawOk_c (B b n : Nat) (w : World) (h : Src B w b n) (hB : B ≤ w.heap.size) (hn : n ≤ 100000000000) :
    Calls Tryz.prog 16 #[.pointer (some ⟨b, 0, none⟩)] w (DrawM B b n w) := by
  obtain ⟨i0, hi, hz0', hz1', hz2'⟩ := info_parts intInfo
  have hbl := h.lt
  obtain ⟨gO, hgO⟩ : ∃ g, w.heap.size = g := ⟨_, rfl⟩
  obtain ⟨V, hV⟩ : ∃ V, V = w.alloc (.cells #[.int .i64 0, .int .i64 0, .int .i64 0, .slice none 0 0] 26) := ⟨_, rfl⟩
  have hX : Ext w V := by rw [hV]; exact Ext.alloc _ _
  have bO : Blk V gO 26 #[.int .i64 0, .int .i64 0, .int .i64 0, .slice none 0 0] := by rw [hV]; exact Blk.new _ _ _ _ hgO
  have hVs : V.heap.size = gO + 1 := by rw [hV]; simp [hgO]
  have hsV := h.ext hX
  have HB := Lib.hid hB
  have HBL := Lib.hid hbl
  have HGO := Lib.hid hgO
  have gV : w.grownBy V (some b) := ext_grownBy hX _
  go_enter Tryz.func16, Tryz.ntmps16
  go_wp2_with fail
  try rw [← hV]
  try rw [hgO]
  clear hV hgO
  refine (pick_c B b n 7 V hsV (by omega)).mono ?_
  rintro e w1 ⟨⟨x, rfl, x0, _, x2⟩, hs1, hg1⟩
  have x3 := x2 (by omega)
  clear x2
  have b1 := blk_src hsV hg1 bO (by decide)
  have g1 := grownBy_trans gV hg1
  have hz1 := hg1.size
  clear hsV hX h bO gV hg1
  by_cases e0 : x = 0
  · subst e0
    go_wp2_with fail
    refine (pick_c B b _ 2 w1 hs1 (by omega)).mono ?_
    rintro e w2 ⟨⟨y, rfl, y0, _, y2⟩, hs2, hg2⟩
    have y3 := y2 (by omega)
    clear y2
    obtain ⟨N, hN⟩ : ∃ N : Nat, 2 + y = (N : Int) := ⟨(2 + y).toNat, by omega⟩
    have hN2 : 2 ≤ N ∧ N ≤ 3 := by omega
    have b2 := blk_src hs1 hg2 b1 (by decide)
    have hz2 := hg2.size
    have g2 := grownBy_trans g1 hg2
    have hwy : IntKind.i64.wrap (2 + y) = (N : Int) := by rw [hN]; exact IntWalk.i64_in _ (by omega)
    have CM := CopyMultiS_c N w2 hN2.1 hN2.2
    clear hg2 b1 g1
    go_wp2_with fail
    try rw [hwy]
    try rw [hN]
    refine CM.mono ?_
    rintro e w3 ⟨⟨v, rfl, ho⟩, hx3⟩
    obtain ⟨A3, c3, rfl, _, _⟩ := ho.form
    have st : DrM B b n 10 gO gO w 0 0 0 (copyRs (N - 1)) (.slice A3 (copyRs (N - 1)).length c3) w3 → True := fun _ => trivial
    clear st
    have b3 := b2.ext hx3
    have hs3 := (hs2.ext hx3).mono (show n + 2 + 2 ≤ n + 1000 by omega)
    have g3 := grownBy_trans g2 (ext_grownBy hx3 _)
    have hml : multiOk ⟨2, (N : Int), 1, copyRs (N - 1)⟩ = true := by have := cpyK_ok (sy := (N : Int)) (by omega); simpa using this
    have HML := Lib.hid hml
    have hgo : w.heap.size ≤ gO := by have := HGO.out; omega
    have HB1 : B ≤ w.heap.size := HB.out
    have HB2 : b < w.heap.size := HBL.out
    have ho1 : OwnMR w.heap.size w3 (.slice A3 (copyRs (N - 1)).length c3) (copyRs (N - 1)) := ho.base (by have := HGO.out; omega)
    have eA := fun W => Ext.alloc W (.cells #[.int .i64 2, .int .i64 (N : Int), .int .i64 1, .slice A3 (copyRs (N - 1)).length c3] 26)
    have HD : Hid (∀ u0 u1 u2 u3, DrawM B b n w (.returned (.agg #[.int .i64 2, .int .i64 (N : Int), .int .i64 1, .slice A3 (copyRs (N - 1)).length c3])) (((((w3.setCell ⟨gO, 0, none⟩ u0).setCell ⟨gO, 1, none⟩ u1).setCell ⟨gO, 2, none⟩ u2).setCell ⟨gO, 3, none⟩ u3).alloc (.cells #[.int .i64 2, .int .i64 (N : Int), .int .i64 1, .slice A3 (copyRs (N - 1)).length c3] 26))) := Lib.hid fun u0 u1 u2 u3 => by
      have hg : w3.grownBy ((((w3.setCell ⟨gO, 0, none⟩ u0).setCell ⟨gO, 1, none⟩ u1).setCell ⟨gO, 2, none⟩ u2).setCell ⟨gO, 3, none⟩ u3) (some gO) :=
        grownBy_trans (set_grownBy _ ⟨gO, 0, none⟩ _) (grownBy_trans (set_grownBy _ ⟨gO, 1, none⟩ _) (grownBy_trans (set_grownBy _ ⟨gO, 2, none⟩ _) (set_grownBy _ ⟨gO, 3, none⟩ _)))
      have c1 := b3.set_ 0 u0
      have c2 := c1.set_ 1 u1
      have c3' := c2.set_ 2 u2
      exact ⟨⟨⟨2, N, 1, copyRs (N - 1)⟩, A3, c3, rfl, OwnMR.ext ((((ho1.far b3 (by decide) (by decide) 0 u0).far c1 (by decide) (by decide) 1 u1).far c2 (by decide) (by decide) 2 u2).far c3' (by decide) (by decide) 3 u3) (eA _), HML.out⟩,
        ((hs3.kept hg (fun k hk => by injection hk with hk; subst hk; exact ⟨by omega, by omega⟩)).ext (eA _)), grownBy_trans (grownBy_step g3 hg (fun k hk => .inl (by injection hk with hk; subst hk; exact hgo))) (ext_grownBy (eA _) _)⟩
    have ob := b3.cell
    have of_ := b3.frozen
    have hlt := b3.lt
    generalize hrl : (copyRs (N - 1)).length = nl at *
    clear hrl ho ho1 CM b2 b3 g2 g3 hs1 hs2 hs3 hx3 hml eA
    go_wp2_with fail
    exact bodyPost_ret (v := .agg #[.int .i64 2, .int .i64 (N : Int), .int .i64 1, .slice A3 nl c3]) (by simp [results, Tryz.results16, go_sem, ob, hlt]) rfl (HD.out _ _ _ _)
  · by_cases e1 : x = 1
    · subst e1
      go_wp2_with fail
      refine (pick_c B b _ 2 w1 hs1 (by omega)).mono ?_
      rintro e w2 ⟨⟨y, rfl, y0, _, y2⟩, hs2, hg2⟩
      have y3 := y2 (by omega)
      clear y2
      obtain ⟨N, hN⟩ : ∃ N : Nat, 2 + y = (N : Int) := ⟨(2 + y).toNat, by omega⟩
      have hN2 : 2 ≤ N ∧ N ≤ 3 := by omega
      have b2 := blk_src hs1 hg2 b1 (by decide)
      have hz2 := hg2.size
      have g2 := grownBy_trans g1 hg2
      have hwy : IntKind.i64.wrap (2 + y) = (N : Int) := by rw [hN]; exact IntWalk.i64_in _ (by omega)
      have CM := PalindromeMultiS_c N w2 hN2.1 hN2.2
      clear hg2 b1 g1
      go_wp2_with fail
      try rw [hwy]
      try rw [hN]
      refine CM.mono ?_
      rintro e w3 ⟨⟨v, rfl, ho⟩, hx3⟩
      obtain ⟨A3, c3, rfl, _, _⟩ := ho.form
      have st : DrM B b n 10 gO gO w 0 0 0 (palK (N - 1)) (.slice A3 (palK (N - 1)).length c3) w3 → True := fun _ => trivial
      clear st
      have b3 := b2.ext hx3
      have hs3 := (hs2.ext hx3).mono (show n + 2 + 2 ≤ n + 1000 by omega)
      have g3 := grownBy_trans g2 (ext_grownBy hx3 _)
      have hml : multiOk ⟨2, (N : Int), 4, palK (N - 1)⟩ = true := by have := palK_ok (sy := (N : Int)) (by omega); simpa using this
      have HML := Lib.hid hml
      have hgo : w.heap.size ≤ gO := by have := HGO.out; omega
      have HB1 : B ≤ w.heap.size := HB.out
      have HB2 : b < w.heap.size := HBL.out
      have ho1 : OwnMR w.heap.size w3 (.slice A3 (palK (N - 1)).length c3) (palK (N - 1)) := ho.base (by have := HGO.out; omega)
      have eA := fun W => Ext.alloc W (.cells #[.int .i64 2, .int .i64 (N : Int), .int .i64 4, .slice A3 (palK (N - 1)).length c3] 26)
      have HD : Hid (∀ u0 u1 u2 u3, DrawM B b n w (.returned (.agg #[.int .i64 2, .int .i64 (N : Int), .int .i64 4, .slice A3 (palK (N - 1)).length c3])) (((((w3.setCell ⟨gO, 0, none⟩ u0).setCell ⟨gO, 1, none⟩ u1).setCell ⟨gO, 2, none⟩ u2).setCell ⟨gO, 3, none⟩ u3).alloc (.cells #[.int .i64 2, .int .i64 (N : Int), .int .i64 4, .slice A3 (palK (N - 1)).length c3] 26))) := Lib.hid fun u0 u1 u2 u3 => by
        have hg : w3.grownBy ((((w3.setCell ⟨gO, 0, none⟩ u0).setCell ⟨gO, 1, none⟩ u1).setCell ⟨gO, 2, none⟩ u2).setCell ⟨gO, 3, none⟩ u3) (some gO) :=
          grownBy_trans (set_grownBy _ ⟨gO, 0, none⟩ _) (grownBy_trans (set_grownBy _ ⟨gO, 1, none⟩ _) (grownBy_trans (set_grownBy _ ⟨gO, 2, none⟩ _) (set_grownBy _ ⟨gO, 3, none⟩ _)))
        have c1 := b3.set_ 0 u0
        have c2 := c1.set_ 1 u1
        have c3' := c2.set_ 2 u2
        exact ⟨⟨⟨2, N, 4, palK (N - 1)⟩, A3, c3, rfl, OwnMR.ext ((((ho1.far b3 (by decide) (by decide) 0 u0).far c1 (by decide) (by decide) 1 u1).far c2 (by decide) (by decide) 2 u2).far c3' (by decide) (by decide) 3 u3) (eA _), HML.out⟩,
          ((hs3.kept hg (fun k hk => by injection hk with hk; subst hk; exact ⟨by omega, by omega⟩)).ext (eA _)), grownBy_trans (grownBy_step g3 hg (fun k hk => .inl (by injection hk with hk; subst hk; exact hgo))) (ext_grownBy (eA _) _)⟩
      have ob := b3.cell
      have of_ := b3.frozen
      have hlt := b3.lt
      generalize hrl : (palK (N - 1)).length = nl at *
      clear hrl ho ho1 CM b2 b3 g2 g3 hs1 hs2 hs3 hx3 hml eA
      go_wp2_with fail
      exact bodyPost_ret (v := .agg #[.int .i64 2, .int .i64 (N : Int), .int .i64 4, .slice A3 nl c3]) (by simp [results, Tryz.results16, go_sem, ob, hlt]) rfl (HD.out _ _ _ _)
    · obtain ⟨ga, hga⟩ : ∃ g, w1.heap.size = g := ⟨_, rfl⟩
      obtain ⟨Wa, hWa⟩ : ∃ W, W = w1.alloc (.cells #[.int .i64 2, .int .i64 2, .int .i64 2, .int .i64 3] 2) := ⟨_, rfl⟩
      have ea : Ext w1 Wa := by rw [hWa]; exact Ext.alloc _ _
      have ba : Blk Wa ga 2 #[.int .i64 2, .int .i64 2, .int .i64 2, .int .i64 3] := by rw [hWa]; exact Blk.new _ _ _ _ hga
      have owa : OwnInts 0 Wa (.slice (some ⟨ga, 0, none⟩) 4 4) [2, 2, 2, 3] := ownsRow_blk 1 4 ba (Nat.zero_le _) rfl (by omega)
      have AM := among_c B 0 b _ _ [2, 2, 2, 3] Wa (hs1.ext ea) owa (by simp) (by omega)
      have ga1 := grownBy_trans g1 (ext_grownBy ea _)
      have ba1 := b1.ext ea
      have hza := ea.size
      have hsa := hs1.ext ea
      have hgv : gO < w1.heap.size := b1.lt
      clear g1 b1 hs1 ea ba owa
      go_wp2_with fail
      try rw [← hWa]
      try rw [hga]
      clear hWa hga
      refine AM.mono ?_
      rintro e w2 ⟨⟨tp, rfl, htp⟩, hs2, hg2⟩
      have htp2 : 2 ≤ tp ∧ tp ≤ 3 := by simp at htp; omega
      have g2 := grownBy_trans ga1 hg2
      have b2 := blk_src hsa hg2 ba1 (by decide)
      have hz2 := hg2.size
      clear AM htp ga1 ba1 hsa hg2
      obtain ⟨gb, hgb⟩ : ∃ g, w2.heap.size = g := ⟨_, rfl⟩
      obtain ⟨Wb, hWb⟩ : ∃ W, W = w2.alloc (.cells #[.int .i64 2, .int .i64 2, .int .i64 3] 2) := ⟨_, rfl⟩
      have eb : Ext w2 Wb := by rw [hWb]; exact Ext.alloc _ _
      have bb : Blk Wb gb 2 #[.int .i64 2, .int .i64 2, .int .i64 3] := by rw [hWb]; exact Blk.new _ _ _ _ hgb
      have owb : OwnInts 0 Wb (.slice (some ⟨gb, 0, none⟩) 3 3) [2, 2, 3] := ownsRow_blk 1 3 bb (Nat.zero_le _) rfl (by omega)
      have hsb := hs2.ext eb
      have AM := among_c B 0 b _ _ [2, 2, 3] Wb hsb owb (by simp) (by omega)
      have gb1 := grownBy_trans g2 (ext_grownBy eb _)
      have bb1 := b2.ext eb
      have hzb := eb.size
      clear g2 b2 hs2 eb bb owb
      go_wp2_with fail
      try rw [← hWb]
      try rw [hgb]
      clear hWb hgb
      refine AM.mono ?_
      rintro e w3 ⟨⟨sy, rfl, hsy⟩, hs3, hg3⟩
      have hsy2 : 2 ≤ sy ∧ sy ≤ 3 := by simp at hsy; omega
      have g3 := grownBy_trans gb1 hg3
      have b3 := blk_src hsb hg3 bb1 (by decide)
      have hz3 := hg3.size
      clear AM hsy gb1 bb1 hsb hg3
      go_wp2_with fail
      refine (pick_c B b _ 4 w3 hs3 (by omega)).mono ?_
      rintro e w4 ⟨⟨y, rfl, y0, _, y2⟩, hs4, hg4⟩
      have y3 := y2 (by omega)
      clear y2
      obtain ⟨st, hst⟩ : ∃ st : Int, 1 + y = st := ⟨_, rfl⟩
      have hst2 : 1 ≤ st ∧ st ≤ 4 := by omega
      have hwst : IntKind.i64.wrap (1 + y) = st := by rw [hst]; exact IntWalk.i64_in _ (by omega)
      have g4 := grownBy_trans g3 hg4
      have b4 := blk_src hs3 hg4 b3 (by decide)
      have hz4 := hg4.size
      clear g3 b3 hs3 hg4
      obtain ⟨gm, hgm⟩ : ∃ g, w4.heap.size = g := ⟨_, rfl⟩
      obtain ⟨Wm, hWm⟩ : ∃ W, W = w4.alloc (.cells #[.int .i64 tp, .int .i64 sy, .int .i64 st, .slice none 0 0] 26) := ⟨_, rfl⟩
      have em : Ext w4 Wm := by rw [hWm]; exact Ext.alloc _ _
      have bm : Blk Wm gm 26 #[.int .i64 tp, .int .i64 sy, .int .i64 st, .slice none 0 0] := by rw [hWm]; exact Blk.new _ _ _ _ hgm
      have st0 : DrM B b n 8 gO gm w tp sy st [] (.slice none 0 0) Wm := ⟨b4.ext em, bm, ⟨[], World.ownsRow_nil .., MCells.nil _ _⟩, hs4.ext em, grownBy_trans g4 (ext_grownBy em _)⟩
      have hgOm : gO < gm := by rw [← hgm]; exact b4.lt
      have hwgm : w.heap.size ≤ gm := by have := HGO.out; omega
      have HOK0 : Hid (multiOk ⟨tp, sy, st, []⟩ = true) := Lib.hid (multi_strict (inB_iff.2 htp2) (inB_iff.2 hsy2) (inB_iff.2 (by show 1 ≤ st ∧ st ≤ 16; omega)) (by simp) (fun r hr => by simp at hr) List.Pairwise.nil)
      have hw4 : IntKind.i64.wrap (4 * st) = 4 * st := IntWalk.i64_in _ (by omega)
      clear g4 b4 hs4 em bm
      go_wp2_with fail
      try rw [hst]
      try rw [← hWm]
      try rw [hgm]
      clear hWm hgm
      refine (pick_c B b _ (4 * st) Wm st0.src (by omega)).mono ?_
      rintro e w5 ⟨⟨y', rfl, y0', _, y2'⟩, hs5, hg5⟩
      have y3' := y2' (by omega)
      clear y2'
      have st1 := st0.src' (d' := 10) hs5 hg5
      obtain ⟨K1, hK1⟩ : ∃ K : Nat, y' = (K : Int) := ⟨y'.toNat, by omega⟩
      have hK2 : K1 ≤ 15 := by omega
      subst hK1
      have HOK := HOK0
      have hst16 : st ≤ 16 := by omega
      have HC : Hid (2 ≤ tp ∧ tp ≤ 3 ∧ 2 ≤ sy ∧ sy ≤ 3 ∧ 1 ≤ st ∧ st ≤ 4) := Lib.hid ⟨htp2.1, htp2.2, hsy2.1, hsy2.2, hst2.1, hst2.2⟩
      clear st0 hs5 hg5 y0' y3' hst hwst y0 y3 hw4 HOK0 x0 x3 e0 e1 hz1 hza hz2 hzb hz3 hz4
      go_wp2_with fail
      go_loopw [8] (fun u wr => ∃ (K : Nat) (z : Int) (rs : List MRuleD) (v : Value), u = .int .i64 z ∧ z = (K : Int) - 1 ∧ rs.length + K ≤ 17 ∧ DrM B b n (30 + 30 * (17 - K)) gO gm w tp sy st rs v wr ∧ Hid (multiOk ⟨tp, sy, st, rs⟩ = true)) (fun u _ => (intOf u + 1).toNat)
      case atStart => exact ⟨K1 + 1, _, [], _, rfl, by omega, by simp; omega, ⟨st1.out, st1.cur, st1.own, st1.src.mono (by omega), st1.grown⟩, HOK⟩
      case round =>
        clear st1 HOK
        obtain ⟨K, z, rs, v, rfl, hz, hrl, stk, HOK⟩ := hrel
        obtain ⟨Av, cv, rfl, _, _⟩ := stk.own.form
        obtain ⟨wo, hwo⟩ : ∃ x, x = wr := ⟨_, rfl⟩
        subst hwo
        by_cases hK0 : K = 0
        · subst hK0
          obtain rfl : z = -1 := by omega
          obtain ⟨HD1, HD2, HD3⟩ : (∀ u0 u1 u2 u3, _) ∧ (∀ u0 u1 u2 u3, _) ∧ (∀ u0 u1 u2 u3, _) := ⟨fun u0 u1 u2 u3 => (stk.done HB.out HBL.out (by have := HGO.out; omega) u0 u1 u2 u3).1, fun u0 u1 u2 u3 => (stk.done HB.out HBL.out (by have := HGO.out; omega) u0 u1 u2 u3).2.1, fun u0 u1 u2 u3 => (stk.done HB.out HBL.out (by have := HGO.out; omega) u0 u1 u2 u3).2.2⟩
          have G1 := Lib.hid HD1
          have G2 := Lib.hid HD2
          have G3 := Lib.hid HD3
          have hq0 := stk.cur.cell 0
          have hq1 := stk.cur.cell 1
          have hq2 := stk.cur.cell 2
          have hq3 := stk.cur.cell 3
          simp only [List.getElem?_toArray, List.getElem?_cons_zero, List.getElem?_cons_succ] at hq0 hq1 hq2 hq3
          have ob := stk.out.cell
          have of_ := stk.out.frozen
          generalize hLL : rs.length = nl at *
          have HLL := Lib.hid hLL
          clear stk hLL HD1 HD2 HD3 hrl hz HGO HB HBL
          go_wp2_with fail
          exact bodyPost_ret (v := .agg #[.int .i64 tp, .int .i64 sy, .int .i64 st, .slice Av nl cv]) (by simp [results, Tryz.results16, go_sem, ob]) rfl ⟨⟨⟨tp, sy, st, rs⟩, Av, cv, by rw [← HLL.out], by have := G1.out (.int .i64 tp) (.int .i64 sy) (.int .i64 st) (.slice Av nl cv); rw [← HLL.out] at this ⊢; exact this, HOK.out⟩, (G2.out _ _ _ _).mono (by omega), G3.out _ _ _ _⟩
        · obtain ⟨K0, rfl⟩ : ∃ j, K = j + 1 := ⟨K - 1, by omega⟩
          obtain rfl : z = (K0 : Int) := by omega
          have hK17 : K0 + 1 ≤ 17 := by omega
          clear hz hK0
          have HB1o : B ≤ wo.heap.size := Nat.le_trans HB.out stk.grown.size
          have HB2o : b < wo.heap.size := Nat.lt_of_lt_of_le HBL.out stk.grown.size
          have hkk : decide ((0 : Int) ≤ (K0 : Int)) = true := decide_eq_true (by omega)
          have HSTK := Lib.hid stk
          have zc : wo.drew.cell? ⟨gm, 2, none⟩ = some (.int .i64 st) := stk.cur.cell 2
          have bD : Blk wo.drew gm 26 #[.int .i64 tp, .int .i64 sy, .int .i64 st, .slice Av rs.length cv] := stk.cur
          have sD : Src B wo.drew b (n + (30 + 30 * (17 - (K0 + 1)))) := stk.src.ext (Ext.drew _)
          clear stk
          go_upto_region 12 with fail
          go_cut [9] (fun p wx => ∃ gr q nx, p = .pointer (some ⟨gr, 0, none⟩) ∧ (0 ≤ q ∧ q < st ∧ 0 ≤ nx ∧ nx < st) ∧ InM B b n (30 + 30 * (17 - (K0 + 1)) + 4) gr wo q nx [] [] [] (.slice none 0 0) (.slice none 0 0) (.slice none 0 0) wx)
          case first =>
            refine wp_region_ordTS (fun x : World => x.cell? ⟨gm, 2, none⟩ = some (.int .i64 st)) 10 (readsT [0, 1, 2, 4, 5, 6] (.fork 3 (.fork 7 (readsT [8] (.stir 9 .done)) 9 (.stir 7 (readsT [8] .done))) 9 (.stir 3 (.stir 7 (readsT [8] .done))))) (by kernel_rfl) (by kernel_rfl) (fun _ _ _ _ _ h => h) zc ?_
            simp only [readsT]
            iterate 6 (refine wpOrdT_read (v := ?_) (by rfl) (Or.inl ⟨by rfl, fun x hx => ?_⟩) ?_; rotate_left; (· have a1 : x.cell? _ = _ := hx; go_simp; try with_reducible rfl); try simp only [Act.put, List.setIfInBounds_toArray, List.set_cons_zero, List.set_cons_succ])
            refine wpOrdT_forks (by rfl) (by rfl) (fun K hK => ?_) (fun K hK => ?_)
            · go_simp
              go_at_call 17
              refine (pick_c B b _ st wo.drew sD (by omega)).mono ?_
              rintro e w5 ⟨⟨q, rfl, q0, qz, q2⟩, hs5, hg5⟩
              have HQ1 : Hid (q < st) := Lib.hid (by by_cases h1 : st ≤ 1; (· have := qz h1; omega); (· exact q2 (by omega)))
              clear qz q2
              have z5 := (blk_src sD hg5 bD (by decide)).cell 2
              refine hK (fun x : World => x.cell? ⟨gm, 2, none⟩ = some (.int .i64 st)) _ _ (fun _ hx => hx) z5 ?_
              clear hK K
              try simp only [Act.put, List.setIfInBounds_toArray, List.set_cons_zero, List.set_cons_succ]
              refine wpOrdT_forks (by rfl) (by rfl) (fun K hK => ?_) (fun K hK => ?_)
              · go_simp
                go_at_call 17
                refine (pick_c B b _ st w5 hs5 (by omega)).mono ?_
                rintro e w6 ⟨⟨nx, rfl, nx0, nxz, nx2⟩, hs6, hg6⟩
                have HN1 : Hid (nx < st) := Lib.hid (by by_cases h1 : st ≤ 1; (· have := nxz h1; omega); (· exact nx2 (by omega)))
                clear nxz nx2
                have z6 := (blk_src hs5 hg6 (blk_src sD hg5 bD (by decide)) (by decide)).cell 2
                refine hK (fun x : World => x.cell? ⟨gm, 2, none⟩ = some (.int .i64 st)) _ _ (fun _ hx => hx) z6 ?_
                clear hK K
                try simp only [Act.put, List.setIfInBounds_toArray, List.set_cons_zero, List.set_cons_succ]
                refine wpOrdT_read (v := ?_) (by rfl) (Or.inl ⟨by rfl, fun x hx => ?_⟩) ?_; rotate_left; (· skip; go_simp; try with_reducible rfl); try simp only [Act.put, List.setIfInBounds_toArray, List.set_cons_zero, List.set_cons_succ]
                refine wpOrdT_keep (by rfl) (fun K hK => ?_)
                go_simp
                refine hK _ _ ((Ext.alloc _ _).cell z6) ?_
                clear hK K
                try simp only [Act.put, List.setIfInBounds_toArray, List.set_cons_zero, List.set_cons_succ]
                refine wpOrdT_done ?_
                try simp only [List.drop_succ_cons, List.drop_zero]
                obtain ⟨gr, hgr⟩ : ∃ g, w6.heap.size = g := ⟨_, rfl⟩
                have hs6' := hs6.ext (Ext.alloc w6 (.cells #[.int .i64 0, .slice none 0 0, .slice none 0 0, .slice none 0 0, .int .i64 0] 64))
                have hgg := grownBy_trans (grownBy_trans hg5 hg6) (ext_grownBy (Ext.alloc w6 (.cells #[.int .i64 0, .slice none 0 0, .slice none 0 0, .slice none 0 0, .int .i64 0] 64)) (some b))
                have hszz := hg5.size
                have hszy := hg6.size
                have hbz0 := Blk.new w6 gr 64 #[.int .i64 0, .slice none 0 0, .slice none 0 0, .slice none 0 0, .int .i64 0] hgr
                obtain ⟨X1, hX1⟩ : ∃ X, w6.alloc (.cells #[.int .i64 0, .slice none 0 0, .slice none 0 0, .slice none 0 0, .int .i64 0] 64) = X := ⟨_, rfl⟩
                rw [hX1] at hs6' hgg hbz0
                try rw [hX1]
                try rw [hgr]
                clear hX1
                have hbz : Blk X1 gr 64 #[.int .i64 0, .slice none 0 0, .slice none 0 0, .slice none 0 0, .int .i64 0] := hbz0
                have cb := hbz.cell
                have cf := hbz.frozen
                have HI := Lib.hid (InM.start (n := n) (d := 30 + 30 * (17 - (K0 + 1)) + 4) hbz (n' := n + (30 + 30 * (17 - (K0 + 1))) + 4) hs6' (grownBy_trans (ext_grownBy (Ext.drew wo) _) hgg) (by show wo.heap.size ≤ gr; have : wo.drew.heap.size = wo.heap.size := rfl; omega) HB1o HB2o q nx)
                have HQ : Hid (0 ≤ q ∧ q < st ∧ 0 ≤ nx ∧ nx < st) := Lib.hid ⟨q0, HQ1.out, nx0, HN1.out⟩
                clear hbz
                clear hgr hszz hszy hgg hs6' hbz0 hs6 hg6 hs5 hg5 z5 z6
                go_wp2_with fail
                go_meet
                exact ⟨gr, q, nx, rfl, HQ.out, HI.out⟩
              · go_simp
                obtain ⟨gr, hgr⟩ : ∃ g, w5.heap.size = g := ⟨_, rfl⟩
                have eX := Ext.alloc w5 (.cells #[.int .i64 0, .slice none 0 0, .slice none 0 0, .slice none 0 0, .int .i64 0] 64)
                have hbz0 := Blk.new w5 gr 64 #[.int .i64 0, .slice none 0 0, .slice none 0 0, .slice none 0 0, .int .i64 0] hgr
                have hszz := hg5.size
                obtain ⟨X1, hX1⟩ : ∃ X, w5.alloc (.cells #[.int .i64 0, .slice none 0 0, .slice none 0 0, .slice none 0 0, .int .i64 0] 64) = X := ⟨_, rfl⟩
                rw [hX1] at eX hbz0
                refine hK (fun x : World => x.cell? ⟨gm, 2, none⟩ = some (.int .i64 st)) _ _ (fun _ hx => hx) (by rw [hX1]; exact eX.cell z5) ?_
                clear hK K
                try simp only [Act.put, List.setIfInBounds_toArray, List.set_cons_zero, List.set_cons_succ]
                try rw [hX1]
                try rw [hgr]
                clear hX1
                refine wpOrdT_keep (by rfl) (fun K hK => ?_)
                have hsX := hs5.ext eX
                go_simp
                go_at_call 17
                refine (pick_c B b _ st X1 hsX (by omega)).mono ?_
                rintro e w6 ⟨⟨nx, rfl, nx0, nxz, nx2⟩, hs6, hg6⟩
                have HN1 : Hid (nx < st) := Lib.hid (by by_cases h1 : st ≤ 1; (· have := nxz h1; omega); (· exact nx2 (by omega)))
                clear nxz nx2
                have z6 := (blk_src hsX hg6 ((blk_src sD hg5 bD (by decide)).ext eX) (by decide)).cell 2
                refine hK _ _ z6 ?_
                clear hK K
                try simp only [Act.put, List.setIfInBounds_toArray, List.set_cons_zero, List.set_cons_succ]
                refine wpOrdT_read (v := ?_) (by rfl) (Or.inl ⟨by rfl, fun x hx => ?_⟩) ?_; rotate_left; (· skip; go_simp; try with_reducible rfl); try simp only [Act.put, List.setIfInBounds_toArray, List.set_cons_zero, List.set_cons_succ]
                refine wpOrdT_done ?_
                try simp only [List.drop_succ_cons, List.drop_zero]
                have hgg := grownBy_trans hg5 (grownBy_trans (ext_grownBy eX (some b)) hg6)
                have hbz1 := blk_src hsX hg6 hbz0 (by decide)
                have hbz : Blk w6 gr 64 #[.int .i64 0, .slice none 0 0, .slice none 0 0, .slice none 0 0, .int .i64 0] := hbz1
                have cb := hbz.cell
                have cf := hbz.frozen
                have HI := Lib.hid (InM.start (n := n) (d := 30 + 30 * (17 - (K0 + 1)) + 4) hbz (n' := n + (30 + 30 * (17 - (K0 + 1))) + 4) hs6 (grownBy_trans (ext_grownBy (Ext.drew wo) _) hgg) (by show wo.heap.size ≤ gr; have : wo.drew.heap.size = wo.heap.size := rfl; omega) HB1o HB2o q nx)
                have HQ : Hid (0 ≤ q ∧ q < st ∧ 0 ≤ nx ∧ nx < st) := Lib.hid ⟨q0, HQ1.out, nx0, HN1.out⟩
                clear hbz
                clear hgr hszz hgg hbz0 hbz1 hs6 hg6 hs5 hg5 z5 z6 hsX eX
                go_wp2_with fail
                go_meet
                exact ⟨gr, q, nx, rfl, HQ.out, HI.out⟩
            · go_simp
              obtain ⟨gr, hgr⟩ : ∃ g, wo.drew.heap.size = g := ⟨_, rfl⟩
              have eX := Ext.alloc wo.drew (.cells #[.int .i64 0, .slice none 0 0, .slice none 0 0, .slice none 0 0, .int .i64 0] 64)
              have hbz0 := Blk.new wo.drew gr 64 #[.int .i64 0, .slice none 0 0, .slice none 0 0, .slice none 0 0, .int .i64 0] hgr
              obtain ⟨X1, hX1⟩ : ∃ X, wo.drew.alloc (.cells #[.int .i64 0, .slice none 0 0, .slice none 0 0, .slice none 0 0, .int .i64 0] 64) = X := ⟨_, rfl⟩
              have hX1' : (wo.alloc (.cells #[.int .i64 0, .slice none 0 0, .slice none 0 0, .slice none 0 0, .int .i64 0] 64)).drew = X1 := hX1
              have hgr' : wo.heap.size = gr := hgr
              rw [hX1] at eX hbz0
              refine hK (fun x : World => x.cell? ⟨gm, 2, none⟩ = some (.int .i64 st)) _ _ (fun _ hx => hx) (by first | (rw [hX1]; exact eX.cell zc) | (rw [hX1']; exact eX.cell zc)) ?_
              clear hK K
              try simp only [Act.put, List.setIfInBounds_toArray, List.set_cons_zero, List.set_cons_succ]
              try rw [hX1]
              try rw [hX1']
              try rw [hgr]
              try rw [hgr']
              clear hX1 hX1'
              refine wpOrdT_keep (by rfl) (fun K hK => ?_)
              have hsX := sD.ext eX
              go_simp
              go_at_call 17
              refine (pick_c B b _ st X1 hsX (by omega)).mono ?_
              rintro e w5 ⟨⟨q, rfl, q0, qz, q2⟩, hs5, hg5⟩
              have HQ1 : Hid (q < st) := Lib.hid (by by_cases h1 : st ≤ 1; (· have := qz h1; omega); (· exact q2 (by omega)))
              clear qz q2
              have z5 := (blk_src hsX hg5 (bD.ext eX) (by decide)).cell 2
              refine hK _ _ z5 ?_
              clear hK K
              try simp only [Act.put, List.setIfInBounds_toArray, List.set_cons_zero, List.set_cons_succ]
              refine wpOrdT_keep (by rfl) (fun K hK => ?_)
              go_simp
              go_at_call 17
              refine (pick_c B b _ st w5 hs5 (by omega)).mono ?_
              rintro e w6 ⟨⟨nx, rfl, nx0, nxz, nx2⟩, hs6, hg6⟩
              have HN1 : Hid (nx < st) := Lib.hid (by by_cases h1 : st ≤ 1; (· have := nxz h1; omega); (· exact nx2 (by omega)))
              clear nxz nx2
              have z6 := (blk_src hs5 hg6 (blk_src hsX hg5 (bD.ext eX) (by decide)) (by decide)).cell 2
              refine hK _ _ z6 ?_
              clear hK K
              try simp only [Act.put, List.setIfInBounds_toArray, List.set_cons_zero, List.set_cons_succ]
              refine wpOrdT_read (v := ?_) (by rfl) (Or.inl ⟨by rfl, fun x hx => ?_⟩) ?_; rotate_left; (· skip; go_simp; try with_reducible rfl); try simp only [Act.put, List.setIfInBounds_toArray, List.set_cons_zero, List.set_cons_succ]
              refine wpOrdT_done ?_
              try simp only [List.drop_succ_cons, List.drop_zero]
              have hgg := grownBy_trans (ext_grownBy eX (some b)) (grownBy_trans hg5 hg6)
              have hbz1 := blk_src hs5 hg6 (blk_src hsX hg5 hbz0 (by decide)) (by decide)
              have hbz : Blk w6 gr 64 #[.int .i64 0, .slice none 0 0, .slice none 0 0, .slice none 0 0, .int .i64 0] := hbz1
              have cb := hbz.cell
              have cf := hbz.frozen
              have HI := Lib.hid (InM.start (n := n) (d := 30 + 30 * (17 - (K0 + 1)) + 4) hbz (n' := n + (30 + 30 * (17 - (K0 + 1))) + 4) hs6 (grownBy_trans (ext_grownBy (Ext.drew wo) _) hgg) (by show wo.heap.size ≤ gr; omega) HB1o HB2o q nx)
              have HQ : Hid (0 ≤ q ∧ q < st ∧ 0 ≤ nx ∧ nx < st) := Lib.hid ⟨q0, HQ1.out, nx0, HN1.out⟩
              clear hbz
              clear hgr hgr' hgg hbz0 hbz1 hs6 hg6 hs5 hg5 z5 z6 hsX eX
              go_wp2_with fail
              go_meet
              exact ⟨gr, q, nx, rfl, HQ.out, HI.out⟩
          case rest =>
            rename World => wx
            obtain ⟨gr, q, nx, rfl, hqn, si⟩ := hcut
            have HQN := Lib.hid hqn
            have hst4 := HC.out
            have stI : InM B b n (30 + 30 * (17 - (K0 + 1)) + 4 + 6 * 0) gr wo q nx [] [] [] (.slice none 0 0) (.slice none 0 0) (.slice none 0 0) wx := si
            clear si hqn zc bD sD
            go_wp2_with fail
            go_loopw [10] (fun u wr => ∃ (i : Nat) (a1 a2 a3 : List Int) (v1 v2 v3 : Value), (i : Int) ≤ tp ∧ u = .int .i64 (i : Int) ∧ InM B b n (30 + 30 * (17 - (K0 + 1)) + 4 + 6 * i) gr wo q nx a1 a2 a3 v1 v2 v3 wr ∧ Hid (a1.length = i ∧ a2.length = i ∧ a3.length = i ∧ (∀ z ∈ a1, 0 ≤ z ∧ z ≤ sy - 1) ∧ (∀ z ∈ a2, 0 ≤ z ∧ z ≤ sy - 1) ∧ (∀ z ∈ a3, -1 ≤ z ∧ z ≤ 1))) (fun u _ => (tp - intOf u).toNat)
            case atStart => exact ⟨0, [], [], [], _, _, _, by omega, rfl, stI, Lib.hid ⟨rfl, rfl, rfl, by simp, by simp, by simp⟩⟩
            case round =>
              clear stI
              obtain ⟨i, a1, a2, a3, v1, v2, v3, hi3, rfl, sti, HLEN⟩ := hrel
              have bgm := blk_src HSTK.out.src sti.grown HSTK.out.cur (by decide)
              have hm0 := bgm.cell 0
              simp only [List.getElem?_toArray, List.getElem?_cons_zero, List.getElem?_cons_succ] at hm0
              have hil : i ≤ 3 := by omega
              have HLN : Hid (a1.length ≤ 3 ∧ a2.length ≤ 3 ∧ a3.length ≤ 3) := Lib.hid (by have := HLEN.out; omega)
              obtain ⟨B1, f1, rfl, _, _⟩ := sti.r3.o1.ints.form
              obtain ⟨B2, f2, rfl, _, _⟩ := sti.r3.o2.ints.form
              obtain ⟨B3, f3, rfl, _, _⟩ := sti.r3.o3.ints.form
              by_cases hlt : (i : Int) < tp
              · clear bgm
                go_wp2_with fail
                clear hm0
                have zDa := Ext.drew wr
                have zra : wr.drew.cell? ⟨gr, 1, none⟩ = some (.slice B1 a1.length f1) := sti.rul.cell 1
                have bga := blk_src HSTK.out.src sti.grown HSTK.out.cur (by decide)
                have zma : wr.drew.cell? ⟨gm, 1, none⟩ = some (.int .i64 sy) := bga.cell 1
                refine wp_region_ordTS (fun x : World => x.cell? ⟨gr, 1, none⟩ = some (.slice B1 a1.length f1) ∧ x.cell? ⟨gm, 1, none⟩ = some (.int .i64 sy)) 7 (readsT [0, 1, 2, 3, 4] (.stir 5 (.stir 6 .done))) (by kernel_rfl) (by kernel_rfl) (fun _ _ _ _ _ h => h) ⟨zra, zma⟩ ?_
                simp only [readsT]
                iterate 5 (refine wpOrdT_read (v := ?_) (by rfl) (Or.inl ⟨by rfl, fun x hx => ?_⟩) ?_; rotate_left; (· have a1 := hx.1; have a2 := hx.2; go_simp; try with_reducible rfl); try simp only [Act.put, List.setIfInBounds_toArray, List.set_cons_zero, List.set_cons_succ])
                refine wpOrdT_keep (by rfl) (fun K hK => ?_)
                go_simp
                go_at_call 17
                refine (pick_c B b _ sy wr.drew (sti.src.ext zDa) (by omega)).mono ?_
                rintro e wpa ⟨⟨za, rfl, za0, _, za2⟩, hsa, hga⟩
                have HZa : Hid (0 ≤ za ∧ za < sy) := Lib.hid ⟨za0, za2 (by omega)⟩

                have spa := (sti.ext zDa).src' (d' := 30 + 30 * (17 - (K0 + 1)) + 4 + 6 * i + 2) (hsa.mono (by omega)) hga
                have zqa := blk_src (sti.src.ext zDa) hga (bga.ext zDa) (by decide)
                refine hK _ _ ⟨spa.rul.cell 1, zqa.cell 1⟩ ?_
                clear hK K
                try simp only [Act.put, List.setIfInBounds_toArray, List.set_cons_zero, List.set_cons_succ]
                refine wpOrdT_keep (by rfl) (fun K hK => ?_)
                go_simp
                have eAa := Ext.alloc wpa (.cells #[.int .i64 za] 2)
                refine hK _ _ ⟨eAa.cell (spa.rul.cell 1), eAa.cell (zqa.cell 1)⟩ ?_
                clear hK K
                try simp only [Act.put, List.setIfInBounds_toArray, List.set_cons_zero, List.set_cons_succ]
                refine wpOrdT_done ?_
                try simp only [List.drop_succ_cons, List.drop_zero]
                have sqa := spa.ext eAa
                have hoa : (wpa.alloc (.cells #[.int .i64 za] 2)).ownsRow wo.heap.size 2 1 (.slice B1 a1.length f1) a1.length (ivs a1) := sqa.r3.o1
                have hba : wo.heap.size ≤ (wpa.alloc (.cells #[.int .i64 za] 2)).heap.size := sqa.grown.size
                have hsza : (wpa.alloc (.cells #[.int .i64 za] 2)).heap.size = wpa.heap.size + 1 := by simp
                clear zra zma zqa bga hsa hga spa sti eAa za0 za2
                go_wp2_with (at_builtin; refine wpList_append_own_at _ rfl _ _ 48 rfl wo.heap.size 2 i0 (.int .i64 0) 1 8 Tryz.underlying48 hi hz0' hz1' hz2' rfl (by decide) _ _ _ rfl hoa ⟨wpa.heap.size, 0, none⟩ 1 1 [.int .i64 za] rfl rfl (cell_one_new _ _ _) ?c2 ?c3 ?c4 ?c5 ?_)
                case c2 => intro u hu; simp at hu; subst hu; rfl
                case c3 => unfold maxLen; have := HLN.out; omega
                case c4 => have := HLN.out; omega
                case c5 => exact hba
                intro va w7a howna hgra _ hloca
                have hloca' : va.ownBlock = ((.slice B1 a1.length f1) : Value).ownBlock ∨ va.ownBlock = some (wpa.alloc (.cells #[.int .i64 za] 2)).heap.size := by first | exact hloca | (rw [hsza]; exact hloca)
                obtain ⟨Aa, ca, rfl, _, _, _⟩ := (ownsRow_row howna).form
                obtain ⟨sna, bna⟩ := sqa.put (a1' := a1 ++ [za]) HB1o HB2o (by simpa [OwnInts, ivs_append, ivs] using howna) hgra hloca'
                have cb := bna.cell
                have cf := bna.frozen
                clear sqa hoa hba hsza howna hgra hloca hloca' bna zDa
                go_wp2_with fail
                generalize hwA : w7a.setCell ⟨gr, 1, none⟩ (.slice Aa (a1.length + 1) ca) = wA at *
                clear hwA cb cf
                have zDb := Ext.drew wA
                have zrb : wA.drew.cell? ⟨gr, 2, none⟩ = some (.slice B2 a2.length f2) := sna.rul.cell 2
                have bgb := blk_src HSTK.out.src sna.grown HSTK.out.cur (by decide)
                have zmb : wA.drew.cell? ⟨gm, 1, none⟩ = some (.int .i64 sy) := bgb.cell 1
                refine wp_region_ordTS (fun x : World => x.cell? ⟨gr, 2, none⟩ = some (.slice B2 a2.length f2) ∧ x.cell? ⟨gm, 1, none⟩ = some (.int .i64 sy)) 7 (readsT [0, 1, 2, 3, 4] (.stir 5 (.stir 6 .done))) (by kernel_rfl) (by kernel_rfl) (fun _ _ _ _ _ h => h) ⟨zrb, zmb⟩ ?_
                simp only [readsT]
                iterate 5 (refine wpOrdT_read (v := ?_) (by rfl) (Or.inl ⟨by rfl, fun x hx => ?_⟩) ?_; rotate_left; (· have a1 := hx.1; have a2 := hx.2; go_simp; try with_reducible rfl); try simp only [Act.put, List.setIfInBounds_toArray, List.set_cons_zero, List.set_cons_succ])
                refine wpOrdT_keep (by rfl) (fun K hK => ?_)
                go_simp
                go_at_call 17
                refine (pick_c B b _ sy wA.drew (sna.src.ext zDb) (by omega)).mono ?_
                rintro e wpb ⟨⟨zb, rfl, zb0, _, zb2⟩, hsb, hgb⟩
                have HZb : Hid (0 ≤ zb ∧ zb < sy) := Lib.hid ⟨zb0, zb2 (by omega)⟩

                have spb := (sna.ext zDb).src' (d' := 30 + 30 * (17 - (K0 + 1)) + 4 + 6 * i + 4) (hsb.mono (by omega)) hgb
                have zqb := blk_src (sna.src.ext zDb) hgb (bgb.ext zDb) (by decide)
                refine hK _ _ ⟨spb.rul.cell 2, zqb.cell 1⟩ ?_
                clear hK K
                try simp only [Act.put, List.setIfInBounds_toArray, List.set_cons_zero, List.set_cons_succ]
                refine wpOrdT_keep (by rfl) (fun K hK => ?_)
                go_simp
                have eAb := Ext.alloc wpb (.cells #[.int .i64 zb] 2)
                refine hK _ _ ⟨eAb.cell (spb.rul.cell 2), eAb.cell (zqb.cell 1)⟩ ?_
                clear hK K
                try simp only [Act.put, List.setIfInBounds_toArray, List.set_cons_zero, List.set_cons_succ]
                refine wpOrdT_done ?_
                try simp only [List.drop_succ_cons, List.drop_zero]
                have sqb := spb.ext eAb
                have hob : (wpb.alloc (.cells #[.int .i64 zb] 2)).ownsRow wo.heap.size 2 1 (.slice B2 a2.length f2) a2.length (ivs a2) := sqb.r3.o2
                have hbb : wo.heap.size ≤ (wpb.alloc (.cells #[.int .i64 zb] 2)).heap.size := sqb.grown.size
                have hszb : (wpb.alloc (.cells #[.int .i64 zb] 2)).heap.size = wpb.heap.size + 1 := by simp
                clear zrb zmb zqb bgb hsb hgb spb sna eAb zb0 zb2
                go_wp2_with (at_builtin; refine wpList_append_own_at _ rfl _ _ 48 rfl wo.heap.size 2 i0 (.int .i64 0) 1 8 Tryz.underlying48 hi hz0' hz1' hz2' rfl (by decide) _ _ _ rfl hob ⟨wpb.heap.size, 0, none⟩ 1 1 [.int .i64 zb] rfl rfl (cell_one_new _ _ _) ?c2 ?c3 ?c4 ?c5 ?_)
                case c2 => intro u hu; simp at hu; subst hu; rfl
                case c3 => unfold maxLen; have := HLN.out; omega
                case c4 => have := HLN.out; omega
                case c5 => exact hbb
                intro vb w7b hownb hgrb _ hlocb
                have hlocb' : vb.ownBlock = ((.slice B2 a2.length f2) : Value).ownBlock ∨ vb.ownBlock = some (wpb.alloc (.cells #[.int .i64 zb] 2)).heap.size := by first | exact hlocb | (rw [hszb]; exact hlocb)
                obtain ⟨Ab, cb1, rfl, _, _, _⟩ := (ownsRow_row hownb).form
                obtain ⟨snb, bnb⟩ := sqb.put2 (a1' := a2 ++ [zb]) HB1o HB2o (by simpa [OwnInts, ivs_append, ivs] using hownb) hgrb hlocb'
                have cb := bnb.cell
                have cf := bnb.frozen
                clear sqb hob hbb hszb hownb hgrb hlocb hlocb' bnb zDb
                go_wp2_with fail
                generalize hwA : w7b.setCell ⟨gr, 2, none⟩ (.slice Ab (a2.length + 1) cb1) = wB at *
                clear hwA cb cf
                have zDc := Ext.drew wB
                have zrc : wB.drew.cell? ⟨gr, 3, none⟩ = some (.slice B3 a3.length f3) := snb.rul.cell 3
                have bgc := blk_src HSTK.out.src snb.grown HSTK.out.cur (by decide)
                have zmc : wB.drew.cell? ⟨gm, 1, none⟩ = some (.int .i64 sy) := bgc.cell 1
                refine wp_region_ordTS (fun x : World => x.cell? ⟨gr, 3, none⟩ = some (.slice B3 a3.length f3)) 6 (readsT [0, 1, 2] (.stir 3 (readsT [4] (.stir 5 .done)))) (by kernel_rfl) (by kernel_rfl) (fun _ _ _ _ _ h => h) zrc ?_
                simp only [readsT]
                iterate 3 (refine wpOrdT_read (v := ?_) (by rfl) (Or.inl ⟨by rfl, fun x hx => ?_⟩) ?_; rotate_left; (· have a1 : x.cell? _ = _ := hx; go_simp; try with_reducible rfl); try simp only [Act.put, List.setIfInBounds_toArray, List.set_cons_zero, List.set_cons_succ])
                refine wpOrdT_keep (by rfl) (fun K hK => ?_)
                go_simp
                go_at_call 17
                refine (pick_c B b _ 3 wB.drew (snb.src.ext zDc) (by omega)).mono ?_
                rintro e wpc ⟨⟨zc, rfl, zc0, _, zc2⟩, hsc, hgc⟩
                have HZc : Hid (0 ≤ zc ∧ zc < 3) := Lib.hid ⟨zc0, zc2 (by omega)⟩
                have hwz : IntKind.i64.wrap (zc - 1) = zc - 1 := IntWalk.i64_in _ (by have := HZc.out; omega)
                have spc := (snb.ext zDc).src' (d' := 30 + 30 * (17 - (K0 + 1)) + 4 + 6 * i + 6) (hsc.mono (by omega)) hgc
                have zqc := blk_src (snb.src.ext zDc) hgc (bgc.ext zDc) (by decide)
                refine hK _ _ (spc.rul.cell 3) ?_
                clear hK K
                try simp only [Act.put, List.setIfInBounds_toArray, List.set_cons_zero, List.set_cons_succ]
                refine wpOrdT_read (v := ?_) (by rfl) (Or.inl ⟨by rfl, fun x hx => ?_⟩) ?_
                rotate_left
                · go_simp; try with_reducible rfl
                try simp only [Act.put, List.setIfInBounds_toArray, List.set_cons_zero, List.set_cons_succ]
                refine wpOrdT_keep (by rfl) (fun K hK => ?_)
                go_simp
                have eAc := Ext.alloc wpc (.cells #[.int .i64 (zc - 1)] 2)
                refine hK _ _ (eAc.cell (spc.rul.cell 3)) ?_
                clear hK K
                try simp only [Act.put, List.setIfInBounds_toArray, List.set_cons_zero, List.set_cons_succ]
                refine wpOrdT_done ?_
                try simp only [List.drop_succ_cons, List.drop_zero]
                have sqc := spc.ext eAc
                have hoc : (wpc.alloc (.cells #[.int .i64 (zc - 1)] 2)).ownsRow wo.heap.size 2 1 (.slice B3 a3.length f3) a3.length (ivs a3) := sqc.r3.o3
                have hbc : wo.heap.size ≤ (wpc.alloc (.cells #[.int .i64 (zc - 1)] 2)).heap.size := sqc.grown.size
                have hszc : (wpc.alloc (.cells #[.int .i64 (zc - 1)] 2)).heap.size = wpc.heap.size + 1 := by simp
                clear zrc zmc zqc bgc hsc hgc spc snb eAc zc0 zc2
                go_wp2_with (at_builtin; refine wpList_append_own_at _ rfl _ _ 48 rfl wo.heap.size 2 i0 (.int .i64 0) 1 8 Tryz.underlying48 hi hz0' hz1' hz2' rfl (by decide) _ _ _ rfl hoc ⟨wpc.heap.size, 0, none⟩ 1 1 [.int .i64 (zc - 1)] rfl rfl (cell_one_new _ _ _) ?c2 ?c3 ?c4 ?c5 ?_)
                case c2 => intro u hu; simp at hu; subst hu; rfl
                case c3 => unfold maxLen; have := HLN.out; omega
                case c4 => have := HLN.out; omega
                case c5 => exact hbc
                intro vc w7c hownc hgrc _ hlocc
                have hlocc' : vc.ownBlock = ((.slice B3 a3.length f3) : Value).ownBlock ∨ vc.ownBlock = some (wpc.alloc (.cells #[.int .i64 (zc - 1)] 2)).heap.size := by first | exact hlocc | (rw [hszc]; exact hlocc)
                obtain ⟨Ac, cc, rfl, _, _, _⟩ := (ownsRow_row hownc).form
                obtain ⟨snc, bnc⟩ := sqc.put3 (a1' := a3 ++ [(zc - 1)]) HB1o HB2o (by simpa [OwnInts, ivs_append, ivs] using hownc) hgrc hlocc'
                have cb := bnc.cell
                have cf := bnc.frozen
                clear sqc hoc hbc hszc hownc hgrc hlocc hlocc' bnc zDc
                go_wp2_with fail
                have HSN := Lib.hid snc
                clear snc
                go_roundw
                case rel => exact ⟨i + 1, _, _, _, _, _, _, by omega, by go_num, by have := HSN.out; simpa [Nat.mul_add, Nat.add_assoc] using this, Lib.hid (by
                  obtain ⟨l1, l2, l3, p1, p2, p3⟩ := HLEN.out
                  have q1 := HZa.out
                  have q2 := HZb.out
                  have q3 := HZc.out
                  refine ⟨by simp [l1], by simp [l2], by simp [l3], fun z hz => ?_, fun z hz => ?_, fun z hz => ?_⟩
                  · rcases List.mem_append.1 hz with h | h
                    · exact p1 z h
                    · rw [List.mem_singleton.1 h]; omega
                  · rcases List.mem_append.1 hz with h | h
                    · exact p2 z h
                    · rw [List.mem_singleton.1 h]; omega
                  · rcases List.mem_append.1 hz with h | h
                    · exact p3 z h
                    · rw [List.mem_singleton.1 h]; omega)⟩
                case measure => simp [intOf]; omega
              · have hit : (i : Int) = tp := by omega
                have ow := HSTK.out.own.src HSTK.out.src sti.grown
                have r0 := sti.rul.cell 0
                have r1 := sti.rul.cell 1
                simp only [List.getElem?_toArray, List.getElem?_cons_zero, List.getElem?_cons_succ] at r0 r1
                have RO := l06RuleOf_c gm ⟨tp, sy, st, rs⟩ (.slice Av rs.length cv) (.slice B1 a1.length f1) q a1 wr bgm ow.rules sti.r3.o1.ints
                have sD := (HSTK.out.src' (d' := 30 + 30 * (17 - K0)) (sti.src.mono (by omega)) sti.grown)
                have HSI := Lib.hid sti
                clear ow
                go_wp2_with fail
                refine RO.mono ?_
                rintro e w6 ⟨z, rfl, hz, hx6⟩
                have sE := sD.ext hx6
                have hgr6 := HSI.out.rul.ext hx6
                clear RO sD r0 r1 bgm hm0
                rcases hz with ⟨k, hk, rfl, _⟩ | ⟨rfl, hno⟩
                · have hneg : decide ((k : Int) < 0) = false := decide_eq_false (by omega)
                  have HSE := Lib.hid sE
                  clear sE hgr6
                  go_wp2_with fail
                  go_roundw
                  case rel => exact ⟨K0, _, rs, _, rfl, rfl, by omega, HSE.out, HOK⟩
                  case measure => simp [intOf] <;> omega
                · have hc3 := sE.cur.cell 3
                  have r0 := hgr6.cell 0
                  have r1 := hgr6.cell 1
                  have r2 := hgr6.cell 2
                  have r3 := hgr6.cell 3
                  have r4 := hgr6.cell 4
                  simp only [List.getElem?_toArray, List.getElem?_cons_zero, List.getElem?_cons_succ] at hc3 r0 r1 r2 r3 r4
                  have hwo : w.heap.size ≤ wo.heap.size := HSTK.out.grown.size
                  have PU := l06Put_c w.heap.size (.slice Av rs.length cv) (.agg #[.int .i64 q, .slice B1 a1.length f1, .slice B2 a2.length f2, .slice B3 a3.length f3, .int .i64 nx]) rs ⟨q, a1, a2, a3, nx⟩ w6 sE.own
                    ⟨_, _, _, rfl, ownsRow_base (OwnInts.ext HSI.out.r3.o1 hx6) hwo, ownsRow_base (OwnInts.ext HSI.out.r3.o2 hx6) hwo, ownsRow_base (OwnInts.ext HSI.out.r3.o3 hx6) hwo⟩ sE.grown.size (by omega)
                  have HNEW : Hid (multiOk ⟨tp, sy, st, insM rs ⟨q, a1, a2, a3, nx⟩⟩ = true) := Lib.hid (by
                    obtain ⟨l1, l2, l3, p1, p2, p3⟩ := HLEN.out
                    obtain ⟨n1, n2, n3, n4⟩ := HQN.out
                    refine multi_ins HOK.out (mruleOk_of ⟨n1, by show q ≤ st - 1; omega⟩ ⟨n3, by show nx ≤ st - 1; omega⟩ (by show (a1.length : Int) = tp; omega) (by show (a2.length : Int) = tp; omega) (by show (a3.length : Int) = tp; omega) p1 p2 p3) (fun x hx => ?_) (by omega)
                    obtain ⟨j, hj, rfl⟩ := List.getElem_of_mem hx
                    have := hno j hj
                    rw [show (MultiD.rules ⟨tp, sy, st, rs⟩).getD j mr0 = rs[j] from getD_mr hj] at this
                    by_cases e1 : rs[j].st = q
                    · exact .inr fun e2 => this ⟨e1, e2.symm⟩
                    · exact .inl fun e2 => e1 e2.symm)
                  clear hgr6 hno
                  go_wp2_with fail
                  refine PU.mono ?_
                  rintro e w7 ⟨v', rfl, ho7, hg7, _⟩
                  obtain ⟨A7, c7, rfl, _, _⟩ := ho7.form
                  obtain ⟨s7, b7⟩ := sE.put HB.out HBL.out (by omega) hwgm ho7 hg7
                  have cb := b7.cell
                  have cf := b7.frozen
                  have HS7 := Lib.hid s7
                  have hil7 := insM_len rs ⟨q, a1, a2, a3, nx⟩
                  have HIL := Lib.hid hil7
                  clear PU sE ho7 hg7 s7 b7 hc3 r0 r1 r2 r3 r4 hil7
                  go_wp2_with fail
                  go_roundw
                  case rel => exact ⟨K0, _, _, _, rfl, rfl, by rw [HIL.out]; omega, HS7.out, HNEW⟩
                  case measure => simp [intOf] <;> omega
end Go.Proofs.YtkbpchdncljlbaaGreatDoor
end
section
set_option linter.unusedVariables false
set_option linter.unusedSimpArgs false
namespace Go.Proofs.YtkbpchdncljlbaaGreatDoor
open Go Go.RowKit Go.Proofs Go.Maps
set_option maxHeartbeats 400000
theorem OwnT.src {B b n base : Nat} {w w' : World} {v : Value} {ts : List TapeD} (h : OwnT base w v ts) (hs : Src B w b n) (hg : w.grownBy w' (some b)) : OwnT base w' v ts := by
  obtain ⟨cl, h1, h2⟩ := h
  refine ⟨cl, own_src hs hg h1 (by decide), h2.same fun q cs hq => hg.block q hq.lt (fun e => ?_)⟩
  injection e with e
  subst e
  obtain ⟨_, _, _, _, _, hb, _⟩ := hs
  exact absurd (blk_type hb hq) (by decide)
/-- How far the drawing of a configuration has come. -/
structure BmS (B b n d g1 g2 gm gc : Nat) (wb : World) (m : MultiD) (mv : Value) (q : Int) (tv : Value) (ts : List TapeD) (W : World) : Prop where
  out1 : Blk W g1 26 #[.int .i64 0, .int .i64 0, .int .i64 0, .slice none 0 0]
  out2 : Blk W g2 29 #[.int .i64 0, .slice none 0 0]
  cm : Blk W gm 26 #[.int .i64 m.tp, .int .i64 m.sy, .int .i64 m.st, mv]
  cc : Blk W gc 29 #[.int .i64 q, tv]
  mr : OwnMR wb.heap.size W mv m.rules
  ot : OwnT wb.heap.size W tv ts
  src : Src B W b (n + d)
  grown : wb.grownBy W (some b)
theorem BmS.ext {B b n d g1 g2 gm gc : Nat} {wb : World} {m : MultiD} {mv : Value} {q : Int} {tv : Value} {ts : List TapeD} {W W' : World} (h : BmS B b n d g1 g2 gm gc wb m mv q tv ts W) (he : Ext W W') : BmS B b n d g1 g2 gm gc wb m mv q tv ts W' :=
  ⟨h.out1.ext he, h.out2.ext he, h.cm.ext he, h.cc.ext he, h.mr.ext he, h.ot.ext he, h.src.ext he, grownBy_trans h.grown (ext_grownBy he _)⟩
theorem BmS.src' {B b n d d' g1 g2 gm gc : Nat} {wb : World} {m : MultiD} {mv : Value} {q : Int} {tv : Value} {ts : List TapeD} {W W' : World} (h : BmS B b n d g1 g2 gm gc wb m mv q tv ts W) (hs : Src B W' b (n + d')) (hg : W.grownBy W' (some b)) : BmS B b n d' g1 g2 gm gc wb m mv q tv ts W' :=
  ⟨blk_src h.src hg h.out1 (by decide), blk_src h.src hg h.out2 (by decide), blk_src h.src hg h.cm (by decide), blk_src h.src hg h.cc (by decide), h.mr.src h.src hg, h.ot.src h.src hg, hs, grownBy_trans h.grown hg⟩
/-- Another tape. -/
theorem BmS.put {B b n d g1 g2 gm gc : Nat} {wb : World} {m : MultiD} {mv : Value} {q : Int} {tv v' : Value} {ts : List TapeD} {t : TapeD} {lv rv : Value} {cl : List Value} {W W' : World} (h : BmS B b n d g1 g2 gm gc wb m mv q tv ts W) (hB : B ≤ wb.heap.size) (hb : b < wb.heap.size) (hgc : wb.heap.size ≤ gc) (hd : gc ≠ g2)
    (ho : W.ownsRow wb.heap.size 50 2 tv ts.length cl) (hcl : TCells wb.heap.size W cl ts) (o1 : OwnInts wb.heap.size W lv t.l) (o2 : OwnInts wb.heap.size W rv t.r)
    (hown : W'.ownsRow wb.heap.size 50 2 v' (ts.length + 1) (cl ++ [lv, rv])) (hg : W.grownBy W' tv.ownBlock) :
    BmS B b n d g1 g2 gm gc wb m mv q v' (ts ++ [t]) (W'.setCell ⟨gc, 1, none⟩ v') ∧ Blk W' gc 29 #[.int .i64 q, tv] := by
  have b1 := Blk.apart h.out1 ho (by decide) hg
  have b2 := Blk.apart h.out2 ho (by decide) hg
  have b3 := Blk.apart h.cm ho (by decide) hg
  have b4 := Blk.apart h.cc ho (by decide) hg
  have hs := h.src.kept hg (fun k hk => by have := (ho.lt k hk).1; exact ⟨by omega, by omega⟩)
  have gg : wb.grownBy W' (some b) := grownBy_step h.grown hg (fun k hk => .inl (ho.lt k hk).1)
  obtain ⟨cm, hm1, hm2⟩ := h.mr
  have hmr : OwnMR wb.heap.size W' mv m.rules := ⟨cm, own_same hm1 (fun p hp => by
    rcases hm1.2 with ⟨rfl, _⟩ | ⟨g', cap, cur, rfl, _, hh, _⟩
    · simp [Value.ownBlock] at hp
    · simp [Value.ownBlock] at hp
      subst hp
      have hb : Blk W g' 64 cur := hh
      exact hg.block g' hb.lt (blk_ne_row hb ho (by decide))), hm2.same fun p cs hp => hg.block p hp.lt (blk_ne_row hp ho (by decide))⟩
  have hot : OwnT wb.heap.size W' v' (ts ++ [t]) := ⟨_, by simpa using hown, (hcl.snoc o1 o2).same fun p cs hp => hg.block p hp.lt (blk_ne_row hp ho (by decide))⟩
  have n1 : g1 ≠ gc := blk_ne b1 b4 (by decide)
  have n2 : g2 ≠ gc := fun e => hd e.symm
  have n3 : gm ≠ gc := blk_ne b3 b4 (by decide)
  exact ⟨⟨b1.far (p := ⟨gc, 1, none⟩) n1 _, b2.far (p := ⟨gc, 1, none⟩) n2 _, b3.far (p := ⟨gc, 1, none⟩) n3 _, b4.set_ 1 v', hmr.far b4 (by decide) (by decide) 1 v', hot.far b4 (by decide) (by decide) 1 v',
    hs.kept (set_grownBy W' ⟨gc, 1, none⟩ v') (fun k hk => by injection hk with hk; subst hk; exact ⟨by show B ≤ gc; omega, by show gc ≠ b; omega⟩), grownBy_step gg (set_grownBy W' ⟨gc, 1, none⟩ v') (fun k hk => .inl (by injection hk with hk; subst hk; exact hgc))⟩, b4⟩
/-- A machine and a configuration of it that the reference has drawn. -/
structure MPair (base : Nat) (m : MultiD) (c : MConfD) (mv tv : Value) (w : World) : Prop where
  ok : multiOk m = true
  q : inB c.q 0 (m.st - 1) = true
  len : (c.tapes.length : Int) = m.tp
  tapes : c.tapes.all (tapeOk m) = true
  mr : OwnMR base w mv m.rules
  ot : OwnT base w tv c.tapes
set_option maxRecDepth 20000 in
set_option maxHeartbeats 8000000 in
theorem B10Multi_c (v : Value) (bs : List Int) (w : World) (h : Bytes w v bs) :
    Calls Tryz.prog 5 #[v] w fun e w' => (∃ m c A1 c1 A2 c2, e = .returned (.tuple #[.agg #[.int .i64 m.tp, .int .i64 m.sy, .int .i64 m.st, .slice A1 m.rules.length c1], .agg #[.int .i64 c.q, .slice A2 c.tapes.length c2]]) ∧ MPair w.heap.size m c (.slice A1 m.rules.length c1) (.slice A2 c.tapes.length c2) w') ∧ Ext w w' := by
  obtain ⟨i0, hi0, hz0, hz1, hz2⟩ := info_parts tapeInfoS
  obtain ⟨A0, c0, rfl, _, _, _⟩ := h.1.form
  obtain ⟨g1, hg1⟩ : ∃ g, w.heap.size = g := ⟨_, rfl⟩
  obtain ⟨V, hV⟩ : ∃ V, V = (w.alloc (.cells #[.int .i64 0, .int .i64 0, .int .i64 0, .slice none 0 0] 26)).alloc (.cells #[.int .i64 0, .slice none 0 0] 29) := ⟨_, rfl⟩
  have hX : Ext w V := by rw [hV]; exact (Ext.alloc _ _).trans (Ext.alloc _ _)
  have b1 : Blk V g1 26 #[.int .i64 0, .int .i64 0, .int .i64 0, .slice none 0 0] := by rw [hV]; exact (Blk.new _ _ _ _ hg1).alloc _
  have b2 : Blk V (g1 + 1) 29 #[.int .i64 0, .slice none 0 0] := by rw [hV]; exact Blk.new _ _ _ _ (by simp [hg1])
  have hVs : V.heap.size = g1 + 1 + 1 := by rw [hV]; simp [hg1]
  have FR := from_c _ bs V (h.ext hX)
  have HG1 := Lib.hid hg1
  have HX := Lib.hid hX
  clear h
  go_enter Tryz.func5, Tryz.ntmps5
  go_wp2_with fail
  try rw [← hV]
  try rw [hg1]
  clear hV hg1
  refine FR.mono ?_
  rintro e w1 ⟨⟨b, rfl, hb0, hs1⟩, hx1⟩
  have b11 := b1.ext hx1
  have b21 := b2.ext hx1
  have hbl := hs1.lt
  have hz1' := hx1.size
  clear FR b1 b2 hX
  go_wp2_with fail
  refine (l06DrawOk_c V.heap.size b 0 w1 hs1 hz1' (by omega)).mono ?_
  rintro e w2 ⟨⟨m, A1, c1, rfl, hmr, hmo⟩, hs2, hg2⟩
  have b12 := blk_src hs1 hg2 b11 (by decide)
  have b22 := blk_src hs1 hg2 b21 (by decide)
  have HMO := Lib.hid hmo
  obtain ⟨⟨tp1, tp2⟩, ⟨sy1, sy2⟩, ⟨st1, st2⟩, _⟩ := multi_all hmo
  obtain ⟨gm, hgm⟩ : ∃ g, w2.heap.size = g := ⟨_, rfl⟩
  obtain ⟨W3, hW3⟩ : ∃ W, W = w2.alloc (.cells #[.int .i64 m.tp, .int .i64 m.sy, .int .i64 m.st, .slice A1 m.rules.length c1] 26) := ⟨_, rfl⟩
  have e3 : Ext w2 W3 := by rw [hW3]; exact Ext.alloc _ _
  have bm3 : Blk W3 gm 26 #[.int .i64 m.tp, .int .i64 m.sy, .int .i64 m.st, .slice A1 m.rules.length c1] := by rw [hW3]; exact Blk.new _ _ _ _ hgm
  have hs3 := hs2.ext e3
  have hg3 : w1.grownBy W3 (some b) := grownBy_trans hg2 (ext_grownBy e3 _)
  have b13 := b12.ext e3
  have b23 := b22.ext e3
  have hmr3 := hmr.ext e3
  have hzg := hg2.size
  clear hs1 b11 b21 hs2 hg2 b12 b22 e3 hmr hmo
  go_wp2_with fail
  try rw [← hW3]
  try rw [hgm]
  clear hW3
  refine (pick_c V.heap.size b _ m.st W3 hs3 (by omega)).mono ?_
  rintro e w4 ⟨⟨q, rfl, q0, qz, q2⟩, hs4, hg4⟩
  have hq : inB q 0 (m.st - 1) = true := inB_iff.2 ⟨q0, by by_cases h1 : m.st ≤ 1; (· have := qz h1; omega); (· have := q2 (by omega); omega)⟩
  have HQ := Lib.hid hq
  have b14 := blk_src hs3 hg4 b13 (by decide)
  have b24 := blk_src hs3 hg4 b23 (by decide)
  have bm4 := blk_src hs3 hg4 bm3 (by decide)
  have hmr4 := hmr3.src hs3 hg4
  obtain ⟨gc, hgc⟩ : ∃ g, w4.heap.size = g := ⟨_, rfl⟩
  obtain ⟨W5, hW5⟩ : ∃ W, W = w4.alloc (.cells #[.int .i64 q, .slice none 0 0] 29) := ⟨_, rfl⟩
  have e5 : Ext w4 W5 := by rw [hW5]; exact Ext.alloc _ _
  have bc5 : Blk W5 gc 29 #[.int .i64 q, .slice none 0 0] := by rw [hW5]; exact Blk.new _ _ _ _ hgc
  have st0 : BmS V.heap.size b 0 1010 g1 (g1 + 1) gm gc w1 m (.slice A1 m.rules.length c1) q (.slice none 0 0) [] W5 :=
    ⟨b14.ext e5, b24.ext e5, bm4.ext e5, bc5, hmr4.ext e5, ⟨[], World.ownsRow_nil .., TCells.nil _ _⟩, (hs4.ext e5).mono (by omega), grownBy_trans hg3 (grownBy_trans hg4 (ext_grownBy e5 _))⟩
  have hz4 := hg4.size
  have hz3 := hg3.size
  have hgc1 : w1.heap.size ≤ gc := by omega
  have hd : gc ≠ g1 + 1 := by have := b24.lt; omega
  have hdm : gm ≠ g1 := by have := (blk_src hs3 hg4 b13 (by decide)).lt; have := hg3.size; omega
  have HB1 : Hid (V.heap.size ≤ w1.heap.size) := hz1'
  have HX1 := Lib.hid hx1
  clear hs3 b13 b23 bm3 hmr3 hs4 hg4 hg3 b14 b24 bm4 hmr4 e5 bc5 hq qz q2 hx1 hzg hz4 hz3
  go_wp2_with fail
  try rw [← hW5]
  try rw [hgc]
  clear hW5 hgc hgm
  go_loopw [7] (fun u wr => ∃ (k : Nat) (tv : Value) (ts : List TapeD), (k : Int) ≤ m.tp ∧ u = .int .i64 (k : Int) ∧ ts.length = k ∧ BmS V.heap.size b 0 (1010 + 500 * k) g1 (g1 + 1) gm gc w1 m (.slice A1 m.rules.length c1) q tv ts wr ∧ Hid (ts.all (tapeOk m) = true)) (fun u _ => (m.tp - intOf u).toNat)
  case atStart => exact ⟨0, _, [], by omega, rfl, rfl, st0, rfl⟩
  case round =>
    clear st0
    obtain ⟨k, tv, ts, hk, rfl, hlen, stk, HALL⟩ := hrel
    have hm0 : wr.cell? ⟨gm, 0, none⟩ = some (.int .i64 m.tp) := stk.cm.cell 0
    have hk3 : k ≤ 3 := by omega
    have HLE : Hid (ts.length = k) := hlen
    obtain ⟨cl, ho, hcl⟩ := id stk.ot
    rw [hlen] at ho
    obtain ⟨Av, cv, rfl, _, _, _⟩ := (ownsRow_row ho).form
    clear hlen
    by_cases hlt : (k : Int) < m.tp
    · have zc : wr.drew.cell? ⟨gc, 1, none⟩ = some (.slice Av k cv) := stk.cc.cell 1
      have zm : wr.drew.cell? ⟨gm, 1, none⟩ = some (.int .i64 m.sy) := stk.cm.cell 1
      have zD := Ext.drew wr
      have sD := stk.ext zD
      have hwr : w1.heap.size ≤ wr.drew.heap.size := sD.grown.size
      have hHB := HB1.out
      go_wp2_with fail
      clear hm0
      refine wp_region_ordTS (fun x : World => x.cell? ⟨gc, 1, none⟩ = some (.slice Av k cv) ∧ x.cell? ⟨gm, 1, none⟩ = some (.int .i64 m.sy)) 7 (readsT [0, 1, 2, 3, 4] (.stir 5 (.stir 6 .done))) (by kernel_rfl) (by kernel_rfl) (fun _ _ _ _ _ h => h) ⟨zc, zm⟩ ?_
      simp only [readsT]
      iterate 5 (refine wpOrdT_read (v := ?_) (by rfl) (Or.inl ⟨by rfl, fun x hx => ?_⟩) ?_; rotate_left; (· have a1 := hx.1; have a2 := hx.2; go_simp; try with_reducible rfl); try simp only [Act.put, List.setIfInBounds_toArray, List.set_cons_zero, List.set_cons_succ])
      refine wpOrdT_keep (by rfl) (fun K hK => ?_)
      go_simp
      go_at_call 18
      refine (l06DrawTape_c V.heap.size b _ m.sy wr.drew sD.src (by omega) (by omega) (by omega) (by omega)).mono ?_
      rintro e w6 ⟨⟨B1, f1, B2, f2, t, rfl, o1, o2, k1, k2⟩, hs6, hg6⟩
      have s6 := sD.src' (d' := 1010 + 500 * (k + 1)) (hs6.mono (by omega)) hg6
      refine hK _ _ ⟨s6.cc.cell 1, s6.cm.cell 1⟩ ?_
      clear hK K
      try simp only [Act.put, List.setIfInBounds_toArray, List.set_cons_zero, List.set_cons_succ]
      refine wpOrdT_keep (by rfl) (fun K hK => ?_)
      go_simp
      have eA := Ext.alloc w6 (.cells #[.slice B1 t.l.length f1, .slice B2 t.r.length f2] 50)
      refine hK _ _ ⟨eA.cell (s6.cc.cell 1), eA.cell (s6.cm.cell 1)⟩ ?_
      clear hK K
      try simp only [Act.put, List.setIfInBounds_toArray, List.set_cons_zero, List.set_cons_succ]
      refine wpOrdT_done ?_
      try simp only [List.drop_succ_cons, List.drop_zero]
      obtain ⟨W7, hW7⟩ : ∃ W7, W7 = w6.alloc (.cells #[.slice B1 t.l.length f1, .slice B2 t.r.length f2] 50) := ⟨_, rfl⟩
      rw [← hW7] at eA
      have bN : Blk W7 w6.heap.size 50 #[.slice B1 t.l.length f1, .slice B2 t.r.length f2] := by rw [hW7]; exact Blk.new _ _ _ _ rfl
      have s7 := s6.ext eA
      have ho6 := own_src sD.src hg6 (ownsRow_ext ho zD) (by decide)
      have ho7 := ownsRow_ext ho6 eA
      have hcl7 : TCells w1.heap.size W7 cl ts := ((hcl.ext zD).same (fun p cs hp => hg6.block p hp.lt (fun e => by
        injection e with e
        subst e
        obtain ⟨_, _, _, _, _, hb, _⟩ := sD.src
        exact absurd (blk_type hb hp) (by decide)))).ext eA
      have o17 := OwnInts.ext (ownsRow_base o1 hwr) eA
      have o27 := OwnInts.ext (ownsRow_base o2 hwr) eA
      have hs7 := s7.grown.size
      have HT : Hid (tapeOk m t = true) := Lib.hid (by unfold tapeOk; rw [k1, k2]; rfl)
      clear stk sD s6 hs6 hg6 ho ho6 hcl o1 o2 zc zm zD k1 k2
      generalize hn1 : t.l.length = n1' at *
      generalize hn2 : t.r.length = n2' at *
      have HN1 := Lib.hid hn1
      have HN2 := Lib.hid hn2
      clear hn1 hn2
      go_wp2_with (at_builtin; rw [← hW7]; refine wpList_append_own_at _ rfl _ _ 27 rfl w1.heap.size 50 i0 (.agg #[.slice none 0 0, .slice none 0 0]) 2 48 Tryz.underlying27 hi0 hz0 hz1 hz2 rfl (by decide) _ _ cl rfl ho7 ⟨w6.heap.size, 0, none⟩ 1 1 [.slice B1 n1' f1, .slice B2 n2' f2] rfl rfl (World.news_of_block bN) ?c2 ?c3 ?c4 ?c5 ?_)
      case c2 => first | exact ⟨rfl, rfl⟩ | (intro u hu; simp at hu; rcases hu with rfl | rfl <;> rfl)
      case c3 => unfold maxLen; omega
      case c4 => omega
      case c5 => exact hs7
      intro v' w8 hown8 hg8 _ _
      have hg8' : W7.grownBy w8 (Value.slice Av k cv).ownBlock := by first | exact hg8 | (rw [hW7]; exact hg8)
      obtain ⟨A8, c8, rfl, _, _, _⟩ := (ownsRow_row hown8).form
      obtain ⟨s8, b8⟩ := s7.put (t := t) HB1.out hbl hgc1 hd (by rw [HLE.out]; exact ho7) hcl7 o17 o27 (by rw [HLE.out]; exact hown8) hg8'
      have HS8 := Lib.hid s8
      have cb := b8.cell
      have cf := b8.frozen
      clear hW7 eA bN s7 ho7 hcl7 o17 o27 hown8 hg8 hg8' s8 b8
      go_wp2_with fail
      go_roundw
      case rel => exact ⟨k + 1, _, ts ++ [t], by omega, by go_num, by rw [List.length_append, HLE.out]; rfl, HS8.out, Lib.hid (by rw [List.all_append, HALL.out]; simp [HT.out])⟩
      case measure => simp [intOf]; omega
    · have hkt : (k : Int) = m.tp := by omega
      have hq0 : wr.cell? ⟨gm, 0, none⟩ = some (.int .i64 m.tp) := stk.cm.cell 0
      have hq1 : wr.cell? ⟨gm, 1, none⟩ = some (.int .i64 m.sy) := stk.cm.cell 1
      have hq2 : wr.cell? ⟨gm, 2, none⟩ = some (.int .i64 m.st) := stk.cm.cell 2
      have hq3 : wr.cell? ⟨gm, 3, none⟩ = some (.slice A1 m.rules.length c1) := stk.cm.cell 3
      have hc0 : wr.cell? ⟨gc, 0, none⟩ = some (.int .i64 q) := stk.cc.cell 0
      have hc1 : wr.cell? ⟨gc, 1, none⟩ = some (.slice Av k cv) := stk.cc.cell 1
      have hkl : ts.length = k := HLE.out
      have hg1w : w.heap.size = g1 := HG1.out
      have bD1 : Blk wr g1 26 #[.int .i64 0, .int .i64 0, .int .i64 0, .slice none 0 0] := stk.out1
      have bD2 : Blk wr (g1 + 1) 29 #[.int .i64 0, .slice none 0 0] := stk.out2
      have cD1 : Blk wr gm 26 #[.int .i64 m.tp, .int .i64 m.sy, .int .i64 m.st, .slice A1 m.rules.length c1] := stk.cm
      have cD2 : Blk wr gc 29 #[.int .i64 q, .slice Av k cv] := stk.cc
      have hmrD : OwnMR w.heap.size wr (.slice A1 m.rules.length c1) m.rules := stk.mr.base (by have := HX.out.size; have := HB1.out; omega)
      have hotD : OwnT w.heap.size wr (.slice Av k cv) ts := stk.ot.low (by have := HX.out.size; have := HB1.out; omega)
      have hXD : Ext w wr := ((HX.out.trans HX1.out).grown stk.grown (fun p hp => by injection hp with hp; have := HX.out.size; omega))
      obtain ⟨D, hD⟩ : ∃ D, wr = D := ⟨_, rfl⟩
      have ne1 : gc ≠ g1 := blk_ne cD2 bD1 (by decide)
      have ne2 : gm ≠ g1 + 1 := blk_ne cD1 bD2 (by decide)
      have HF : Hid (∀ u0 u1 u2 u3 x0 x1, (OwnMR w.heap.size ((((((wr.setCell ⟨g1, 0, none⟩ u0).setCell ⟨g1, 1, none⟩ u1).setCell ⟨g1, 2, none⟩ u2).setCell ⟨g1, 3, none⟩ u3).setCell ⟨g1 + 1, 0, none⟩ x0).setCell ⟨g1 + 1, 1, none⟩ x1).drew (.slice A1 m.rules.length c1) m.rules ∧
        OwnT w.heap.size ((((((wr.setCell ⟨g1, 0, none⟩ u0).setCell ⟨g1, 1, none⟩ u1).setCell ⟨g1, 2, none⟩ u2).setCell ⟨g1, 3, none⟩ u3).setCell ⟨g1 + 1, 0, none⟩ x0).setCell ⟨g1 + 1, 1, none⟩ x1).drew (.slice Av k cv) ts) ∧
        Ext w ((((((wr.setCell ⟨g1, 0, none⟩ u0).setCell ⟨g1, 1, none⟩ u1).setCell ⟨g1, 2, none⟩ u2).setCell ⟨g1, 3, none⟩ u3).setCell ⟨g1 + 1, 0, none⟩ x0).setCell ⟨g1 + 1, 1, none⟩ x1).drew) := Lib.hid fun u0 u1 u2 u3 x0 x1 => by
        have d0 := bD1.set_ 0 u0
        have d1 := d0.set_ 1 u1
        have d2 := d1.set_ 2 u2
        have hne : g1 + 1 ≠ g1 := by omega
        have f0 := (((bD2.far (p := ⟨g1, 0, none⟩) hne u0).far (p := ⟨g1, 1, none⟩) hne u1).far (p := ⟨g1, 2, none⟩) hne u2).far (p := ⟨g1, 3, none⟩) hne u3
        have f1 := f0.set_ 0 x0
        exact ⟨⟨((((((hmrD.far bD1 (by decide) (by decide) 0 u0).far d0 (by decide) (by decide) 1 u1).far d1 (by decide) (by decide) 2 u2).far d2 (by decide) (by decide) 3 u3).far f0 (by decide) (by decide) 0 x0).far f1 (by decide) (by decide) 1 x1).ext (Ext.drew _),
          ((((((hotD.far bD1 (by decide) (by decide) 0 u0).far d0 (by decide) (by decide) 1 u1).far d1 (by decide) (by decide) 2 u2).far d2 (by decide) (by decide) 3 u3).far f0 (by decide) (by decide) 0 x0).far f1 (by decide) (by decide) 1 x1).ext (Ext.drew _)⟩,
          ((((((hXD.setCell (p := ⟨g1, 0, none⟩) (by show w.heap.size ≤ g1; omega) u0).setCell (p := ⟨g1, 1, none⟩) (by show w.heap.size ≤ g1; omega) u1).setCell (p := ⟨g1, 2, none⟩) (by show w.heap.size ≤ g1; omega) u2).setCell (p := ⟨g1, 3, none⟩) (by show w.heap.size ≤ g1; omega) u3).setCell (p := ⟨g1 + 1, 0, none⟩) (by show w.heap.size ≤ g1 + 1; omega) x0).setCell (p := ⟨g1 + 1, 1, none⟩) (by show w.heap.size ≤ g1 + 1; omega) x1).trans (Ext.drew _)⟩
      have ob := bD1.cell
      have of_ := bD1.frozen
      have hne : g1 + 1 ≠ g1 := by omega
      have f0 := fun u0 u1 u2 u3 => (((bD2.far (p := ⟨g1, 0, none⟩) hne u0).far (p := ⟨g1, 1, none⟩) hne u1).far (p := ⟨g1, 2, none⟩) hne u2).far (p := ⟨g1, 3, none⟩) hne u3
      have ob2 := fun u0 u1 u2 u3 => (f0 u0 u1 u2 u3).cell
      have of2 := fun u0 u1 u2 u3 => (f0 u0 u1 u2 u3).frozen
      clear hmrD hotD hXD stk ho hcl hD f0
      go_wp2_with fail
      clear hm0 hq0 hq1 hq2 hq3 hc0 hc1
      have sC : ∀ x : World, Blk x gm 26 #[.int .i64 m.tp, .int .i64 m.sy, .int .i64 m.st, .slice A1 m.rules.length c1] → Blk x gc 29 #[.int .i64 q, .slice Av k cv] →
          (x.cell? ⟨gm, 0, none⟩ = some (.int .i64 m.tp) ∧ x.cell? ⟨gm, 1, none⟩ = some (.int .i64 m.sy) ∧ x.cell? ⟨gm, 2, none⟩ = some (.int .i64 m.st) ∧ x.cell? ⟨gm, 3, none⟩ = some (.slice A1 m.rules.length c1)) ∧ x.cell? ⟨gc, 0, none⟩ = some (.int .i64 q) ∧ x.cell? ⟨gc, 1, none⟩ = some (.slice Av k cv) :=
        fun x h1 h2 => ⟨⟨h1.cell 0, h1.cell 1, h1.cell 2, h1.cell 3⟩, h2.cell 0, h2.cell 1⟩
      have cF : ∀ u0 u1 u2 u3, _ := fun u0 u1 u2 u3 => sC _ (((((cD1.far (p := ⟨g1, 0, none⟩) hdm u0).far (p := ⟨g1, 1, none⟩) hdm u1).far (p := ⟨g1, 2, none⟩) hdm u2).far (p := ⟨g1, 3, none⟩) hdm u3).ext (Ext.drew _)) (((((cD2.far (p := ⟨g1, 0, none⟩) ne1 u0).far (p := ⟨g1, 1, none⟩) ne1 u1).far (p := ⟨g1, 2, none⟩) ne1 u2).far (p := ⟨g1, 3, none⟩) ne1 u3).ext (Ext.drew _))
      have cS := sC _ (cD1.ext (Ext.drew _)) (cD2.ext (Ext.drew _))
      have HCF := Lib.hid cF
      have y0 : wr.cell? ⟨g1, 0, none⟩ = some (.int .i64 0) := bD1.cell 0
      have y1 : wr.cell? ⟨g1, 1, none⟩ = some (.int .i64 0) := bD1.cell 1
      have y2 : wr.cell? ⟨g1, 2, none⟩ = some (.int .i64 0) := bD1.cell 2
      have y3 : wr.cell? ⟨g1, 3, none⟩ = some (.slice none 0 0) := bD1.cell 3
      have x0 : wr.cell? ⟨g1 + 1, 0, none⟩ = some (.int .i64 0) := bD2.cell 0
      have x1 : wr.cell? ⟨g1 + 1, 1, none⟩ = some (.slice none 0 0) := bD2.cell 1
      have of2' := bD2.frozen
      clear cF sC
      refine wp_region_ordTS (fun x : World => (x.cell? ⟨gm, 0, none⟩ = some (.int .i64 m.tp) ∧ x.cell? ⟨gm, 1, none⟩ = some (.int .i64 m.sy) ∧ x.cell? ⟨gm, 2, none⟩ = some (.int .i64 m.st) ∧ x.cell? ⟨gm, 3, none⟩ = some (.slice A1 m.rules.length c1)) ∧ x.cell? ⟨gc, 0, none⟩ = some (.int .i64 q) ∧ x.cell? ⟨gc, 1, none⟩ = some (.slice Av k cv)) 3 (readsT [0, 1] (.stir 2 .done)) (by kernel_rfl) (by kernel_rfl) (fun _ _ _ _ _ h => h) cS ?_
      simp only [readsT]
      iterate 2 (refine wpOrdT_read (v := ?_) (by rfl) (Or.inl ⟨by rfl, fun x hx => ?_⟩) ?_; rotate_left; (· obtain ⟨⟨a1, a2, a3, a4⟩, a5, a6⟩ := hx; go_simp; try with_reducible rfl); try simp only [Act.put, List.setIfInBounds_toArray, List.set_cons_zero, List.set_cons_succ])
      refine wpOrdT_keep (by rfl) (fun K hK => ?_)
      go_simp
      refine hK _ _ (HCF.out _ _ _ _) ?_
      clear hK K
      try simp only [Act.put, List.setIfInBounds_toArray, List.set_cons_zero, List.set_cons_succ]
      refine wpOrdT_done ?_
      try simp only [List.drop_succ_cons, List.drop_zero]
      clear cS cD1 cD2
      go_wp2_with fail
      refine bodyPost_ret (v := .tuple #[.agg #[.int .i64 m.tp, .int .i64 m.sy, .int .i64 m.st, .slice A1 m.rules.length c1], .agg #[.int .i64 q, .slice Av k cv]]) ?_ rfl ⟨⟨m, ⟨q, ts⟩, A1, c1, Av, cv, by rw [hkl], ?_⟩, (HF.out _ _ _ _ _ _).2⟩
      · have hno : ∀ (X : World) (i : Nat), X.drew.cell? ⟨g1, i, none⟩ = X.cell? ⟨g1, i, none⟩ := fun _ _ => rfl
        simp [results, Tryz.results5, go_sem, y0, y1, y2, y3, x0, x1]
      · rw [show (MConfD.mk q ts).tapes.length = k from hkl]
        exact ⟨HMO.out, HQ.out, by show (ts.length : Int) = m.tp; omega, HALL.out, (HF.out _ _ _ _ _ _).1.1, (HF.out _ _ _ _ _ _).1.2⟩
end Go.Proofs.YtkbpchdncljlbaaGreatDoor
end
section
set_option linter.unusedSimpArgs false
set_option linter.unusedVariables false
namespace Go.Proofs.YtkbpchdncljlbaaGreatDoor
open Go Go.RowKit Go.Proofs
set_option maxHeartbeats 400000
theorem bs_list : ∀ (xs : List (List UInt8)), (xs.map bsS).map (·.data.toList) = xs
  | [] => rfl
  | a :: t => by
    have := bs_list t
    simp only [List.map_cons, this]
def stv (xs : List (List UInt8)) : List Value := xs.map fun b => .string (bsS b)
def mltP (m : MultiD) (k : Nat) : List (List UInt8) := mheT m :: (m.rules.take k).map mruT
theorem join_ten (a : List UInt8) : ∀ (xs : List (List UInt8)), Lib.join (a :: xs) [10] = a ++ xs.flatMap fun b => 10 :: b
  | [] => by simp [Lib.join, Lib.joinTail]
  | x :: xs => by
    have := join_ten x xs
    simp only [Lib.join, Lib.joinTail] at this ⊢
    simp [this]
theorem mltP_join (m : MultiD) : Lib.join (mltP m m.rules.length) [10] = mltT m := by
  unfold mltP
  rw [join_ten, List.take_length]
  unfold mltT
  congr 1
  induction m.rules with
  | nil => rfl
  | cons r rs ih => simp [ih]
theorem mruT_join (r : MRuleD) : Lib.join [Lib.itoa r.st, digB r.rd, digB r.wr, mvB r.mv, Lib.itoa r.nx] [32] = mruT r := by
  simp [Lib.join, Lib.joinTail, mruT]
theorem stv_own {w : World} {base g n c : Nat} {xs : List (List UInt8)} (h : w.ownsRow base 9 1 (.slice (some ⟨g, 0, none⟩) n c) n (stv xs)) (hn : xs.length = n) : ∀ (j : Nat) s, (xs.map bsS)[j]? = some s → w.cell? ⟨g, 0 + j, none⟩ = some (.string s) := by
  intro j s hj
  have hjl : j < xs.length := by have := (List.getElem?_eq_some_iff.1 hj).1; simpa using this
  rw [Nat.zero_add, h.cellAt j (by omega)]
  simp only [stv, List.getElem?_map] at hj ⊢
  rw [List.getElem?_eq_getElem hjl] at hj ⊢
  simp only [Option.map_some, Option.some.injEq] at hj ⊢
  rw [hj]
theorem mltT_len {m : MultiD} (hm : multiOk m = true) : (mltT m).length ≤ 4000 := by
  obtain ⟨⟨t1, t2⟩, ⟨y1, y2⟩, ⟨s1, s2⟩, hl, _⟩ := multi_all hm
  have key : ∀ (rs : List MRuleD), (∀ r ∈ rs, (10 :: mruT r).length ≤ 60) → (rs.flatMap fun r => 10 :: mruT r).length ≤ 60 * rs.length := by
    intro rs
    induction rs with
    | nil => intro _; simp
    | cons r rs ih =>
      intro h
      have a := h r List.mem_cons_self
      have b := ih fun x hx => h x (List.mem_cons_of_mem _ hx)
      have e : ((r :: rs).flatMap fun r => 10 :: mruT r) = (10 :: mruT r) ++ rs.flatMap fun r => 10 :: mruT r := rfl
      rw [e, List.length_append]
      show _ ≤ 60 * (rs.length + 1)
      omega
  have h1 := key m.rules (fun r hr => by
    obtain ⟨j, hj, rfl⟩ := List.getElem_of_mem hr
    obtain ⟨a, b, c, d, e, _⟩ := mrule_all (multi_rule hm hj)
    exact mruT_len ⟨a.1, by omega⟩ ⟨b.1, by omega⟩ ⟨by omega, by omega, by omega⟩)
  have z0 := itoaS_size (n := m.tp) (by omega) (by omega)
  have z1 := itoaS_size (n := m.sy) (by omega) (by omega)
  have z2 := itoaS_size (n := m.st) (by omega) (by omega)
  rw [itoaS_bs, bs_size] at z0 z1 z2
  unfold mltT
  rw [List.length_append]
  have h2 : (mheT m).length ≤ 60 := by simp [mheT]; omega
  exact Nat.le_trans (Nat.add_le_add h2 h1) (by omega)
set_option maxRecDepth 20000 in
set_option maxHeartbeats 8000000 in
theorem MultiText_c (m : MultiD) (mv : Value) (w : World) (hM : Mult w mv m) (hm : multiOk m = true) (hT : Tab w) :
    Calls Tryz.prog 9 #[mv] w fun e w' => e = .returned (.string (bsS (mltT m))) ∧ Ext w w' := by
  obtain ⟨i0, hi, hz0, hz1, hz2⟩ := info_parts strInfo
  obtain ⟨⟨t1, t2⟩, ⟨y1, y2⟩, ⟨s1, s2⟩, hl, _⟩ := multi_all hm
  obtain ⟨rv, rfl, hR⟩ := id hM
  obtain ⟨A, cA, rfl, _, _⟩ := hR.form
  obtain ⟨g, hg⟩ : ∃ g, w.heap.size = g := ⟨_, rfl⟩
  obtain ⟨V, hV⟩ : ∃ V, V = w.alloc (.cells #[.int .i64 m.tp, .int .i64 m.sy, .int .i64 m.st, .slice A m.rules.length cA] 26) := ⟨_, rfl⟩
  have hX : Ext w V := by rw [hV]; exact Ext.alloc _ _
  have bM : Blk V g 26 #[.int .i64 m.tp, .int .i64 m.sy, .int .i64 m.st, .slice A m.rules.length cA] := by rw [hV]; exact Blk.new _ _ _ _ hg
  have m0 : V.cell? ⟨g, 0, none⟩ = some (.int .i64 m.tp) := bM.cell 0
  have m1 : V.cell? ⟨g, 1, none⟩ = some (.int .i64 m.sy) := bM.cell 1
  have m2 : V.cell? ⟨g, 2, none⟩ = some (.int .i64 m.st) := bM.cell 2
  have m3 : V.cell? ⟨g, 3, none⟩ = some (.slice A m.rules.length cA) := bM.cell 3
  have VM := ValidMulti_c _ m V (hM.ext hX)
  rw [hm] at VM
  have HM := Lib.hid hm
  have HR := Lib.hid hR
  have HTb := Lib.hid hT
  clear hm hM
  go_enter Tryz.func9, Tryz.ntmps9
  go_upto_region 1 with fail
  try rw [← hV]
  try rw [hg]
  clear hV
  go_wp2_with fail
  refine VM.mono ?_
  rintro e w1 ⟨rfl, hx1⟩
  have bM1 := bM.ext hx1
  have bM0 := bM
  have hx1' := hx1
  have m0 : w1.cell? ⟨g, 0, none⟩ = some (.int .i64 m.tp) := bM1.cell 0
  have m1 : w1.cell? ⟨g, 1, none⟩ = some (.int .i64 m.sy) := bM1.cell 1
  have m2 : w1.cell? ⟨g, 2, none⟩ = some (.int .i64 m.st) := bM1.cell 2
  have hX1 := hX.trans hx1
  obtain ⟨W2, hW2⟩ : ∃ W, W = w1.alloc (.cells #[.int .i64 m.tp, .int .i64 m.sy, .int .i64 m.st] 2) := ⟨_, rfl⟩
  have hx2 : Ext w1 W2 := by rw [hW2]; exact Ext.alloc _ _
  obtain ⟨g2, hg2⟩ : ∃ g, w1.heap.size = g := ⟨_, rfl⟩
  have b2 : Blk W2 g2 2 (ivs [m.tp, m.sy, m.st]).toArray := by rw [hW2]; exact Blk.new _ _ _ _ hg2
  have o2 : OwnInts 0 W2 (.slice (some ⟨g2, 0, none⟩) 3 3) [m.tp, m.sy, m.st] := ownsRow_blk 1 3 b2 (Nat.zero_le _) (by simp [ivs]) (by omega)
  have hX2 := hX1.trans hx2
  have DC := decimalsB_c _ _ W2 o2.ints (by simp) (by simp) (fun z hz => by simp at hz; omega) (hT.ext hX2)
  rw [mheT_join, show (⟨(mheT m).toArray⟩ : ByteArray) = bsS (mheT m) from rfl] at DC
  clear VM bM bM1 b2 o2 hx1
  go_wp2_with fail
  try rw [← hW2]
  clear hW2 m0 m1 m2 m3
  refine DC.mono ?_
  rintro e w3 ⟨rfl, hx3⟩
  have hX3 := hX2.trans hx3
  obtain ⟨W4, hW4⟩ : ∃ W, W = w3.alloc (.cells #[.string (bsS (mheT m))] 9) := ⟨_, rfl⟩
  have hx4 : Ext w3 W4 := by rw [hW4]; exact Ext.alloc _ _
  obtain ⟨g4, hg4⟩ : ∃ g, w3.heap.size = g := ⟨_, rfl⟩
  have b4 : Blk W4 g4 9 #[.string (bsS (mheT m))] := by rw [hW4]; exact Blk.new _ _ _ _ hg4
  have hge : w.heap.size ≤ g4 := by have := hX3.size; omega
  have st0 : W4.ownsRow w.heap.size 9 1 (.slice (some ⟨g4, 0, none⟩) 1 1) (0 + 1) (stv (mltP m 0)) := ownsRow_blk 1 1 b4 hge (by simp [stv, mltP]) (by omega)
  have hX4 := hX3.trans hx4
  have n3 : W4.cell? ⟨g, 3, none⟩ = some (.slice A m.rules.length cA) := (bM0.ext (((hx1'.trans hx2).trans hx3).trans hx4)).cell 3
  clear DC b4 hx3 hx4 hx2
  go_upto_region 4 with fail
  try rw [← hW4]
  try rw [hg4]
  clear hW4 hg4
  go_wp2_with fail
  clear n3
  go_loopw [3, 21] (fun l i wr => ∃ (k : Nat) (A' : Option Addr) (c' : Nat), k ≤ m.rules.length ∧ l = .slice A' (k + 1) c' ∧ i = .int .i64 (k : Int) ∧ Ext w wr ∧ wr.ownsRow w.heap.size 9 1 (.slice A' (k + 1) c') (k + 1) (stv (mltP m k))) (fun _ i _ => m.rules.length - (intOf i).toNat)
  case atStart => exact ⟨0, _, _, Nat.zero_le _, rfl, rfl, hX4, st0⟩
  case round =>
    clear st0
    obtain ⟨k, Al, cl, hk, rfl, rfl, hE, st⟩ := hrel
    by_cases hlt : k < m.rules.length
    · obtain ⟨rb, ro, vr, vw, vm, rfl, c0, c1, c2, c3, c4, i1, i2, i3⟩ := (HR.out.ext hE).at hlt
      have hro := mrule_all (multi_rule HM.out hlt)
      have HNX : Hid (stv (mltP m (k + 1)) = stv (mltP m k) ++ [.string (bsS (mruT m.rules[k]))]) := Lib.hid (by
        unfold mltP
        rw [List.take_succ_eq_append_getElem hlt, List.map_append]
        unfold stv
        rw [← List.cons_append, List.map_append]
        rfl)
      obtain ⟨r, hrk⟩ : ∃ r, m.rules[k] = r := ⟨_, rfl⟩
      rw [hrk] at c0 c4 i1 i2 i3 hro HNX
      obtain ⟨⟨q1, q2⟩, ⟨n1, n2⟩, l1, l2, l3, p1, p2, p3⟩ := hro
      obtain ⟨A1, f1, rfl, _, _⟩ := id i1.form
      obtain ⟨A2, f2, rfl, _, _⟩ := id i2.form
      obtain ⟨A3, f3, rfl, _, _⟩ := id i3.form
      obtain ⟨gx, hgx⟩ : ∃ g, wr.heap.size = g := ⟨_, rfl⟩
      obtain ⟨W8, hW8⟩ : ∃ W, W = wr.alloc (.cells #[.int .i64 r.st, .slice A1 r.rd.length f1, .slice A2 r.wr.length f2, .slice A3 r.mv.length f3, .int .i64 r.nx] 64) := ⟨_, rfl⟩
      have e8 : Ext wr W8 := by rw [hW8]; exact Ext.alloc _ _
      have bx8 : Blk W8 gx 64 #[.int .i64 r.st, .slice A1 r.rd.length f1, .slice A2 r.wr.length f2, .slice A3 r.mv.length f3, .int .i64 r.nx] := by rw [hW8]; exact Blk.new _ _ _ _ hgx
      have zD := Ext.drew W8
      have y0 : W8.drew.cell? ⟨gx, 0, none⟩ = some (.int .i64 r.st) := bx8.cell 0
      have y1 : W8.drew.cell? ⟨gx, 1, none⟩ = some (.slice A1 r.rd.length f1) := bx8.cell 1
      have y2 : W8.drew.cell? ⟨gx, 2, none⟩ = some (.slice A2 r.wr.length f2) := bx8.cell 2
      have y3 : W8.drew.cell? ⟨gx, 3, none⟩ = some (.slice A3 r.mv.length f3) := bx8.cell 3
      have y4 : W8.drew.cell? ⟨gx, 4, none⟩ = some (.int .i64 r.nx) := bx8.cell 4
      have hE8 : Ext w W8.drew := (hE.trans e8).trans zD
      have st8 := ownsRow_ext st (e8.trans zD)
      have j1 := i1.ext (e8.trans zD)
      have j2 := i2.ext (e8.trans zD)
      have j3 := i3.ext (e8.trans zD)
      have E0 := fun W (h : Ext W8.drew W) => Decimal_c r.st W (by omega) (by omega) (HTb.out.ext (hE8.trans h))
      have E4 := fun W (h : Ext W8.drew W) => Decimal_c r.nx W (by omega) (by omega) (HTb.out.ext (hE8.trans h))
      have E1 := fun W (h : Ext W8.drew W) => digitsText_c _ _ W (j1.ext h) (fun z hz => by have := p1 z hz; omega) (by omega)
      have E2 := fun W (h : Ext W8.drew W) => digitsText_c _ _ W (j2.ext h) (fun z hz => by have := p2 z hz; omega) (by omega)
      have E3 := fun W (h : Ext W8.drew W) => movesText_c _ _ W (j3.ext h) (fun z hz => by have := p3 z hz; omega) (by omega)
      clear hrk i1 i2 i3 j1 j2 j3 st
      go_wp2_with fail
      try rw [hgx]
      try rw [← hW8]
      clear hW8 hgx c0 c1 c2 c3 c4
      refine wp_region_ordT 19 (readsT [0, 1, 2, 4, 5, 7, 8, 10, 11, 13, 14] (.stir 3 (.stir 6 (.stir 9 (.stir 12 (.stir 15 (.stir 16 (.stir 17 (.stir 18 .done))))))))) (by kernel_rfl) (by kernel_rfl) (fun _ _ _ _ _ h => h) ?_
      simp only [readsT]
      iterate 11 (refine wpOrdT_read (v := ?_) (by rfl) (Or.inl ⟨by rfl, fun x hx => ?_⟩) ?_; rotate_left; (· have a1 := hx.cell y0; have a2 := hx.cell y1; have a3 := hx.cell y2; have a4 := hx.cell y3; have a5 := hx.cell y4; go_simp; try with_reducible rfl); try simp only [Act.put, List.setIfInBounds_toArray, List.set_cons_zero, List.set_cons_succ])
      refine wpOrdT_stir (by rfl) (fun K hK => ?_)
      go_simp
      go_at_call 30
      refine (E0 _ (Ext.refl _)).mono ?_
      rintro e wa ⟨rfl, hwa⟩
      refine hK _ _ hwa ?_
      clear hK K
      try simp only [Act.put, List.setIfInBounds_toArray, List.set_cons_zero, List.set_cons_succ]
      refine wpOrdT_stir (by rfl) (fun K hK => ?_)
      go_simp
      go_at_call 31
      refine (E1 _ hwa).mono ?_
      rintro e wb ⟨rfl, hwb⟩
      refine hK _ _ hwb ?_
      clear hK K
      try simp only [Act.put, List.setIfInBounds_toArray, List.set_cons_zero, List.set_cons_succ]
      refine wpOrdT_stir (by rfl) (fun K hK => ?_)
      go_simp
      go_at_call 31
      refine (E2 _ (hwa.trans hwb)).mono ?_
      rintro e wc ⟨rfl, hwc⟩
      refine hK _ _ hwc ?_
      clear hK K
      try simp only [Act.put, List.setIfInBounds_toArray, List.set_cons_zero, List.set_cons_succ]
      refine wpOrdT_stir (by rfl) (fun K hK => ?_)
      go_simp
      go_at_call 32
      refine (E3 _ ((hwa.trans hwb).trans hwc)).mono ?_
      rintro e wd ⟨rfl, hwd⟩
      refine hK _ _ hwd ?_
      clear hK K
      try simp only [Act.put, List.setIfInBounds_toArray, List.set_cons_zero, List.set_cons_succ]
      refine wpOrdT_stir (by rfl) (fun K hK => ?_)
      go_simp
      go_at_call 30
      refine (E4 _ (((hwa.trans hwb).trans hwc).trans hwd)).mono ?_
      rintro e we ⟨rfl, hwe⟩
      refine hK _ _ hwe ?_
      clear hK K
      try simp only [Act.put, List.setIfInBounds_toArray, List.set_cons_zero, List.set_cons_succ]
      have eB := Ext.alloc we (.cells #[.string (itoaS r.st), .string ⟨(digB r.rd).toArray⟩, .string ⟨(digB r.wr).toArray⟩, .string ⟨(mvB r.mv).toArray⟩, .string (itoaS r.nx)] 9)
      refine wpOrdT_stir (by rfl) (fun K hK => ?_)
      go_simp
      refine hK _ _ eB ?_
      clear hK K
      try simp only [Act.put, List.setIfInBounds_toArray, List.set_cons_zero, List.set_cons_succ]
      obtain ⟨gB, hgB⟩ : ∃ g, we.heap.size = g := ⟨_, rfl⟩
      obtain ⟨WB, hWB⟩ : ∃ W, W = we.alloc (.cells #[.string (itoaS r.st), .string ⟨(digB r.rd).toArray⟩, .string ⟨(digB r.wr).toArray⟩, .string ⟨(mvB r.mv).toArray⟩, .string (itoaS r.nx)] 9) := ⟨_, rfl⟩
      have bB : Blk WB gB 9 #[.string (itoaS r.st), .string ⟨(digB r.rd).toArray⟩, .string ⟨(digB r.wr).toArray⟩, .string ⟨(mvB r.mv).toArray⟩, .string (itoaS r.nx)] := by rw [hWB]; exact Blk.new _ _ _ _ hgB
      try rw [← hWB]
      try rw [← hWB] at eB
      try rw [hgB]
      clear hWB
      have hcells : ∀ (j : Nat) s, [itoaS r.st, bsS (digB r.rd), bsS (digB r.wr), bsS (mvB r.mv), itoaS r.nx][j]? = some s → WB.cell? ⟨gB, 0 + j, none⟩ = some (.string s) := by
        intro j s hj
        rw [Nat.zero_add, bB.cell]
        match j, hj with
        | 0, hj => simp at hj; subst hj; rfl
        | 1, hj => simp at hj; subst hj; rfl
        | 2, hj => simp at hj; subst hj; rfl
        | 3, hj => simp at hj; subst hj; rfl
        | 4, hj => simp at hj; subst hj; rfl
      have ej : [itoaS r.st, bsS (digB r.rd), bsS (digB r.wr), bsS (mvB r.mv), itoaS r.nx].map (·.data.toList) = [Lib.itoa r.st, digB r.rd, digB r.wr, mvB r.mv, Lib.itoa r.nx] := by simp [itoaS, bsS]
      have hTl := mruT_len (r := r) (by omega) (by omega) (by omega)
      have eJ : Lib.join ([itoaS r.st, bsS (digB r.rd), bsS (digB r.wr), bsS (mvB r.mv), itoaS r.nx].map (·.data.toList)) (⟨#[32]⟩ : ByteArray).data.toList = mruT r := by rw [ej]; exact mruT_join r
      have hj := Tryz.strings_Join gB 0 5 [itoaS r.st, bsS (digB r.rd), bsS (digB r.wr), bsS (mvB r.mv), itoaS r.nx] ⟨#[32]⟩ WB hcells bB.lt (by simp) (by simp) (by rw [eJ]; simp at hTl; omega)
      rw [eJ] at hj
      clear hcells ej eJ
      refine wpOrdT_stir (by rfl) (fun K hK => ?_)
      go_simp
      refine hj.mono ?_
      rintro e wj ⟨rfl, hbj⟩
      have hxj : Ext WB wj := hbj
      refine hK _ _ hxj ?_
      clear hK K
      try simp only [Act.put, List.setIfInBounds_toArray, List.set_cons_zero, List.set_cons_succ]
      have eC := Ext.alloc wj (.cells #[.string ⟨(mruT r).toArray⟩] 9)
      refine wpOrdT_stir (by rfl) (fun K hK => ?_)
      go_simp
      refine hK _ _ eC ?_
      clear hK K
      try simp only [Act.put, List.setIfInBounds_toArray, List.set_cons_zero, List.set_cons_succ]
      refine wpOrdT_done ?_
      try simp only [List.drop_succ_cons, List.drop_zero]
      have hXX : Ext W8.drew wj := ((((hwa.trans hwb).trans hwc).trans hwd).trans hwe).trans (eB.trans hxj)
      have st9 := ownsRow_ext st8 hXX
      have hs9 : w.heap.size ≤ wj.heap.size := (hE8.trans hXX).size
      have HX9 := Lib.hid ((hE8.trans hXX).trans eC)
      clear E0 E1 E2 E3 E4 y0 y1 y2 y3 y4 bx8 st8 hj bB eB hwa hwb hwc hwd hwe hbj hxj hXX
      go_wp2_with (at_builtin; refine wpList_append_own_at _ rfl _ _ 59 rfl w.heap.size 9 i0 (.string ⟨#[]⟩) 1 16 Tryz.underlying59 hi hz0 hz1 hz2 rfl (by decide) _ _ _ rfl (st9.alloc _) ⟨wj.heap.size, 0, none⟩ 1 1 [.string ⟨(mruT r).toArray⟩] rfl rfl (cell_one_new _ _ _) ?c2 ?c3 ?c4 ?c5 ?_)
      case c2 => intro u hu; simp at hu; subst hu; rfl
      case c3 => unfold maxLen; omega
      case c4 => omega
      case c5 => simp; omega
      intro v' w9 hown9 hg9 _ _
      obtain ⟨A9, c9, rfl, _, _, _⟩ := (ownsRow_row hown9).form
      have hX9 : Ext w w9 := HX9.out.grown hg9 (fun b hb => (st9.lt b hb).1)
      have st10 : w9.ownsRow w.heap.size 9 1 (.slice A9 (k + 1 + 1) c9) (k + 1 + 1) (stv (mltP m (k + 1))) := by rw [HNX.out, hg]; exact hown9
      clear hown9 hg9 st9 eC
      go_wp2_with fail
      go_roundw
      case rel => exact ⟨k + 1, A9, c9, by omega, rfl, by go_num, hX9, st10⟩
      case measure => simp [intOf]; omega
    · obtain rfl : k = m.rules.length := by omega
      obtain ⟨_, _, e', c1, _, _⟩ := (ownsRow_row st).form
      cases e'
      obtain ⟨gz, rfl, hbz, hgz⟩ := own_at st (by omega)
      have hcells := stv_own st (by simp [mltP])
      have ej : ((mltP m m.rules.length).map bsS).map (·.data.toList) = mltP m m.rules.length := bs_list _
      have eJ : Lib.join (((mltP m m.rules.length).map bsS).map (·.data.toList)) (⟨#[10]⟩ : ByteArray).data.toList = mltT m := by rw [ej]; exact mltP_join m
      have hml := mltT_len HM.out
      have hll : ((mltP m m.rules.length).map bsS).length = m.rules.length + 1 := by simp [mltP]
      have hj := Tryz.strings_Join gz 0 cl ((mltP m m.rules.length).map bsS) ⟨#[10]⟩ wr hcells hgz (by omega) (by omega) (by rw [eJ]; omega)
      rw [eJ, hll] at hj
      clear hcells ej eJ hml hll st
      go_wp2_with fail
      refine hj.mono ?_
      rintro e wz ⟨rfl, hbz⟩
      have hxz : Ext wr wz := hbz
      clear hj
      go_wp2_with fail
      go_ret
      exact ⟨rfl, hE.trans hxz⟩
end Go.Proofs.YtkbpchdncljlbaaGreatDoor
end
