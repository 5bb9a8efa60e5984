/- Contracts of the reference's rules of two tapes, of its copier and its machine of palindromes; inserting keeps rules in order.
Contracts of the reference's copier and of its machine of palindromes.
Contract of the reference's step of a configuration with several tapes. -/
import Derived.Test.YtgeckhjkahnonaaGreatDoorO36
import Derived.Test.YtgeckhjkahnonaaGreatDoorO05
import Derived.Test.YtgeckhjkahnonaaGreatDoorO22
import Derived.Test.YtgeckhjkahnonaaGreatDoorO03
import Derived.Maps.AppendAt
import Derived.Laws.AppendOwnNone
import Derived.Test.YtgeckhjkahnonaaGreatDoorO16
import Derived.Deep.CutBlock
import Derived.Deep.DeepCutAuto
import Derived.Test.YtgeckhjkahnonaaGreatDoorO20
import Derived.Test.YtgeckhjkahnonaaGreatDoorO34
import Derived.Test.YtgeckhjkahnonaaGreatDoorO19
section
set_option linter.unusedVariables false
set_option linter.unusedSimpArgs false
namespace Go.Proofs.YtgeckhjkahnonaaGreatDoor
open Go Go.RowKit Go.Proofs Go.Maps
set_option maxHeartbeats 400000
/-- Rules in strict order. -/
def StrictM (rs : List MRuleD) : Prop := rs.Pairwise fun a b => cmpM a b < 0
theorem multi_strict {m : MultiD} (h1 : inB m.tp 2 3 = true) (h2 : inB m.sy 2 3 = true) (h3 : inB m.st 1 16 = true) (h4 : m.rules.length ≤ 60) (h5 : ∀ r ∈ m.rules, mruleOk m r = true) (h6 : StrictM m.rules) : multiOk m = true :=
  multi_of h1 h2 h3 h4 h5 fun k h0 hk => by
    have := List.pairwise_iff_getElem.1 h6 (k - 1) k (by omega) hk (by omega)
    rwa [getD_mr hk, getD_mr (show k - 1 < m.rules.length by omega)]
theorem OwnRul.low {base base' : Nat} {w : World} {v : Value} {r : MRuleD} (h : OwnRul base w v r) (hb : base' ≤ base) : OwnRul base' w v r := by
  obtain ⟨vr, vw, vm, e, o1, o2, o3⟩ := h
  exact ⟨vr, vw, vm, e, ownsRow_base o1 hb, ownsRow_base o2 hb, ownsRow_base o3 hb⟩
end Go.Proofs.YtgeckhjkahnonaaGreatDoor
end
section
set_option linter.unusedVariables false
set_option linter.unusedSimpArgs false
namespace Go.Proofs.YtgeckhjkahnonaaGreatDoor
open Go Go.RowKit Go.Proofs Go.Maps
set_option maxHeartbeats 400000
/-- A machine under construction: its block, that of the result, its rules. -/
structure OutM (w : World) (base g gO : Nat) (tp sy st : Int) (rs : List MRuleD) (v : Value) (wr : World) : Prop where
  out : Blk wr gO 26 #[.int .i64 0, .int .i64 0, .int .i64 0, .slice none 0 0]
  cur : Blk wr g 26 #[.int .i64 tp, .int .i64 sy, .int .i64 st, v]
  own : OwnMR base wr v rs
  ext : Ext w wr
theorem OutM.c3 {w : World} {base g gO : Nat} {tp sy st : Int} {rs : List MRuleD} {v : Value} {wr : World} (h : OutM w base g gO tp sy st rs v wr) : wr.cell? ⟨g, 3, none⟩ = some v := h.cur.cell 3
theorem OutM.step {w : World} {base g gO : Nat} {tp sy st : Int} {rs rs' : List MRuleD} {v v' : Value} {wr w' : World} (h : OutM w base g gO tp sy st rs v wr) (hne : gO ≠ g) (hw : w.heap.size ≤ base) (hg0 : w.heap.size ≤ g) (ho : OwnMR base w' v' rs') (hg : wr.grownBy w' v.ownBlock) :
    Blk w' g 26 #[.int .i64 tp, .int .i64 sy, .int .i64 st, v] ∧ OutM w base g gO tp sy st rs' v' (w'.setCell ⟨g, 3, none⟩ v') := by
  obtain ⟨cl, h1, h2⟩ := h.own
  have b1 := Blk.apart h.cur h1 (by decide) hg
  have b2 := Blk.apart h.out h1 (by decide) hg
  have hx : Ext w w' := h.ext.grown hg (fun q hq => by have := (h1.lt q hq).1; omega)
  exact ⟨b1, b2.far (p := ⟨g, 3, none⟩) hne _, b1.set_ 3 v', ho.far b1 (by decide) (by decide) 3 v', hx.setCell (p := ⟨g, 3, none⟩) hg0 v'⟩
theorem OutM.done {w : World} {base g gO : Nat} {tp sy st : Int} {rs : List MRuleD} {v : Value} {wr : World} (h : OutM w base g gO tp sy st rs v wr) (hw : w.heap.size ≤ base) (hg0 : w.heap.size ≤ gO) (u0 u1 u2 u3 : Value) :
    OwnMR w.heap.size ((((wr.setCell ⟨gO, 0, none⟩ u0).setCell ⟨gO, 1, none⟩ u1).setCell ⟨gO, 2, none⟩ u2).setCell ⟨gO, 3, none⟩ u3) v rs ∧ Ext w ((((wr.setCell ⟨gO, 0, none⟩ u0).setCell ⟨gO, 1, none⟩ u1).setCell ⟨gO, 2, none⟩ u2).setCell ⟨gO, 3, none⟩ u3) := by
  have b0 := h.out
  have b1 := b0.set_ 0 u0
  have b2 := b1.set_ 1 u1
  have b3 := b2.set_ 2 u2
  exact ⟨((((h.own.far b0 (by decide) (by decide) 0 u0).far b1 (by decide) (by decide) 1 u1).far b2 (by decide) (by decide) 2 u2).far b3 (by decide) (by decide) 3 u3).base hw,
    (((h.ext.setCell (p := ⟨gO, 0, none⟩) hg0 u0).setCell (p := ⟨gO, 1, none⟩) hg0 u1).setCell (p := ⟨gO, 2, none⟩) hg0 u2).setCell (p := ⟨gO, 3, none⟩) hg0 u3⟩
end Go.Proofs.YtgeckhjkahnonaaGreatDoor
end
section
set_option linter.unusedVariables false
set_option linter.unusedSimpArgs false
namespace Go.Proofs.YtgeckhjkahnonaaGreatDoor
open Go Go.RowKit Go.Proofs Go.Maps
set_option maxHeartbeats 400000
/-- The cells of tapes, whose sides are rows of their own. -/
def TCells (base : Nat) (w : World) (cl : List Value) (ts : List TapeD) : Prop :=
  cl.length = ts.length * 2 ∧ ∀ i, (h : i < ts.length) → ∃ lv rv, cl[i * 2]? = some lv ∧ cl[i * 2 + 1]? = some rv ∧ OwnInts base w lv ts[i].l ∧ OwnInts base w rv ts[i].r
theorem TCells.nil (base : Nat) (w : World) : TCells base w [] [] := ⟨rfl, fun i h => by simp at h⟩
theorem TCells.snoc {base : Nat} {w : World} {cl : List Value} {ts : List TapeD} {t : TapeD} {lv rv : Value} (h : TCells base w cl ts) (h1 : OwnInts base w lv t.l) (h2 : OwnInts base w rv t.r) : TCells base w (cl ++ [lv, rv]) (ts ++ [t]) := by
  obtain ⟨a, b⟩ := h
  refine ⟨by simp [a]; omega, fun i hi => ?_⟩
  by_cases hlt : i < ts.length
  · obtain ⟨x, y, c0, c1, o⟩ := b i hlt
    refine ⟨x, y, by rw [List.getElem?_append_left (by omega), c0], by rw [List.getElem?_append_left (by omega), c1], ?_⟩
    rw [List.getElem_append_left hlt]
    exact o
  · obtain rfl : i = ts.length := by simp at hi; omega
    refine ⟨lv, rv, by rw [List.getElem?_append_right (by omega)]; simp [a], by rw [List.getElem?_append_right (by omega)]; simp [a], ?_⟩
    rw [List.getElem_append_right (by omega)]
    simpa using ⟨h1, h2⟩
theorem TCells.ext {base : Nat} {w w' : World} {cl : List Value} {ts : List TapeD} (h : TCells base w cl ts) (he : Ext w w') : TCells base w' cl ts :=
  ⟨h.1, fun i hi => by
    obtain ⟨x, y, c0, c1, o1, o2⟩ := h.2 i hi
    exact ⟨x, y, c0, c1, OwnInts.ext o1 he, OwnInts.ext o2 he⟩⟩
theorem TCells.same {base : Nat} {w w' : World} {cl : List Value} {ts : List TapeD} (h : TCells base w cl ts) (hs : ∀ g cs, Blk w g 2 cs → w'.heap[g]? = w.heap[g]?) : TCells base w' cl ts := by
  have hi : ∀ {u : Value} {zs : List Int}, OwnInts base w u zs → OwnInts base w' u zs := fun {u zs} o => own_same o (fun g hg => by
    rcases o.2 with ⟨rfl, _⟩ | ⟨g', cap, cur, rfl, _, hh, _⟩
    · simp [Value.ownBlock] at hg
    · simp [Value.ownBlock] at hg
      subst hg
      exact hs _ _ hh)
  refine ⟨h.1, fun i hi' => ?_⟩
  obtain ⟨x, y, c0, c1, o1, o2⟩ := h.2 i hi'
  exact ⟨x, y, c0, c1, hi o1, hi o2⟩
/-- Tapes in a row of their own. -/
def OwnT (base : Nat) (w : World) (v : Value) (ts : List TapeD) : Prop := ∃ cl, w.ownsRow base 91 2 v ts.length cl ∧ TCells base w cl ts
theorem OwnT.ext {base : Nat} {w w' : World} {v : Value} {ts : List TapeD} (h : OwnT base w v ts) (he : Ext w w') : OwnT base w' v ts := by
  obtain ⟨cl, a, b⟩ := h
  exact ⟨cl, ownsRow_ext a he, b.ext he⟩
theorem OwnT.form {base : Nat} {w : World} {v : Value} {ts : List TapeD} (h : OwnT base w v ts) : ∃ A c, v = .slice A ts.length c ∧ ts.length ≤ c ∧ c ≤ 9223372036854775807 := by
  obtain ⟨cl, h1, h2⟩ := h
  obtain ⟨A, c, e, a, b, _⟩ := (ownsRow_row h1).form
  exact ⟨A, c, e, a, b⟩
theorem OwnT.far {base : Nat} {w : World} {v : Value} {ts : List TapeD} (h : OwnT base w v ts) {g : Nat} {t : TypeId} {cs : Array Value} (hb : Blk w g t cs) (h1 : t ≠ 91) (h2 : t ≠ 2) (i : Nat) (u : Value) : OwnT base (w.setCell ⟨g, i, none⟩ u) v ts := by
  obtain ⟨cl, ho, hc⟩ := h
  exact ⟨cl, own_kept ho (grownBy_setCell w ⟨g, i, none⟩ u) (blk_ne_row hb ho h1), hc.same fun q cs' hq => Below.heap_setCell w _ u q (by exact blk_ne hq hb (fun e => h2 e.symm))⟩
theorem OwnT.tapes {base : Nat} {w : World} {v : Value} {ts : List TapeD} (h : OwnT base w v ts) : Tapes w v ts := by
  obtain ⟨cl, h1, h2⟩ := h
  obtain ⟨A, c, rfl, a, b, hr⟩ := ownsRow_row h1
  refine ⟨A, c, rfl, a, b, fun hn => ?_⟩
  obtain ⟨g, off, rfl, hc⟩ := hr.2 hn
  refine ⟨g, off, rfl, fun i hi => ?_⟩
  obtain ⟨x, y, c0, c1, o1, o2⟩ := h2.2 i hi
  have hl := h2.1
  exact ⟨x, y, (hc _ (by omega)).trans c0, by rw [Nat.add_assoc]; exact (hc _ (by omega)).trans c1, o1.ints, o2.ints⟩
end Go.Proofs.YtgeckhjkahnonaaGreatDoor
end
