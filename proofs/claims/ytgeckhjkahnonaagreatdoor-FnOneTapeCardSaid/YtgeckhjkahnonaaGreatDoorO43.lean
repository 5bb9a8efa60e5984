/- Contracts of the reference's test of a configuration, and of its maker of the machine on one half of the tape. The machine is valid.
Contract of the reference's copy of a configuration; words for the list of a run's configurations.
Words for a list of texts and a code, as a call gives them. -/
import Derived.Test.YtgeckhjkahnonaaGreatDoorO11
import Derived.Test.YtgeckhjkahnonaaGreatDoorO07
import Derived.Maps.AppendAt
import Derived.Test.YtgeckhjkahnonaaGreatDoorO04
import Derived.Test.YtgeckhjkahnonaaGreatDoorO41
import Derived.Test.YtgeckhjkahnonaaGreatDoorO42
import Derived.Test.YtgeckhjkahnonaaGreatDoorO29
import Derived.Test.YtgeckhjkahnonaaGreatDoorO16
import Derived.Test.YtgeckhjkahnonaaGreatDoorO05
section
set_option linter.unusedSimpArgs false
set_option linter.unusedVariables false
namespace Go.Proofs.YtgeckhjkahnonaaGreatDoor
open Go Go.RowKit Go.Proofs
set_option maxHeartbeats 400000
/-- A configuration behind a pointer. -/
def ConfP (w : World) (b : Nat) (c : ConfD) : Prop := ∃ lv rv, w.cell? ⟨b, 0, none⟩ = some (.int .i64 c.q) ∧ w.cell? ⟨b, 1, none⟩ = some lv ∧ w.cell? ⟨b, 2, none⟩ = some rv ∧ Ints w lv c.l ∧ Ints w rv c.r
theorem ConfP.ext {w w' : World} {b : Nat} {c : ConfD} (h : ConfP w b c) (he : Ext w w') : ConfP w' b c := by
  obtain ⟨lv, rv, h1, h2, h3, h4, h5⟩ := h
  exact ⟨lv, rv, he.cell h1, he.cell h2, he.cell h3, h4.ext he, h5.ext he⟩
end Go.Proofs.YtgeckhjkahnonaaGreatDoor
end
section
set_option linter.unusedSimpArgs false
set_option linter.unusedVariables false
namespace Go.Proofs.YtgeckhjkahnonaaGreatDoor
open Go Go.RowKit Go.Proofs
set_option maxHeartbeats 400000
theorem run_confM {M : MachD} (hm : machOk M = true) {x : ConfD} (hx : confB M x = true) {i : Nat} (h : RunsTo M x i) : confB M (cfgI M x i) = true := by
  obtain ⟨hg, hf, ht⟩ := conf_good hx
  refine conf_back (cfg_good hm hg i h.no) ?_ (tidy_cfg ht i)
  have := h.fit i (Nat.le_refl _)
  simpa [fitI] using this
/-- The cells of a configuration whose sides are values. -/
def triC (q : Int) (u : Value × Value) : List Value := [.int .i64 q, u.1, u.2]
theorem tri_len {α : Type} (f : Nat → List α) (h : ∀ i, (f i).length = 3) (n : Nat) : ((List.range n).flatMap f).length = n * 3 := by
  induction n with
  | zero => rfl
  | succ n ih => rw [List.range_succ, List.flatMap_append, List.length_append, ih]; simp [h]; omega
theorem tri_get {α : Type} (f : Nat → List α) (h : ∀ i, (f i).length = 3) (n i j : Nat) (hi : i < n) (hj : j < 3) : ((List.range n).flatMap f)[i * 3 + j]? = (f i)[j]? := by
  induction n with
  | zero => omega
  | succ n ih =>
    rw [List.range_succ, List.flatMap_append]
    by_cases c : i < n
    · rw [List.getElem?_append_left (by rw [tri_len f h]; omega)]; exact ih c
    · have : i = n := by omega
      subst this
      rw [List.getElem?_append_right (by rw [tri_len f h]; omega), tri_len f h]
      simp
theorem ownrow_ne {w : World} {b1 b2 s1 s2 n1 n2 : Nat} {e1 e2 : TypeId} {v1 v2 : Value} {x1 x2 : List Value} (h1 : w.ownsRow b1 e1 s1 v1 n1 x1) (h2 : w.ownsRow b2 e2 s2 v2 n2 x2) (he : e1 ≠ e2) : ∀ g, v1.ownBlock = some g → v2.ownBlock ≠ some g := by
  intro g hg1 hg2
  rcases h1.2 with ⟨rfl, _⟩ | ⟨g1, c1, cur1, rfl, _, hh1, _⟩
  · simp [Value.ownBlock] at hg1
  · rcases h2.2 with ⟨rfl, _⟩ | ⟨g2, c2, cur2, rfl, _, hh2, _⟩
    · simp [Value.ownBlock] at hg2
    · simp [Value.ownBlock] at hg1 hg2
      subst hg1
      subst hg2
      rw [hh1] at hh2
      cases hh2
      exact he rfl
/-- The list of a run's configurations. -/
structure CfL (base : Nat) (W : World) (M : MachD) (x : ConfD) (vs : Nat → Value × Value) (tv : Value) (n : Nat) : Prop where
  own : W.ownsRow base 60 3 tv n ((List.range n).flatMap fun i => triC (cfgI M x i).q (vs i))
  sides : ∀ i, i < n → ∃ bl br, OwnInts bl W (vs i).1 (cfgI M x i).l ∧ OwnInts br W (vs i).2 (cfgI M x i).r
section
variable {base : Nat} {W W' : World} {M : MachD} {x : ConfD} {vs : Nat → Value × Value} {tv : Value} {n : Nat}
theorem CfL.ext (h : CfL base W M x vs tv n) (he : Ext W W') : CfL base W' M x vs tv n :=
  ⟨ownsRow_ext h.own he, fun i hi => by obtain ⟨bl, br, h1, h2⟩ := h.sides i hi; exact ⟨bl, br, h1.ext he, h2.ext he⟩⟩
theorem CfL.set (h : CfL base W M x vs tv n) {p : Addr} {cs : Array Value} (hb : Blk W p.block 60 cs) (hn : tv.ownBlock ≠ some p.block) (u : Value) : CfL base (W.setCell p u) M x vs tv n :=
  ⟨ownsRow_far h.own (fun k hk e => hn (by rw [← e]; exact hk)) u, fun i hi => by
    obtain ⟨bl, br, h1, h2⟩ := h.sides i hi
    exact ⟨bl, br, ownsRow_far h1 (own_far_blk h1 hb (by decide)) u, ownsRow_far h2 (own_far_blk h2 hb (by decide)) u⟩⟩
theorem tri_same (M : MachD) (x : ConfD) (vs : Nat → Value × Value) (u : Value × Value) (n : Nat) : ∀ m, m ≤ n → (List.range m).flatMap (fun i => triC (cfgI M x i).q (if i = n then u else vs i)) = (List.range m).flatMap (fun i => triC (cfgI M x i).q (vs i)) := by
  intro m
  induction m with
  | zero => intro _; rfl
  | succ m ih =>
    intro hm
    rw [List.range_succ, List.flatMap_append, List.flatMap_append, ih (by omega)]
    have : m ≠ n := by omega
    simp [this]
theorem CfL.push (h : CfL base W M x vs tv n) {v' lv rv : Value} {bl br : Nat} (hg : W.grownBy W' tv.ownBlock) (ho : W'.ownsRow base 60 3 v' (n + 1) (((List.range n).flatMap fun i => triC (cfgI M x i).q (vs i)) ++ triC (cfgI M x n).q (lv, rv)))
    (hl : OwnInts bl W lv (cfgI M x n).l) (hr : OwnInts br W rv (cfgI M x n).r) : CfL base W' M x (fun i => if i = n then (lv, rv) else vs i) v' (n + 1) := by
  have hs : ∀ {b : Nat} {v : Value} {zs : List Int}, OwnInts b W v zs → OwnInts b W' v zs := fun {b v zs} o => own_same o (fun g hgl => hg.block g (o.lt g hgl).2 (fun e => ownrow_ne o h.own (by decide) g hgl e.symm))
  refine ⟨?_, fun i hi => ?_⟩
  · have e : (List.range (n + 1)).flatMap (fun i => triC (cfgI M x i).q (if i = n then (lv, rv) else vs i)) = ((List.range n).flatMap fun i => triC (cfgI M x i).q (vs i)) ++ triC (cfgI M x n).q (lv, rv) := by
      rw [List.range_succ, List.flatMap_append, tri_same M x vs (lv, rv) n n (Nat.le_refl _)]
      simp
    rw [e]
    exact ho
  · by_cases c : i = n
    · subst c
      simp only [if_pos]
      exact ⟨bl, br, hs hl, hs hr⟩
    · simp only [if_neg c]
      obtain ⟨b1, b2, h1, h2⟩ := h.sides i (by omega)
      exact ⟨b1, b2, hs h1, hs h2⟩
/-- The cells of one of them. -/
theorem CfL.at (h : CfL base W M x vs tv n) {i : Nat} (hi : i < n) : ∃ g c, tv = .slice (some ⟨g, 0, none⟩) n c ∧ W.cell? ⟨g, i * 3, none⟩ = some (.int .i64 (cfgI M x i).q) ∧ W.cell? ⟨g, i * 3 + 1, none⟩ = some (vs i).1 ∧ W.cell? ⟨g, i * 3 + 2, none⟩ = some (vs i).2 := by
  have hf : ∀ i, (triC (cfgI M x i).q (vs i)).length = 3 := fun _ => rfl
  have key : ∀ j, j < 3 → i * 3 + j < n * 3 := fun j hj => by omega
  obtain ⟨A, c, rfl, _, _, _⟩ := (ownsRow_row h.own).form
  obtain ⟨g, rfl, _, _⟩ := own_at h.own (by omega)
  refine ⟨g, c, rfl, ?_, ?_, ?_⟩
  · have := tri_get (fun i => triC (cfgI M x i).q (vs i)) hf n i 0 hi (by omega)
    rw [Nat.add_zero] at this
    rw [h.own.cellAt (i * 3) (key 0 (by omega)), this]; rfl
  · rw [h.own.cellAt (i * 3 + 1) (key 1 (by omega)), tri_get (fun i => triC (cfgI M x i).q (vs i)) hf n i 1 hi (by omega)]; rfl
  · rw [h.own.cellAt (i * 3 + 2) (key 2 (by omega)), tri_get (fun i => triC (cfgI M x i).q (vs i)) hf n i 2 hi (by omega)]; rfl
end
end Go.Proofs.YtgeckhjkahnonaaGreatDoor
end
section
set_option linter.unusedSimpArgs false
set_option linter.unusedVariables false
namespace Go.Proofs.YtgeckhjkahnonaaGreatDoor
open Go Go.RowKit Go.Proofs
/-- A list of texts and a code, as a call gives them. -/
def TxRes (w : World) (S : List (List UInt8) → Int → Prop) (e : Ending) (w' : World) : Prop :=
  ∃ L kk tv, e = .returned (.tuple #[tv, .int .i64 kk]) ∧ w'.ownsRow w.heap.size 9 1 tv L.length (svB L) ∧ S L kk ∧ Ext w w'
theorem TxRes.none {w w' : World} {S : List (List UInt8) → Int → Prop} {k : Int} (hS : S [] k) (hX : Ext w w') : TxRes w S (.returned (.tuple #[.slice none 0 0, .int .i64 k])) w' :=
  ⟨[], k, _, rfl, World.ownsRow_nil .., hS, hX⟩
end Go.Proofs.YtgeckhjkahnonaaGreatDoor
end
