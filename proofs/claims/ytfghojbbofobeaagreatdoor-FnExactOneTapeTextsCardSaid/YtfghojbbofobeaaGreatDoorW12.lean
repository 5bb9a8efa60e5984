/- A region that draws its order, walked along a tree of orders: the reading operations first; where two operations that stir memory may come up, both are followed. No program stands here.
The program's table of what the rules of a machine with several tapes read.
Contracts of what the program's machine with one tape does in its places. The machine with several tapes is valid, and its table lies in memory. -/
import Derived.Test.YtfghojbbofobeaaGreatDoorW11
import Derived.Laws.IdiomCopy
import Derived.Laws.CopyRow
import Derived.Lib.SlBuf
import Derived.Test.YtfghojbbofobeaaGreatDoorW10
import Derived.Deep.CutBlock
import Derived.Deep.DeepCutAuto
section
namespace Go.Proofs.YtfghojbbofobeaaGreatDoor
open Go
section
variable {P : Program} {ops : Array Oper} {md : Region.Mode} {Q : Exit → Act → World → Prop}
inductive OrdT where
  | done
  | read (i : Nat) (t : OrdT)
  | stir (i : Nat) (t : OrdT)
  | fork (i : Nat) (t : OrdT) (j : Nat) (u : OrdT)
def readsT : List Nat → OrdT → OrdT
  | [], t => t
  | i :: is, t => .read i (readsT is t)
def nthO : List Oper → Nat → Option Oper
  | [], _ => none
  | o :: _, 0 => some o
  | _ :: l, i + 1 => nthO l i
theorem nthO_eq : ∀ (l : List Oper) (i : Nat), nthO l i = l[i]?
  | [], _ => rfl
  | _ :: _, 0 => rfl
  | _ :: l, i + 1 => by simpa [nthO] using nthO_eq l i
/-- One that stirs comes up; behind it the class of worlds may become narrower. -/
def stirT (P : Program) (ops : Array Oper) (Q : Exit → Act → World → Prop) (X : (World → Prop) → Act → World → Prop) (o : Oper) (S : World → Prop) (a : Act) (w : World) : Prop :=
  ∀ K : Act → World → Prop, (∀ (S' : World → Prop) a' w', (∀ x, S' x → S x) → S' w' → X S' a' w' → K a' w') →
      if Region.wanted o (yielded ops a.tmps) = true then Oper.wp P o a w K Q else K (a.put o.dst undef) w
def wpOrdT (P : Program) (ops : Array Oper) (Q : Exit → Act → World → Prop) (l : List Oper) (L : Act → World → Prop) : OrdT → (World → Prop) → Act → World → Prop
  | .done, _, a, w => L a w
  | .read i t, S, a, w => ∃ o, nthO l i = some o ∧ ∃ v, YieldsIf P ops S o v a ∧ wpOrdT P ops Q l L t S (a.put o.dst v) w
  | .stir i t, S, a, w => ∃ o, nthO l i = some o ∧ stirT P ops Q (wpOrdT P ops Q l L t) o S a w
  | .fork i t j u, S, a, w => (∃ o, nthO l i = some o ∧ stirT P ops Q (wpOrdT P ops Q l L t) o S a w) ∧ (∃ o, nthO l j = some o ∧ stirT P ops Q (wpOrdT P ops Q l L u) o S a w)
def ordTB (md : Region.Mode) (ops : Array Oper) (n g : Nat) : Nat → OrdT → Array Bool → Bool
  | 0, .done, listed => Region.seqB md ops g n listed
  | f + 1, .read i t, listed => decide (i < n) && (Region.ready md ops listed).contains i && Region.free md ops listed i && ordTB md ops n g f t (listed.setIfInBounds i true)
  | f + 1, .stir i t, listed => decide (i < n) && (Region.ready md ops listed == [i]) && ordTB md ops n g f t (listed.setIfInBounds i true)
  | f + 1, .fork i t j u, listed => decide (i < n) && decide (j < n) && (Region.ready md ops listed == [i, j]) && ordTB md ops n g f t (listed.setIfInBounds i true) && ordTB md ops n g f u (listed.setIfInBounds j true)
  | _, _, _ => false
theorem wpOp_stirT {X : (World → Prop) → Act → World → Prop} {Y : (World → Prop) → Act → World → Prop} {i : Nat} {o : Oper} {S : World → Prop} {a : Act} {w : World} (hi : ops[i]? = some o) (h : stirT P ops Q X o S a w) (hXY : ∀ S' a' w', S' w' → X S' a' w' → Y S' a' w') :
    wpOp P ops Q i (fun a' w' => ∃ S' : World → Prop, (∀ x, S' x → S x) ∧ S' w' ∧ Y S' a' w') a w :=
  wpOp_step hi fun K' hK' => h K' fun S' a' w' hsub hS' hW => hK' a' w' ⟨S', hsub, hS', hXY S' a' w' hS' hW⟩
theorem wpAnyN_ordT {n g : Nat} {Lq : Act → World → Prop} {l : List Oper} (hl : ops = l.toArray) (hsel : Region.noSelect ops = true) (hQ : ∀ c t t' d w, Q (.panic c) ⟨t, d⟩ w → Q (.panic c) ⟨t', d⟩ w) (hs : Region.sinkB md ops n = true) (hc : Region.chainB md ops n = true) (hn : n < ops.size) :
    ∀ (f : Nat) (tr : OrdT) (S : World → Prop) (listed : Array Bool) (a : Act) (w : World), HeadInv md ops n listed → ordTB md ops n g f tr listed = true → S w → wpOrdT P ops Q l Lq tr S a w →
    wpAnyN P md ops Q n (fun listed' a' w' => Region.seqB md ops g n listed' = true ∧ Lq a' w') f S listed a w := by
  have hnth : ∀ i o, nthO l i = some o → ops[i]? = some o := fun i o h => by rw [nthO_eq] at h; rw [hl]; simpa using h
  intro f
  induction f with
  | zero =>
    intro tr S listed a w inv hB hS h
    cases tr with
    | done => exact ⟨hB, h⟩
    | read i t => simp [ordTB] at hB
    | stir i t => simp [ordTB] at hB
    | fork i t j u => simp [ordTB] at hB
  | succ f ih =>
    intro tr S listed a w inv hB hS h
    cases tr with
    | done => simp [ordTB] at hB
    | read i t =>
      simp only [ordTB, Bool.and_eq_true, decide_eq_true_eq] at hB
      obtain ⟨⟨⟨hin, hr⟩, hf⟩, hB'⟩ := hB
      obtain ⟨o, ho, v, hy, hK⟩ := h
      have hi := hnth i o ho
      have hr' : i ∈ Region.ready md ops listed := by simpa using hr
      exact wpAnyN_first hi (Region.noSelect_spec hsel) hQ hs hc hn hin (fun listed' a' w' hL => seqB_ready hL.1) f S listed a w inv (Region.free_spec hi hf) hr' hy hS
        (ih t S _ _ w (inv.set hr' hin) hB' hS hK)
    | stir i t =>
      simp only [ordTB, Bool.and_eq_true, decide_eq_true_eq] at hB
      obtain ⟨⟨hin, hr⟩, hB'⟩ := hB
      obtain ⟨o, ho, hK⟩ := h
      have hr : Region.ready md ops listed = [i] := by simpa using hr
      refine ⟨by rw [hr]; simp, fun j hj => ?_⟩
      have hji : j = i := by rw [hr] at hj; simpa using hj
      subst hji
      exact ⟨hin, wpOp_stirT (hnth j o ho) hK fun S' a' w' hS' hW => ih t S' _ a' w' (inv.set hj hin) hB' hS' hW⟩
    | fork i t j u =>
      simp only [ordTB, Bool.and_eq_true, decide_eq_true_eq] at hB
      obtain ⟨⟨⟨⟨hin, hjn⟩, hr⟩, hB1⟩, hB2⟩ := hB
      obtain ⟨⟨o, ho, hK⟩, ⟨o', ho', hK'⟩⟩ := h
      have hr : Region.ready md ops listed = [i, j] := by simpa using hr
      refine ⟨by rw [hr]; simp, fun k hk => ?_⟩
      have hkk : k = i ∨ k = j := by rw [hr] at hk; simpa using hk
      by_cases e : k = i
      · subst e
        exact ⟨hin, wpOp_stirT (hnth k o ho) hK fun S' a' w' hS' hW => ih t S' _ a' w' (inv.set hk hin) hB1 hS' hW⟩
      · have e2 : k = j := hkk.resolve_left e
        subst e2
        exact ⟨hjn, wpOp_stirT (hnth k o' ho') hK' fun S' a' w' hS' hW => ih u S' _ a' w' (inv.set hk hjn) hB2 hS' hW⟩
def ordTreeB (md : Region.Mode) (ops : Array Oper) (n : Nat) (tr : OrdT) : Bool :=
  Region.noSelect ops && decide (n < ops.size) && Region.sinkB md ops n && Region.chainB md ops n && ordTB md ops n (ops.size - n) n tr (Array.replicate ops.size false)
theorem wp_region_ordT {id : Nat} {a : Act} {w : World} {l : List Oper} (n : Nat) (tr : OrdT) (hm : P.follows .mixedOrders = true) (hB : ordTreeB .any l.toArray n tr = true)
    (hQ : ∀ c t t' d w, Q (.panic c) ⟨t, d⟩ w → Q (.panic c) ⟨t', d⟩ w)
    (h : wpOrdT P l.toArray Q l (fun a' w' => wpList P l.toArray Q (l.drop n) a' w') tr (Ext w.drew) a w.drew) : (Code.region id l.toArray true).wp P Q a w := by
  simp only [ordTreeB, Bool.and_eq_true, decide_eq_true_eq] at hB
  obtain ⟨⟨⟨⟨hsel, hn⟩, hs⟩, hc⟩, hord⟩ := hB
  have hn' : n < l.length := by simpa using hn
  have hdl : (l.drop n).length = l.toArray.size - n := by simp
  have inv0 : HeadInv .any l.toArray n (Array.replicate l.toArray.size false) :=
    ⟨by simp, fun j oj _ hl => (by rw [getD_replicate_false] at hl; cases hl), fun t _ ht => getD_in (by simpa using ht) (getD_replicate_false _ _)⟩
  have H := wpAnyN_ordT (md := .any) (g := l.toArray.size - n) (Lq := fun a' w' => wpList P l.toArray Q (l.drop n) a' w') rfl hsel hQ hs hc hn n tr (Ext w.drew) _ a w.drew inv0 hord (Ext.refl _) h
  refine wp_region_any hm ?_
  have := wpAny_of_N (Q := Q) (g := l.toArray.size - n) (fun listed a' w' hL => by
    have := wpAny_of_seq (md := .any) (Q' := Q) (l.drop n) n listed a' w' (fun j => by simp [List.getElem?_drop]) (by rw [hdl]; exact hL.1) hL.2
    rwa [hdl] at this) _ _ _ _ _ H
  rw [show n + (l.toArray.size - n) = l.toArray.size by simp; omega] at this
  exact this
/-- The same, from a class of worlds that is picked. -/
theorem wp_region_ordTS {id : Nat} {a : Act} {w : World} {l : List Oper} (S : World → Prop) (n : Nat) (tr : OrdT) (hm : P.follows .mixedOrders = true) (hB : ordTreeB .any l.toArray n tr = true)
    (hQ : ∀ c t t' d w, Q (.panic c) ⟨t, d⟩ w → Q (.panic c) ⟨t', d⟩ w)
    (hS : S w.drew) (h : wpOrdT P l.toArray Q l (fun a' w' => wpList P l.toArray Q (l.drop n) a' w') tr S a w.drew) : (Code.region id l.toArray true).wp P Q a w := by
  simp only [ordTreeB, Bool.and_eq_true, decide_eq_true_eq] at hB
  obtain ⟨⟨⟨⟨hsel, hn⟩, hs⟩, hc⟩, hord⟩ := hB
  have hn' : n < l.length := by simpa using hn
  have hdl : (l.drop n).length = l.toArray.size - n := by simp
  have inv0 : HeadInv .any l.toArray n (Array.replicate l.toArray.size false) :=
    ⟨by simp, fun j oj _ hl => (by rw [getD_replicate_false] at hl; cases hl), fun t _ ht => getD_in (by simpa using ht) (getD_replicate_false _ _)⟩
  have H := wpAnyN_ordT (md := .any) (g := l.toArray.size - n) (Lq := fun a' w' => wpList P l.toArray Q (l.drop n) a' w') rfl hsel hQ hs hc hn n tr S _ a w.drew inv0 hord hS h
  refine wp_region_any hm ?_
  have := wpAny_of_N (Q := Q) (g := l.toArray.size - n) (fun listed a' w' hL => by
    have := wpAny_of_seq (md := .any) (Q' := Q) (l.drop n) n listed a' w' (fun j => by simp [List.getElem?_drop]) (by rw [hdl]; exact hL.1) hL.2
    rwa [hdl] at this) _ _ _ _ _ H
  rw [show n + (l.toArray.size - n) = l.toArray.size by simp; omega] at this
  exact this
theorem wpOrdT_read {l : List Oper} {L : Act → World → Prop} {i : Nat} {t : OrdT} {o : Oper} {S : World → Prop} {a : Act} {w : World} {v : Value} (ho : nthO l i = some o) (hy : YieldsIf P ops S o v a) (h : wpOrdT P ops Q l L t S (a.put o.dst v) w) : wpOrdT P ops Q l L (.read i t) S a w :=
  ⟨o, ho, v, hy, h⟩
theorem stirT_ext {X : (World → Prop) → Act → World → Prop} {o : Oper} {a : Act} {w : World} (h : ∀ K : Act → World → Prop, (∀ a' w', Ext w w' → X (Ext w') a' w' → K a' w') → if Region.wanted o (yielded ops a.tmps) = true then Oper.wp P o a w K Q else K (a.put o.dst undef) w) :
    stirT P ops Q X o (Ext w) a w := fun K hK => h K fun a' w' he hW => hK (Ext w') a' w' (fun _ hx => he.trans hx) (Ext.refl _) hW
theorem wpOrdT_stir {l : List Oper} {L : Act → World → Prop} {i : Nat} {t : OrdT} {o : Oper} {w : World} {a : Act} (ho : nthO l i = some o)
    (h : ∀ K : Act → World → Prop, (∀ a' w', Ext w w' → wpOrdT P ops Q l L t (Ext w') a' w' → K a' w') → if Region.wanted o (yielded ops a.tmps) = true then Oper.wp P o a w K Q else K (a.put o.dst undef) w) : wpOrdT P ops Q l L (.stir i t) (Ext w) a w :=
  ⟨o, ho, stirT_ext h⟩
theorem wpOrdT_fork {l : List Oper} {L : Act → World → Prop} {i j : Nat} {t u : OrdT} {o o' : Oper} {w : World} {a : Act} (ho : nthO l i = some o) (ho' : nthO l j = some o')
    (h : ∀ K : Act → World → Prop, (∀ a' w', Ext w w' → wpOrdT P ops Q l L t (Ext w') a' w' → K a' w') → if Region.wanted o (yielded ops a.tmps) = true then Oper.wp P o a w K Q else K (a.put o.dst undef) w)
    (h' : ∀ K : Act → World → Prop, (∀ a' w', Ext w w' → wpOrdT P ops Q l L u (Ext w') a' w' → K a' w') → if Region.wanted o' (yielded ops a.tmps) = true then Oper.wp P o' a w K Q else K (a.put o'.dst undef) w) : wpOrdT P ops Q l L (.fork i t j u) (Ext w) a w :=
  ⟨⟨o, ho, stirT_ext h⟩, ⟨o', ho', stirT_ext h'⟩⟩
/-- One that stirs, and leaves a world of the same class. -/
theorem wpOrdT_keep {l : List Oper} {L : Act → World → Prop} {i : Nat} {t : OrdT} {o : Oper} {S : World → Prop} {w : World} {a : Act} (ho : nthO l i = some o)
    (h : ∀ K : Act → World → Prop, (∀ a' w', S w' → wpOrdT P ops Q l L t S a' w' → K a' w') → if Region.wanted o (yielded ops a.tmps) = true then Oper.wp P o a w K Q else K (a.put o.dst undef) w) : wpOrdT P ops Q l L (.stir i t) S a w :=
  ⟨o, ho, fun K hK => h K fun a' w' hS hW => hK S a' w' (fun _ hx => hx) hS hW⟩
/-- Where two may come up, a class for each. -/
theorem wpOrdT_forks {l : List Oper} {L : Act → World → Prop} {i j : Nat} {t u : OrdT} {o o' : Oper} {S : World → Prop} {w : World} {a : Act} (ho : nthO l i = some o) (ho' : nthO l j = some o')
    (h : ∀ K : Act → World → Prop, (∀ (S' : World → Prop) a' w', (∀ x, S' x → S x) → S' w' → wpOrdT P ops Q l L t S' a' w' → K a' w') → if Region.wanted o (yielded ops a.tmps) = true then Oper.wp P o a w K Q else K (a.put o.dst undef) w)
    (h' : ∀ K : Act → World → Prop, (∀ (S' : World → Prop) a' w', (∀ x, S' x → S x) → S' w' → wpOrdT P ops Q l L u S' a' w' → K a' w') → if Region.wanted o' (yielded ops a.tmps) = true then Oper.wp P o' a w K Q else K (a.put o'.dst undef) w) : wpOrdT P ops Q l L (.fork i t j u) S a w :=
  ⟨⟨o, ho, h⟩, ⟨o', ho', h'⟩⟩
theorem wpOrdT_done {l : List Oper} {L : Act → World → Prop} {S : World → Prop} {a : Act} {w : World} (h : L a w) : wpOrdT P ops Q l L .done S a w := h
end
end Go.Proofs.YtfghojbbofobeaaGreatDoor
end
section
set_option linter.unusedVariables false
set_option linter.unusedSimpArgs false
namespace Go.Proofs.YtfghojbbofobeaaGreatDoor
open Go Go.RowKit Go.Proofs Go.Maps
set_option maxHeartbeats 400000
theorem laidOutM : laidOutB Tryz.prog = true := by kernel_rfl
theorem rdTy : MapTy Tryz.prog 119 161 2 where
  keyed := Keyed.of_law (deep_law_laid laidOutM (m := 4) (by omega) (by decide +kernel) (by kernel_rfl) (by kernel_rfl))
  und := Tryz.underlying119
  el := Tryz.underlying2
  zero w := by kernel_rfl
/-- What is read, as a value. -/
def rdE (x : KeyM) : Value := .agg #[.int .i64 x.1, .int .i64 x.2.1, .int .i64 x.2.2.1, .int .i64 x.2.2.2]
theorem rdE_inj (x y : KeyM) (h : rdE x = rdE y) : x = y := by
  obtain ⟨a, b, c, d⟩ := x
  obtain ⟨a', b', c', d'⟩ := y
  simp [rdE] at h
  obtain ⟨rfl, rfl, rfl, rfl⟩ := h
  rfl
def smallZ (z : Int) : Prop := -1000000 ≤ z ∧ z ≤ 1000000
theorem smallZ_wf {z : Int} (h : smallZ z) : (Lit.int .i64 z).wf = true := by
  obtain ⟨_, _⟩ := h
  simp [Lit.wf, IntKind.min, IntKind.max, IntKind.signed, IntKind.bits]
  omega
theorem rdKey (x : KeyM) (h1 : smallZ x.1) (h2 : smallZ x.2.1) (h3 : smallZ x.2.2.1) (h4 : smallZ x.2.2.2) : ∃ l, keyOf Tryz.prog 161 (rdE x) = some l := by
  have w1 := smallZ_wf h1
  have w2 := smallZ_wf h2
  have w3 := smallZ_wf h3
  have w4 := smallZ_wf h4
  have c4 : Tryz.prog.cellsOf 161 = 4 := by kernel_rfl
  have c3 : Tryz.prog.cellsOf 86 = 3 := by kernel_rfl
  have c1 : Tryz.prog.cellsOf 2 = 1 := by kernel_rfl
  have kt : Tryz.prog.keyType 161 = true := by kernel_rfl
  obtain ⟨d, hd⟩ : ∃ d, Tryz.prog.types.size = d + 2 := ⟨Tryz.prog.types.size - 2, by decide +kernel⟩
  have hf : (rdE x).formed Tryz.prog 161 = true := by simp [Value.formed, rdE, Tryz.underlying161, c4]
  have hK : Tryz.prog.keyLits (Tryz.prog.types.size + 1) 161 (rdE x).cells.toList = some [.int .i64 x.1, .int .i64 x.2.1, .int .i64 x.2.2.1, .int .i64 x.2.2.2] := by
    rw [hd]
    simp [Program.keyLits, rdE, Value.cells, Tryz.underlying161, Tryz.underlying86, Tryz.underlying2, c4, c3, c1, w1, w2, w3, w4, show List.range 3 = [0, 1, 2] from rfl]
  unfold keyOf
  rw [Tryz.underlying161]
  simp only [kt, hf, Bool.and_self, if_true, hK]
  exact ⟨_, rfl⟩
theorem rd2 {xs : List Int} (h : (xs.length : Int) = 2 ∨ (xs.length : Int) = 3) : (∃ a b, xs = [a, b]) ∨ ∃ a b c, xs = [a, b, c] := by
  match xs, h with
  | [a, b], _ => exact .inl ⟨a, b, rfl⟩
  | [a, b, c], _ => exact .inr ⟨a, b, c, rfl⟩
  | [], h => simp at h
  | [_], h => simp at h
  | _ :: _ :: _ :: _ :: l, h => simp at h; omega
/-- What the copying of a rule's symbols leaves. -/
theorem copy_read {w : World} {b g off c : Nat} {q : Int} {xs : List Int} (hb : Blk w b 161 #[.int .i64 q, .int .i64 0, .int .i64 0, .int .i64 0]) (h : Ints w (.slice (some ⟨g, off, none⟩) xs.length c) xs) (hx : (xs.length : Int) = 2 ∨ (xs.length : Int) = 3) :
    ∃ w' n, (Builtin.copy_ #[44, 44] 3 #[.slice (some ⟨b, 1, none⟩) 3 3, .slice (some ⟨g, off, none⟩) xs.length c]).run Tryz.prog w = .ok n w' ∧
      Blk w' b 161 #[.int .i64 (key3 q xs).1, .int .i64 (key3 q xs).2.1, .int .i64 (key3 q xs).2.2.1, .int .i64 (key3 q xs).2.2.2] ∧ w.grownBy w' (some b) := by
  have hcell : ∀ j v, (ivs xs)[j]? = some v → w.cell? ((⟨g, off, none⟩ : Addr).add j) = some v := by
    intro j y hj
    obtain ⟨hl, _⟩ := List.getElem?_eq_some_iff.1 hj
    rw [ivs_length] at hl
    obtain ⟨b', off', e', hc⟩ := h.at hl
    cases e'
    have e : y = .int .i64 xs[j] := by
      have := ivs_get xs j hl
      rw [hj] at this
      injection this
    have := hc j hl
    rw [e]
    by_cases hj0 : j = 0
    · subst hj0
      first | (simp [Addr.add]; done) | (simpa [Addr.add] using this)
    · first | (simp [Addr.add, hj0]; done) | (simpa [Addr.add, hj0] using this)
  have hone : ∀ v ∈ ivs xs, v.oneCell' = true := by
    intro u hu
    obtain ⟨z, _, rfl⟩ := List.mem_map.1 hu
    rfl
  have hr := run_copy_row (P := Tryz.prog) w 44 44 3 2 b 1 3 3 ⟨g, off, none⟩ xs.length c #[.int .i64 q, .int .i64 0, .int .i64 0, .int .i64 0] 161 (ivs xs) Tryz.underlying44 (by kernel_rfl) hb
    (by rw [ivs_length]; rcases hx with e | e <;> simp [Nat.min_def] <;> omega) hcell (by rw [ivs_length]; rcases hx with e | e <;> simp <;> omega) hone
  refine ⟨_, _, hr, ?_, ?_⟩
  · have hh := setRow_heap w b #[.int .i64 q, .int .i64 0, .int .i64 0, .int .i64 0] ((#[Value.int .i64 q, .int .i64 0, .int .i64 0, .int .i64 0] : Array Value).toList.take 1 ++ ivs xs ++ (#[Value.int .i64 q, .int .i64 0, .int .i64 0, .int .i64 0] : Array Value).toList.drop (1 + (ivs xs).length)).toArray 161 (0, 0) hb
    unfold Blk
    rw [hh]
    rcases rd2 hx with ⟨a, b, rfl⟩ | ⟨a, b, c, rfl⟩ <;> rfl
  · refine ⟨rfl, rfl, rfl, by simp [World.setRow], fun k _ hk => ?_⟩
    have : b ≠ k := fun e => hk (by rw [e])
    simp [World.setRow, Array.getElem?_modify, this]
theorem key3_small {m : MultiD} {r : MRuleD} (h : mruleOk m r = true) (q2 : m.st ≤ 16) (s2 : m.sy ≤ 3) : smallZ (key3 r.st r.rd).1 ∧ smallZ (key3 r.st r.rd).2.1 ∧ smallZ (key3 r.st r.rd).2.2.1 ∧ smallZ (key3 r.st r.rd).2.2.2 := by
  obtain ⟨h1, _, _, _, _, h6, _⟩ := mrule_all h
  have key : ∀ i, smallZ (r.rd.getD i 0) := fun i => by
    by_cases hi : i < r.rd.length
    · have := h6 _ (List.getElem_mem hi)
      rw [List.getD_eq_getElem?_getD, List.getElem?_eq_getElem hi]
      show smallZ r.rd[i]
      unfold smallZ
      omega
    · rw [List.getD_eq_getElem?_getD, List.getElem?_eq_none (by omega)]
      show smallZ 0
      unfold smallZ
      omega
  exact ⟨by show smallZ r.st; unfold smallZ; omega, key 0, key 1, key 2⟩
/-- The table behind the first k rules. -/
def tblM (rs : List MRuleD) (k : Nat) (x : KeyM) : Option Int := Option.map (fun i : Nat => (i : Int)) (findM rs x k)
theorem tblM_succ (rs : List MRuleD) (k : Nat) : (fun x => if x = key3 (rs.getD k mr0).st (rs.getD k mr0).rd then some (k : Int) else tblM rs k x) = tblM rs (k + 1) := by
  funext x
  show _ = Option.map (fun i : Nat => (i : Int)) (if key3 (rs.getD k mr0).st (rs.getD k mr0).rd = x then some k else findM rs x k)
  by_cases e : x = key3 (rs.getD k mr0).st (rs.getD k mr0).rd
  · rw [if_pos e, if_pos e.symm]; rfl
  · rw [if_neg e, if_neg (fun h => e h.symm)]; rfl
set_option maxRecDepth 20000 in
set_option maxHeartbeats 4000000 in
theorem multiRules_c (v : Value) (m : MultiD) (w : World) (h : Mult w v m) (hm : multiOk m = true) :
    Calls Tryz.prog 61 #[v] w fun e w' => ∃ bm, e = .returned (.map (some bm)) ∧ Tbl Tryz.prog 161 2 rdE w' bm m.rules.length (tblM m.rules m.rules.length) ∧ w.heap.size ≤ bm ∧ Ext w w' := by
  obtain ⟨rv, rfl, hr⟩ := h
  obtain ⟨A, c, rfl, hc1, hc2⟩ := hr.form
  obtain ⟨⟨t1, t2⟩, ⟨s1, s2⟩, ⟨q1, q2⟩, hln, _⟩ := multi_all hm
  obtain ⟨W, hW⟩ : ∃ W, W = (w.alloc (.cells #[.int .i64 m.tp, .int .i64 m.sy, .int .i64 m.st, .slice A m.rules.length c] 33)).alloc (.map #[] 0) := ⟨_, rfl⟩
  have hX : Ext w W := by rw [hW]; exact (Ext.alloc _ _).trans (Ext.alloc _ _)
  have bM : Blk W w.heap.size 33 #[.int .i64 m.tp, .int .i64 m.sy, .int .i64 m.st, .slice A m.rules.length c] := by rw [hW]; exact (Blk.new _ _ _ _ rfl).alloc _
  have hT0 : Tbl Tryz.prog 161 2 rdE W (w.heap.size + 1) 0 (tblM m.rules 0) := by
    rw [hW]
    have := Tbl.made Tryz.prog 161 2 rdE (w.alloc (.cells #[.int .i64 m.tp, .int .i64 m.sy, .int .i64 m.st, .slice A m.rules.length c] 33))
    have e : tblM m.rules 0 = fun _ => none := by funext x; rfl
    rw [e]
    simpa using this
  obtain ⟨k0, hk0⟩ : ∃ k, w.heap.size = k := ⟨_, rfl⟩
  rw [hk0] at bM hT0
  have HM := Lib.hid hm
  have m3 := bM.cell 3
  simp only [List.getElem?_toArray, List.getElem?_cons_zero, List.getElem?_cons_succ] at m3
  clear hm
  go_enter Tryz.func61, Tryz.ntmps61
  have hmm := @run_makeMap Tryz.prog
  go_wp2_with fail
  try rw [← hW]
  clear hW hmm m3
  go_loopw [11] (fun i wr => ∃ k : Nat, k ≤ m.rules.length ∧ i = .int .i64 (k : Int) ∧ Ext w wr ∧ Blk wr k0 33 #[.int .i64 m.tp, .int .i64 m.sy, .int .i64 m.st, .slice A m.rules.length c] ∧ Tbl Tryz.prog 161 2 rdE wr (k0 + 1) k (tblM m.rules k)) (fun i _ => m.rules.length - (intOf i).toNat)
  case atStart => exact ⟨0, Nat.zero_le _, rfl, hX, bM, hT0⟩
  case round =>
    clear hT0 bM hX
    obtain ⟨k, hk, rfl, hx, bM, hT⟩ := hrel
    by_cases hlt : k < m.rules.length
    · have hrr := hr.ext hx
      obtain ⟨b, off, vr, vw, vm, rfl, c0, c1, c2, c3, c4, j1, j2, j3⟩ := hrr.at hlt
      have hgd : m.rules.getD k mr0 = m.rules[k] := by rw [List.getD_eq_getElem?_getD, List.getElem?_eq_getElem hlt]; rfl
      have hro := multi_rule HM.out hlt
      have HTS := Lib.hid (tblM_succ m.rules k)
      obtain ⟨r, hrk⟩ : ∃ r, m.rules[k] = r := ⟨_, rfl⟩
      rw [hrk] at c0 c4 j1 j2 j3 hgd hro
      rw [hgd] at HTS
      have hlr : (r.rd.length : Int) = 2 ∨ (r.rd.length : Int) = 3 := by have := (mrule_all hro).2.2.1; omega
      have hks := key3_small hro q2 s2
      obtain ⟨A1, k1, rfl, _, _⟩ := j1.form
      obtain ⟨A2, k2, rfl, _, _⟩ := j2.form
      obtain ⟨A3, k3, rfl, _, _⟩ := j3.form
      obtain ⟨ga, oa, rfl, _⟩ := j1.at (k := 0) (by omega)
      obtain ⟨V, hV⟩ : ∃ V, V = (wr.alloc (.cells #[.int .i64 r.st, .slice (some ⟨ga, oa, none⟩) r.rd.length k1, .slice A2 r.wr.length k2, .slice A3 r.mv.length k3, .int .i64 r.nx] 101)).alloc (.cells #[.int .i64 r.st, .int .i64 0, .int .i64 0, .int .i64 0] 161) := ⟨_, rfl⟩
      have hXV : Ext wr V := by rw [hV]; exact (Ext.alloc _ _).trans (Ext.alloc _ _)
      obtain ⟨g, hg⟩ : ∃ g, wr.heap.size = g := ⟨_, rfl⟩
      have bR : Blk V g 101 #[.int .i64 r.st, .slice (some ⟨ga, oa, none⟩) r.rd.length k1, .slice A2 r.wr.length k2, .slice A3 r.mv.length k3, .int .i64 r.nx] := by rw [hV]; exact (Blk.new _ _ _ _ hg).alloc _
      have bX : Blk V (g + 1) 161 #[.int .i64 r.st, .int .i64 0, .int .i64 0, .int .i64 0] := by rw [hV]; exact Blk.new _ _ _ _ (by simp [hg])
      have hXd := hXV.trans (Ext.drew V)
      have hgl : k0 + 1 < g := by rw [← hg]; exact hT.lt
      have x1 := bR.drew.cell 1
      simp only [List.getElem?_toArray, List.getElem?_cons_zero, List.getElem?_cons_succ] at x1
      clear hrk hro
      go_wp2_with fail
      try rw [← hV]
      clear hV
      refine wp_region_ordT 4 (readsT [0, 1, 2, 3] .done) (by kernel_rfl) (by kernel_rfl) (fun _ _ _ _ _ h => h) ?_
      simp only [readsT]
      iterate 4 (refine wpOrdT_read (v := ?_) (by rfl) (Or.inl ⟨by rfl, fun x hx => ?_⟩) ?_; rotate_left; (· have a1 := hx.cell x1; go_simp; try with_reducible rfl); try simp only [Act.put, List.setIfInBounds_toArray, List.set_cons_zero, List.set_cons_succ])
      refine wpOrdT_done ?_
      try simp only [List.drop_succ_cons, List.drop_zero]
      have bXd := bX.drew
      have jd := j1.ext hXd
      have hTd := hT.ext hXd
      have bMd := bM.ext hXd
      have hxd := hx.trans hXd
      clear bX bR hXV x1 j1 j2 j3 hT bM c0 c1 c2 c3 c4
      generalize V.drew = X at *
      obtain ⟨w3, n3, hcp, bX3, hg3⟩ := copy_read bXd jd hlr
      have hT3 := hTd.kept hg3 (by simp; omega)
      have bM3 := bMd.kept hg3 (by simp; omega)
      have hX3 := hxd.grown hg3 (fun b hb => by injection hb with hb; omega)
      obtain ⟨y, hy⟩ : ∃ y, key3 r.st r.rd = y := ⟨_, rfl⟩
      rw [hy] at bX3 HTS hks
      obtain ⟨w4, hup, hT4, hg4⟩ := hT3.update rdTy rdE_inj (by unfold maxLen; omega) y (rdKey y hks.1 hks.2.1 hks.2.2.1 hks.2.2.2) (k : Int) (smallZ_wf (by unfold smallZ; omega))
      rw [HTS.out] at hT4
      have bM4 := bM3.kept hg4 (by simp)
      have hX4 := hX3.grown hg4 (fun b hb => by injection hb with hb; omega)
      have b0 := bX3.cell 0
      have b1 := bX3.cell 1
      have b2 := bX3.cell 2
      have b3 := bX3.cell 3
      simp only [List.getElem?_toArray, List.getElem?_cons_zero, List.getElem?_cons_succ] at b0 b1 b2 b3
      simp only [rdE] at hup
      clear hy hks jd bXd hTd bMd hT3 bM3 hg3 hg4
      go_wp2_with (at_builtin; refine Lib.wpList_copy_run _ rfl _ _ 44 44 rfl _ _ rfl rfl hcp ?_)
      go_wp2
      go_roundw
      case rel => exact ⟨k + 1, by omega, by go_num, hX4, bM4, hT4⟩
      case measure => simp [intOf]; omega
    · obtain rfl : k = m.rules.length := by omega
      go_wp2
      go_ret
      exact ⟨_, rfl, hT, by omega, hx⟩
end Go.Proofs.YtfghojbbofobeaaGreatDoor
end
section
set_option linter.unusedSimpArgs false
set_option linter.unusedVariables false
namespace Go.Proofs.YtfghojbbofobeaaGreatDoor
open Go Go.RowKit Go.Proofs Go.Maps
set_option maxHeartbeats 400000
/-- The weaver, in memory. -/
def Weav (w : World) (b : Nat) (m : MultiD) : Prop := ∃ A cA bm, Blk w b 122 #[.int .i64 m.tp, .int .i64 m.sy, .int .i64 m.st, .slice A m.rules.length cA, .map (some bm)] ∧
  MRules w (.slice A m.rules.length cA) m.rules ∧ Tbl Tryz.prog 161 2 rdE w bm m.rules.length (tblM m.rules m.rules.length)
theorem Weav.ext {w w' : World} {b : Nat} {m : MultiD} (h : Weav w b m) (he : Ext w w') : Weav w' b m := by
  obtain ⟨A, cA, bm, h1, h2, h3⟩ := h
  exact ⟨A, cA, bm, h1.ext he, h2.ext he, h3.ext he⟩
theorem tapes_cases {T t : Int} (h1 : 2 ≤ T) (h2 : T ≤ 3) (t0 : 0 ≤ t) (t1 : t < T) : (T = 2 ∧ t = 0) ∨ (T = 2 ∧ t = 1) ∨ (T = 3 ∧ t = 0) ∨ (T = 3 ∧ t = 1) ∨ (T = 3 ∧ t = 2) := by omega
set_option maxRecDepth 20000 in
theorem look_c (q : Int) (w : World) : Calls Tryz.prog 36 #[.int .i64 q] w fun e w' => e = .returned (lookP q).v ∧ Ext w w' := by
  go_enter Tryz.func36, Tryz.ntmps36
  go_wp2_with fail
  refine bodyPost_ret (v := (lookP q).v) (by simp [results, Tryz.results36, go_sem, lookP, MP.v]) rfl ?_
  exact ⟨rfl, Ext.alloc _ _⟩
set_option maxRecDepth 20000 in
theorem leave_c (q k : Int) (w : World) : Calls Tryz.prog 102 #[.int .i64 q, .int .i64 k] w fun e w' => e = .returned (leaveP q k).v ∧ Ext w w' := by
  obtain ⟨W, hW⟩ : ∃ W, W = w.alloc (.cells #[.int .i64 0, .int .i64 0, .int .i64 0, .int .i64 0, .int .i64 0, .int .i64 0, .int .i64 0, .int .i64 0] 88) := ⟨_, rfl⟩
  have hX : Ext w W := by rw [hW]; exact Ext.alloc _ _
  have bZ : Blk W w.heap.size 88 #[.int .i64 0, .int .i64 0, .int .i64 0, .int .i64 0, .int .i64 0, .int .i64 0, .int .i64 0, .int .i64 0] := by rw [hW]; exact Blk.new _ _ _ _ rfl
  go_enter Tryz.func102, Tryz.ntmps102
  by_cases hk : k = 0
  · have hkb : (k == 0) = true := by simp [hk]
    have HE : Hid (leaveP q k = lookP q) := Lib.hid (if_pos hk)
    clear hk
    go_wp2_with fail
    try rw [← hW]
    clear hW
    refine (look_c q W).mono ?_
    rintro e w1 ⟨rfl, hx1⟩
    have z0 := (bZ.ext hx1).cell
    have z1 := (bZ.ext hx1).frozen
    have hX1 := hX.trans hx1
    have hw : w.heap.size ≤ w.heap.size := Nat.le_refl _
    simp only [lookP, MP.v]
    go_wp2_with fail
    refine bodyPost_ret (v := (lookP q).v) (by simp [results, Tryz.results102, go_sem, z0, lookP, MP.v]) rfl ?_
    exact ⟨by rw [HE.out], by repeat (first | with_reducible exact hX1 | refine Ext.setCell ?_ hw _)⟩
  · have hkb : (k == 0) = false := by simp [hk]
    have HE : Hid (leaveP q k = ⟨4, q, 0, k, 0, 0, 0, 0⟩) := Lib.hid (if_neg hk)
    clear hk
    go_wp2_with fail
    refine bodyPost_ret (v := (MP.mk 4 q 0 k 0 0 0 0).v) (by simp [results, Tryz.results102, go_sem, MP.v]) rfl ?_
    exact ⟨by rw [HE.out], Ext.alloc _ _⟩
set_option maxRecDepth 20000 in
theorem before_c (b : Nat) (m : MultiD) (t : Int) (w : World) (h : Weav w b m) (hm : multiOk m = true) (t0 : 0 ≤ t) (t1 : t < m.tp) :
    Calls Tryz.prog 104 #[.pointer (some ⟨b, 0, none⟩), .int .i64 t] w fun e w' => e = .returned (.int .i64 (befT m.tp t)) ∧ Ext w w' := by
  obtain ⟨⟨tp1, tp2⟩, _⟩ := multi_all hm
  obtain ⟨A, cA, bm, hb, _, _⟩ := h
  have a0 : w.cell? ⟨b, 0, none⟩ = some (.int .i64 m.tp) := hb.cell 0
  have hc := tapes_cases tp1 tp2 t0 t1
  generalize m.tp = T at *
  clear hb t0 t1 tp1 tp2
  rcases hc with ⟨rfl, rfl⟩ | ⟨rfl, rfl⟩ | ⟨rfl, rfl⟩ | ⟨rfl, rfl⟩ | ⟨rfl, rfl⟩
  all_goals
    have d0 := cellR a0
    go_enter Tryz.func104, Tryz.ntmps104
    go_wp2_with fail
    refine wp_region_ext (by kernel_rfl) (by kernel_rfl) ?_
    repeat (go_big_quiet_step (fail))
    refine wpQuiet_nil ?_
    intro w1 hx1
    go_wp2_with fail
    go_ret
    exact ⟨rfl, hx1⟩
set_option maxRecDepth 20000 in
set_option maxHeartbeats 4000000 in
theorem after_c (b : Nat) (m : MultiD) (i t d : Int) (w : World) (h : Weav w b m) (hm : multiOk m = true) (i0 : 0 ≤ i) (i1 : i < m.rules.length) (t0 : 0 ≤ t) (t1 : t < m.tp) :
    Calls Tryz.prog 105 #[.pointer (some ⟨b, 0, none⟩), .int .i64 i, .int .i64 t, .int .i64 d] w fun e w' => e = .returned (aftP m i t d).v ∧ Ext w w' := by
  obtain ⟨⟨tp1, tp2⟩, _⟩ := multi_all hm
  obtain ⟨j, rfl, hj, hme, hr⟩ := mrAt_ok hm i0 i1
  obtain ⟨W, hW⟩ : ∃ W, W = w.alloc (.cells #[.int .i64 0, .int .i64 0, .int .i64 0, .int .i64 0, .int .i64 0, .int .i64 0, .int .i64 0, .int .i64 0] 88) := ⟨_, rfl⟩
  obtain ⟨g, hg⟩ : ∃ g, w.heap.size = g := ⟨_, rfl⟩
  have hX : Ext w W := by rw [hW]; exact Ext.alloc _ _
  have bZ : Blk W g 88 #[.int .i64 0, .int .i64 0, .int .i64 0, .int .i64 0, .int .i64 0, .int .i64 0, .int .i64 0, .int .i64 0] := by rw [hW]; exact Blk.new _ _ _ _ hg
  have hWv := h.ext hX
  have BF := before_c b m t W hWv hm t0 t1
  obtain ⟨A, cA, bm, hb, hR, _⟩ := hWv
  obtain ⟨rb, ro, vr, vw, vm, rfl, c0, c1, c2, c3, c4, i1', i2', i3'⟩ := hR.at hj
  have a0 : W.cell? ⟨b, 0, none⟩ = some (.int .i64 m.tp) := hb.cell 0
  have a3 : W.cell? ⟨b, 3, none⟩ = some (.slice (some ⟨rb, ro, none⟩) m.rules.length cA) := hb.cell 3
  have hji : (j : Int) < (m.rules.length : Int) := by omega
  have HE : Hid (aftP m (j : Int) t d = if d = fullB m.tp then leaveP m.rules[j].nx (t + m.tp - 1) else ⟨3, (j : Int), befT m.tp t, 0, 0, 0, 0, d⟩) := Lib.hid (by unfold aftP; rw [hme])
  clear hme hr
  generalize m.rules[j] = r at *
  go_enter Tryz.func105, Tryz.ntmps105
  go_upto_region 1 with fail
  try rw [← hW]
  try rw [hg]
  clear hW
  have hT : m.tp = 2 ∨ m.tp = 3 := by omega
  rcases hT with hT | hT
  · rw [hT] at a0
    by_cases hd : d = 3
    · have hdb : (d == 3) = true := by simp [hd]
      have HE2 : Hid (aftP m (j : Int) t d = leaveP r.nx (t + 2 - 1)) := Lib.hid (by rw [HE.out, hT, hd]; rfl)
      have hwt : IntKind.i64.wrap (t + 2) = t + 2 := IntWalk.i64_in _ (by omega)
      have hwt1 : IntKind.i64.wrap (t + 2 - 1) = t + 2 - 1 := IntWalk.i64_in _ (by omega)
      clear HE hd
      go_upto_region 2 with fail
      have y0 : W.drew.cell? ⟨b, 0, none⟩ = some (.int .i64 2) := a0
      have y3 : W.drew.cell? ⟨b, 3, none⟩ = some (.slice (some ⟨rb, ro, none⟩) m.rules.length cA) := a3
      have yc : W.drew.cell? ⟨rb, ro + j * 5 + 4, none⟩ = some (.int .i64 r.nx) := c4
      have zD := Ext.drew W
      refine wp_region_ordT 18 (readsT [0, 1, 2, 3, 4, 5, 6, 7, 8, 9, 10, 11, 12, 13, 14, 15, 16] (.stir 17 .done)) (by kernel_rfl) (by kernel_rfl) (fun _ _ _ _ _ h => h) ?_
      simp only [readsT]
      iterate 17 (refine wpOrdT_read (v := ?_) (by rfl) (Or.inl ⟨by rfl, fun x hx => ?_⟩) ?_; rotate_left; (· have uy0 := hx.cell y0; have uy3 := hx.cell y3; have uyc := hx.cell yc; go_simp; try with_reducible rfl); try simp only [Act.put, List.setIfInBounds_toArray, List.set_cons_zero, List.set_cons_succ])
      refine wpOrdT_stir (by rfl) (fun K hK => ?_)
      go_simp
      go_at_call 102
      refine (leave_c r.nx (t + 2 - 1) _).mono ?_
      rintro e w1 ⟨rfl, hx1⟩
      refine hK _ _ hx1 ?_
      clear hK K
      try simp only [Act.put, List.setIfInBounds_toArray, List.set_cons_zero, List.set_cons_succ]
      refine wpOrdT_done ?_
      try simp only [List.drop_succ_cons, List.drop_zero]
      obtain ⟨q, hq⟩ : ∃ q, leaveP r.nx (t + 2 - 1) = q := ⟨_, rfl⟩
      rw [hq] at HE2 ⊢
      clear hq
      have hX1 := hX.trans (zD.trans hx1)
      have z0 := (bZ.ext (zD.trans hx1)).cell
      have z1 := (bZ.ext (zD.trans hx1)).frozen
      have hw : w.heap.size ≤ g := by omega
      simp only [MP.v]
      clear y0 y3 yc c0 c1 c2 c3 c4 a0 a3 zD hx1
      go_wp2_with fail
      refine bodyPost_ret (v := q.v) (by simp [results, Tryz.results105, go_sem, z0, MP.v]) rfl ?_
      exact ⟨by rw [HE2.out], by repeat (first | with_reducible exact hX1 | refine Ext.setCell ?_ hw _)⟩
    · have hdb : (d == 3) = false := by simp [hd]
      have HE2 : Hid (aftP m (j : Int) t d = ⟨3, (j : Int), befT m.tp t, 0, 0, 0, 0, d⟩) := Lib.hid (by rw [HE.out]; exact if_neg (by rw [hT]; exact hd))
      clear HE hd
      obtain ⟨bt, hbt⟩ : ∃ q, befT m.tp t = q := ⟨_, rfl⟩
      rw [hbt] at HE2 BF
      clear hbt
      go_wp2_with fail
      refine BF.mono ?_
      rintro e w1 ⟨rfl, hx1⟩
      have hX1 := hX.trans hx1
      have z0 := (bZ.ext hx1).cell
      have z1 := (bZ.ext hx1).frozen
      have hw : w.heap.size ≤ g := by omega
      clear c0 c1 c2 c3 c4 a0 a3 hx1 BF
      go_wp2_with fail
      refine bodyPost_ret (v := (MP.mk 3 (j : Int) bt 0 0 0 0 d).v) (by simp [results, Tryz.results105, go_sem, z0, MP.v]) rfl ?_
      exact ⟨by rw [HE2.out], by repeat (first | with_reducible exact hX1 | refine Ext.setCell ?_ hw _)⟩
  · rw [hT] at a0
    by_cases hd : d = 7
    · have hdb : (d == 7) = true := by simp [hd]
      have HE2 : Hid (aftP m (j : Int) t d = leaveP r.nx (t + 3 - 1)) := Lib.hid (by rw [HE.out, hT, hd]; rfl)
      have hwt : IntKind.i64.wrap (t + 3) = t + 3 := IntWalk.i64_in _ (by omega)
      have hwt1 : IntKind.i64.wrap (t + 3 - 1) = t + 3 - 1 := IntWalk.i64_in _ (by omega)
      clear HE hd
      go_upto_region 2 with fail
      have y0 : W.drew.cell? ⟨b, 0, none⟩ = some (.int .i64 3) := a0
      have y3 : W.drew.cell? ⟨b, 3, none⟩ = some (.slice (some ⟨rb, ro, none⟩) m.rules.length cA) := a3
      have yc : W.drew.cell? ⟨rb, ro + j * 5 + 4, none⟩ = some (.int .i64 r.nx) := c4
      have zD := Ext.drew W
      refine wp_region_ordT 18 (readsT [0, 1, 2, 3, 4, 5, 6, 7, 8, 9, 10, 11, 12, 13, 14, 15, 16] (.stir 17 .done)) (by kernel_rfl) (by kernel_rfl) (fun _ _ _ _ _ h => h) ?_
      simp only [readsT]
      iterate 17 (refine wpOrdT_read (v := ?_) (by rfl) (Or.inl ⟨by rfl, fun x hx => ?_⟩) ?_; rotate_left; (· have uy0 := hx.cell y0; have uy3 := hx.cell y3; have uyc := hx.cell yc; go_simp; try with_reducible rfl); try simp only [Act.put, List.setIfInBounds_toArray, List.set_cons_zero, List.set_cons_succ])
      refine wpOrdT_stir (by rfl) (fun K hK => ?_)
      go_simp
      go_at_call 102
      refine (leave_c r.nx (t + 3 - 1) _).mono ?_
      rintro e w1 ⟨rfl, hx1⟩
      refine hK _ _ hx1 ?_
      clear hK K
      try simp only [Act.put, List.setIfInBounds_toArray, List.set_cons_zero, List.set_cons_succ]
      refine wpOrdT_done ?_
      try simp only [List.drop_succ_cons, List.drop_zero]
      obtain ⟨q, hq⟩ : ∃ q, leaveP r.nx (t + 3 - 1) = q := ⟨_, rfl⟩
      rw [hq] at HE2 ⊢
      clear hq
      have hX1 := hX.trans (zD.trans hx1)
      have z0 := (bZ.ext (zD.trans hx1)).cell
      have z1 := (bZ.ext (zD.trans hx1)).frozen
      have hw : w.heap.size ≤ g := by omega
      simp only [MP.v]
      clear y0 y3 yc c0 c1 c2 c3 c4 a0 a3 zD hx1
      go_wp2_with fail
      refine bodyPost_ret (v := q.v) (by simp [results, Tryz.results105, go_sem, z0, MP.v]) rfl ?_
      exact ⟨by rw [HE2.out], by repeat (first | with_reducible exact hX1 | refine Ext.setCell ?_ hw _)⟩
    · have hdb : (d == 7) = false := by simp [hd]
      have HE2 : Hid (aftP m (j : Int) t d = ⟨3, (j : Int), befT m.tp t, 0, 0, 0, 0, d⟩) := Lib.hid (by rw [HE.out]; exact if_neg (by rw [hT]; exact hd))
      clear HE hd
      obtain ⟨bt, hbt⟩ : ∃ q, befT m.tp t = q := ⟨_, rfl⟩
      rw [hbt] at HE2 BF
      clear hbt
      go_wp2_with fail
      refine BF.mono ?_
      rintro e w1 ⟨rfl, hx1⟩
      have hX1 := hX.trans hx1
      have z0 := (bZ.ext hx1).cell
      have z1 := (bZ.ext hx1).frozen
      have hw : w.heap.size ≤ g := by omega
      clear c0 c1 c2 c3 c4 a0 a3 hx1 BF
      go_wp2_with fail
      refine bodyPost_ret (v := (MP.mk 3 (j : Int) bt 0 0 0 0 d).v) (by simp [results, Tryz.results105, go_sem, z0, MP.v]) rfl ?_
      exact ⟨by rw [HE2.out], by repeat (first | with_reducible exact hX1 | refine Ext.setCell ?_ hw _)⟩
end Go.Proofs.YtfghojbbofobeaaGreatDoor
end
