/- A region that draws its order, walked along a tree of orders: the reading operations first; where two operations that stir memory may come up, both are followed. No program stands here.
Contract of the text of a rule. The rule is one of a valid machine; the library's table is as its text lays it. -/
import Derived.Test.YtcebkjiafjmjfaaGreatDoorP08
import Derived.Test.YtcebkjiafjmjfaaGreatDoorP07
section
namespace Go.Proofs.YtcebkjiafjmjfaaGreatDoor
open Go
section
variable {P : Program} {ops : Array Oper} {md : Region.Mode} {Q : Exit → Act → World → Prop}
inductive OrdT where
  | done
  | read (i : Nat) (t : OrdT)
  | stir (i : Nat) (t : OrdT)
  | fork (i : Nat) (t : OrdT) (j : Nat) (u : OrdT)
def readsT : List Nat → OrdT → OrdT
  | [], t => t
  | i :: is, t => .read i (readsT is t)
def nthO : List Oper → Nat → Option Oper
  | [], _ => none
  | o :: _, 0 => some o
  | _ :: l, i + 1 => nthO l i
theorem nthO_eq : ∀ (l : List Oper) (i : Nat), nthO l i = l[i]?
  | [], _ => rfl
  | _ :: _, 0 => rfl
  | _ :: l, i + 1 => by simpa [nthO] using nthO_eq l i
/-- One that stirs comes up; behind it the class of worlds may become narrower. -/
def stirT (P : Program) (ops : Array Oper) (Q : Exit → Act → World → Prop) (X : (World → Prop) → Act → World → Prop) (o : Oper) (S : World → Prop) (a : Act) (w : World) : Prop :=
  ∀ K : Act → World → Prop, (∀ (S' : World → Prop) a' w', (∀ x, S' x → S x) → S' w' → X S' a' w' → K a' w') →
      if Region.wanted o (yielded ops a.tmps) = true then Oper.wp P o a w K Q else K (a.put o.dst undef) w
def wpOrdT (P : Program) (ops : Array Oper) (Q : Exit → Act → World → Prop) (l : List Oper) (L : Act → World → Prop) : OrdT → (World → Prop) → Act → World → Prop
  | .done, _, a, w => L a w
  | .read i t, S, a, w => ∃ o, nthO l i = some o ∧ ∃ v, YieldsIf P ops S o v a ∧ wpOrdT P ops Q l L t S (a.put o.dst v) w
  | .stir i t, S, a, w => ∃ o, nthO l i = some o ∧ stirT P ops Q (wpOrdT P ops Q l L t) o S a w
  | .fork i t j u, S, a, w => (∃ o, nthO l i = some o ∧ stirT P ops Q (wpOrdT P ops Q l L t) o S a w) ∧ (∃ o, nthO l j = some o ∧ stirT P ops Q (wpOrdT P ops Q l L u) o S a w)
def ordTB (md : Region.Mode) (ops : Array Oper) (n g : Nat) : Nat → OrdT → Array Bool → Bool
  | 0, .done, listed => Region.seqB md ops g n listed
  | f + 1, .read i t, listed => decide (i < n) && (Region.ready md ops listed).contains i && Region.free md ops listed i && ordTB md ops n g f t (listed.setIfInBounds i true)
  | f + 1, .stir i t, listed => decide (i < n) && (Region.ready md ops listed == [i]) && ordTB md ops n g f t (listed.setIfInBounds i true)
  | f + 1, .fork i t j u, listed => decide (i < n) && decide (j < n) && (Region.ready md ops listed == [i, j]) && ordTB md ops n g f t (listed.setIfInBounds i true) && ordTB md ops n g f u (listed.setIfInBounds j true)
  | _, _, _ => false
theorem wpOp_stirT {X : (World → Prop) → Act → World → Prop} {Y : (World → Prop) → Act → World → Prop} {i : Nat} {o : Oper} {S : World → Prop} {a : Act} {w : World} (hi : ops[i]? = some o) (h : stirT P ops Q X o S a w) (hXY : ∀ S' a' w', S' w' → X S' a' w' → Y S' a' w') :
    wpOp P ops Q i (fun a' w' => ∃ S' : World → Prop, (∀ x, S' x → S x) ∧ S' w' ∧ Y S' a' w') a w :=
  wpOp_step hi fun K' hK' => h K' fun S' a' w' hsub hS' hW => hK' a' w' ⟨S', hsub, hS', hXY S' a' w' hS' hW⟩
theorem wpAnyN_ordT {n g : Nat} {Lq : Act → World → Prop} {l : List Oper} (hl : ops = l.toArray) (hsel : Region.noSelect ops = true) (hQ : ∀ c t t' d w, Q (.panic c) ⟨t, d⟩ w → Q (.panic c) ⟨t', d⟩ w) (hs : Region.sinkB md ops n = true) (hc : Region.chainB md ops n = true) (hn : n < ops.size) :
    ∀ (f : Nat) (tr : OrdT) (S : World → Prop) (listed : Array Bool) (a : Act) (w : World), HeadInv md ops n listed → ordTB md ops n g f tr listed = true → S w → wpOrdT P ops Q l Lq tr S a w →
    wpAnyN P md ops Q n (fun listed' a' w' => Region.seqB md ops g n listed' = true ∧ Lq a' w') f S listed a w := by
  have hnth : ∀ i o, nthO l i = some o → ops[i]? = some o := fun i o h => by rw [nthO_eq] at h; rw [hl]; simpa using h
  intro f
  induction f with
  | zero =>
    intro tr S listed a w inv hB hS h
    cases tr with
    | done => exact ⟨hB, h⟩
    | read i t => simp [ordTB] at hB
    | stir i t => simp [ordTB] at hB
    | fork i t j u => simp [ordTB] at hB
  | succ f ih =>
    intro tr S listed a w inv hB hS h
    cases tr with
    | done => simp [ordTB] at hB
    | read i t =>
      simp only [ordTB, Bool.and_eq_true, decide_eq_true_eq] at hB
      obtain ⟨⟨⟨hin, hr⟩, hf⟩, hB'⟩ := hB
      obtain ⟨o, ho, v, hy, hK⟩ := h
      have hi := hnth i o ho
      have hr' : i ∈ Region.ready md ops listed := by simpa using hr
      exact wpAnyN_first hi (Region.noSelect_spec hsel) hQ hs hc hn hin (fun listed' a' w' hL => seqB_ready hL.1) f S listed a w inv (Region.free_spec hi hf) hr' hy hS
        (ih t S _ _ w (inv.set hr' hin) hB' hS hK)
    | stir i t =>
      simp only [ordTB, Bool.and_eq_true, decide_eq_true_eq] at hB
      obtain ⟨⟨hin, hr⟩, hB'⟩ := hB
      obtain ⟨o, ho, hK⟩ := h
      have hr : Region.ready md ops listed = [i] := by simpa using hr
      refine ⟨by rw [hr]; simp, fun j hj => ?_⟩
      have hji : j = i := by rw [hr] at hj; simpa using hj
      subst hji
      exact ⟨hin, wpOp_stirT (hnth j o ho) hK fun S' a' w' hS' hW => ih t S' _ a' w' (inv.set hj hin) hB' hS' hW⟩
    | fork i t j u =>
      simp only [ordTB, Bool.and_eq_true, decide_eq_true_eq] at hB
      obtain ⟨⟨⟨⟨hin, hjn⟩, hr⟩, hB1⟩, hB2⟩ := hB
      obtain ⟨⟨o, ho, hK⟩, ⟨o', ho', hK'⟩⟩ := h
      have hr : Region.ready md ops listed = [i, j] := by simpa using hr
      refine ⟨by rw [hr]; simp, fun k hk => ?_⟩
      have hkk : k = i ∨ k = j := by rw [hr] at hk; simpa using hk
      by_cases e : k = i
      · subst e
        exact ⟨hin, wpOp_stirT (hnth k o ho) hK fun S' a' w' hS' hW => ih t S' _ a' w' (inv.set hk hin) hB1 hS' hW⟩
      · have e2 : k = j := hkk.resolve_left e
        subst e2
        exact ⟨hjn, wpOp_stirT (hnth k o' ho') hK' fun S' a' w' hS' hW => ih u S' _ a' w' (inv.set hk hjn) hB2 hS' hW⟩
def ordTreeB (md : Region.Mode) (ops : Array Oper) (n : Nat) (tr : OrdT) : Bool :=
  Region.noSelect ops && decide (n < ops.size) && Region.sinkB md ops n && Region.chainB md ops n && ordTB md ops n (ops.size - n) n tr (Array.replicate ops.size false)
theorem wp_region_ordT {id : Nat} {a : Act} {w : World} {l : List Oper} (n : Nat) (tr : OrdT) (hm : P.follows .mixedOrders = true) (hB : ordTreeB .any l.toArray n tr = true)
    (hQ : ∀ c t t' d w, Q (.panic c) ⟨t, d⟩ w → Q (.panic c) ⟨t', d⟩ w)
    (h : wpOrdT P l.toArray Q l (fun a' w' => wpList P l.toArray Q (l.drop n) a' w') tr (Ext w.drew) a w.drew) : (Code.region id l.toArray true).wp P Q a w := by
  simp only [ordTreeB, Bool.and_eq_true, decide_eq_true_eq] at hB
  obtain ⟨⟨⟨⟨hsel, hn⟩, hs⟩, hc⟩, hord⟩ := hB
  have hn' : n < l.length := by simpa using hn
  have hdl : (l.drop n).length = l.toArray.size - n := by simp
  have inv0 : HeadInv .any l.toArray n (Array.replicate l.toArray.size false) :=
    ⟨by simp, fun j oj _ hl => (by rw [getD_replicate_false] at hl; cases hl), fun t _ ht => getD_in (by simpa using ht) (getD_replicate_false _ _)⟩
  have H := wpAnyN_ordT (md := .any) (g := l.toArray.size - n) (Lq := fun a' w' => wpList P l.toArray Q (l.drop n) a' w') rfl hsel hQ hs hc hn n tr (Ext w.drew) _ a w.drew inv0 hord (Ext.refl _) h
  refine wp_region_any hm ?_
  have := wpAny_of_N (Q := Q) (g := l.toArray.size - n) (fun listed a' w' hL => by
    have := wpAny_of_seq (md := .any) (Q' := Q) (l.drop n) n listed a' w' (fun j => by simp [List.getElem?_drop]) (by rw [hdl]; exact hL.1) hL.2
    rwa [hdl] at this) _ _ _ _ _ H
  rw [show n + (l.toArray.size - n) = l.toArray.size by simp; omega] at this
  exact this
/-- The same, from a class of worlds that is picked. -/
theorem wp_region_ordTS {id : Nat} {a : Act} {w : World} {l : List Oper} (S : World → Prop) (n : Nat) (tr : OrdT) (hm : P.follows .mixedOrders = true) (hB : ordTreeB .any l.toArray n tr = true)
    (hQ : ∀ c t t' d w, Q (.panic c) ⟨t, d⟩ w → Q (.panic c) ⟨t', d⟩ w)
    (hS : S w.drew) (h : wpOrdT P l.toArray Q l (fun a' w' => wpList P l.toArray Q (l.drop n) a' w') tr S a w.drew) : (Code.region id l.toArray true).wp P Q a w := by
  simp only [ordTreeB, Bool.and_eq_true, decide_eq_true_eq] at hB
  obtain ⟨⟨⟨⟨hsel, hn⟩, hs⟩, hc⟩, hord⟩ := hB
  have hn' : n < l.length := by simpa using hn
  have hdl : (l.drop n).length = l.toArray.size - n := by simp
  have inv0 : HeadInv .any l.toArray n (Array.replicate l.toArray.size false) :=
    ⟨by simp, fun j oj _ hl => (by rw [getD_replicate_false] at hl; cases hl), fun t _ ht => getD_in (by simpa using ht) (getD_replicate_false _ _)⟩
  have H := wpAnyN_ordT (md := .any) (g := l.toArray.size - n) (Lq := fun a' w' => wpList P l.toArray Q (l.drop n) a' w') rfl hsel hQ hs hc hn n tr S _ a w.drew inv0 hord hS h
  refine wp_region_any hm ?_
  have := wpAny_of_N (Q := Q) (g := l.toArray.size - n) (fun listed a' w' hL => by
    have := wpAny_of_seq (md := .any) (Q' := Q) (l.drop n) n listed a' w' (fun j => by simp [List.getElem?_drop]) (by rw [hdl]; exact hL.1) hL.2
    rwa [hdl] at this) _ _ _ _ _ H
  rw [show n + (l.toArray.size - n) = l.toArray.size by simp; omega] at this
  exact this
theorem wpOrdT_read {l : List Oper} {L : Act → World → Prop} {i : Nat} {t : OrdT} {o : Oper} {S : World → Prop} {a : Act} {w : World} {v : Value} (ho : nthO l i = some o) (hy : YieldsIf P ops S o v a) (h : wpOrdT P ops Q l L t S (a.put o.dst v) w) : wpOrdT P ops Q l L (.read i t) S a w :=
  ⟨o, ho, v, hy, h⟩
theorem stirT_ext {X : (World → Prop) → Act → World → Prop} {o : Oper} {a : Act} {w : World} (h : ∀ K : Act → World → Prop, (∀ a' w', Ext w w' → X (Ext w') a' w' → K a' w') → if Region.wanted o (yielded ops a.tmps) = true then Oper.wp P o a w K Q else K (a.put o.dst undef) w) :
    stirT P ops Q X o (Ext w) a w := fun K hK => h K fun a' w' he hW => hK (Ext w') a' w' (fun _ hx => he.trans hx) (Ext.refl _) hW
theorem wpOrdT_stir {l : List Oper} {L : Act → World → Prop} {i : Nat} {t : OrdT} {o : Oper} {w : World} {a : Act} (ho : nthO l i = some o)
    (h : ∀ K : Act → World → Prop, (∀ a' w', Ext w w' → wpOrdT P ops Q l L t (Ext w') a' w' → K a' w') → if Region.wanted o (yielded ops a.tmps) = true then Oper.wp P o a w K Q else K (a.put o.dst undef) w) : wpOrdT P ops Q l L (.stir i t) (Ext w) a w :=
  ⟨o, ho, stirT_ext h⟩
theorem wpOrdT_fork {l : List Oper} {L : Act → World → Prop} {i j : Nat} {t u : OrdT} {o o' : Oper} {w : World} {a : Act} (ho : nthO l i = some o) (ho' : nthO l j = some o')
    (h : ∀ K : Act → World → Prop, (∀ a' w', Ext w w' → wpOrdT P ops Q l L t (Ext w') a' w' → K a' w') → if Region.wanted o (yielded ops a.tmps) = true then Oper.wp P o a w K Q else K (a.put o.dst undef) w)
    (h' : ∀ K : Act → World → Prop, (∀ a' w', Ext w w' → wpOrdT P ops Q l L u (Ext w') a' w' → K a' w') → if Region.wanted o' (yielded ops a.tmps) = true then Oper.wp P o' a w K Q else K (a.put o'.dst undef) w) : wpOrdT P ops Q l L (.fork i t j u) (Ext w) a w :=
  ⟨⟨o, ho, stirT_ext h⟩, ⟨o', ho', stirT_ext h'⟩⟩
/-- One that stirs, and leaves a world of the same class. -/
theorem wpOrdT_keep {l : List Oper} {L : Act → World → Prop} {i : Nat} {t : OrdT} {o : Oper} {S : World → Prop} {w : World} {a : Act} (ho : nthO l i = some o)
    (h : ∀ K : Act → World → Prop, (∀ a' w', S w' → wpOrdT P ops Q l L t S a' w' → K a' w') → if Region.wanted o (yielded ops a.tmps) = true then Oper.wp P o a w K Q else K (a.put o.dst undef) w) : wpOrdT P ops Q l L (.stir i t) S a w :=
  ⟨o, ho, fun K hK => h K fun a' w' hS hW => hK S a' w' (fun _ hx => hx) hS hW⟩
/-- Where two may come up, a class for each. -/
theorem wpOrdT_forks {l : List Oper} {L : Act → World → Prop} {i j : Nat} {t u : OrdT} {o o' : Oper} {S : World → Prop} {w : World} {a : Act} (ho : nthO l i = some o) (ho' : nthO l j = some o')
    (h : ∀ K : Act → World → Prop, (∀ (S' : World → Prop) a' w', (∀ x, S' x → S x) → S' w' → wpOrdT P ops Q l L t S' a' w' → K a' w') → if Region.wanted o (yielded ops a.tmps) = true then Oper.wp P o a w K Q else K (a.put o.dst undef) w)
    (h' : ∀ K : Act → World → Prop, (∀ (S' : World → Prop) a' w', (∀ x, S' x → S x) → S' w' → wpOrdT P ops Q l L u S' a' w' → K a' w') → if Region.wanted o' (yielded ops a.tmps) = true then Oper.wp P o' a w K Q else K (a.put o'.dst undef) w) : wpOrdT P ops Q l L (.fork i t j u) S a w :=
  ⟨⟨o, ho, h⟩, ⟨o', ho', h'⟩⟩
theorem wpOrdT_done {l : List Oper} {L : Act → World → Prop} {S : World → Prop} {a : Act} {w : World} (h : L a w) : wpOrdT P ops Q l L .done S a w := h
end
end Go.Proofs.YtcebkjiafjmjfaaGreatDoor
end
section
set_option linter.unusedSimpArgs false
set_option linter.unusedVariables false
namespace Go.Proofs.YtcebkjiafjmjfaaGreatDoor
open Go Go.RowKit Go.Proofs
set_option maxHeartbeats 400000
theorem bs_app (a b : List UInt8) : bsS a ++ bsS b = bsS (a ++ b) := by
  apply ByteArray.ext
  simp [bsS]
theorem itoaS_size {n : Int} (h0 : 0 ≤ n) (h1 : n ≤ 1000000) : (itoaS n).size ≤ 18 := by
  have e : (itoaS n).size = (Lib.itoa n).length := by show (Lib.itoa n).toArray.size = _; simp
  rw [e]
  unfold Lib.itoa
  rw [if_neg (by omega)]
  exact digits_len _ (by omega)
theorem ruleT_app {r : RuleD} (hr : r ≠ noR) (c : UInt8) (hc : c = if r.m < 0 then 76 else 82) : itoaS r.w ++ ⟨#[c]⟩ ++ itoaS r.n = bsS (ruleT r) := by
  have e : ruleT r = Lib.itoa r.w ++ [c] ++ Lib.itoa r.n := by
    unfold ruleT
    rw [if_neg hr, ← hc]
    simp
  rw [e, ← bs_app, ← bs_app]
  rfl
set_option maxRecDepth 20000 in
set_option maxHeartbeats 4000000 in
theorem ruleText_c (r : RuleD) (sy st : Int) (w : World) (h : ruleOk sy st r = true) (hs : sy ≤ 6) (ht : st ≤ 1000) (hT : Tab w) :
    Calls Tryz.prog 24 #[.agg #[.int .i64 r.w, .int .i64 r.m, .int .i64 r.n]] w fun e w' => e = .returned (.string (bsS (ruleT r))) ∧ Ext w w' := by
  obtain ⟨W, hW⟩ : ∃ W, w.alloc (.cells #[.int .i64 r.w, .int .i64 r.m, .int .i64 r.n] 54) = W := ⟨_, rfl⟩
  have hX : Ext w W := by rw [← hW]; exact Ext.alloc _ _
  have bR : Blk W w.heap.size 54 #[.int .i64 r.w, .int .i64 r.m, .int .i64 r.n] := by rw [← hW]; exact Blk.new _ _ _ _ rfl
  have c0 := bR.cell 0
  have c1 := bR.cell 1
  have c2 := bR.cell 2
  simp only [List.getElem?_toArray, List.getElem?_cons_zero, List.getElem?_cons_succ] at c0 c1 c2
  go_enter Tryz.func24, Tryz.ntmps24
  go_wp2_with fail
  refine (isRule_c _ _ _ W).mono ?_
  rintro e w1 ⟨rfl, hx1⟩
  have hX1 := hX.trans hx1
  have bR1 := bR.ext hx1
  clear c0 c1 c2
  have c0 := bR1.cell 0
  have c1 := bR1.cell 1
  have c2 := bR1.cell 2
  simp only [List.getElem?_toArray, List.getElem?_cons_zero, List.getElem?_cons_succ] at c0 c1 c2
  by_cases hr : r = noR
  · have hi : isR ⟨r.w, r.m, r.n⟩ = false := by subst hr; decide
    have HY : Hid (ruleT r = [45, 45, 45]) := by unfold Hid ruleT; rw [if_pos hr]
    rw [hi]
    clear hi hr
    go_wp2
    go_ret
    refine ⟨?_, hX1⟩
    rw [HY.out]
    rfl
  · have hi : isR ⟨r.w, r.m, r.n⟩ = true := by
      have : rEq r noR = false := decide_eq_false hr
      simp [isR, this]
    rw [hi]
    have hq := h
    simp only [ruleOk, decide_eq_false hr, Bool.false_or, Bool.and_eq_true] at hq
    have h1 := inB_iff.1 hq.1.1
    have h2 := inB_iff.1 hq.2
    obtain ⟨cm, hcm⟩ : ∃ c : UInt8, c = if r.m < 0 then 76 else 82 := ⟨_, rfl⟩
    have HC := Lib.hid (ruleT_app hr cm hcm)
    have HZ := Lib.hid hcm
    have d1 := Decimal_c r.w w1.drew (by omega) (by omega) ((hT.ext hX1).ext (Ext.drew w1))
    have hX1d := hX1.trans (Ext.drew w1)
    have z1 := itoaS_size (by omega : 0 ≤ r.w) (by omega)
    have z2 := itoaS_size (by omega : 0 ≤ r.n) (by omega)
    have n1 : ¬ 9223372036854775807 < (itoaS r.w).size + 1 := by omega
    have n2 : ¬ 9223372036854775807 < (itoaS r.w).size + 1 + (itoaS r.n).size := by omega
    clear hi hr hq hcm
    by_cases hm : r.m < 0
    · have hc : cm = 76 := by rw [HZ.out, if_pos hm]
      subst hc
      go_wp2_with fail
      refine wp_region_ordT 9 (readsT [0, 1, 3, 5, 6] (.stir 2 (readsT [4] (.stir 7 (readsT [8] .done))))) (by kernel_rfl) (by kernel_rfl) (fun _ _ _ _ _ h => h) ?_
      simp only [readsT]
      iterate 5 (refine wpOrdT_read (v := ?_) (by rfl) (Or.inl ⟨by rfl, fun x hx => ?_⟩) ?_; rotate_left; (· have a1 := hx.cell ((Ext.drew w1).cell c0); have a2 := hx.cell ((Ext.drew w1).cell c2); go_simp; try with_reducible rfl); try simp only [Act.put, List.setIfInBounds_toArray, List.set_cons_zero, List.set_cons_succ])
      refine wpOrdT_keep (by rfl) (fun K hK => ?_)
      go_simp
      refine d1.mono ?_
      rintro e w2 ⟨rfl, hx2⟩
      refine hK _ _ hx2 ?_
      clear hK K
      refine wpOrdT_read (v := ?_) (by rfl) (Or.inl ⟨by rfl, fun x hx => ?_⟩) ?_
      rotate_left
      · go_simp; try with_reducible rfl
      try simp only [Act.put, List.setIfInBounds_toArray, List.set_cons_zero, List.set_cons_succ]
      refine wpOrdT_keep (by rfl) (fun K hK => ?_)
      go_simp
      refine (Decimal_c r.n w2 (by omega) (by omega) ((hT.ext hX1d).ext hx2)).mono ?_
      rintro e w3 ⟨rfl, hx3⟩
      refine hK _ _ (hx2.trans hx3) ?_
      clear hK K
      refine wpOrdT_read (v := ?_) (by rfl) (Or.inl ⟨by rfl, fun x hx => ?_⟩) ?_
      rotate_left
      · go_simp; try with_reducible rfl
      try simp only [Act.put, List.setIfInBounds_toArray, List.set_cons_zero, List.set_cons_succ]
      refine wpOrdT_done ?_
      try simp only [List.drop_succ_cons, List.drop_zero]
      go_wp2
      go_ret
      exact ⟨by rw [← HC.out]; rfl, hX1d.trans (hx2.trans hx3)⟩
    · have hc : cm = 82 := by rw [HZ.out, if_neg hm]
      subst hc
      go_wp2_with fail
      refine wp_region_ordT 9 (readsT [0, 1, 3, 5, 6] (.stir 2 (readsT [4] (.stir 7 (readsT [8] .done))))) (by kernel_rfl) (by kernel_rfl) (fun _ _ _ _ _ h => h) ?_
      simp only [readsT]
      iterate 5 (refine wpOrdT_read (v := ?_) (by rfl) (Or.inl ⟨by rfl, fun x hx => ?_⟩) ?_; rotate_left; (· have a1 := hx.cell ((Ext.drew w1).cell c0); have a2 := hx.cell ((Ext.drew w1).cell c2); go_simp; try with_reducible rfl); try simp only [Act.put, List.setIfInBounds_toArray, List.set_cons_zero, List.set_cons_succ])
      refine wpOrdT_keep (by rfl) (fun K hK => ?_)
      go_simp
      refine d1.mono ?_
      rintro e w2 ⟨rfl, hx2⟩
      refine hK _ _ hx2 ?_
      clear hK K
      refine wpOrdT_read (v := ?_) (by rfl) (Or.inl ⟨by rfl, fun x hx => ?_⟩) ?_
      rotate_left
      · go_simp; try with_reducible rfl
      try simp only [Act.put, List.setIfInBounds_toArray, List.set_cons_zero, List.set_cons_succ]
      refine wpOrdT_keep (by rfl) (fun K hK => ?_)
      go_simp
      refine (Decimal_c r.n w2 (by omega) (by omega) ((hT.ext hX1d).ext hx2)).mono ?_
      rintro e w3 ⟨rfl, hx3⟩
      refine hK _ _ (hx2.trans hx3) ?_
      clear hK K
      refine wpOrdT_read (v := ?_) (by rfl) (Or.inl ⟨by rfl, fun x hx => ?_⟩) ?_
      rotate_left
      · go_simp; try with_reducible rfl
      try simp only [Act.put, List.setIfInBounds_toArray, List.set_cons_zero, List.set_cons_succ]
      refine wpOrdT_done ?_
      try simp only [List.drop_succ_cons, List.drop_zero]
      go_wp2
      go_ret
      exact ⟨by rw [← HC.out]; rfl, hX1d.trans (hx2.trans hx3)⟩
end Go.Proofs.YtcebkjiafjmjfaaGreatDoor
end
