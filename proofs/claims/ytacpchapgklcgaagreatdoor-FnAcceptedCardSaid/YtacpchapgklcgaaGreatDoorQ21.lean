/- A region that draws its order, whose operations change memory in one order alone, and whose last operations follow in one order upon all others: it may be walked in an order that is picked, the reading operations first. No program stands here.
Partial configurations in memory, and the contract of their texts. The letters are from 0 to 9, the state below a million; the library's table of powers of ten is as its text lays it. -/
import Derived.StillTail
import Derived.OrdersHeld
import Derived.Test.YtacpchapgklcgaaGreatDoorQ01
import Derived.Test.YtacpchapgklcgaaGreatDoorQ16
import Derived.Test.YtacpchapgklcgaaGreatDoorQ17
import Derived.Test.YtacpchapgklcgaaGreatDoorQ07
import Derived.Test.YtacpchapgklcgaaGreatDoorQ20
section
namespace Go.Proofs.YtacpchapgklcgaaGreatDoor
open Go
section
variable {P : Program} {ops : Array Oper} {md : Region.Mode} {Q : Exit → Act → World → Prop}
/-- An operation that is none of those that stir memory. -/
def calmOp (o : Oper) : Bool :=
  match o.op with
  | .call _ => false
  | .alloc _ => false
  | .buildSlice _ _ _ => false
  | .store _ _ _ => false
  | _ => true
/-- The first n operations in whatever order, each leaving a world of a class that may only become narrower; then L. -/
def wpAnyN (P : Program) (md : Region.Mode) (ops : Array Oper) (Q : Exit → Act → World → Prop) (n : Nat) (L : Array Bool → Act → World → Prop) : Nat → (World → Prop) → Array Bool → Act → World → Prop
  | 0, _, listed, a, w => L listed a w
  | f + 1, S, listed, a, w => Region.ready md ops listed ≠ [] ∧ ∀ i ∈ Region.ready md ops listed, i < n ∧
      wpOp P ops Q i (fun a' w' => ∃ S' : World → Prop, (∀ x, S' x → S x) ∧ S' w' ∧ wpAnyN P md ops Q n L f S' (listed.setIfInBounds i true) a' w') a w
theorem wpAny_of_N {n g : Nat} {L : Array Bool → Act → World → Prop} (hL : ∀ listed a w, L listed a w → wpAny P md ops Q g listed a w) :
    ∀ (f : Nat) (S : World → Prop) (listed : Array Bool) (a : Act) (w : World), wpAnyN P md ops Q n L f S listed a w → wpAny P md ops Q (f + g) listed a w
  | 0, _, listed, a, w, h => by rw [Nat.zero_add]; exact hL _ _ _ h
  | f + 1, S, listed, a, w, h => by
    rw [show f + 1 + g = (f + g) + 1 by omega]
    exact ⟨fun h0 => absurd h0 h.1, fun i hi => wpOp_mono (fun a' w' ⟨S', _, _, h'⟩ => wpAny_of_N hL f S' _ a' w' h') (h.2 i hi).2⟩
theorem yieldsIf_narrow {S S' : World → Prop} {o : Oper} {v : Value} {a : Act} (h : YieldsIf P ops S o v a) (hs : ∀ x, S' x → S x) : YieldsIf P ops S' o v a :=
  h.imp (fun ⟨h1, h2⟩ => ⟨h1, fun w hw => h2 w (hs w hw)⟩) id
/-- A reading operation that may come up may be taken first. -/
theorem wpAnyN_first {n i : Nat} {oi : Oper} {v : Value} {L : Array Bool → Act → World → Prop} (hi : ops[i]? = some oi) (hsel : ∀ (j : Nat) (o : Oper) cs b, ops[j]? = some o → o.op ≠ .select cs b)
    (hQ : ∀ c t t' d w, Q (.panic c) ⟨t, d⟩ w → Q (.panic c) ⟨t', d⟩ w)
    (hs : Region.sinkB md ops n = true) (hc : Region.chainB md ops n = true) (hn : n < ops.size) (hin : i < n)
    (hdone : ∀ listed a w, L listed a w → ∀ j ∈ Region.ready md ops listed, n ≤ j) :
    ∀ (f : Nat) (S : World → Prop) (listed : Array Bool) (a : Act) (w : World), HeadInv md ops n listed →
      (∀ j oj, ops[j]? = some oj → j ≠ i → listed.getD j true = false → (∀ e ∈ oj.after, Region.binds md e = true → e.on ≠ i) → oi.apart ops oj = true) →
      i ∈ Region.ready md ops listed → YieldsIf P ops S oi v a → S w →
      wpAnyN P md ops Q n L f S (listed.setIfInBounds i true) (a.put oi.dst v) w → wpAnyN P md ops Q n L (f + 1) S listed a w := by
  intro f
  induction f with
  | zero =>
    intro S listed a w inv _ hr hy hS H
    have hun := (mem_ready.1 hr).1
    refine ⟨fun h => (by rw [h] at hr; cases hr), fun j hj => ?_⟩
    have hjn : j < n := by
      rcases Nat.lt_or_ge j n with h | h
      · exact h
      · exact absurd hj (tail_waits hs hc hn inv _ i rfl hin hun j h)
    refine ⟨hjn, ?_⟩
    by_cases hji : j = i
    · subst hji; exact hy.wpOp hi hS ⟨S, fun _ h => h, hS, H⟩
    · have := hdone _ _ _ H j (ready_mono hj hji)
      omega
  | succ f ih =>
    intro S listed a w inv hfree hr hy hS H
    have hun := (mem_ready.1 hr).1
    refine ⟨fun h => (by rw [h] at hr; cases hr), fun j hj => ?_⟩
    have hjn : j < n := by
      rcases Nat.lt_or_ge j n with h | h
      · exact h
      · exact absurd hj (tail_waits hs hc hn inv _ i rfl hin hun j h)
    refine ⟨hjn, ?_⟩
    by_cases hji : j = i
    · subst hji; exact hy.wpOp hi hS ⟨S, fun _ h => h, hS, H⟩
    · have h1 := (H.2 j (ready_mono hj hji)).2
      obtain ⟨hjun, oj, hoj, hall⟩ := mem_ready.1 hj
      have hnot : ∀ e ∈ oj.after, Region.binds md e = true → e.on ≠ i := fun e he hb heq => by
        have h1 := hall e he hb
        rw [heq, getD_both hun] at h1
        cases h1
      have h2 := wpOp_putIf hoj (hfree j oj hoj hji hjun hnot) (fun cs b => hsel i oi cs b hi) (fun cs b => hsel j oj cs b hoj) (fun c a w h => by cases hd : oi.dst with
          | none => rw [hd] at h; exact h
          | some d => rw [hd] at h; exact hQ c _ _ _ w h) hy h1
      have hfree' : ∀ k ok, ops[k]? = some ok → k ≠ i → (listed.setIfInBounds j true).getD k true = false →
          (∀ e ∈ ok.after, Region.binds md e = true → e.on ≠ i) → oi.apart ops ok = true := fun k ok hk hki hun hno => by
        refine hfree k ok hk hki ?_ hno
        by_cases hjk : j = k
        · subst hjk; exact hjun
        · rw [getD_set_ne true hjk] at hun; exact hun
      refine wpOp_mono (fun a' w' h3 => ?_) h2
      obtain ⟨hy', S', hsub, hS', hN⟩ := h3
      refine ⟨S', hsub, hS', ih S' (listed.setIfInBounds j true) a' w' (inv.set hj hjn) hfree' (ready_mono hr (Ne.symm hji)) (yieldsIf_narrow hy' hsub) hS' ?_⟩
      rw [Array.setIfInBounds_comm _ _ hji]
      exact hN
/-- The operations one behind the other, in the order that is picked: of a reading one its value in every world of the class; behind one that stirs the class may become narrower. -/
def wpOrd (P : Program) (ops : Array Oper) (Q : Exit → Act → World → Prop) (L : Act → World → Prop) : List Oper → (World → Prop) → Act → World → Prop
  | [], _, a, w => L a w
  | o :: os, S, a, w =>
    (calmOp o = true ∧ ∃ v, YieldsIf P ops S o v a ∧ wpOrd P ops Q L os S (a.put o.dst v) w) ∨
    (calmOp o = false ∧ ∀ K : Act → World → Prop, (∀ (S' : World → Prop) a' w', (∀ x, S' x → S x) → S' w' → wpOrd P ops Q L os S' a' w' → K a' w') →
      if Region.wanted o (yielded ops a.tmps) = true then Oper.wp P o a w K Q else K (a.put o.dst undef) w)
/-- The operations of these numbers. -/
def pickO (l : List Oper) : List Nat → List Oper
  | [] => []
  | i :: is => (l.drop i).head? |>.elim (pickO l is) (fun o => o :: pickO l is)
def ordB (md : Region.Mode) (ops : Array Oper) (n g : Nat) : List Nat → Array Bool → Bool
  | [], listed => Region.seqB md ops g n listed
  | i :: is, listed =>
    (match ops[i]? with
      | some o => decide (i < n) && (if calmOp o then (Region.ready md ops listed).contains i && Region.free md ops listed i else Region.ready md ops listed == [i])
      | none => false) && ordB md ops n g is (listed.setIfInBounds i true)
theorem wpAnyN_ord {n g : Nat} {Lq : Act → World → Prop} {l : List Oper} (hl : ops = l.toArray) (hsel : Region.noSelect ops = true) (hQ : ∀ c t t' d w, Q (.panic c) ⟨t, d⟩ w → Q (.panic c) ⟨t', d⟩ w) (hs : Region.sinkB md ops n = true) (hc : Region.chainB md ops n = true) (hn : n < ops.size) :
    ∀ (is : List Nat) (S : World → Prop) (listed : Array Bool) (a : Act) (w : World), HeadInv md ops n listed → ordB md ops n g is listed = true → S w → wpOrd P ops Q Lq (pickO l is) S a w →
    wpAnyN P md ops Q n (fun listed' a' w' => Region.seqB md ops g n listed' = true ∧ Lq a' w') is.length S listed a w
  | [], S, listed, a, w, inv, hB, hS, h => ⟨by simpa [ordB] using hB, h⟩
  | i :: is, S, listed, a, w, inv, hB, hS, h => by
    simp only [ordB, Bool.and_eq_true] at hB
    obtain ⟨h1, hB'⟩ := hB
    cases hi : ops[i]? with
    | none => rw [hi] at h1; cases h1
    | some o =>
      rw [hi] at h1
      simp only [Bool.and_eq_true, decide_eq_true_eq] at h1
      obtain ⟨hin, h1⟩ := h1
      have hp : pickO l (i :: is) = o :: pickO l is := by
        have : (l.drop i).head? = some o := by
          rw [List.head?_drop]
          rw [hl] at hi
          simpa using hi
        simp [pickO, this]
      rw [hp] at h
      by_cases hk : calmOp o = true
      · rw [if_pos hk] at h1
        simp only [Bool.and_eq_true] at h1
        rcases h with ⟨_, v, hy, hK⟩ | ⟨hk', _⟩
        · have hr : i ∈ Region.ready md ops listed := by simpa using h1.1
          exact wpAnyN_first hi (Region.noSelect_spec hsel) hQ hs hc hn hin (fun listed' a' w' hL => seqB_ready hL.1) is.length S listed a w inv (Region.free_spec hi h1.2) hr hy hS
            (wpAnyN_ord hl hsel hQ hs hc hn is S _ _ w (inv.set hr hin) hB' hS hK)
        · rw [hk] at hk'; cases hk'
      · rw [if_neg hk] at h1
        rcases h with ⟨hk', _⟩ | ⟨_, hK⟩
        · exact absurd hk' hk
        · have hr : Region.ready md ops listed = [i] := by simpa using h1
          refine ⟨by rw [hr]; simp, fun j hj => ?_⟩
          have hji : j = i := by rw [hr] at hj; simpa using hj
          subst hji
          refine ⟨hin, wpOp_step hi fun K' hK' => hK K' fun S' a' w' hsub hS' hW => hK' a' w' ⟨S', hsub, hS', ?_⟩⟩
          exact wpAnyN_ord hl hsel hQ hs hc hn is S' _ a' w' (inv.set hj hin) hB' hS' hW
/-- The condition on the region's form. -/
def ordTailB (md : Region.Mode) (ops : Array Oper) (n : Nat) (is : List Nat) : Bool :=
  Region.noSelect ops && decide (n < ops.size) && decide (is.length = n) && Region.sinkB md ops n && Region.chainB md ops n && ordB md ops n (ops.size - n) is (Array.replicate ops.size false)
theorem wp_region_ord {id : Nat} {a : Act} {w : World} {l : List Oper} (n : Nat) (is : List Nat) (hm : P.follows .mixedOrders = true) (hB : ordTailB .any l.toArray n is = true)
    (hQ : ∀ c t t' d w, Q (.panic c) ⟨t, d⟩ w → Q (.panic c) ⟨t', d⟩ w)
    (h : wpOrd P l.toArray Q (fun a' w' => wpList P l.toArray Q (l.drop n) a' w') (pickO l is) (Ext w.drew) a w.drew) : (Code.region id l.toArray true).wp P Q a w := by
  simp only [ordTailB, Bool.and_eq_true, decide_eq_true_eq] at hB
  obtain ⟨⟨⟨⟨⟨hsel, hn⟩, hlen⟩, hs⟩, hc⟩, hord⟩ := hB
  have hdl : (l.drop n).length = l.toArray.size - n := by simp
  have inv0 : HeadInv .any l.toArray n (Array.replicate l.toArray.size false) :=
    ⟨by simp, fun j oj _ hl => (by rw [getD_replicate_false] at hl; cases hl), fun t _ ht => getD_in (by simpa using ht) (getD_replicate_false _ _)⟩
  have H := wpAnyN_ord (md := .any) (g := l.toArray.size - n) (Lq := fun a' w' => wpList P l.toArray Q (l.drop n) a' w') rfl hsel hQ hs hc hn is (Ext w.drew) _ a w.drew inv0 hord (Ext.refl _) h
  refine wp_region_any hm ?_
  have := wpAny_of_N (Q := Q) (g := l.toArray.size - n) (fun listed a' w' hL => by
    have := wpAny_of_seq (md := .any) (Q' := Q) (l.drop n) n listed a' w' (fun j => by simp [List.getElem?_drop]) (by rw [hdl]; exact hL.1) hL.2
    rwa [hdl] at this) _ _ _ _ _ H
  rw [hlen, show n + (l.toArray.size - n) = l.toArray.size by omega] at this
  exact this
/-- One that reads: its value in every world that keeps the old blocks. -/
theorem wpOrd_read {L : Act → World → Prop} {o : Oper} {os : List Oper} {S : World → Prop} {a : Act} {w : World} {v : Value} (hk : calmOp o = true) (hy : YieldsIf P ops S o v a) (h : wpOrd P ops Q L os S (a.put o.dst v) w) : wpOrd P ops Q L (o :: os) S a w :=
  .inl ⟨hk, v, hy, h⟩
/-- One that stirs, behind which old blocks are as they were. -/
theorem wpOrd_stir {L : Act → World → Prop} {o : Oper} {os : List Oper} {w : World} {a : Act} (hk : calmOp o = false)
    (h : ∀ K : Act → World → Prop, (∀ a' w', Ext w w' → wpOrd P ops Q L os (Ext w') a' w' → K a' w') → if Region.wanted o (yielded ops a.tmps) = true then Oper.wp P o a w K Q else K (a.put o.dst undef) w) : wpOrd P ops Q L (o :: os) (Ext w) a w :=
  .inr ⟨hk, fun K hK => h K fun a' w' he hW => hK (Ext w') a' w' (fun _ hx => he.trans hx) (Ext.refl _) hW⟩
theorem wpOrd_done {L : Act → World → Prop} {S : World → Prop} {a : Act} {w : World} (h : L a w) : wpOrd P ops Q L [] S a w := h
end
end Go.Proofs.YtacpchapgklcgaaGreatDoor
end
section
set_option linter.unusedSimpArgs false
set_option linter.unusedVariables false
namespace Go.Proofs.YtacpchapgklcgaaGreatDoor
open Go Go.RowKit Go.Proofs
set_option maxHeartbeats 400000
/-- Partial configurations in a row of the call's own. -/
def PdAt (ib : Nat) (w : World) (vs : List Value) (xs : List PartD) : Prop :=
  ∀ i, (h : i < xs.length) → ∃ u, vs[i * 3]? = some (.int .i64 xs[i].q) ∧ vs[i * 3 + 1]? = some (.int .i64 (xs[i].p : Int)) ∧ vs[i * 3 + 2]? = some u ∧ OwnInts ib w u xs[i].cs
def OwnPD (base : Nat) (w : World) (v : Value) (xs : List PartD) : Prop := ∃ vs, w.ownsRow base 101 3 v xs.length vs ∧ PdAt base w vs xs
theorem PdAt.ext {ib : Nat} {w w' : World} {vs : List Value} {xs : List PartD} (h : PdAt ib w vs xs) (he : Ext w w') : PdAt ib w' vs xs := fun i hi => by
  obtain ⟨u, e0, e1, e2, hu⟩ := h i hi
  exact ⟨u, e0, e1, e2, hu.ext he⟩
theorem OwnPD.ext {base : Nat} {w w' : World} {v : Value} {xs : List PartD} (h : OwnPD base w v xs) (he : Ext w w') : OwnPD base w' v xs := by
  obtain ⟨vs, h1, h2⟩ := h
  exact ⟨vs, ownsRow_ext h1 he, h2.ext he⟩
theorem OwnPD.form {base : Nat} {w : World} {v : Value} {xs : List PartD} (h : OwnPD base w v xs) : ∃ A c, v = .slice A xs.length c ∧ xs.length ≤ c ∧ c ≤ 9223372036854775807 := by
  obtain ⟨vs, h1, _⟩ := h
  obtain ⟨A, c, hv, h1, h2, _⟩ := (ownsRow_row h1).form
  exact ⟨A, c, hv, h1, h2⟩
theorem OwnPD.at {base : Nat} {w : World} {A : Option Addr} {c : Nat} {xs : List PartD} (h : OwnPD base w (.slice A xs.length c) xs) {k : Nat} (hk : k < xs.length) :
    ∃ g u, A = some ⟨g, 0, none⟩ ∧ w.cell? ⟨g, k * 3, none⟩ = some (.int .i64 xs[k].q) ∧ w.cell? ⟨g, k * 3 + 1, none⟩ = some (.int .i64 (xs[k].p : Int)) ∧ w.cell? ⟨g, k * 3 + 2, none⟩ = some u ∧ OwnInts base w u xs[k].cs := by
  obtain ⟨vs, h1, h2⟩ := h
  obtain ⟨g, rfl, _, _⟩ := own_at h1 (by omega)
  obtain ⟨u, e0, e1, e2, hu⟩ := h2 k hk
  exact ⟨g, u, rfl, by rw [h1.cellAt _ (by omega), e0], by rw [h1.cellAt _ (by omega), e1], by rw [h1.cellAt _ (by omega), e2], hu⟩
theorem PdAt.kept {ib base : Nat} {w w' : World} {v : Value} {n : Nat} {ws vs : List Value} {xs : List PartD} (h : PdAt ib w vs xs) (ho : w.ownsRow base 101 3 v n ws) (hg : w.grownBy w' v.ownBlock) : PdAt ib w' vs xs := fun i hi => by
  obtain ⟨u, e0, e1, e2, hu⟩ := h i hi
  exact ⟨u, e0, e1, e2, World.ownsRow.kept hu hg (own_ne hu ho (by decide))⟩
theorem PdAt.snoc {ib : Nat} {w : World} {vs : List Value} {xs : List PartD} {x : PartD} {u : Value} (h : PdAt ib w vs xs) (hl : vs.length = xs.length * 3) (hu : OwnInts ib w u x.cs) : PdAt ib w (vs ++ [.int .i64 x.q, .int .i64 (x.p : Int), u]) (xs ++ [x]) := by
  intro i hi
  by_cases hlt : i < xs.length
  · obtain ⟨u', e0, e1, e2, hu'⟩ := h i hlt
    refine ⟨u', ?_, ?_, ?_, by rw [List.getElem_append_left hlt]; exact hu'⟩
    · rw [List.getElem?_append_left (by omega), e0, List.getElem_append_left hlt]
    · rw [List.getElem?_append_left (by omega), e1, List.getElem_append_left hlt]
    · rw [List.getElem?_append_left (by omega), e2]
  · have hie : i = xs.length := by simp at hi; omega
    subst hie
    refine ⟨u, ?_, ?_, ?_, by simpa using hu⟩
    · rw [List.getElem?_append_right (by omega), hl]; simp
    · rw [List.getElem?_append_right (by omega), hl]; simp
    · rw [List.getElem?_append_right (by omega), hl]; simp
theorem PdAt.low {b b' : Nat} {w : World} {vs : List Value} {xs : List PartD} (h : PdAt b w vs xs) (hb : b' ≤ b) : PdAt b' w vs xs := fun i hi => by
  obtain ⟨u, e0, e1, e2, hu⟩ := h i hi
  exact ⟨u, e0, e1, e2, ownsRow_base hu hb⟩
theorem OwnPD.low {b b' : Nat} {w : World} {v : Value} {xs : List PartD} (h : OwnPD b w v xs) (hb : b' ≤ b) : OwnPD b' w v xs := by
  obtain ⟨vs, h1, h2⟩ := h
  exact ⟨vs, ownsRow_base h1 hb, h2.low hb⟩
/-- The text of a partial configuration. -/
def keyP (x : PartD) : List UInt8 := digB (x.cs.take x.p) ++ [91] ++ Lib.itoa x.q ++ [93] ++ digB (x.cs.drop x.p)
/-- It is valid enough for its text. -/
structure TextOk (x : PartD) : Prop where
  q0 : 0 ≤ x.q
  q1 : x.q ≤ 1000
  p : x.p < x.cs.length
  len : x.cs.length ≤ 1000
  cs : ∀ z ∈ x.cs, 0 ≤ z ∧ z ≤ 9
theorem takeInts {w : World} {b off n c : Nat} {zs : List Int} (h : Ints w (.slice (some ⟨b, off, none⟩) n c) zs) (k : Nat) (hk : k ≤ zs.length) : Ints w (.slice (some ⟨b, off, none⟩) k c) (zs.take k) := by
  obtain ⟨A, c', hv, h1, h2, h3, h4⟩ := h
  injection hv with e1 e2 e3
  subst e3
  have hl : (zs.take k).length = k := by simp; omega
  refine ⟨_, c, by rw [hl], by omega, h2, by simp, fun hn => ⟨b, off, rfl, fun j hj => ?_⟩⟩
  obtain ⟨b', off', hA, hc⟩ := h4 (by omega)
  rw [← e1] at hA
  injection hA with hA
  injection hA with e4 e5
  subst e4 e5
  have hj2 : j < k := by simpa [hl] using hj
  rw [hc j (by simp; omega)]
  simp [ivs, List.getElem?_take, hj2]
theorem dropInts {w : World} {b off n c : Nat} {zs : List Int} (h : Ints w (.slice (some ⟨b, off, none⟩) n c) zs) (k : Nat) (hk : k < zs.length) : Ints w (.slice (some ⟨b, off + k, none⟩) (n - k) (c - k)) (zs.drop k) := by
  obtain ⟨A, c', hv, h1, h2, h3, h4⟩ := h
  injection hv with e1 e2 e3
  subst e3
  have hl : (zs.drop k).length = n - k := by simp; omega
  refine ⟨_, c - k, by rw [hl], by omega, by omega, by simp, fun hn => ⟨b, off + k, rfl, fun j hj => ?_⟩⟩
  obtain ⟨b', off', hA, hc⟩ := h4 (by omega)
  rw [← e1] at hA
  injection hA with hA
  injection hA with e4 e5
  subst e4 e5
  have hj2 : k + j < zs.length := by have := hl; simp only [ivs_length] at hj; omega
  have := hc (k + j) (by simpa using hj2)
  rw [Nat.add_assoc, this]
  simp [ivs]
set_option maxRecDepth 20000 in
set_option maxHeartbeats 4000000 in
theorem partialText_c (x : PartD) (u : Value) (w : World) (h : OwnInts 0 w u x.cs) (hx : TextOk x) (hT : Tab w) :
    Calls Tryz.prog 88 #[.agg #[.int .i64 x.q, .int .i64 (x.p : Int), u]] w fun e w' => e = .returned (.string ⟨(keyP x).toArray⟩) ∧ Ext w w' := by
  obtain ⟨hq0, hq1, hp, hl, hcs⟩ := hx
  obtain ⟨q, p, cs⟩ := x
  simp only at *
  obtain ⟨A, c, rfl, h1, h2⟩ := h.ints.form
  obtain ⟨b, rfl, _, _⟩ := own_at h (by omega)
  obtain ⟨W, hW⟩ : ∃ W, w.alloc (.cells #[.int .i64 q, .int .i64 (p : Int), .slice (some ⟨b, 0, none⟩) cs.length c] 101) = W := ⟨_, rfl⟩
  have hX : Ext w W := by rw [← hW]; exact Ext.alloc _ _
  have bP : Blk W w.heap.size 101 #[.int .i64 q, .int .i64 (p : Int), .slice (some ⟨b, 0, none⟩) cs.length c] := by rw [← hW]; exact Blk.new _ _ _ _ rfl
  generalize hg0 : w.heap.size = g at *
  have hXD := hX.trans (Ext.drew W)
  have q0 := (bP.ext (Ext.drew W)).cell 0
  have q1 := (bP.ext (Ext.drew W)).cell 1
  have q2 := (bP.ext (Ext.drew W)).cell 2
  simp only [List.getElem?_toArray, List.getElem?_cons_zero, List.getElem?_cons_succ] at q0 q1 q2
  have i0 : (0 : Int) ≤ (p : Int) := by omega
  have i1 : (p : Int) ≤ (cs.length : Int) := by omega
  have i2 : (p : Int) ≤ (c : Int) := by omega
  have i3 : ¬ c = p := by omega
  have HI := Lib.hid h.ints
  have HCS := Lib.hid hcs
  have HT := Lib.hid hT
  clear hcs hT h
  go_enter Tryz.func88, Tryz.ntmps88
  go_wp2_with fail
  refine wp_region_ord 19 [0, 1, 2, 3, 4, 7, 8, 12, 13, 14, 15, 16, 5, 6, 9, 10, 11, 17, 18] (by kernel_rfl) (by kernel_rfl) (fun _ _ _ _ _ h => h) ?_
  simp only [pickO, List.drop_succ_cons, List.drop_zero, List.head?_cons, Option.elim_some]
  repeat (refine wpOrd_read (v := ?_) (by rfl) (Or.inl ⟨by rfl, fun x hx => ?_⟩) ?_; rotate_left; (· have a0 := hx.cell q0; have a1 := hx.cell q1; have a2 := hx.cell q2; go_simp; try with_reducible rfl); simp only [Act.put, List.setIfInBounds_toArray, List.set_cons_zero, List.set_cons_succ])
  have hdr := dropInts HI.out p (by omega)
  rw [Nat.zero_add] at hdr
  have D1 := fun W' hx => digitsText_c _ (cs.take p) W' ((takeInts HI.out p (by omega)).ext hx) (fun z hz => HCS.out z (List.mem_of_mem_take hz)) (by simp; omega)
  have D2 := fun W' hx => digitsText_c _ (cs.drop p) W' (hdr.ext hx) (fun z hz => HCS.out z (List.mem_of_mem_drop hz)) (by simp; omega)
  have D3 := fun W' hx => Decimal_c q W' (by omega) (by omega) (HT.out.ext hx)
  have l1 : (digB (cs.take p)).length ≤ 1000 := by simp [digB]; omega
  have l2 : (digB (cs.drop p)).length ≤ 1000 := by simp [digB]; omega
  have l3 := Lib.itoa_length_le q (by omega) (by omega)
  have HK : Hid (keyP ⟨q, p, cs⟩ = digB (cs.take p) ++ [91] ++ Lib.itoa q ++ [93] ++ digB (cs.drop p)) := Lib.hid rfl
  clear hdr
  generalize digB (cs.take p) = t1 at *
  generalize digB (cs.drop p) = t2 at *
  unfold itoaS at D3
  generalize Lib.itoa q = t3 at *
  obtain ⟨s1, hs1⟩ : ∃ s, t1 ++ [91] = s := ⟨_, rfl⟩
  have ls1 : s1.length ≤ 1100 := by rw [← hs1]; simp only [List.length_append, List.length_cons, List.length_nil]; omega
  have Hs1 := Lib.hid hs1
  clear hs1
  obtain ⟨s2, hs2⟩ : ∃ s, s1 ++ t3 = s := ⟨_, rfl⟩
  have ls2 : s2.length ≤ 1200 := by rw [← hs2]; simp only [List.length_append, List.length_cons, List.length_nil]; omega
  have Hs2 := Lib.hid hs2
  clear hs2
  obtain ⟨s3, hs3⟩ : ∃ s, s2 ++ [93] = s := ⟨_, rfl⟩
  have ls3 : s3.length ≤ 1300 := by rw [← hs3]; simp only [List.length_append, List.length_cons, List.length_nil]; omega
  have Hs3 := Lib.hid hs3
  clear hs3
  obtain ⟨s4, hs4⟩ : ∃ s, s3 ++ t2 = s := ⟨_, rfl⟩
  have ls4 : s4.length ≤ 2400 := by rw [← hs4]; simp only [List.length_append, List.length_cons, List.length_nil]; omega
  have Hs4 := Lib.hid hs4
  clear hs4
  refine wpOrd_stir (by rfl) (fun K hK => ?_)
  go_simp
  go_at_call 114
  refine (D1 _ hXD).mono ?_
  rintro e w3 ⟨rfl, hx3⟩
  refine hK _ _ hx3 ?_
  clear hK K
  refine wpOrd_read (v := .string ⟨s1.toArray⟩) (by rfl) (Or.inl ⟨by rfl, fun x hx => ?_⟩) ?_
  · go_simp
    rw [if_neg (by omega)]
    exact congrArg (fun b => Result.ok (Next.value (Value.string b)) x) ((ByteArray.mk_append_mk t1 [91]).trans (by rw [Hs1.out]))
  try simp only [Act.put, List.setIfInBounds_toArray, List.set_cons_zero, List.set_cons_succ]
  refine wpOrd_stir (by rfl) (fun K hK => ?_)
  go_simp
  go_at_call 99
  refine (D3 _ (hXD.trans hx3)).mono ?_
  rintro e w4 ⟨rfl, hx4⟩
  refine hK _ _ hx4 ?_
  clear hK K
  refine wpOrd_read (v := .string ⟨s2.toArray⟩) (by rfl) (Or.inl ⟨by rfl, fun x hx => ?_⟩) ?_
  · go_simp
    rw [if_neg (by omega)]
    exact congrArg (fun b => Result.ok (Next.value (Value.string b)) x) ((ByteArray.mk_append_mk s1 t3).trans (by rw [Hs2.out]))
  try simp only [Act.put, List.setIfInBounds_toArray, List.set_cons_zero, List.set_cons_succ]
  refine wpOrd_read (v := .string ⟨s3.toArray⟩) (by rfl) (Or.inl ⟨by rfl, fun x hx => ?_⟩) ?_
  · go_simp
    rw [if_neg (by omega)]
    exact congrArg (fun b => Result.ok (Next.value (Value.string b)) x) ((ByteArray.mk_append_mk s2 [93]).trans (by rw [Hs3.out]))
  try simp only [Act.put, List.setIfInBounds_toArray, List.set_cons_zero, List.set_cons_succ]
  refine wpOrd_stir (by rfl) (fun K hK => ?_)
  go_simp
  go_at_call 114
  refine (D2 _ ((hXD.trans hx3).trans hx4)).mono ?_
  rintro e w5 ⟨rfl, hx5⟩
  refine hK _ _ hx5 ?_
  clear hK K
  refine wpOrd_read (v := .string ⟨s4.toArray⟩) (by rfl) (Or.inl ⟨by rfl, fun x hx => ?_⟩) ?_
  · go_simp
    rw [if_neg (by omega)]
    exact congrArg (fun b => Result.ok (Next.value (Value.string b)) x) ((ByteArray.mk_append_mk s3 t2).trans (by rw [Hs4.out]))
  try simp only [Act.put, List.setIfInBounds_toArray, List.set_cons_zero, List.set_cons_succ]
  refine wpOrd_done ?_
  have hXE := ((hXD.trans hx3).trans hx4).trans hx5
  try simp only [List.drop_succ_cons, List.drop_zero]
  go_wp2
  go_ret
  exact ⟨by rw [HK.out, Hs1.out, Hs2.out, Hs3.out, Hs4.out]; rfl, hXE⟩
end Go.Proofs.YtacpchapgklcgaaGreatDoor
end
