/- A region that draws its order, with one operation that calls or makes memory, over the words of Base. No program stands here. -/
import Derived.Test.YtdkdmcaehinkhaaDoorOne
import Derived.Test.YtdkdmcaehinkhaaDoorBase
namespace Go.Proofs.YtdkdmcaehinkhaaDoor
open Go Go.RowKit
/-- The class of worlds that extend a world, as the quiet walk wants it. -/
def Grows (w : World) : World → Prop := fun w' => ∃ p : Regrown, w' = Sort.grow (redrawn w p.d) p.os
theorem grows_iff {w w' : World} : (∃ p : Regrown, w' = Sort.grow (redrawn w p.d) p.os) ↔ Ext w w' :=
  ⟨fun ⟨p, hp⟩ => by subst hp; exact below_regrown w p.d p.os, fun h => regrown_of_below h⟩
theorem wp_region_mix {P : Program} {id : Nat} {Q : Exit → Act → World → Prop} {a : Act} {w : World} {l : List Oper} (t : Nat) (ot : Oper) (Post : Value → World → Prop) (hm : P.follows .mixedOrders = true) (hB : Region.lexB .any l.toArray = true)
    (hl : l = l.take t ++ ot :: l.drop (t + 1)) (hp1 : (l.take t).all plainOp = true) (hp2 : (l.drop (t + 1)).all plainOp = true)
    (h : wpQuiet P l.toArray (fun w' => ∃ p : Regrown, w' = Sort.grow (redrawn w p.d) p.os) (fun a =>
      (Region.wanted ot (yielded l.toArray a.tmps) = true ∧ ∀ w1, Ext w w1 → stirAt P ot a w1 (fun u w' => Ext w1 w' ∧ Post u w')) ∧
      ∀ u, (∃ w', Ext w w' ∧ Post u w') → wpQuiet P l.toArray (fun w' => ∃ p : Regrown, w' = Sort.grow (redrawn w p.d) p.os) (fun a' => ∀ w', Ext w w' → Post u w' → Q .normal a' w') (l.drop (t + 1)) (a.put ot.dst u)) (l.take t) a) :
    (Code.region id l.toArray true).wp P Q a w := by
  have hC : (fun w' => ∃ p : Regrown, w' = Sort.grow (redrawn w p.d) p.os) { w with drawn := w.drawn + 1 } := ⟨⟨w.drawn + 1, #[]⟩, by rw [Sort.grow_empty]; rfl⟩
  have hB' : Region.lexB .any (l.take t ++ ot :: l.drop (t + 1)).toArray = true := by rw [← hl]; exact hB
  have key := wp_region_one (P := P) (id := id) (Q := Q) (a := a) (w := w) (C := fun w' => ∃ p : Regrown, w' = Sort.grow (redrawn w p.d) p.os) (Post := Post) (l.take t) (l.drop (t + 1)) ot hm hB' hp1 hp2 hC ?_
  · rwa [← hl] at key
  · rw [← hl]
    refine wpQuiet_mono ?_ _ _ h
    rintro a' ⟨⟨hw, hs⟩, hu⟩
    refine ⟨⟨hw, fun w1 h1 => ?_⟩, fun u ⟨w', h1, h2⟩ => ?_⟩
    · have h1' := grows_iff.1 h1
      have := hs w1 h1'
      exact stirAt.mono this fun u w' ⟨e1, e2⟩ => ⟨grows_iff.2 (h1'.trans e1), e2⟩
    · refine wpQuiet_mono ?_ _ _ (hu u ⟨w', grows_iff.1 h1, h2⟩)
      intro a'' hq w'' hc hpo
      exact hq w'' (grows_iff.1 hc) hpo
where
  wpQuiet_mono {P : Program} {ops : Array Oper} {C : World → Prop} {Q Q' : Act → Prop} (hq : ∀ a, Q a → Q' a) : ∀ (l : List Oper) (a : Act), wpQuiet P ops C Q l a → wpQuiet P ops C Q' l a
    | [], a, h => hq a h
    | o :: l, a, h => by
      have h' : if Region.wanted o (yielded ops a.tmps) then o.quiet P a C (wpQuiet P ops C Q l) else wpQuiet P ops C Q l (a.put o.dst undef) := h
      show if Region.wanted o (yielded ops a.tmps) then o.quiet P a C (wpQuiet P ops C Q' l) else wpQuiet P ops C Q' l (a.put o.dst undef)
      by_cases hw : Region.wanted o (yielded ops a.tmps) = true
      · rw [if_pos hw] at h' ⊢
        exact Oper.quiet_mono (fun a' h'' => wpQuiet_mono hq l a' h'') h'
      · rw [if_neg hw] at h' ⊢
        exact wpQuiet_mono hq l _ h'
  stirAt.mono {P : Program} {o : Oper} {a : Act} {w : World} {K K' : Value → World → Prop} (h : stirAt P o a w K) (hk : ∀ u w', K u w' → K' u w') : stirAt P o a w K' := by
    unfold stirAt at *
    generalize (execOp a.eval o).run P w = r at *
    cases r with
    | ok n w' =>
      cases n <;> simp only [stirUpon] at h ⊢
      case value v => exact hk _ _ h
      case skip => exact hk _ _ h
      case enter f args => exact Calls.mono h fun e w'' ⟨v, he, hv⟩ => ⟨v, he, hk _ _ hv⟩
    | halt x w' => simp only [stirUpon] at h
end Go.Proofs.YtdkdmcaehinkhaaDoor
