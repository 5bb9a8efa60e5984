/- The library's iterator over the parts of a list of rules, at parts of one length.
A region that draws its order, within a round of a range over a function: walked along a tree, as elsewhere. No condition. -/
import Derived.Test.YtcebkjiafjmjfaaGreatDoorP08
import Derived.Test.YtcebkjiafjmjfaaGreatDoorP11
import Derived.Test.YtcebkjiafjmjfaaGreatDoorP09
import Derived.Shelf.Abstract
import Derived.Shelf.RegionOpen
import Derived.WalkKit
import Derived.OwnWalkIn
import Derived.TacticsInMore
import Derived.LoopNIn
import Derived.LoopIn
import Derived.OrdersIn
import Derived.RangeFuncCalls
import Derived.AtR
section
set_option linter.unusedSimpArgs false
set_option linter.unusedVariables false
namespace Go.Proofs.YtcebkjiafjmjfaaGreatDoor
open Go Go.RowKit Go.Proofs Go.Shelf
attribute [local go_sem] Oper.semAt_some
set_option maxHeartbeats 400000
/-- The part i of the rules. -/
abbrev rowV (b off S : Nat) (i : Nat) : Value := .slice (some ⟨b, off + i * S * 3, none⟩) S S
abbrev encC (b off S : Nat) (i : Nat) : Array Value := #[rowV b off S i]
def WrC (A B : World) : Prop := Ext A B
def StC (T : Nat) (pre : List Nat) (x : Nat) (W : World) : Prop := pre = List.range x ∧ x < T
def KpC (bs : Nat) (W W' : World) : Prop := W'.heap[bs]? = W.heap[bs]? ∧ W'.heap[bs + 1]? = W.heap[bs + 1]?
def SC (T : Nat) (xs : List Nat) (W : World) : Prop := xs = List.range T
def SpC (xs : List Nat) (W : World) : Prop := True
theorem Chunk_c (A : Option Addr) (L c : Nat) (S : Nat) (h1 : 1 ≤ S) (w : World) :
    Calls Tryz.prog 23 #[.slice A L c, .int .i64 (S : Int)] w fun e w' => e = .returned (.func (.func 49) #[] #[.pointer (some ⟨w.heap.size, 0, none⟩), .pointer (some ⟨w.heap.size + 1, 0, none⟩)]) ∧ w' = (w.alloc (.cells #[.slice A L c] 24)).alloc (.cells #[.int .i64 (S : Int)] 3) := by
  have hlt : ¬ (S : Int) < 1 := by omega
  go_enter Tryz.func23, Tryz.ntmps23
  go_wp2
  go_ret
  exact ⟨rfl, rfl⟩
set_option maxRecDepth 100000 in
set_option maxHeartbeats 4000000 in
theorem chunk1_w (n : Nat) (hn : 4 ≤ n) (w : World) (bs b off c S T : Nat) (h1 : 1 ≤ S) (hS : S ≤ 6) (hT : T ≤ 1000) (hc : T * S ≤ c) (hc2 : c ≤ 9223372036854775807)
    (hB : Blk w bs 24 #[.slice (some ⟨b, off, none⟩) (T * S) c]) (hN : Blk w (bs + 1) 3 #[.int .i64 (S : Int)]) :
    SeqW Fence.wide n Tryz.prog 49 #[.pointer (some ⟨bs, 0, none⟩), .pointer (some ⟨bs + 1, 0, none⟩)] (encC b off S) WrC (StC T) (KpC bs) (SC T) SpC (T + 1) w := fun l J Jx W hb hJw hY h0 => by
  have hn1 : 1 ≤ n := by omega
  refine callsIn_of_wp Tryz.func49 rfl trivial ?_ rfl
  simp only [Tryz.ntmps49, List.size_toArray, List.length_cons, List.length_nil, Nat.reduceAdd, Nat.reduceSub, Array.replicate_succ, Array.replicate_zero, List.push_toArray, List.append_toArray, List.nil_append, List.cons_append]
  gi_wp2
  gi_loopw [4] (fun iv wr => ∃ k : Nat, iv = .int .i64 ((k * S : Nat) : Int) ∧ k ≤ T ∧ J (List.range k) wr ∧ Blk wr bs 24 #[.slice (some ⟨b, off, none⟩) (T * S) c] ∧ Blk wr (bs + 1) 3 #[.int .i64 (S : Int)]) (fun iv _ => (T + 1) * S - (intOf iv).toNat)
  case atStart => exact ⟨0, by simp, Nat.zero_le _, h0, (Below.block hb _ hB.lt).trans hB, (Below.block hb _ hN.lt).trans hN⟩
  case round =>
    obtain ⟨k, rfl, hk, hJ, bB, bN⟩ := hrel
    have c0 := bB.cell 0
    have c1 := bN.cell 0
    simp only [List.getElem?_toArray, List.getElem?_cons_zero] at c0 c1
    by_cases hlt : k < T
    · have hle : k * S + S ≤ T * S := by
        have := Nat.mul_le_mul_right S (show k + 1 ≤ T by omega)
        rw [Nat.succ_mul] at this
        exact this
      have hTS : T * S ≤ 6000 := by
        have := Nat.mul_le_mul hT hS
        omega
      have d1 : ((k * S : Nat) : Int) < ((T * S : Nat) : Int) := by omega
      generalize hks : k * S = i at *
      generalize hts : T * S = L at *
      have d2 : ¬ (i : Int) < 0 := by omega
      have d3 : ¬ (L : Int) < (i : Int) := by omega
      have d4 : ((L : Int) - (i : Int)) = ((L - i : Nat) : Int) := by omega
      have hmin : min (S : Int) ((L - i : Nat) : Int) = (S : Int) := by omega
      have hci : ¬ c = i := by omega
      have hLi : ¬ L = i := by omega
      gi_wp2
      refine wpIn_wide.2 ?_
      refine wp_region_ordT 5 (readsT [0, 1, 2, 3, 4] .done) (by kernel_rfl) (by kernel_rfl) (fun _ _ _ _ _ h => h) ?_
      simp only [readsT]
      iterate 5 (refine wpOrdT_read (v := ?_) (by rfl) (Or.inl ⟨by rfl, fun x hx => ?_⟩) ?_; rotate_left; (· have a1 := hx.cell ((Ext.drew wr).cell c0); have a2 := hx.cell ((Ext.drew wr).cell c1); go_simp; try with_reducible rfl); try simp only [Act.put, List.setIfInBounds_toArray, List.set_cons_zero, List.set_cons_succ])
      refine wpOrdT_done ?_
      try simp only [List.drop_succ_cons, List.drop_zero]
      change wpList _ _ _ _ _ wr.drew
      go_wp2
      have hX := Ext.drew wr
      have bB2 := bB.ext hX
      have bN2 := bN.ext hX
      obtain ⟨fn, tmps, assign, body, hy, hRd⟩ := hY (List.range k) k wr.drew (hJw _ _ _ hJ hX) ⟨rfl, hlt⟩ (by simp; omega)
      dsimp only [encC, rowV] at hy
      rw [hks] at hy
      have e0 := hX.cell c0
      have e1 := hX.cell c1
      have hw : IntKind.i64.wrap ((i : Int) + (S : Int)) = (i : Int) + (S : Int) := IntWalk.i64_in _ (by omega)
      have p1 : ¬ (c : Int) < (i : Int) + (S : Int) := by omega
      have p2 : ¬ (i : Int) + (S : Int) < (i : Int) := by omega
      have p3 : ((i : Int) + (S : Int)).toNat = i + S := by omega
      clear c0 c1
      generalize wr.drew = wd at *
      gi_wp2
      refine hRd.mono ?_
      rintro e W3 (⟨rfl, hJ3, hk3⟩ | ⟨rfl, hJx3, hk3⟩)
      · have B3 : Blk W3 bs 24 #[.slice (some ⟨b, off, none⟩) L c] := hk3.1.trans bB2
        have N3 : Blk W3 (bs + 1) 3 #[.int .i64 (S : Int)] := hk3.2.trans bN2
        have g1 := N3.cell 0
        simp only [List.getElem?_toArray, List.getElem?_cons_zero] at g1
        have hks' : (k + 1) * S = i + S := by rw [Nat.succ_mul, hks]
        clear hRd hy e0 e1
        gi_wp2
        go_roundw
        case rel => exact ⟨k + 1, by rw [hks']; go_num, by omega, by rw [List.range_succ]; exact hJ3, B3, N3⟩
        case measure =>
          have : (T + 1) * S = L + S := by rw [Nat.succ_mul, hts]
          rw [this]
          simp [intOf]
          omega
      · clear hRd hy e0 e1
        gi_wp2
        refine bodyPost_ret (results_none rfl _ _ _) rfl ?_
        exact ⟨⟨_, rfl⟩, .inr ⟨_, trivial, hJx3⟩⟩
    · obtain rfl : k = T := by omega
      have d1 : ¬ ((k * S : Nat) : Int) < ((k * S : Nat) : Int) := by omega
      generalize k * S = L at *
      gi_wp2
      refine bodyPost_end (results_none rfl _ _ _) rfl ?_
      exact ⟨⟨_, rfl⟩, .inl ⟨_, rfl, hJ⟩⟩
end Go.Proofs.YtcebkjiafjmjfaaGreatDoor
end
section
set_option linter.unusedSimpArgs false
set_option linter.unusedVariables false
namespace Go.Proofs.YtcebkjiafjmjfaaGreatDoor
open Go Go.RowKit
theorem opIn_round {l n : Nat} {P : Program} {o : Oper} {a : Act} {w : World} {K : Act → World → Prop} {Q : Exit → Act → World → Prop} (ho : ∀ c, o.op ≠ .defer c) (h : o.wp P a w K Q) : o.wpIn (Fence.wide.inRound l) n P a w K Q := by
  refine ⟨fun _ _ => trivial, ?_⟩
  rw [Oper.semAt_eq _ _ _ ho]
  unfold Oper.wp at h
  have hd : ¬ ((Fence.wide.inRound l).depth.isSome = true) := by simp [Fence.wide]
  generalize (execOp a.eval o).run P w = r at h
  cases r with
  | ok x w' =>
    cases x with
    | value v => exact h
    | skip => exact h
    | defer d => exact h
    | enter f args => exact ⟨fun e => absurd e hd, CallsIn.inRound l (callsIn_wide.2 h)⟩
    | row row args => exact ⟨fun e => absurd e hd, fun c cs _ => let ⟨v, w', r, s⟩ := h c cs; ⟨v, w', r, stepsIn_wide.2 s⟩⟩
    | _ => exact h.elim
  | halt x w' => cases x <;> first | exact h | exact h.elim
def noDefer (o : Oper) : Bool := match o.op with | .defer _ => false | _ => true
theorem noDefer_spec {o : Oper} (h : noDefer o = true) : ∀ c, o.op ≠ .defer c := by
  intro c e
  unfold noDefer at h
  rw [e] at h
  cases h
theorem anyIn_round {l n : Nat} {P : Program} {md : Region.Mode} {ops : Array Oper} {Q : Exit → Act → World → Prop} (hq : ¬ LetsOut Q) (hd : ∀ (i : Nat) o, ops[i]? = some o → noDefer o = true) :
    ∀ (fuel : Nat) (listed : Array Bool) (a : Act) (w : World), wpAny P md ops Q fuel listed a w → wpAnyIn (Fence.wide.inRound l) n P md ops Q fuel listed a w := by
  intro fuel
  induction fuel with
  | zero => intro listed a w h; exact h
  | succ fuel ih =>
    intro listed a w h
    refine ⟨h.1, fun i hi => ?_⟩
    have h2 := h.2 i hi
    unfold wpOp at h2
    unfold wpOpIn
    cases ho : ops[i]? with
    | none => rw [ho] at h2; exact ih _ _ _ h2
    | some o =>
      rw [ho] at h2
      dsimp only at h2 ⊢
      split
      · rename_i hw
        rw [if_pos hw] at h2
        rcases h2 with h2 | ⟨_, h2⟩
        · exact opIn_round (noDefer_spec (hd i o ho)) (Oper.wp_mono (fun a w => ih _ a w) h2)
        · exact absurd h2 hq
      · rename_i hw
        rw [if_neg hw] at h2
        exact ⟨fun _ _ => trivial, ih _ _ _ h2⟩
variable {P : Program} {Q : Exit → Act → World → Prop}
/-- As wp_region_ordT, within a round. -/
theorem wpIn_region_ordT {m k : Nat} {id : Nat} {a : Act} {w : World} {l : List Oper} (n : Nat) (tr : OrdT) (hm : P.follows .mixedOrders = true) (hB : ordTreeB .any l.toArray n tr = true) (hD : l.all noDefer = true) (hq : ¬ LetsOut Q)
    (hQ : ∀ c t t' d w, Q (.panic c) ⟨t, d⟩ w → Q (.panic c) ⟨t', d⟩ w)
    (h : wpOrdT P l.toArray Q l (fun a' w' => wpList P l.toArray Q (l.drop n) a' w') tr (Ext w.drew) a w.drew) : (Code.region id l.toArray true).wpIn (Fence.wide.inRound m) k P Q a w := by
  simp only [ordTreeB, Bool.and_eq_true, decide_eq_true_eq] at hB
  obtain ⟨⟨⟨⟨hsel, hn⟩, hs⟩, hc⟩, hord⟩ := hB
  have hn' : n < l.length := by simpa using hn
  have hdl : (l.drop n).length = l.toArray.size - n := by simp
  have inv0 : HeadInv .any l.toArray n (Array.replicate l.toArray.size false) :=
    ⟨by simp, fun j oj _ hl => (by rw [getD_replicate_false] at hl; cases hl), fun t _ ht => getD_in (by simpa using ht) (getD_replicate_false _ _)⟩
  have H := wpAnyN_ordT (md := .any) (g := l.toArray.size - n) (Lq := fun a' w' => wpList P l.toArray Q (l.drop n) a' w') rfl hsel hQ hs hc hn n tr (Ext w.drew) _ a w.drew inv0 hord (Ext.refl _) h
  refine wpIn_region_any hm (anyIn_round hq (fun i o ho => ?_) _ _ _ _ ?_)
  · have : o ∈ l := by simpa using Array.mem_of_getElem? ho
    exact List.all_eq_true.1 hD o this
  · have := wpAny_of_N (Q := Q) (g := l.toArray.size - n) (fun listed a' w' hL => by
      have := wpAny_of_seq (md := .any) (Q' := Q) (l.drop n) n listed a' w' (fun j => by simp [List.getElem?_drop]) (by rw [hdl]; exact hL.1) hL.2
      rwa [hdl] at this) _ _ _ _ _ H
    rw [show n + (l.toArray.size - n) = l.toArray.size by simp; omega] at this
    exact this
end Go.Proofs.YtcebkjiafjmjfaaGreatDoor
end
