/- The order of rules with several tapes is a strict weak order.
Contracts of the program's sorting of rules with several tapes (12 rules at most) and of its lists in another order. -/
import Derived.Test.YtkbpchdncljlbaaU10
import Derived.Shelf.SlSortCmp.Insertion
import Derived.Test.YtkbpchdncljlbaaU23
import Derived.Test.YtkbpchdncljlbaaShelfTwo
import Derived.Test.YtkbpchdncljlbaaShelf
section
set_option linter.unusedVariables false
set_option linter.unusedSimpArgs false
namespace Go.Proofs.Ytkbpchdncljlbaa
open Go Go.RowKit Go.Proofs
set_option maxHeartbeats 400000
theorem cmpM_swo (f : Nat → MRuleD) : Sort.SWO (ltOf fun i j : Nat => cmpM (f i) (f j)) := by
  have t1 : ∀ a b c : MRuleD, cmpM a b < 0 → cmpM b c < 0 → cmpM a c < 0 := by
    intro a b c h1 h2
    unfold cmpM at *
    by_cases e1 : a.st = b.st <;> by_cases e2 : b.st = c.st
    · rw [if_pos e1] at h1; rw [if_pos e2] at h2; rw [if_pos (e1.trans e2)]; exact cmpL_trans _ _ _ h1 h2
    · rw [if_neg e2] at h2
      rw [if_neg (fun e => e2 (e1.symm.trans e))]
      split at h2 <;> (split <;> omega)
    · rw [if_neg e1] at h1
      rw [if_neg (fun e => e1 (e.trans e2.symm))]
      split at h1 <;> (split <;> omega)
    · rw [if_neg e1] at h1; rw [if_neg e2] at h2
      split at h1 <;> split at h2 <;> first | omega | (rw [if_neg (by omega), if_pos (by omega)]; omega)
  have t2 : ∀ a b c : MRuleD, ¬ cmpM a b < 0 → ¬ cmpM b c < 0 → ¬ cmpM a c < 0 := by
    intro a b c h1 h2
    unfold cmpM at *
    by_cases e1 : a.st = b.st <;> by_cases e2 : b.st = c.st
    · rw [if_pos e1] at h1; rw [if_pos e2] at h2; rw [if_pos (e1.trans e2)]; exact cmpL_ntrans _ _ _ h1 h2
    · rw [if_neg e2] at h2
      rw [if_neg (fun e => e2 (e1.symm.trans e))]
      split at h2 <;> (split <;> omega)
    · rw [if_neg e1] at h1
      rw [if_neg (fun e => e1 (e.trans e2.symm))]
      split at h1 <;> (split <;> omega)
    · rw [if_neg e1] at h1; rw [if_neg e2] at h2
      split at h1 <;> split at h2 <;> first | omega | (rw [if_neg (by omega), if_neg (by omega)]; omega)
  refine ⟨fun x => ?_, fun x y z h1 h2 => ?_, fun x y z h1 h2 => ?_⟩
  · simp [ltOf, cmpM, cmpL_self]
  · simp only [ltOf, decide_eq_true_eq] at *
    exact t1 _ _ _ h1 h2
  · simp only [ltOf, decide_eq_false_iff_not] at *
    exact t2 _ _ _ h1 h2
end Go.Proofs.Ytkbpchdncljlbaa
end
section
set_option linter.unusedVariables false
set_option linter.unusedSimpArgs false
namespace Go.Proofs.Ytkbpchdncljlbaa
open Go Go.RowKit Go.Proofs Go.Maps
set_option maxHeartbeats 400000
/-- As compareMultiRules_c: blocks are laid, nothing is drawn. -/
theorem compareMultiRulesG_c (u v : Value) (a b : MRuleD) (w : World) (ha : MRul w u a) (hb : MRul w v b) :
    Calls Try.prog 56 #[u, v] w fun e w' => e = .returned (.int .i64 (cmpM a b)) ∧ ∃ os, w' = Sort.grow w os := by
  obtain ⟨ar, aw, am, rfl, ha1, _, _⟩ := ha
  obtain ⟨br, bw, bm, rfl, hb1, _, _⟩ := hb
  obtain ⟨A1, k1, rfl, _, _⟩ := ha1.form
  obtain ⟨B1, j1, rfl, _, _⟩ := hb1.form
  obtain ⟨W, hW⟩ : ∃ W, W = (w.alloc (.cells #[.int .i64 a.st, .slice A1 a.rd.length k1, aw, am, .int .i64 a.nx] 70)).alloc (.cells #[.int .i64 b.st, .slice B1 b.rd.length j1, bw, bm, .int .i64 b.nx] 70) := ⟨_, rfl⟩
  have hX : Ext w W := by rw [hW]; exact (Ext.alloc _ _).trans (Ext.alloc _ _)
  have hG : ∃ os, W = Sort.grow w os := ⟨_, by rw [hW, Sort.alloc_eq_grow, Sort.alloc_eq_grow, Sort.grow_grow]⟩
  have hC := slicesCompare_c W _ _ a.rd b.rd (ha1.ext hX) (hb1.ext hX)
  obtain ⟨k, hk⟩ : ∃ k, cmpM a b = k := ⟨_, rfl⟩
  rw [hk]
  have HK := Lib.hid hk
  have HG := Lib.hid hG
  clear hk hG
  by_cases he : a.st = b.st
  · have H : (a.st != b.st) = false := by simp [he]
    have HE : Hid (k = cmpL a.rd b.rd) := by unfold Hid; rw [← HK.out, cmpM, if_pos he]
    clear he
    go_enter Try.func56, Try.ntmps56
    go_wp2_with fail
    try rw [← hW]
    clear hW
    refine hC.mono ?_
    rintro e w' ⟨rfl, rfl⟩
    go_wp2
    go_ret
    exact ⟨by rw [HE.out]; rfl, HG.out⟩
  · have H : (a.st != b.st) = true := by simp [he]
    by_cases hl : a.st < b.st
    · have HE : Hid (k = -1) := by unfold Hid; rw [← HK.out, cmpM, if_neg he, if_pos hl]
      clear he
      go_enter Try.func56, Try.ntmps56
      go_wp2
      go_ret
      rw [← hW]
      exact ⟨by rw [HE.out]; rfl, HG.out⟩
    · have HE : Hid (k = 1) := by unfold Hid; rw [← HK.out, cmpM, if_neg he, if_neg hl]
      clear he
      go_enter Try.func56, Try.ntmps56
      go_wp2
      go_ret
      rw [← hW]
      exact ⟨by rw [HE.out]; rfl, HG.out⟩
/-- The cells of the k-th rule. -/
def encM (cl : List Value) (n k : Nat) : List Value :=
  if k < n then [cl.getD (k * 5) undef, cl.getD (k * 5 + 1) undef, cl.getD (k * 5 + 2) undef, cl.getD (k * 5 + 3) undef, cl.getD (k * 5 + 4) undef]
  else [.int .i64 0, .slice none 0 0, .slice none 0 0, .slice none 0 0, .int .i64 0]
theorem encM_len (cl : List Value) (n k : Nat) : (encM cl n k).length = 5 := by unfold encM; split <;> rfl
theorem encM_get (cl : List Value) (n q r : Nat) (hq : q < n) (hr : r < 5) (hl : cl.length = n * 5) : some (encM cl n q)[r]! = cl[q * 5 + r]? := by
  have hx : q * 5 + r < cl.length := by omega
  have e : (encM cl n q)[r]! = cl.getD (q * 5 + r) undef := by
    unfold encM
    rw [if_pos hq]
    match r, hr with
    | 0, _ => rfl
    | 1, _ => rfl
    | 2, _ => rfl
    | 3, _ => rfl
    | 4, _ => rfl
  rw [e, List.getD_eq_getElem?_getD, List.getElem?_eq_getElem hx]
  rfl
theorem MCells.rul {base : Nat} {w : World} {cl : List Value} {rs : List MRuleD} (h : MCells base w cl rs) (k : Nat) : MRul w (.agg (encM cl rs.length k).toArray) (rs.getD k mr0) := by
  by_cases hk : k < rs.length
  · obtain ⟨vr, vw, vm, c0, c1, c2, c3, c4, o1, o2, o3⟩ := h.2 k hk
    have e : rs.getD k mr0 = rs[k] := by rw [List.getD_eq_getElem?_getD, List.getElem?_eq_getElem hk]; rfl
    rw [e]
    refine ⟨vr, vw, vm, ?_, o1.ints, o2.ints, o3.ints⟩
    unfold encM
    rw [if_pos hk]
    simp only [List.getD_eq_getElem?_getD, c0, c1, c2, c3, c4, Option.getD_some]
  · have e : rs.getD k mr0 = mr0 := by rw [List.getD_eq_getElem?_getD, List.getElem?_eq_none (by omega)]; rfl
    rw [e]
    have z : Ints w (.slice none 0 0) [] := ⟨none, 0, rfl, Nat.le_refl _, by omega, by simp, fun hn => absurd hn (by simp)⟩
    refine ⟨_, _, _, ?_, z, z, z⟩
    unfold encM
    rw [if_neg hk]
    rfl
theorem grownBy_sortWK {α : Type} [Inhabited α] (enc : α → List Value) (k : Nat) (w : World) (g n : Nat) (d : Array α) (os : Array Obj) : w.grownBy (sortWorldK enc k w g 0 n d os) (some g) := by
  refine ⟨rfl, rfl, rfl, by simp [sortWorldK, Sort.putRowK, Sort.putRow, Sort.mapBlock, Sort.ahead, Sort.grow], fun q hk hne => ?_⟩
  unfold sortWorldK
  rw [Sort.heap_grow_old _ _ (by simpa [Sort.putRowK, Sort.putRow, Sort.mapBlock, Sort.ahead] using hk)]
  have : g ≠ q := fun e => hne (by rw [e])
  simp [Sort.putRowK, Sort.putRow, Sort.mapBlock, Sort.ahead, Array.getElem?_modify, this]
theorem MCells.keepB {base : Nat} {w w' : World} {cl : List Value} {rs : List MRuleD} (h : MCells base w cl rs) (hk : KeepB base w w') : MCells base w' cl rs :=
  ⟨h.1, fun i hi => by
    obtain ⟨vr, vw, vm, c0, c1, c2, c3, c4, o1, o2, o3⟩ := h.2 i hi
    exact ⟨vr, vw, vm, c0, c1, c2, c3, c4, ownsRow_keepB o1 hk, ownsRow_keepB o2 hk, ownsRow_keepB o3 hk⟩⟩
/-- Sorted rules: no later one stands before an earlier one. -/
def SortedM (rs : List MRuleD) : Prop := ∀ i j, i < j → j < rs.length → ¬ cmpM (rs.getD j mr0) (rs.getD i mr0) < 0
set_option maxRecDepth 20000 in
theorem sortM_c (base : Nat) (w : World) (v : Value) (rs : List MRuleD) (h : OwnMR base w v rs) (h0 : 0 < rs.length) (h12 : rs.length ≤ 12) :
    Calls Try.prog 68 #[v, .func (.func 56) #[] #[]] w fun e w' => e = .returned (.tuple #[]) ∧ (∃ rs', rs'.Perm rs ∧ SortedM rs' ∧ ∀ W, KeepB base w' W → MRules W v rs') ∧ w.grownBy w' v.ownBlock := by
  obtain ⟨cl, h1, h2⟩ := h
  obtain ⟨A, cap, rfl, g1, g2, _⟩ := (ownsRow_row h1).form
  obtain ⟨g, rfl, hb, hlt⟩ := own_at h1 h0
  have hlen := h2.1
  have hrow : ∀ (W0 : World), w.grownBy W0 (some g) → MCells base W0 cl rs := fun W0 hW => h2.same fun q cs hq => hW.block q hq.lt (by have := blk_ne_row hq h1 (by decide); exact this)
  have hone : ∀ k, ∀ x ∈ encM cl rs.length k, x.oneCell' = true := by
    intro k x hx
    obtain ⟨vr, vw, vm, e, i1, i2, i3⟩ := h2.rul k
    obtain ⟨_, _, rfl, _⟩ := i1.form
    obtain ⟨_, _, rfl, _⟩ := i2.form
    obtain ⟨_, _, rfl, _⟩ := i3.form
    injection e with e
    have hx' : x ∈ (encM cl rs.length k).toArray.toList := by simpa using hx
    rw [e] at hx'
    simp at hx'
    rcases hx' with rfl | rfl | rfl | rfl | rfl <;> rfl
  have hO := cmpM_swo (fun k => rs.getD k mr0)
  have hsz : (List.range rs.length).toArray.size = rs.length := by simp
  have hdj : ∀ j, j < rs.length → (List.range rs.length).toArray[j]! = j := fun j hj => by simp [hj]
  have hrr : cl.length ≤ cl.length := Nat.le_refl _
  have hcell : ∀ j, j < rs.length * 5 → w.cell? ⟨g, j, none⟩ = cl[j]? ∧ w.frozen? ⟨g, j, none⟩ = false := by
    intro j hj
    rcases h1.2 with ⟨e, _⟩ | ⟨g', cap', cur, hv, hb', hh, hnc, hcm, hcs, htk⟩
    · cases e
    · injection hv with e1 e2 e3
      injection e1 with e1
      injection e1 with e1
      subst e1
      refine ⟨?_, ?_⟩
      · rw [cell_of_row w g j cur _ (0, 0) hh]
        rw [← htk, List.getElem?_take_of_lt (by omega), Array.getElem?_toList]
      · unfold World.frozen?
        simp [hh]
  have hH : Sort.HoldsK (encM cl rs.length) 5 w g 0 (List.range rs.length).toArray := by
    intro j hj
    rw [Sort.size_flatK, hsz] at hj
    rw [Sort.get_flatK _ _ _ _ (by rw [hsz]; exact hj), Nat.zero_add]
    have hq : j / 5 < rs.length := by omega
    rw [hdj _ hq]
    obtain ⟨a, b⟩ := hcell j hj
    refine ⟨?_, b⟩
    rw [a]
    show _ = some (encM cl rs.length (j / 5))[j % 5]!
    rw [encM_get cl rs.length (j / 5) (j % 5) hq (by omega) hlen]
    congr 1
    omega
  have key := AnyQ.slices_SortFunc_small_sorted Try.laysSortK 5 Try.isAgg70 Try.sizeOf70 (encM cl rs.length) (encM_len cl rs.length) hone (fun i j : Nat => cmpM (rs.getD i mr0) (rs.getD j mr0)) 56 #[] hO g 0 cap (List.range rs.length).toArray w (enters_of Try.func56 (by kernel_rfl) rfl)
    (fun m os dk hdk x y => by
      have hW := hrow _ (grownBy_sortWK (encM cl rs.length) 5 w g m dk os)
      refine (compareMultiRulesG_c _ _ _ _ _ (hW.rul x) (hW.rul y)).mono ?_
      rintro e w' ⟨rfl, os', rfl⟩
      exact ⟨rfl, 0, os', rfl⟩) hH hlt (by rw [hsz]; exact h12) (fun n W hn => (Try.bits_Len n W (by omega) (by omega)).mono fun _ _ ⟨he, hw⟩ => ⟨⟨_, he⟩, hw⟩)
  rw [hsz] at key
  refine key.mono ?_
  rintro e w' ⟨rfl, d', n, os, hp, hS, rfl⟩
  have hgw := grownBy_sortWK (encM cl rs.length) 5 w g n d' os
  obtain ⟨hp1, hp2, hp3⟩ := hp
  have hd' : d'.size = rs.length := by rw [hp1, hsz]
  have hperm : d'.toList.Perm (List.range rs.length) := by
    have e1 : d'.extract 0 rs.length = d' := by
      rw [← hd', Array.extract_size]
    have e2 : (List.range rs.length).toArray.extract 0 rs.length = (List.range rs.length).toArray := by
      have := @Array.extract_size _ (List.range rs.length).toArray
      rwa [hsz] at this
    rw [e1, e2] at hp3
    simpa using hp3
  have hrl : (d'.toList.map fun k => rs.getD k mr0).length = rs.length := by simp [hd']
  have hgd : ∀ i, i < rs.length → (d'.toList.map fun k => rs.getD k mr0).getD i mr0 = rs.getD d'[i]! mr0 := fun i hi => by
    rw [List.getD_eq_getElem?_getD, List.getElem?_eq_getElem (by omega)]
    simp [hd', hi]
  refine ⟨rfl, ⟨d'.toList.map fun k => rs.getD k mr0, ?_, ?_, ?_⟩, hgw⟩
  · have h3 := hperm.map (fun k => rs.getD k mr0)
    have e : (List.range rs.length).map (fun k => rs.getD k mr0) = rs := by
      apply List.ext_getElem (by simp)
      intro i h1 h2
      simp [List.getD_eq_getElem?_getD, List.getElem?_eq_getElem h2]
    rwa [e] at h3
  · intro i j hij hj
    rw [hrl] at hj
    have := hS i j (Nat.zero_le _) hij hj
    rw [hgd j hj, hgd i (by omega)]
    simpa [ltOf] using this
  · intro W hWW
    have hM := (hrow _ hgw).keepB hWW
    have hHs := holdsK_sortWorldK_c (encM cl rs.length) 5 w g 0 _ d' n os hH hlt (by rw [hp1])
    refine ⟨_, cap, by rw [hrl], by omega, g2, fun _ => ⟨g, 0, rfl, fun i hi => ?_⟩⟩
    have hi' : i < rs.length := by omega
    have hin : i < d'.size := by omega
    have hri : (d'.toList.map fun k => rs.getD k mr0)[i] = rs.getD d'[i]! mr0 := by
      have := hgd i hi'
      rw [List.getD_eq_getElem?_getD, List.getElem?_eq_getElem hi] at this
      exact this
    obtain ⟨vr, vw, vm, e, i1, i2, i3⟩ := hM.rul d'[i]!
    injection e with e
    have e' : encM cl rs.length d'[i]! = [.int .i64 (rs.getD d'[i]! mr0).st, vr, vw, vm, .int .i64 (rs.getD d'[i]! mr0).nx] := by have := congrArg Array.toList e; simpa using this
    have cc : ∀ c, c < 5 → W.cell? ⟨g, 0 + i * 5 + c, none⟩ = some (encM cl rs.length d'[i]!)[c]! := fun c hc => hWW.cell (by show base ≤ g; exact hb) (Sort.HoldsK.cell hHs hin hc).1
    rw [e'] at cc
    refine ⟨vr, vw, vm, ?_, cc 1 (by omega), cc 2 (by omega), cc 3 (by omega), ?_, ?_, ?_, ?_⟩
    · rw [hri]; exact cc 0 (by omega)
    · rw [hri]; exact cc 4 (by omega)
    · rw [hri]; exact i1
    · rw [hri]; exact i2
    · rw [hri]; exact i3
theorem sortRules_c (base : Nat) (w : World) (bm : Nat) (tp sy st : Int) (v : Value) (rs : List MRuleD) (hb : Blk w bm 29 #[.int .i64 tp, .int .i64 sy, .int .i64 st, v]) (h : OwnMR base w v rs) (h0 : 0 < rs.length) (h12 : rs.length ≤ 12) :
    Calls Try.prog 38 #[.pointer (some ⟨bm, 0, none⟩)] w fun e w' => e = .returned (.tuple #[]) ∧ (∃ rs', rs'.Perm rs ∧ SortedM rs' ∧ ∀ W, KeepB base w' W → MRules W v rs') ∧ w.grownBy w' v.ownBlock := by
  obtain ⟨A, c, rfl, _, _⟩ := h.form
  have b3 := hb.cell 3
  simp only [List.getElem?_toArray, List.getElem?_cons_zero, List.getElem?_cons_succ] at b3
  have SM := sortM_c base w _ rs h h0 h12
  go_enter Try.func38, Try.ntmps38
  go_wp2_with fail
  refine SM.mono ?_
  rintro e w' ⟨rfl, h1, h2⟩
  go_wp2_with fail
  refine bodyPost_end (results_none rfl _ _ _) rfl ?_
  exact ⟨rfl, h1, h2⟩
end Go.Proofs.Ytkbpchdncljlbaa
end
