/- A list without zeros at its end, in the row of the whole one. No condition.
Contracts of the program's word on a tape. -/
import Derived.Test.YtkbpchdncljlbaaT09
import Derived.Test.YtkbpchdncljlbaaT10
import Derived.Test.YtkbpchdncljlbaaT24
import Derived.Test.YtkbpchdncljlbaaT18
import Derived.Test.YtkbpchdncljlbaaT17
import Derived.Test.YtkbpchdncljlbaaT25
section
set_option linter.unusedVariables false
namespace Go.Proofs.Ytkbpchdncljlbaa
open Go Go.RowKit Go.Proofs
theorem own_trim {base : Nat} {w : World} {A : Option Addr} {c : Nat} {x : List Int} (h : OwnInts base w (.slice A x.length c) x) : OwnInts base w (.slice A (trimN x x.length) c) (trim x) := by
  have hl := trimN_le x x.length
  by_cases hA : A = none
  · subst hA
    rcases h.2 with ⟨e, h0⟩ | ⟨g, cap, cur, e, _⟩
    · injection e with e1 e2 e3
      have hx : x = [] := List.length_eq_zero_iff.1 (by simpa using h0)
      subst hx
      subst e3
      exact h
    · injection e with e1
      cases e1
  · exact h.take _ hl hA
end Go.Proofs.Ytkbpchdncljlbaa
end
section
set_option linter.unusedVariables false
set_option linter.unusedSimpArgs false
namespace Go.Proofs.Ytkbpchdncljlbaa
open Go Go.RowKit Go.Proofs Go.Maps
set_option maxHeartbeats 400000
def readT (t : TapeD) : Bool := decide (t.l.length ≤ 200) && decide (t.r.length ≤ 200) && (t.l.all fun z => inB z 0 9) && (t.r.all fun z => inB z 0 9)
set_option maxRecDepth 20000 in
theorem readable_c (lv rv : Value) (t : TapeD) (w : World) (hl : Ints w lv t.l) (hr : Ints w rv t.r) (h : readT t = true) :
    Calls Try.prog 34 #[.agg #[lv, rv]] w fun e w' => e = .returned (.bool true) ∧ Ext w w' := by
  simp only [readT, Bool.and_eq_true, decide_eq_true_eq] at h
  obtain ⟨⟨⟨h1, h2⟩, h3⟩, h4⟩ := h
  obtain ⟨A1, k1, rfl, _, _⟩ := id hl.form
  obtain ⟨A2, k2, rfl, _, _⟩ := id hr.form
  obtain ⟨V, hV⟩ : ∃ V, V = w.alloc (.cells #[.slice A1 t.l.length k1, .slice A2 t.r.length k2] 42) := ⟨_, rfl⟩
  have hX : Ext w V := by rw [hV]; exact Ext.alloc _ _
  have bT : Blk V w.heap.size 42 #[.slice A1 t.l.length k1, .slice A2 t.r.length k2] := by rw [hV]; exact Blk.new _ _ _ _ rfl
  have t0 := bT.cell 0
  have t1 := bT.cell 1
  simp only [List.getElem?_toArray, List.getElem?_cons_zero, List.getElem?_cons_succ] at t0 t1
  have L := isLetters_c _ t.l V (hl.ext hX)
  have R := isLetters_c _ t.r V (hr.ext hX)
  rw [h3] at L
  rw [h4] at R
  have i1 : ((t.l.length : Int) ≤ 200) := by omega
  have i2 : ((t.r.length : Int) ≤ 200) := by omega
  clear h3 h4
  go_enter Try.func34, Try.ntmps34
  go_wp2_with fail
  try rw [← hV]
  clear hV
  refine L.mono ?_
  rintro e _ ⟨rfl, rfl⟩
  go_wp2_with fail
  refine R.mono ?_
  rintro e _ ⟨rfl, rfl⟩
  go_wp2_with fail
  go_ret
  exact ⟨rfl, hX⟩
/-- How many zeros a list begins with, and what is behind them. -/
theorem dropZ_drop : ∀ (xs : List Int) (k : Nat), (∀ i, i < k → xs.getD i 0 = 0) → k ≤ xs.length → dropZ xs = dropZ (xs.drop k)
  | xs, 0, _, _ => rfl
  | [], k + 1, _, h => by simp at h
  | x :: xs, k + 1, h, hk => by
    have h0 : x = 0 := h 0 (by omega)
    subst h0
    show dropZ (0 :: xs) = dropZ (xs.drop k)
    rw [dropZ, if_pos rfl]
    exact dropZ_drop xs k (fun i hi => h (i + 1) (by omega)) (by simpa using hk)
set_option maxRecDepth 20000 in
set_option maxHeartbeats 1000000 in
theorem TapeWord_c (lv rv : Value) (t : TapeD) (w : World) (hl : Ints w lv t.l) (hr : Ints w rv t.r) (fl : Flat lv) (fr : Flat rv) (h : readT t = true) :
    Calls Try.prog 10 #[.agg #[lv, rv]] w fun e w' => ∃ v, e = .returned (.tuple #[v, .int .i64 0]) ∧ Ints w' v (wordT t) ∧ Ext w w' := by
  have h' := h
  simp only [readT, Bool.and_eq_true, decide_eq_true_eq] at h'
  obtain ⟨⟨⟨h1, h2⟩, _⟩, _⟩ := h'
  obtain ⟨A1, k1, rfl, _, _⟩ := id hl.form
  obtain ⟨A2, k2, rfl, _, _⟩ := id hr.form
  obtain ⟨V, hV⟩ : ∃ V, V = w.alloc (.cells #[.slice A1 t.l.length k1, .slice A2 t.r.length k2] 42) := ⟨_, rfl⟩
  have hX : Ext w V := by rw [hV]; exact Ext.alloc _ _
  obtain ⟨g, hg⟩ : ∃ g, w.heap.size = g := ⟨_, rfl⟩
  have bT : Blk V g 42 #[.slice A1 t.l.length k1, .slice A2 t.r.length k2] := by rw [hV]; exact Blk.new _ _ _ _ hg
  have t0 := bT.cell 0
  have t1 := bT.cell 1
  simp only [List.getElem?_toArray, List.getElem?_cons_zero, List.getElem?_cons_succ] at t0 t1
  have RE := readable_c _ _ t V (hl.ext hX) (hr.ext hX) h
  go_enter Try.func10, Try.ntmps10
  go_wp2_with fail
  try rw [← hV]
  try rw [hg]
  clear hV
  refine RE.mono ?_
  rintro e w1 ⟨rfl, hx1⟩
  have hX1 := hX.trans hx1
  have b1 := bT.ext hx1
  have s0 := b1.drew.cell 0
  have s1 := b1.drew.cell 1
  simp only [List.getElem?_toArray, List.getElem?_cons_zero, List.getElem?_cons_succ] at s0 s1
  have hXd := hX1.trans (Ext.drew w1)
  have RV := reversed_c _ t.l w1.drew (hl.ext hXd) fl (by omega)
  obtain ⟨rl, hrl⟩ : ∃ rl, t.l.reverse = rl := ⟨_, rfl⟩
  have hrll : rl.length ≤ 200 := by rw [← hrl]; simpa using h1
  rw [hrl] at RV
  have HWT : Hid (wordT t = dropZ (trim (rl ++ t.r))) := by unfold Hid wordT; rw [hrl]
  clear hrl
  clear t0 t1 RE h
  go_wp2_with fail
  refine wp_region_ord 8 [0, 1, 3, 4, 2, 5, 6, 7] (by kernel_rfl) (by kernel_rfl) (fun _ _ _ _ _ h => h) ?_
  simp only [pickO, List.drop_succ_cons, List.drop_zero, List.head?_cons, Option.elim_some]
  repeat (refine wpOrd_read (v := ?_) (by rfl) (Or.inl ⟨by rfl, fun x hx => ?_⟩) ?_; rotate_left; (· have a0 := hx.cell s0; have a1 := hx.cell s1; go_simp; try with_reducible rfl); simp only [Act.put, List.setIfInBounds_toArray, List.set_cons_zero, List.set_cons_succ])
  refine wpOrd_stir (by rfl) (fun K hK => ?_)
  go_simp
  go_at_call 36
  refine RV.mono ?_
  rintro e w3 ⟨u, rfl, ho3, hx3⟩
  obtain ⟨A3, c3, rfl, _, _⟩ := id ho3.ints.form
  refine hK _ _ hx3 ?_
  clear hK K
  try simp only [Act.put, List.setIfInBounds_toArray, List.set_cons_zero, List.set_cons_succ]
  refine wpOrd_stir (by rfl) (fun K hK => ?_)
  go_simp
  refine hK _ _ (Ext.alloc _ _) ?_
  clear hK K
  try simp only [Act.put, List.setIfInBounds_toArray, List.set_cons_zero, List.set_cons_succ]
  refine wpOrd_stir (by rfl) (fun K hK => ?_)
  go_simp
  go_at_call 35
  refine (joinedA_c A3 A2 c3 k2 rl t.r w3 ho3.ints (hr.ext (hXd.trans hx3)) ho3.flat fr (by omega)).mono ?_
  rintro e w4 ⟨uj, rfl, oj, hx4⟩
  obtain ⟨jn, hjn⟩ : ∃ jn, rl ++ t.r = jn := ⟨_, rfl⟩
  have hjl : jn.length ≤ 400 := by rw [← hjn]; simp; omega
  rw [hjn] at oj HWT
  have hX4 := hXd.trans (hx3.trans ((Ext.alloc _ _).trans hx4))
  obtain ⟨A5, c5, rfl, _, _⟩ := id oj.ints.form
  refine hK _ _ hx4 ?_
  clear hK K hjn
  try simp only [Act.put, List.setIfInBounds_toArray, List.set_cons_zero, List.set_cons_succ]
  refine wpOrd_stir (by rfl) (fun K hK => ?_)
  go_simp
  go_at_call 27
  refine (trimmed_c _ jn w4 oj.ints (by omega)).mono ?_
  rintro e _ ⟨⟨A6, c6, e6, rfl⟩, rfl⟩
  injection e6 with e7 _ e8
  subst e7 e8
  refine hK _ _ (Ext.refl _) ?_
  clear hK K
  have ot := own_trim oj
  have hlt4 : trimN jn jn.length = (trim jn).length := by have := trimN_le jn jn.length; simp [trim]; omega
  obtain ⟨tj, htj⟩ : ∃ tj, trim jn = tj := ⟨_, rfl⟩
  rw [htj] at hlt4 ot HWT
  rw [hlt4] at ot ⊢
  have it := ot.ints
  clear hlt4 htj oj s0 s1 RV
  try simp only [Act.put, List.setIfInBounds_toArray, List.set_cons_zero, List.set_cons_succ]
  refine wpOrd_done ?_
  try simp only [List.drop_succ_cons, List.drop_zero]
  go_wp2_with fail
  go_loopw [4] (fun u wr => ∃ (k : Nat) (A : Option Addr) (c : Nat), k ≤ tj.length ∧ u = .slice A (tj.length - k) c ∧ wr = w4 ∧ Ints w4 (.slice A (tj.drop k).length c) (tj.drop k) ∧ Hid (∀ i, i < k → tj.getD i 0 = 0)) (fun u _ => match u with | .slice _ n _ => n | _ => 0)
  case atStart => exact ⟨0, A5, c5, Nat.zero_le _, rfl, rfl, by simpa using it, Lib.hid (fun i h => by omega)⟩
  case round =>
    obtain ⟨k, A, c, hk, rfl, rfl, ik, HZ⟩ := hrel
    have hdl : (tj.drop k).length = tj.length - k := by simp
    obtain ⟨n, hn⟩ : ∃ n, tj.length - k = n := ⟨_, rfl⟩
    rw [hn]
    obtain ⟨_, _, e0, hc1, hc2⟩ := ik.form
    rw [hdl, hn] at ik hc1
    injection e0 with e1 e2 e3
    subst e1 e3
    by_cases h0 : n = 0
    · subst h0
      have HR : Hid (Ints wr (.slice A 0 c) (wordT t)) := by
        unfold Hid
        rw [HWT.out, dropZ_drop tj k HZ.out hk]
        have e : tj.drop k = [] := List.length_eq_zero_iff.1 (by omega)
        rw [e] at ik ⊢
        exact ik
      go_wp2_with fail
      exact bodyPost_ret (v := .tuple #[.slice A 0 c, .int .i64 0]) (by simp [results, Try.results10, go_sem]) rfl ⟨_, rfl, HR.out, hX4⟩
    · have hkl : k < tj.length := by omega
      have ik2 : Ints wr (.slice A (tj.drop k).length c) (tj.drop k) := by rw [hdl, hn]; exact ik
      obtain ⟨b, off, rfl, hc⟩ := ik2.at (k := 0) (by omega)
      have x0 := hc 0 (by omega)
      have hd0 : (tj.drop k)[0]'(by omega) = tj[k] := by simp
      rw [hd0, Nat.add_zero] at x0
      have hgd : tj.getD k 0 = tj[k] := by rw [List.getD_eq_getElem?_getD, List.getElem?_eq_getElem hkl]; rfl
      have hpos : 0 < n := by omega
      by_cases hz : tj[k] = 0
      · have HZ' : Hid (∀ i, i < k + 1 → tj.getD i 0 = 0) := Lib.hid fun i hi => by
          by_cases e : i = k
          · subst e; rw [hgd]; exact hz
          · exact HZ.out i (by omega)
        rw [hz] at x0
        have hdl1 : (tj.drop (k + 1)).length = n - 1 := by simp; omega
        have HI : Hid (∀ b' off', (n - 1 = 0 ∨ (b' = b ∧ off' = off + 1)) → Ints wr (.slice (some ⟨b', off', none⟩) (n - 1) (c - 1)) (tj.drop (k + 1))) := Lib.hid fun b' off' hb => by
          refine ⟨_, c - 1, by rw [hdl1], by omega, by omega, by simp, fun hp => ⟨b', off', rfl, fun j hj => ?_⟩⟩
          have hj' : j < (tj.drop (k + 1)).length := by simpa using hj
          rcases hb with hb | ⟨rfl, rfl⟩
          · omega
          · have hj2 : j + 1 < (tj.drop k).length := by omega
            have := hc (j + 1) hj2
            rw [ivs_get _ j hj']
            have e : (tj.drop (k + 1))[j] = (tj.drop k)[j + 1] := by
              rw [List.getElem_drop, List.getElem_drop]
              congr 1
              omega
            rw [e, Nat.add_assoc, Nat.add_comm 1 j]
            exact this
        clear hc hd0 hgd hz hdl
        go_wp2_with fail
        refine ⟨⟨k + 1, _, c - 1, by omega, by rw [show tj.length - (k + 1) = n - 1 from by omega], trivial, ?_, HZ'⟩, by show n - 1 < n; omega⟩
        rw [hdl1]
        split
        · exact HI.out b off (.inl (by omega))
        · exact HI.out b (off + 1) (.inr ⟨rfl, rfl⟩)
      · have hzb : (tj[k] == 0) = false := by simp [hz]
        have HR : Hid (Ints wr (.slice (some ⟨b, off, none⟩) n c) (wordT t)) := by
          unfold Hid
          rw [HWT.out, dropZ_drop tj k HZ.out hk]
          have e : dropZ (tj.drop k) = tj.drop k := by
            rw [List.drop_eq_getElem_cons hkl, dropZ, if_neg hz]
          rw [e]
          exact ik
        generalize tj[k] = z at *
        clear hc hd0 hgd hz hdl
        go_wp2_with fail
        exact bodyPost_ret (v := .tuple #[.slice (some ⟨b, off, none⟩) n c, .int .i64 0]) (by simp [results, Try.results10, go_sem]) rfl ⟨_, rfl, HR.out, hX4⟩
end Go.Proofs.Ytkbpchdncljlbaa
end
