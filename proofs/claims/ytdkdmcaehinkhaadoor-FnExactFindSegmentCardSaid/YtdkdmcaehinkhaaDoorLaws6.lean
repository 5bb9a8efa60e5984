/- Contracts of the marks that the laws lay and look for, in slices of slices and in machines. The marks stay below 2 to the power of 62. -/
import Derived.Test.YtdkdmcaehinkhaaDoorLaws5
namespace Go.Proofs.YtdkdmcaehinkhaaDoor
open Go Go.RowKit Go.Proofs
set_option maxHeartbeats 400000
/-- A slice of slices of numbers, all in memory of the call's own, no two of them in one block. -/
def OwnIntRows (base : Nat) (w : World) (v : Value) (xss : List (List Int)) : Prop :=
  ∃ vs : List Value, w.ownsRow base 38 1 v xss.length vs ∧ (∀ i, (h : i < xss.length) → ∃ u, vs[i]? = some u ∧ OwnInts base w u xss[i]) ∧
    ∀ (i j : Nat) (u u' : Value) (g : Nat), vs[i]? = some u → vs[j]? = some u' → u.ownBlock = some g → u'.ownBlock = some g → i = j
theorem OwnIntRows.rows {base : Nat} {w : World} {v : Value} {xss : List (List Int)} (h : OwnIntRows base w v xss) : IntRows w v xss := by
  obtain ⟨vs, h1, h2, _⟩ := h
  exact ⟨vs, ownsRow_row h1, fun i hi => by obtain ⟨u, e, hu⟩ := h2 i hi; exact ⟨u, e, hu.ints⟩⟩
theorem OwnIntRows.ext {base : Nat} {w w' : World} {v : Value} {xss : List (List Int)} (h : OwnIntRows base w v xss) (he : Ext w w') : OwnIntRows base w' v xss := by
  obtain ⟨vs, h1, h2, h3⟩ := h
  exact ⟨vs, ownsRow_ext h1 he, fun i hi => by obtain ⟨u, e, hu⟩ := h2 i hi; exact ⟨u, e, hu.ext he⟩, h3⟩
/-- The blocks of a row differ from that of the slice of rows. -/
theorem own_ne {w : World} {base base' : Nat} {e e' : TypeId} {size size' : Nat} {v v' : Value} {n n' : Nat} {xs xs' : List Value} (h : w.ownsRow base e size v n xs) (h' : w.ownsRow base' e' size' v' n' xs') (hne : e ≠ e') :
    v.ownBlock = none ∨ v.ownBlock ≠ v'.ownBlock := by
  rcases h.2 with ⟨rfl, _⟩ | ⟨g, cap, cur, rfl, _, hg, _⟩
  · exact .inl rfl
  · rcases h'.2 with ⟨rfl, _⟩ | ⟨g', cap', cur', rfl, _, hg', _⟩
    · exact .inr (by simp [Value.ownBlock])
    · refine .inr fun he => ?_
      have : g = g' := by simpa [Value.ownBlock] using he
      subst this
      rw [hg] at hg'
      injection hg' with hg'
      injection hg' with _ ht
      exact hne ht
/-- One row is written anew, in its place. -/
theorem OwnIntRows.marked {base : Nat} {w w' : World} {v u : Value} {xss : List (List Int)} {vs : List Value} {i : Nat} {ys : List Int} (h1 : w.ownsRow base 38 1 v xss.length vs)
    (h2 : ∀ i, (h : i < xss.length) → ∃ u, vs[i]? = some u ∧ OwnInts base w u xss[i])
    (h3 : ∀ (i j : Nat) (u u' : Value) (g : Nat), vs[i]? = some u → vs[j]? = some u' → u.ownBlock = some g → u'.ownBlock = some g → i = j)
    (hi : i < xss.length) (hu : vs[i]? = some u) (ho : OwnInts base w' u ys) (hg : w.grownBy w' u.ownBlock) : OwnIntRows base w' v (xss.set i ys) := by
  refine ⟨vs, ?_, ?_, h3⟩
  · obtain ⟨u', e, hu'⟩ := h2 i hi
    rw [hu] at e
    injection e with e
    subst e
    rw [List.length_set]
    exact h1.kept hg (own_ne h1 hu' (by decide))
  · intro j hj
    rw [List.length_set] at hj
    obtain ⟨u', e, hu'⟩ := h2 j hj
    by_cases hij : i = j
    · subst hij
      rw [hu] at e
      injection e with e
      subst e
      exact ⟨u, hu, by simpa using ho⟩
    · refine ⟨u', e, ?_⟩
      rw [List.getElem_set_ne hij]
      refine World.ownsRow.kept hu' hg ?_
      cases hb : u'.ownBlock with
      | none => exact .inl rfl
      | some g => exact .inr fun he => hij (h3 i j u u' g hu e he.symm hb)
def tot (xss : List (List Int)) : Nat := (xss.map List.length).sum
/-- The rows' lengths, filled with the numbers from k on. -/
def numRows (k : Int) : List (List Int) → List (List Int)
  | [] => []
  | x :: r => nums k x.length :: numRows (k + x.length) r
@[simp] theorem numRows_length (k : Int) (xss : List (List Int)) : (numRows k xss).length = xss.length := by
  induction xss generalizing k with
  | nil => rfl
  | cons x r ih => simp [numRows, ih]
theorem numRows_append (k : Int) (a b : List (List Int)) : numRows k (a ++ b) = numRows k a ++ numRows (k + tot a) b := by
  induction a generalizing k with
  | nil => simp [numRows, tot]
  | cons x r ih =>
    simp only [List.cons_append, numRows, ih, tot, List.map_cons, List.sum_cons]
    congr 3
    omega
theorem tot_append (a b : List (List Int)) : tot (a ++ b) = tot a + tot b := by simp [tot]
theorem tot_take_succ (xss : List (List Int)) (i : Nat) (h : i < xss.length) : tot (xss.take (i + 1)) = tot (xss.take i) + xss[i].length := by
  rw [List.take_succ_eq_append_getElem h, tot_append]; simp [tot]
theorem tot_take_le (xss : List (List Int)) (i : Nat) : tot (xss.take i) ≤ tot xss := by
  have : tot xss = tot (xss.take i) + tot (xss.drop i) := by rw [← tot_append, List.take_append_drop]
  omega
/-- The rows of xss, of which the first i are filled with numbers. -/
def someRows (k : Int) (xss : List (List Int)) (i : Nat) : List (List Int) := numRows k (xss.take i) ++ xss.drop i
theorem someRows_length (k : Int) (xss : List (List Int)) (i : Nat) (h : i ≤ xss.length) : (someRows k xss i).length = xss.length := by simp [someRows]; omega
theorem someRows_get (k : Int) (xss : List (List Int)) (i : Nat) (h : i < xss.length) : (someRows k xss i)[i]? = some xss[i] := by
  unfold someRows
  rw [List.getElem?_append_right (by simp; omega)]
  simp [Nat.min_eq_left (Nat.le_of_lt h), h]
theorem someRows_step (k : Int) (xss : List (List Int)) (i : Nat) (h : i < xss.length) : (someRows k xss i).set i (nums (k + tot (xss.take i)) xss[i].length) = someRows k xss (i + 1) := by
  unfold someRows
  have hl : (numRows k (xss.take i)).length = i := by simp; omega
  rw [List.set_append, if_neg (by omega), hl, Nat.sub_self, List.drop_eq_getElem_cons h, List.set_cons_zero, List.take_succ_eq_append_getElem h, numRows_append]
  simp [numRows]
theorem someRows_end (k : Int) (xss : List (List Int)) (i : Nat) (h : xss.length ≤ i) : someRows k xss i = numRows k xss := by
  unfold someRows
  rw [List.take_of_length_le h, List.drop_eq_nil_of_le h]; simp

theorem markInt64SS_c (base : Nat) (v : Value) (xss : List (List Int)) (k : Int) (w : World) (h : OwnIntRows base w v xss) (hb : base ≤ w.heap.size) (h0 : 0 ≤ k) (h1 : k + tot xss ≤ 4611686018427387904) :
    Calls Tryd.prog 13 #[v, .int .i64 k] w fun e w' => e = .returned (.int .i64 (k + tot xss)) ∧ OwnIntRows base w' v (numRows k xss) ∧ Below base w w' := by
  obtain ⟨A, c, rfl, h2, h2'⟩ := h.rows.form
  go_enter Tryd.func13, Tryd.ntmps13
  go_wp2
  go_loopw [1, 5] (fun q i wr => ∃ j : Nat, j ≤ xss.length ∧ i = .int .i64 j ∧ q = .int .i64 (k + (tot (xss.take j) : Nat)) ∧ Below base w wr ∧ OwnIntRows base wr (.slice A xss.length c) (someRows k xss j)) (fun _ i _ => xss.length - (intOf i).toNat)
  case atStart => exact ⟨0, Nat.zero_le _, rfl, by simp [tot], Below.refl _ _, by simpa [someRows, numRows] using h⟩
  case round =>
    obtain ⟨j, hj, rfl, rfl, hbl, ho⟩ := hrel
    have ht := tot_take_le xss j
    by_cases hlt : j < xss.length
    · have hts := tot_take_succ xss j hlt
      have ht1 := tot_take_le xss (j + 1)
      have hsl := someRows_length k xss j hj
      have hbs : base ≤ wr.heap.size := Nat.le_trans hb hbl.size
      obtain ⟨vs, o1, o2, o3⟩ := ho
      rw [hsl] at o1
      obtain ⟨g, rfl, hbg, hgl⟩ := own_at o1 (by omega)
      obtain ⟨u, hu, hru⟩ := o2 j (by omega)
      have hget : (someRows k xss j)[j]'(by omega) = xss[j] := by
        have := someRows_get k xss j hlt
        rw [List.getElem?_eq_getElem (by omega)] at this
        exact Option.some.inj this
      rw [hget] at hru
      have q0 := o1.cellAt j (by omega)
      rw [hu] at q0
      obtain ⟨A1, c1, rfl, _, _⟩ := hru.ints.form
      have HT := Lib.hid hts
      have HS := Lib.hid hsl
      have hlen : tot (xss.take j) + xss[j].length ≤ tot xss := by omega
      clear hts hsl hget
      go_wp2_with fail
      refine (markInt64S_c base _ _ _ _ hru (by omega) (by omega)).mono ?_
      rintro e w2 ⟨rfl, hr2, hg2⟩
      have hn := OwnIntRows.marked (xss := someRows k xss j) (by rw [HS.out]; exact o1) o2 o3 (by rw [HS.out]; exact hlt) hu hr2 hg2
      rw [someRows_step k xss j hlt] at hn
      have hbl2 : Below base wr w2 := (Below.refl _ _).grown hg2 hbs (fun b hb' => (hru.lt b hb').1)
      clear q0 hu o1 o2 o3 hru hr2 hg2
      go_wp2
      go_roundw
      case rel => exact ⟨j + 1, by omega, by go_num, by rw [HT.out]; congr 1; omega, hbl.trans hbl2, hn⟩
      case measure => simp [intOf]; omega
    · have hje : j = xss.length := by omega
      subst hje
      go_wp2
      go_ret
      rw [someRows_end k xss _ (Nat.le_refl _)] at ho
      exact ⟨by simp [List.take_of_length_le (Nat.le_refl _)], ho, hbl⟩
end Go.Proofs.YtdkdmcaehinkhaaDoor
