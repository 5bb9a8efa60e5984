/- Contracts of the copies of lists and of the nodes of segments. Lists are not empty and short.
Contract of the library's Repeat, for a list of one number and up to eleven of it.
Contract of the program's list of the nodes at which a machine halts. The machine is valid, the size is from 1 to 9.
Contracts of the tests on lists of numbers, the program's and the reference's.
Contracts of the reference's test whether a node may begin, and of its copies.
Plain words on nodes of segments: when a node is valid, and the node before it. No program stands here. -/
import Derived.Test.YtkbpchdncljlbaaU05
import Derived.Test.YtkbpchdncljlbaaShelf
import Derived.Laws.CopyOwn
section
namespace Go.Proofs.Ytkbpchdncljlbaa
open Go Go.RowKit Go.Proofs
set_option maxHeartbeats 400000
theorem intSize (w : World) : (Go.sizeOf 2).run Try.prog w = .ok 1 w := by kernel_rfl
theorem ivs_one (zs : List Int) : ∀ u ∈ ivs zs, u.oneCell' = true := by
  intro u hu
  simp only [ivs, List.mem_map] at hu
  obtain ⟨z, _, rfl⟩ := hu
  rfl
theorem ints_cells {w : World} {b off : Nat} {zs : List Int} (hc : ∀ j, (hj : j < zs.length) → w.cell? ⟨b, off + j, none⟩ = some (.int .i64 zs[j])) : ∀ j u, (ivs zs)[j]? = some u → w.cell? ⟨b, off + j, none⟩ = some u := by
  intro j u hj
  obtain ⟨hl, _⟩ := List.getElem?_eq_some_iff.1 hj
  rw [ivs_length] at hl
  rw [ivs_get zs j hl] at hj
  injection hj with hj
  subst hj
  exact hc j hl
theorem Clone_c (v : Value) (zs : List Int) (w : World) (h : Ints w v zs) (h0 : 0 < zs.length) (h1 : zs.length ≤ 1048576) :
    Calls Try.prog 28 #[v] w fun e w' => ∃ u, e = .returned u ∧ OwnInts w.heap.size w' u zs ∧ Ext w w' := by
  obtain ⟨i0, hi, hz0, hz1, hz2⟩ := info_parts intInfo
  obtain ⟨A, c, rfl, _, _⟩ := h.form
  obtain ⟨b, off, rfl, hc⟩ := h.at h0
  have hm : zs.length ≤ maxLen := by unfold maxLen; omega
  refine (Try.slices_Clone i0 _ 1 8 hi hz0 hz1 hz2 rfl (by omega) intSize b off zs.length c (ivs zs) w (by simp) hm (by omega) (ints_cells hc) (ivs_one zs)).mono ?_
  rintro e w' ⟨u, rfl, ho, _, hb⟩
  exact ⟨u, rfl, ho, hb⟩
/-- A node with a place, a state, and a symbol at a cell. -/
def segNode (x : List Int) (place state symbol : Int) : List Int :=
  if 0 ≤ place ∧ place ≤ (x.length : Int) - 3 then ((x.set 0 place).set 1 state).set (2 + place).toNat symbol else (x.set 0 place).set 1 state
theorem ivs_set (zs : List Int) (k : Nat) (a : Int) : ivs (zs.set k a) = (ivs zs).set k (.int .i64 a) := by simp [ivs, List.map_set]
@[simp] theorem segNode_length (x : List Int) (a b c : Int) : (segNode x a b c).length = x.length := by unfold segNode; split <;> simp
end Go.Proofs.Ytkbpchdncljlbaa
namespace Go.Proofs.Ytkbpchdncljlbaa
open Go Go.RowKit Go.Proofs
set_option maxHeartbeats 400000
theorem intSize' : (Try.prog.info? 2).map (·.size) = some 1 := by kernel_rfl
/-- Of c cells the first j hold the number. -/
def RepSt (w : World) (g c : Nat) (z : Int) (j : Nat) (wr : World) : Prop := Ext w wr ∧ ∃ cur : List Value, wr.heap[g]? = some (.cells cur.toArray 2 (0, 0)) ∧ cur.length = c ∧ cur.take j = List.replicate j (.int .i64 z)
theorem splice_take {cur : List Value} {j m : Nat} {u : Value} (h : cur.take j = List.replicate j u) (_ : j ≤ cur.length) (_ : j + m ≤ cur.length) : (splice cur j (List.replicate m u)).take (j + m) = List.replicate (j + m) u := by
  unfold splice
  rw [h, ← List.append_assoc, List.replicate_append_replicate, List.take_append_of_le_length (by simp), List.take_of_length_le (by simp)]
theorem mulHi {c : Nat} (h : c ≤ 11) : 1 * c / 18446744073709551616 = 0 := by omega
theorem mulLo {c : Nat} (h : c ≤ 11) : 1 * c % 18446744073709551616 = c := by omega
theorem mulC {c : Nat} (h : c ≤ 11) : c < 18446744073709551616 := by omega
end Go.Proofs.Ytkbpchdncljlbaa
namespace Go.Proofs.Ytkbpchdncljlbaa
open Go Go.RowKit Go.Proofs
set_option maxHeartbeats 400000
theorem rowInfo : (Try.prog.info? 24).map (fun i => (i.zero, i.size, i.bytes)) = some (some (.slice none 0 0), 1, 24) := by kernel_rfl
/-- A row is appended. -/
theorem OwnIntRows.snoc {base : Nat} {w w' : World} {v v' u : Value} {xss : List (List Int)} {ys : List Int} {vs : List Value} (h1 : w.ownsRow base 24 1 v xss.length vs)
    (h2 : ∀ i, (h : i < xss.length) → ∃ u, vs[i]? = some u ∧ OwnInts base w u xss[i])
    (h3 : ∀ (i j : Nat) (u u' : Value) (g : Nat), vs[i]? = some u → vs[j]? = some u' → u.ownBlock = some g → u'.ownBlock = some g → i = j)
    (hu : OwnInts base w u ys) (hne : ∀ (i : Nat) (u' : Value) (g : Nat), vs[i]? = some u' → u'.ownBlock = some g → u.ownBlock ≠ some g)
    (ho : w'.ownsRow base 24 1 v' (xss.length + 1) (vs ++ [u])) (hg : w.grownBy w' v.ownBlock) : OwnIntRows base w' v' (xss ++ [ys]) := by
  have hl := h1.1
  have keep : ∀ {x : Value} {zs : List Int}, OwnInts base w x zs → OwnInts base w' x zs := fun hx => World.ownsRow.kept hx hg (own_ne hx h1 (by decide))
  refine ⟨vs ++ [u], by simpa using ho, fun i hi => ?_, ?_⟩
  · by_cases h : i < xss.length
    · obtain ⟨x, e, hx⟩ := h2 i h
      exact ⟨x, by rw [List.getElem?_append_left (by omega), e], by rw [List.getElem_append_left h]; exact keep hx⟩
    · have hie : i = xss.length := by simp at hi; omega
      subst hie
      exact ⟨u, by rw [List.getElem?_append_right (by omega)]; simp [hl], by simpa using keep hu⟩
  · intro i j x y g hx hy hgx hgy
    have hlv : vs.length = xss.length := by omega
    by_cases hi : i < vs.length <;> by_cases hj : j < vs.length
    · rw [List.getElem?_append_left hi] at hx
      rw [List.getElem?_append_left hj] at hy
      exact h3 i j x y g hx hy hgx hgy
    · rw [List.getElem?_append_left hi] at hx
      rw [List.getElem?_append_right (by omega)] at hy
      have : u = y := by
        have := (List.getElem?_eq_some_iff.1 hy).1
        have e : j - vs.length = 0 := by simp at this; omega
        rw [e] at hy; simpa using hy
      subst this
      exact absurd hgy (hne i x g hx hgx)
    · rw [List.getElem?_append_right (by omega)] at hx
      rw [List.getElem?_append_left hj] at hy
      have : u = x := by
        have := (List.getElem?_eq_some_iff.1 hx).1
        have e : i - vs.length = 0 := by simp at this; omega
        rw [e] at hx; simpa using hx
      subst this
      exact absurd hgx (hne j y g hy hgy)
    · rw [List.getElem?_append_right (by omega)] at hx hy
      have a1 := (List.getElem?_eq_some_iff.1 hx).1
      have a2 := (List.getElem?_eq_some_iff.1 hy).1
      simp at a1 a2
      omega
/-- The rows of a list lie below the heap's end: a row that is made later lies in another block. -/
theorem rows_ne {base : Nat} {w w' : World} {u : Value} {xss : List (List Int)} {ys : List Int} {vs : List Value} {n : Nat} {v : Value} (h1 : w.ownsRow base 24 1 v n vs) (hn : n = xss.length)
    (h2 : ∀ i, (h : i < xss.length) → ∃ u, vs[i]? = some u ∧ OwnInts base w u xss[i]) (hu : OwnInts w.heap.size w' u ys) :
    ∀ (i : Nat) (u' : Value) (g : Nat), vs[i]? = some u' → u'.ownBlock = some g → u.ownBlock ≠ some g := by
  intro i u' g hi hg hg'
  have hl := h1.1
  have hil : i < xss.length := by have := (List.getElem?_eq_some_iff.1 hi).1; omega
  obtain ⟨x, e, hx⟩ := h2 i hil
  rw [hi] at e
  injection e with e
  subst e
  have a := (hx.lt g hg).2
  have b := (hu.lt g hg').1
  omega
/-- The nodes at which a machine halts. -/
def startsOf (n : Nat) (ps : List (Int × Int)) : List (List Int) := ps.map fun p => segNode (List.replicate (n + 2) (-1)) ((n : Int) / 2) p.1 p.2
theorem startsOf_take (n : Nat) (ps : List (Int × Int)) (k : Nat) (h : k < ps.length) : startsOf n (ps.take (k + 1)) = startsOf n (ps.take k) ++ [segNode (List.replicate (n + 2) (-1)) ((n : Int) / 2) ps[k].1 ps[k].2] := by
  unfold startsOf; rw [List.take_succ_eq_append_getElem h, List.map_append]; rfl
theorem OwnInts.base {b b' : Nat} {w : World} {v : Value} {zs : List Int} (h : OwnInts b w v zs) (hb : b' ≤ b) : OwnInts b' w v zs := ownsRow_base h hb
end Go.Proofs.Ytkbpchdncljlbaa
end
section
namespace Go.Proofs.Ytkbpchdncljlbaa
open Go Go.RowKit Go.Proofs
set_option maxHeartbeats 400000
theorem l00Same_c (w : World) (u v : Value) (xs ys : List Int) (ha : Ints w u xs) (hb : Ints w v ys) :
    Calls Try.prog 84 #[u, v] w fun e w' => e = .returned (.bool (lEq xs ys)) ∧ Ext w w' := by
  obtain ⟨A, ca, rfl, h1, h1'⟩ := ha.form
  obtain ⟨B, cb, rfl, h2, h2'⟩ := hb.form
  by_cases hl : xs.length = ys.length
  · have hl1 : ((xs.length : Int) != (ys.length : Int)) = false := by simp [hl]
    have hlle : xs.length ≤ ys.length := by omega
    have hlge : ys.length ≤ xs.length := by omega
    clear hl
    go_enter Try.func84, Try.ntmps84
    go_wp2
    go_loopw [5] (fun i wr => ∃ k : Nat, k ≤ xs.length ∧ i = .int .i64 k ∧ Ext w wr ∧ takeEq xs ys k) (fun i _ => xs.length - (intOf i).toNat)
    case atStart => exact ⟨0, Nat.zero_le _, rfl, Ext.refl _, rfl⟩
    case round =>
      obtain ⟨k, hk, rfl, hx, ht⟩ := hrel
      by_cases hlt : k < xs.length
      · obtain ⟨b, off, rfl, hc⟩ := ha.at hlt
        obtain ⟨b', off', rfl, hc'⟩ := hb.at (k := k) (by omega)
        have c0 := hx.cell (hc k hlt)
        have c0' := hx.cell (hc' k (by omega))
        clear hc hc' ha hb
        by_cases he : xs[k] = ys[k]
        · have H : (xs[k] != ys[k]) = false := by simp [he]
          have he' := Lib.hid he
          clear he
          go_wp2
          go_quiet (fail)
          go_wp2
          go_roundw
          case rel => exact ⟨k + 1, by omega, by go_num, hx.trans (Ext.drewN _ _), takeEq_step ht hlt (by omega) he'.out⟩
          case measure => simp [intOf]; omega
        · have H : (xs[k] != ys[k]) = true := by simp [he]
          go_wp2
          go_quiet (fail)
          go_wp2
          go_ret
          exact ⟨by simp [lEq_false (ne_of_get hlt (by omega) he)], hx.trans (Ext.drewN _ _)⟩
      · go_wp2
        go_ret
        exact ⟨by simp [lEq_true (eq_of_takeEq ht (by omega) (by omega))], hx⟩
  · have hl1 : ((xs.length : Int) != (ys.length : Int)) = true := by simp; omega
    go_enter Try.func84, Try.ntmps84
    go_wp2
    go_ret
    exact ⟨by simp [lEq_false (show ¬ xs = ys from fun h => hl (by rw [h]))], Ext.refl _⟩
def notIn (w : List Int) (xss : List (List Int)) (k : Nat) : Prop := ∀ x ∈ xss.take k, ¬ x = w
theorem notIn_step {w : List Int} {xss : List (List Int)} {k : Nat} (h : notIn w xss k) (hk : k < xss.length) (he : ¬ xss[k] = w) : notIn w xss (k + 1) := by
  unfold notIn at *
  rw [List.take_succ_eq_append_getElem hk]
  intro x hx
  rcases List.mem_append.1 hx with h1 | h1
  · exact h x h1
  · simp at h1; subst h1; exact he
theorem notIn_end {w : List Int} {xss : List (List Int)} {k : Nat} (h : notIn w xss k) (hk : xss.length ≤ k) : ¬ w ∈ xss := by
  intro hm
  exact h w (by rwa [List.take_of_length_le hk]) rfl
def allTo (p : Int → Bool) (zs : List Int) (k : Nat) : Prop := (zs.take k).all p = true
theorem allTo_step {p : Int → Bool} {zs : List Int} {k : Nat} (h : allTo p zs k) (hk : k < zs.length) (he : p zs[k] = true) : allTo p zs (k + 1) := by
  unfold allTo at *
  rw [List.take_succ_eq_append_getElem hk, List.all_append, h]; simp [he]
theorem allTo_end {p : Int → Bool} {zs : List Int} {k : Nat} (h : allTo p zs k) (hk : zs.length ≤ k) : zs.all p = true := by
  unfold allTo at h
  rwa [List.take_of_length_le hk] at h
theorem all_no {p : Int → Bool} {zs : List Int} {k : Nat} (hk : k < zs.length) (he : p zs[k] = false) : zs.all p = false := by
  rw [List.all_eq_false]
  exact ⟨zs[k], List.getElem_mem hk, by simp [he]⟩
theorem allWithin_c (v : Value) (zs : List Int) (lo hi : Int) (w : World) (h : Ints w v zs) :
    Calls Try.prog 26 #[v, .int .i64 lo, .int .i64 hi] w fun e w' => e = .returned (.bool (zs.all fun z => inB z lo hi)) ∧ w = w' := by
  obtain ⟨A, c, rfl, h1, h2⟩ := h.form
  go_enter Try.func26, Try.ntmps26
  go_wp2
  go_loop [11] (fun i => ∃ k : Nat, k ≤ zs.length ∧ i = .int .i64 k ∧ allTo (fun z => inB z lo hi) zs k) (fun i => zs.length - (intOf i).toNat)
  case atStart => exact ⟨0, Nat.zero_le _, rfl, rfl⟩
  case round =>
    obtain ⟨k, hk, rfl, ht⟩ := hrel
    by_cases hlt : k < zs.length
    · obtain ⟨b, off, rfl, hc⟩ := h.at hlt
      have c0 := hc k hlt
      clear hc
      cases he : inB zs[k] lo hi
      · go_wp2_with (go_at_call 22; refine (within_c _ _ _ _).mono ?_; rintro e w' ⟨rfl, rfl⟩)
        go_ret
        exact ⟨by simp [all_no (p := fun z => inB z lo hi) hlt he], rfl⟩
      · go_wp2_with (go_at_call 22; refine (within_c _ _ _ _).mono ?_; rintro e w' ⟨rfl, rfl⟩)
        go_round
        case rel => exact ⟨k + 1, by omega, by go_num, allTo_step (p := fun z => inB z lo hi) ht hlt he⟩
        case measure => simp [intOf]; omega
    · go_wp2
      go_ret
      exact ⟨by simp [allTo_end ht (by omega)], rfl⟩
/-- May a node begin: by the program. -/
def mayB (x : List Int) : Bool := decide (x.getD 1 0 ≤ 0) && (x.drop 2).all fun z => inB z (-1) 0
/-- May a node begin: by the reference. -/
def mayS (x : List Int) : Bool := decide (x.getD 1 0 ≤ 0) && (x.drop 2).all fun z => decide (z ≤ 0)
theorem Ints.drop {w : World} {b off c : Nat} {zs : List Int} (h : Ints w (.slice (some ⟨b, off, none⟩) zs.length c) zs) (k : Nat) (hk : k ≤ zs.length) : Ints w (.slice (some ⟨b, off + k, none⟩) (zs.length - k) (c - k)) (zs.drop k) := by
  obtain ⟨A, c', hv, h1, h2, h3, h4⟩ := h
  injection hv with e1 e2 e3
  subst e1 e3
  refine ⟨_, _, by rw [List.length_drop], by rw [List.length_drop]; omega, by omega, by simp, fun hn => ⟨b, off + k, rfl, fun j hj => ?_⟩⟩
  rw [List.length_drop] at hn
  obtain ⟨b', off', e, hc⟩ := h4 (by omega)
  injection e with e
  injection e with e5 e6 e7
  subst e5 e6
  simp only [ivs_length, List.length_drop] at hj
  rw [Nat.add_assoc, hc (k + j) (by simp; omega), ivs_get zs (k + j) (by omega), ivs_get (zs.drop k) j (by simp; omega)]
  simp
end Go.Proofs.Ytkbpchdncljlbaa
namespace Go.Proofs.Ytkbpchdncljlbaa
open Go Go.RowKit Go.Proofs
set_option maxHeartbeats 400000
theorem mayS_no {x : List Int} {k : Nat} (h2 : 2 ≤ k) (hk : k < x.length) (he : 0 < x[k]) : mayS x = false := by
  unfold mayS
  have : (x.drop 2).all (fun z => decide (z ≤ 0)) = false := by
    rw [List.all_eq_false]
    exact ⟨x[k], by rw [List.mem_drop_iff_getElem]; exact ⟨k - 2, by omega, by congr 1; omega⟩, by simp; omega⟩
  rw [this]; simp
theorem mayS_yes {x : List Int} (hl : 3 ≤ x.length) (h1 : x[1] ≤ 0) (h : ∀ j, 2 ≤ j → (hj : j < x.length) → x[j] ≤ 0) : mayS x = true := by
  unfold mayS
  have e1 : x.getD 1 0 = x[1] := by rw [List.getD_eq_getElem?_getD, List.getElem?_eq_getElem (by omega)]; rfl
  rw [e1]
  have : (x.drop 2).all (fun z => decide (z ≤ 0)) = true := by
    rw [List.all_eq_true]
    intro z hz
    rw [List.mem_drop_iff_getElem] at hz
    obtain ⟨j, hj, rfl⟩ := hz
    have := h (j + 2) (by omega) hj
    simpa [Nat.add_comm] using this
  rw [this]; simp [h1]
theorem mayS_no1 {x : List Int} (hl : 3 ≤ x.length) (h1 : ¬ x[1] ≤ 0) : mayS x = false := by
  unfold mayS
  have e1 : x.getD 1 0 = x[1] := by rw [List.getD_eq_getElem?_getD, List.getElem?_eq_getElem (by omega)]; rfl
  rw [e1]; simp [h1]
def lowTo (x : List Int) (k : Nat) : Prop := ∀ j, 2 ≤ j → j < k → (hj : j < x.length) → x[j] ≤ 0
theorem l00Own_c (v : Value) (zs : List Int) (w : World) (h : Ints w v zs) (h0 : 0 < zs.length) (h1 : zs.length ≤ 1048576) :
    Calls Try.prog 49 #[v] w fun e w' => ∃ u, e = .returned u ∧ OwnInts w.heap.size w' u zs ∧ Ext w w' := by
  obtain ⟨i0, hi, hz0, hz1, hz2⟩ := info_parts intInfo
  obtain ⟨A, c, rfl, _, _⟩ := h.form
  obtain ⟨b, off, rfl, hc⟩ := h.at h0
  have hcl := ints_cells hc
  have hown0 : (w.alloc (.cells #[] 2)).ownsRow w.heap.size 2 1 (.slice (some ⟨w.heap.size, 0, none⟩) 0 0) 0 [] :=
    World.ownsRow_made (base := w.heap.size) (e := 2) (size := 1) w #[] 0 (by simp) (by unfold maxLen; omega) (by simp)
  have hcl2 : ∀ j u, (ivs zs)[j]? = some u → (w.alloc (.cells #[] 2)).cell? ((⟨b, off, none⟩ : Addr).add j) = some u := by
    intro j u hj
    have hadd : (⟨b, off, none⟩ : Addr).add j = ⟨b, off + j, none⟩ := by unfold Addr.add; split <;> simp_all
    rw [hadd]
    exact (Ext.alloc _ _).cell (hcl j u hj)
  have hm : 0 + zs.length ≤ maxLen := by unfold maxLen; omega
  have HC := Lib.hid hcl2
  have HO := Lib.hid hown0
  clear hcl2 hcl hc hown0
  go_enter Try.func49, Try.ntmps49
  go_wp2_with (at_builtin; refine wpList_append_own _ rfl _ _ 24 rfl w.heap.size 2 i0 (.int .i64 0) 1 8 Try.underlying24 hi hz0 hz1 hz2 rfl (by decide) _ _ _ rfl HO.out ⟨b, off, none⟩ zs.length c (ivs zs) rfl (by simp) HC.out (ivs_one zs) hm (by omega) (by simp) ?_)
  intro v' w1 hown' hgrow _
  go_wp2
  go_ret
  refine ⟨_, rfl, ?_, (Ext.alloc _ _).grown hgrow (fun b hb => (HO.out.lt b hb).1)⟩
  simpa [OwnInts] using hown'
end Go.Proofs.Ytkbpchdncljlbaa
namespace Go.Proofs.Ytkbpchdncljlbaa
open Go Go.RowKit Go.Proofs
/-- A node of n cells is valid. -/
structure NodeOk (sy st : Int) (n : Nat) (x : List Int) : Prop where
  len : x.length = n + 2
  lo : -1 ≤ x.getD 0 0
  hi : x.getD 0 0 ≤ n
  out : (x.getD 0 0 < 0 ∨ x.getD 0 0 = n) → x.getD 1 0 = -1
  ins : ¬ (x.getD 0 0 < 0 ∨ x.getD 0 0 = n) → 0 ≤ x.getD 1 0 ∧ x.getD 1 0 < st
  cells : ∀ j, 2 ≤ j → j < n + 2 → -1 ≤ x.getD j 0 ∧ x.getD j 0 < sy
/-- The node before a node, by a rule r of a state p and a symbol a. -/
def before (x : List Int) (p a : Int) (r : RuleD) : Option (List Int) :=
  if (0 ≤ x.getD 1 0 ∧ r.n ≠ x.getD 1 0) ∨ x.getD 0 0 - r.m < -1 ∨ (x.length : Int) - 2 < x.getD 0 0 - r.m then none
  else if x.getD 0 0 - r.m = -1 ∨ x.getD 0 0 - r.m = (x.length : Int) - 2 then (if 0 ≤ x.getD 1 0 then some (segNode x (x.getD 0 0 - r.m) (-1) 0) else none)
  else if x.getD (2 + (x.getD 0 0 - r.m)).toNat 0 = r.w ∨ x.getD (2 + (x.getD 0 0 - r.m)).toNat 0 = -1 then some (segNode x (x.getD 0 0 - r.m) p a) else none
theorem getD_segNode_zero (x : List Int) (h p a : Int) (hl : 3 ≤ x.length) : (segNode x h p a).getD 0 0 = h := by
  unfold segNode
  split
  · rw [List.getD_eq_getElem?_getD, List.getElem?_set_ne (by omega), List.getElem?_set_ne (by omega), List.getElem?_set_self (by omega)]; rfl
  · rw [List.getD_eq_getElem?_getD, List.getElem?_set_ne (by omega), List.getElem?_set_self (by omega)]; rfl
theorem getD_segNode_one (x : List Int) (h p a : Int) (hl : 3 ≤ x.length) : (segNode x h p a).getD 1 0 = p := by
  unfold segNode
  split
  · rw [List.getD_eq_getElem?_getD, List.getElem?_set_ne (by omega), List.getElem?_set_self (by simp; omega)]; rfl
  · rw [List.getD_eq_getElem?_getD, List.getElem?_set_self (by simp; omega)]; rfl
theorem getD_segNode (x : List Int) (h p a : Int) (j : Nat) (hj : 2 ≤ j) : (segNode x h p a).getD j 0 = x.getD j 0 ∨ (segNode x h p a).getD j 0 = a := by
  unfold segNode
  split
  · by_cases e : (2 + h).toNat = j
    · by_cases hl : j < x.length
      · right; rw [e, List.getD_eq_getElem?_getD, List.getElem?_set_self (by simp; omega)]; rfl
      · left; simp only [List.getD_eq_getElem?_getD]; rw [List.getElem?_eq_none (by simp; omega), List.getElem?_eq_none (by omega)]
    · left; simp only [List.getD_eq_getElem?_getD]; rw [List.getElem?_set_ne e, List.getElem?_set_ne (by omega), List.getElem?_set_ne (by omega)]
  · left; simp only [List.getD_eq_getElem?_getD]; rw [List.getElem?_set_ne (by omega), List.getElem?_set_ne (by omega)]
/-- The node before a valid node is valid. -/
theorem before_ok {sy st : Int} {n : Nat} {x : List Int} {p a : Int} {r : RuleD} {y : List Int} (h : NodeOk sy st n x) (hn : 1 ≤ n) (hp : 0 ≤ p ∧ p < st) (ha : 0 ≤ a ∧ a < sy) (hy : before x p a r = some y) : NodeOk sy st n y := by
  have hl := h.len
  unfold before at hy
  split at hy
  · cases hy
  · rename_i h1
    simp only [not_or, Int.not_lt] at h1
    split at hy
    · rename_i h2
      split at hy
      · rename_i h3
        injection hy with hy
        subst hy
        refine ⟨by simp [hl], ?_, ?_, fun _ => getD_segNode_one _ _ _ _ (by omega), ?_, ?_⟩
        · rw [getD_segNode_zero _ _ _ _ (by omega)]; omega
        · rw [getD_segNode_zero _ _ _ _ (by omega)]; omega
        · rw [getD_segNode_zero _ _ _ _ (by omega)]; intro hh; exfalso; apply hh; omega
        · intro j h2 h3
          rcases getD_segNode x (x.getD 0 0 - r.m) (-1) 0 j h2 with e | e
          · rw [e]; exact h.cells j h2 h3
          · rw [e]; omega
      · cases hy
    · rename_i h2
      split at hy
      · injection hy with hy
        subst hy
        refine ⟨by simp [hl], ?_, ?_, ?_, ?_, ?_⟩
        · rw [getD_segNode_zero _ _ _ _ (by omega)]; omega
        · rw [getD_segNode_zero _ _ _ _ (by omega)]; omega
        · rw [getD_segNode_zero _ _ _ _ (by omega)]; intro hh; omega
        · rw [getD_segNode_one _ _ _ _ (by omega)]; intro _; exact hp
        · intro j h2 h3
          rcases getD_segNode x (x.getD 0 0 - r.m) p a j h2 with e | e
          · rw [e]; exact h.cells j h2 h3
          · rw [e]; omega
      · cases hy
/-- The ways through the program's test, with what each comes to. -/
theorem beforeWays (x : List Int) (p a : Int) (r : RuleD) (x0 x1 H N y : Int) (e0 : x.getD 0 0 = x0) (e1 : x.getD 1 0 = x1) (eH : x0 - r.m = H) (eN : (x.length : Int) - 2 = N) (ey : x.getD (2 + H).toNat 0 = y) :
    (0 ≤ x1 ∧ (r.n != x1) = true ∧ before x p a r = none) ∨
    (((0 ≤ x1 ∧ (r.n != x1) = false) ∨ x1 < 0) ∧ ((H < -1 ∧ before x p a r = none) ∨ (-1 ≤ H ∧ N < H ∧ before x p a r = none) ∨
      (H ≤ N ∧ (H == -1) = true ∧ before x p a r = if 0 ≤ x1 then some (segNode x H (-1) 0) else none) ∨
      (-1 ≤ H ∧ (H == -1) = false ∧ (H == N) = true ∧ before x p a r = if 0 ≤ x1 then some (segNode x H (-1) 0) else none) ∨
      (0 ≤ H ∧ H < N ∧ (H == -1) = false ∧ (H == N) = false ∧ (((y == r.w) = true ∧ before x p a r = some (segNode x H p a)) ∨ ((y == r.w) = false ∧ (y == -1) = true ∧ before x p a r = some (segNode x H p a)) ∨ ((y == r.w) = false ∧ (y == -1) = false ∧ before x p a r = none))))) := by
  unfold before
  rw [e0, e1, eH, eN, ey]
  by_cases c1 : 0 ≤ x1 ∧ r.n ≠ x1
  · exact .inl ⟨c1.1, by simp [c1.2], by rw [if_pos (.inl c1)]⟩
  · refine .inr ⟨?_, ?_⟩
    · by_cases c : 0 ≤ x1
      · exact .inl ⟨c, by simp; exact Classical.byContradiction fun hh => c1 ⟨c, hh⟩⟩
      · exact .inr (by omega)
    · by_cases c2 : H < -1
      · exact .inl ⟨c2, by rw [if_pos (.inr (.inl c2))]⟩
      · by_cases c3 : N < H
        · exact .inr (.inl ⟨by omega, c3, by rw [if_pos (.inr (.inr c3))]⟩)
        · have cc : ¬ ((0 ≤ x1 ∧ r.n ≠ x1) ∨ H < -1 ∨ N < H) := by
            rintro (h | h | h)
            · exact c1 h
            · exact c2 h
            · exact c3 h
          rw [if_neg cc]
          by_cases c4 : H = -1
          · exact .inr (.inr (.inl ⟨by omega, by simp [c4], by rw [if_pos (.inl c4)]⟩))
          · by_cases c5 : H = N
            · exact .inr (.inr (.inr (.inl ⟨by omega, by simp [c4], by simp [c5], by rw [if_pos (.inr c5)]⟩)))
            · have c6 : ¬ (H = -1 ∨ H = N) := by omega
              rw [if_neg c6]
              refine .inr (.inr (.inr (.inr ⟨by omega, by omega, by simp [c4], by simp [c5], ?_⟩)))
              by_cases d1 : y = r.w
              · exact .inl ⟨by simp [d1], by rw [if_pos (.inl d1)]⟩
              · by_cases d2 : y = -1
                · exact .inr (.inl ⟨by simp [d1], by simp [d2], by rw [if_pos (.inr d2)]⟩)
                · exact .inr (.inr ⟨by simp [d1], by simp [d2], by rw [if_neg (by rintro (h | h); exact d1 h; exact d2 h)]⟩)
end Go.Proofs.Ytkbpchdncljlbaa
end
