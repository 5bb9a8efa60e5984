/- Contracts of the program's list of the places without a rule. The machine has at most 6000 rules.
Contracts of the lists of the partial configurations at which a machine halts, the program's and the reference's. The machine is valid.
Contract of the reference's list of the partial configurations at which a machine halts. The machine is valid.
Contracts of the copies of lists and of the nodes of segments. Lists are not empty and short.
Contract of the library's Repeat, for a list of one number and up to eleven of it.
Contract of the program's list of the nodes at which a machine halts. The machine is valid, the size is from 1 to 9.
Contracts of the tests on lists of numbers, the program's and the reference's.
Contracts of the reference's test whether a node may begin, and of its copies.
Plain words on nodes of segments: when a node is valid, and the node before it. No program stands here. -/
import Derived.Test.YtapjofbjedpmgaaGreatC03
import Derived.Test.YtapjofbjedpmgaaGreatC02
import Derived.Deep.RegionHeld3
import Derived.Deep.AppendLies
import Derived.Test.YtapjofbjedpmgaaGreatShelf
import Derived.Laws.CopyOwn
section
namespace Go.Proofs.YtapjofbjedpmgaaGreat
open Go Go.RowKit Go.Proofs
set_option maxHeartbeats 400000
theorem intInfo : (Tryz.prog.info? 2).map (fun i => (i.zero, i.size, i.bytes)) = some (some (.int .i64 0), 1, 8) := by kernel_rfl
end Go.Proofs.YtapjofbjedpmgaaGreat
namespace Go.Proofs.YtapjofbjedpmgaaGreat
open Go Go.RowKit Go.Proofs
set_option maxHeartbeats 400000
end Go.Proofs.YtapjofbjedpmgaaGreat
namespace Go.Proofs.YtapjofbjedpmgaaGreat
open Go Go.RowKit Go.Proofs
set_option maxHeartbeats 400000
end Go.Proofs.YtapjofbjedpmgaaGreat
end
section
namespace Go.Proofs.YtapjofbjedpmgaaGreat
open Go Go.RowKit Go.Proofs
set_option maxHeartbeats 400000
theorem intSize (w : World) : (Go.sizeOf 2).run Tryz.prog w = .ok 1 w := by kernel_rfl
theorem ivs_one (zs : List Int) : ∀ u ∈ ivs zs, u.oneCell' = true := by
  intro u hu
  simp only [ivs, List.mem_map] at hu
  obtain ⟨z, _, rfl⟩ := hu
  rfl
theorem ints_cells {w : World} {b off : Nat} {zs : List Int} (hc : ∀ j, (hj : j < zs.length) → w.cell? ⟨b, off + j, none⟩ = some (.int .i64 zs[j])) : ∀ j u, (ivs zs)[j]? = some u → w.cell? ⟨b, off + j, none⟩ = some u := by
  intro j u hj
  obtain ⟨hl, _⟩ := List.getElem?_eq_some_iff.1 hj
  rw [ivs_length] at hl
  rw [ivs_get zs j hl] at hj
  injection hj with hj
  subst hj
  exact hc j hl
/-- A node with a place, a state, and a symbol at a cell. -/
def segNode (x : List Int) (place state symbol : Int) : List Int :=
  if 0 ≤ place ∧ place ≤ (x.length : Int) - 3 then ((x.set 0 place).set 1 state).set (2 + place).toNat symbol else (x.set 0 place).set 1 state
@[simp] theorem segNode_length (x : List Int) (a b c : Int) : (segNode x a b c).length = x.length := by unfold segNode; split <;> simp
end Go.Proofs.YtapjofbjedpmgaaGreat
namespace Go.Proofs.YtapjofbjedpmgaaGreat
open Go Go.RowKit Go.Proofs
set_option maxHeartbeats 400000
theorem intSize' : (Tryz.prog.info? 2).map (·.size) = some 1 := by kernel_rfl
end Go.Proofs.YtapjofbjedpmgaaGreat
namespace Go.Proofs.YtapjofbjedpmgaaGreat
open Go Go.RowKit Go.Proofs
set_option maxHeartbeats 400000
theorem rowInfo : (Tryz.prog.info? 27).map (fun i => (i.zero, i.size, i.bytes)) = some (some (.slice none 0 0), 1, 24) := by kernel_rfl
/-- A row is appended. -/
theorem OwnIntRows.snoc {base : Nat} {w w' : World} {v v' u : Value} {xss : List (List Int)} {ys : List Int} {vs : List Value} (h1 : w.ownsRow base 27 1 v xss.length vs)
    (h2 : ∀ i, (h : i < xss.length) → ∃ u, vs[i]? = some u ∧ OwnInts base w u xss[i])
    (h3 : ∀ (i j : Nat) (u u' : Value) (g : Nat), vs[i]? = some u → vs[j]? = some u' → u.ownBlock = some g → u'.ownBlock = some g → i = j)
    (hu : OwnInts base w u ys) (hne : ∀ (i : Nat) (u' : Value) (g : Nat), vs[i]? = some u' → u'.ownBlock = some g → u.ownBlock ≠ some g)
    (ho : w'.ownsRow base 27 1 v' (xss.length + 1) (vs ++ [u])) (hg : w.grownBy w' v.ownBlock) : OwnIntRows base w' v' (xss ++ [ys]) := by
  have hl := h1.1
  have keep : ∀ {x : Value} {zs : List Int}, OwnInts base w x zs → OwnInts base w' x zs := fun hx => World.ownsRow.kept hx hg (own_ne hx h1 (by decide))
  refine ⟨vs ++ [u], by simpa using ho, fun i hi => ?_, ?_⟩
  · by_cases h : i < xss.length
    · obtain ⟨x, e, hx⟩ := h2 i h
      exact ⟨x, by rw [List.getElem?_append_left (by omega), e], by rw [List.getElem_append_left h]; exact keep hx⟩
    · have hie : i = xss.length := by simp at hi; omega
      subst hie
      exact ⟨u, by rw [List.getElem?_append_right (by omega)]; simp [hl], by simpa using keep hu⟩
  · intro i j x y g hx hy hgx hgy
    have hlv : vs.length = xss.length := by omega
    by_cases hi : i < vs.length <;> by_cases hj : j < vs.length
    · rw [List.getElem?_append_left hi] at hx
      rw [List.getElem?_append_left hj] at hy
      exact h3 i j x y g hx hy hgx hgy
    · rw [List.getElem?_append_left hi] at hx
      rw [List.getElem?_append_right (by omega)] at hy
      have : u = y := by
        have := (List.getElem?_eq_some_iff.1 hy).1
        have e : j - vs.length = 0 := by simp at this; omega
        rw [e] at hy; simpa using hy
      subst this
      exact absurd hgy (hne i x g hx hgx)
    · rw [List.getElem?_append_right (by omega)] at hx
      rw [List.getElem?_append_left hj] at hy
      have : u = x := by
        have := (List.getElem?_eq_some_iff.1 hx).1
        have e : i - vs.length = 0 := by simp at this; omega
        rw [e] at hx; simpa using hx
      subst this
      exact absurd hgx (hne j y g hy hgy)
    · rw [List.getElem?_append_right (by omega)] at hx hy
      have a1 := (List.getElem?_eq_some_iff.1 hx).1
      have a2 := (List.getElem?_eq_some_iff.1 hy).1
      simp at a1 a2
      omega
theorem OwnInts.base {b b' : Nat} {w : World} {v : Value} {zs : List Int} (h : OwnInts b w v zs) (hb : b' ≤ b) : OwnInts b' w v zs := ownsRow_base h hb
end Go.Proofs.YtapjofbjedpmgaaGreat
end
section
namespace Go.Proofs.YtapjofbjedpmgaaGreat
open Go Go.RowKit Go.Proofs
set_option maxHeartbeats 400000
def allTo (p : Int → Bool) (zs : List Int) (k : Nat) : Prop := (zs.take k).all p = true
theorem allTo_step {p : Int → Bool} {zs : List Int} {k : Nat} (h : allTo p zs k) (hk : k < zs.length) (he : p zs[k] = true) : allTo p zs (k + 1) := by
  unfold allTo at *
  rw [List.take_succ_eq_append_getElem hk, List.all_append, h]; simp [he]
theorem allTo_end {p : Int → Bool} {zs : List Int} {k : Nat} (h : allTo p zs k) (hk : zs.length ≤ k) : zs.all p = true := by
  unfold allTo at h
  rwa [List.take_of_length_le hk] at h
theorem all_no {p : Int → Bool} {zs : List Int} {k : Nat} (hk : k < zs.length) (he : p zs[k] = false) : zs.all p = false := by
  rw [List.all_eq_false]
  exact ⟨zs[k], List.getElem_mem hk, by simp [he]⟩
theorem allWithin_c (v : Value) (zs : List Int) (lo hi : Int) (w : World) (h : Ints w v zs) :
    Calls Tryz.prog 65 #[v, .int .i64 lo, .int .i64 hi] w fun e w' => e = .returned (.bool (zs.all fun z => inB z lo hi)) ∧ w = w' := by
  obtain ⟨A, c, rfl, h1, h2⟩ := h.form
  go_enter Tryz.func65, Tryz.ntmps65
  go_wp2
  go_loop [11] (fun i => ∃ k : Nat, k ≤ zs.length ∧ i = .int .i64 k ∧ allTo (fun z => inB z lo hi) zs k) (fun i => zs.length - (intOf i).toNat)
  case atStart => exact ⟨0, Nat.zero_le _, rfl, rfl⟩
  case round =>
    obtain ⟨k, hk, rfl, ht⟩ := hrel
    by_cases hlt : k < zs.length
    · obtain ⟨b, off, rfl, hc⟩ := h.at hlt
      have c0 := hc k hlt
      clear hc
      cases he : inB zs[k] lo hi
      · go_wp2_with (go_at_call 45; refine (within_c _ _ _ _).mono ?_; rintro e w' ⟨rfl, rfl⟩)
        go_ret
        exact ⟨by simp [all_no (p := fun z => inB z lo hi) hlt he], rfl⟩
      · go_wp2_with (go_at_call 45; refine (within_c _ _ _ _).mono ?_; rintro e w' ⟨rfl, rfl⟩)
        go_round
        case rel => exact ⟨k + 1, by omega, by go_num, allTo_step (p := fun z => inB z lo hi) ht hlt he⟩
        case measure => simp [intOf]; omega
    · go_wp2
      go_ret
      exact ⟨by simp [allTo_end ht (by omega)], rfl⟩
theorem Ints.drop {w : World} {b off c : Nat} {zs : List Int} (h : Ints w (.slice (some ⟨b, off, none⟩) zs.length c) zs) (k : Nat) (hk : k ≤ zs.length) : Ints w (.slice (some ⟨b, off + k, none⟩) (zs.length - k) (c - k)) (zs.drop k) := by
  obtain ⟨A, c', hv, h1, h2, h3, h4⟩ := h
  injection hv with e1 e2 e3
  subst e1 e3
  refine ⟨_, _, by rw [List.length_drop], by rw [List.length_drop]; omega, by omega, by simp, fun hn => ⟨b, off + k, rfl, fun j hj => ?_⟩⟩
  rw [List.length_drop] at hn
  obtain ⟨b', off', e, hc⟩ := h4 (by omega)
  injection e with e
  injection e with e5 e6 e7
  subst e5 e6
  simp only [ivs_length, List.length_drop] at hj
  rw [Nat.add_assoc, hc (k + j) (by simp; omega), ivs_get zs (k + j) (by omega), ivs_get (zs.drop k) j (by simp; omega)]
  simp
end Go.Proofs.YtapjofbjedpmgaaGreat
namespace Go.Proofs.YtapjofbjedpmgaaGreat
open Go Go.RowKit Go.Proofs
set_option maxHeartbeats 400000
theorem l00Own_c (v : Value) (zs : List Int) (w : World) (h : Ints w v zs) (h0 : 0 < zs.length) (h1 : zs.length ≤ 1048576) :
    Calls Tryz.prog 95 #[v] w fun e w' => ∃ u, e = .returned u ∧ OwnInts w.heap.size w' u zs ∧ Ext w w' := by
  obtain ⟨i0, hi, hz0, hz1, hz2⟩ := info_parts intInfo
  obtain ⟨A, c, rfl, _, _⟩ := h.form
  obtain ⟨b, off, rfl, hc⟩ := h.at h0
  have hcl := ints_cells hc
  have hown0 : (w.alloc (.cells #[] 2)).ownsRow w.heap.size 2 1 (.slice (some ⟨w.heap.size, 0, none⟩) 0 0) 0 [] :=
    World.ownsRow_made (base := w.heap.size) (e := 2) (size := 1) w #[] 0 (by simp) (by unfold maxLen; omega) (by simp)
  have hcl2 : ∀ j u, (ivs zs)[j]? = some u → (w.alloc (.cells #[] 2)).cell? ((⟨b, off, none⟩ : Addr).add j) = some u := by
    intro j u hj
    have hadd : (⟨b, off, none⟩ : Addr).add j = ⟨b, off + j, none⟩ := by unfold Addr.add; split <;> simp_all
    rw [hadd]
    exact (Ext.alloc _ _).cell (hcl j u hj)
  have hm : 0 + zs.length ≤ maxLen := by unfold maxLen; omega
  have HC := Lib.hid hcl2
  have HO := Lib.hid hown0
  clear hcl2 hcl hc hown0
  go_enter Tryz.func95, Tryz.ntmps95
  go_wp2_with (at_builtin; refine wpList_append_own _ rfl _ _ 27 rfl w.heap.size 2 i0 (.int .i64 0) 1 8 Tryz.underlying27 hi hz0 hz1 hz2 rfl (by decide) _ _ _ rfl HO.out ⟨b, off, none⟩ zs.length c (ivs zs) rfl (by simp) HC.out (ivs_one zs) hm (by omega) (by simp) ?_)
  intro v' w1 hown' hgrow _
  go_wp2
  go_ret
  refine ⟨_, rfl, ?_, (Ext.alloc _ _).grown hgrow (fun b hb => (HO.out.lt b hb).1)⟩
  simpa [OwnInts] using hown'
end Go.Proofs.YtapjofbjedpmgaaGreat
namespace Go.Proofs.YtapjofbjedpmgaaGreat
open Go Go.RowKit Go.Proofs
/-- The node before a node, by a rule r of a state p and a symbol a. -/
def before (x : List Int) (p a : Int) (r : RuleD) : Option (List Int) :=
  if (0 ≤ x.getD 1 0 ∧ r.n ≠ x.getD 1 0) ∨ x.getD 0 0 - r.m < -1 ∨ (x.length : Int) - 2 < x.getD 0 0 - r.m then none
  else if x.getD 0 0 - r.m = -1 ∨ x.getD 0 0 - r.m = (x.length : Int) - 2 then (if 0 ≤ x.getD 1 0 then some (segNode x (x.getD 0 0 - r.m) (-1) 0) else none)
  else if x.getD (2 + (x.getD 0 0 - r.m)).toNat 0 = r.w ∨ x.getD (2 + (x.getD 0 0 - r.m)).toNat 0 = -1 then some (segNode x (x.getD 0 0 - r.m) p a) else none
end Go.Proofs.YtapjofbjedpmgaaGreat
end
