/- Contracts of the copies of lists and of the nodes of segments. Lists are not empty and short.
Contract of the library's Repeat, for a list of one number and up to eleven of it.
Contract of the program's list of the nodes at which a machine halts. The machine is valid, the size is from 1 to 9.
Contracts of the tests on lists of numbers, the program's and the reference's.
Contracts of the reference's test whether a node may begin, and of its copies.
Plain words on nodes of segments: when a node is valid, and the node before it. No program stands here. -/
import Derived.Test.YtacpchapgklcgaaGreatDoorQ04
import Derived.Test.YtacpchapgklcgaaGreatDoorShelf
import Derived.Laws.CopyOwn
section
namespace Go.Proofs.YtacpchapgklcgaaGreatDoor
open Go Go.RowKit Go.Proofs
set_option maxHeartbeats 400000
theorem intSize (w : World) : (Go.sizeOf 2).run Tryz.prog w = .ok 1 w := by kernel_rfl
theorem ivs_one (zs : List Int) : ∀ u ∈ ivs zs, u.oneCell' = true := by
  intro u hu
  simp only [ivs, List.mem_map] at hu
  obtain ⟨z, _, rfl⟩ := hu
  rfl
theorem ints_cells {w : World} {b off : Nat} {zs : List Int} (hc : ∀ j, (hj : j < zs.length) → w.cell? ⟨b, off + j, none⟩ = some (.int .i64 zs[j])) : ∀ j u, (ivs zs)[j]? = some u → w.cell? ⟨b, off + j, none⟩ = some u := by
  intro j u hj
  obtain ⟨hl, _⟩ := List.getElem?_eq_some_iff.1 hj
  rw [ivs_length] at hl
  rw [ivs_get zs j hl] at hj
  injection hj with hj
  subst hj
  exact hc j hl
theorem Clone_c (v : Value) (zs : List Int) (w : World) (h : Ints w v zs) (h0 : 0 < zs.length) (h1 : zs.length ≤ 1048576) :
    Calls Tryz.prog 125 #[v] w fun e w' => ∃ u, e = .returned u ∧ OwnInts w.heap.size w' u zs ∧ Ext w w' := by
  obtain ⟨i0, hi, hz0, hz1, hz2⟩ := info_parts intInfo
  obtain ⟨A, c, rfl, _, _⟩ := h.form
  obtain ⟨b, off, rfl, hc⟩ := h.at h0
  have hm : zs.length ≤ maxLen := by unfold maxLen; omega
  refine (Tryz.slices_Clone i0 _ 1 8 hi hz0 hz1 hz2 rfl (by omega) intSize b off zs.length c (ivs zs) w (by simp) hm (by omega) (ints_cells hc) (ivs_one zs)).mono ?_
  rintro e w' ⟨u, rfl, ho, _, hb⟩
  exact ⟨u, rfl, ho, hb⟩
/-- A node with a place, a state, and a symbol at a cell. -/
def segNode (x : List Int) (place state symbol : Int) : List Int :=
  if 0 ≤ place ∧ place ≤ (x.length : Int) - 3 then ((x.set 0 place).set 1 state).set (2 + place).toNat symbol else (x.set 0 place).set 1 state
theorem ivs_set (zs : List Int) (k : Nat) (a : Int) : ivs (zs.set k a) = (ivs zs).set k (.int .i64 a) := by simp [ivs, List.map_set]
@[simp] theorem segNode_length (x : List Int) (a b c : Int) : (segNode x a b c).length = x.length := by unfold segNode; split <;> simp
theorem segmentNode_c (v : Value) (zs : List Int) (p s y : Int) (w : World) (h : Ints w v zs) (h0 : 3 ≤ zs.length) (h1 : zs.length ≤ 1048576) (hp : -1 ≤ p) (hp' : p ≤ 1048576) :
    Calls Tryz.prog 98 #[v, .int .i64 p, .int .i64 s, .int .i64 y] w fun e w' => ∃ u, e = .returned u ∧ OwnInts w.heap.size w' u (segNode zs p s y) ∧ Ext w w' := by
  go_enter Tryz.func98, Tryz.ntmps98
  go_wp2_with fail
  refine (Clone_c v zs w h (by omega) h1).mono ?_
  rintro e w1 ⟨u, rfl, ho, hx⟩
  obtain ⟨A, c, rfl, _, _⟩ := ho.ints.form
  obtain ⟨g, rfl, hb, hgl⟩ := own_at ho (by omega)
  have q0 := ho.cellAt 0 (by omega)
  have q1 := ho.cellAt 1 (by omega)
  rw [ivs_get zs 0 (by omega)] at q0
  rw [ivs_get zs 1 (by omega)] at q1
  have f0 := ho.frozenAt 0
  have f1 := ho.frozenAt 1
  have hl3 : (1 : Int) < (zs.length : Int) := by omega
  have hl4 : (0 : Int) < (zs.length : Int) := by omega
  have hE : Ext w ((w1.setCell ⟨g, 0, none⟩ (.int .i64 p)).setCell ⟨g, 1, none⟩ (.int .i64 s)) := (hx.setCell hb _).setCell hb _
  have h2 := ((ho.stored 0 (.int .i64 p)).1.stored 1 (.int .i64 s)).1
  go_wp2_with fail
  rw [← ivs_set, ← ivs_set] at h2
  generalize (w1.setCell ⟨g, 0, none⟩ (.int .i64 p)).setCell ⟨g, 1, none⟩ (.int .i64 s) = w2 at *
  clear q0 q1 f0 f1 hl3 hl4 ho hgl hx
  refine (sizeInt_c v zs w2 (h.ext hE)).mono ?_
  rintro e w' ⟨rfl, rfl⟩
  go_wp2_with fail
  refine (within_c _ _ _ _).mono ?_
  rintro e w' ⟨rfl, rfl⟩
  by_cases hin : 0 ≤ p ∧ p ≤ (zs.length : Int) - 3
  · have H : inB p 0 ((zs.length : Int) - 3) = true := inB_true hin
    have HS : Hid (segNode zs p s y = ((zs.set 0 p).set 1 s).set (2 + p).toNat y) := by unfold Hid segNode; rw [if_pos hin]
    obtain ⟨n1, n2⟩ := hin
    obtain ⟨k, rfl⟩ := Int.eq_ofNat_of_zero_le n1
    have e2 : (2 + (k : Int)).toNat = 2 + k := by omega
    rw [e2] at HS
    clear e2
    have q0 := h2.cellAt (2 + k) (by omega)
    rw [ivs_get _ _ (by simp; omega)] at q0
    have f0 := h2.frozenAt (2 + k)
    have hE2 := hE.setCell (p := ⟨g, 2 + k, none⟩) hb (.int .i64 y)
    have h3 := (h2.stored (2 + k) (.int .i64 y)).1
    rw [← ivs_set] at h3
    go_wp2
    go_ret
    refine ⟨_, rfl, ?_, hE2⟩
    rw [HS.out]
    show World.ownsRow _ _ _ _ _ _ _
    simpa using h3
  · have H : inB p 0 ((zs.length : Int) - 3) = false := by rw [Bool.eq_false_iff]; intro h; exact hin (inB_iff.1 h)
    have HS : Hid (segNode zs p s y = (zs.set 0 p).set 1 s) := by unfold Hid segNode; rw [if_neg hin]
    clear hin
    go_wp2
    go_ret
    refine ⟨_, rfl, ?_, hE⟩
    rw [HS.out]
    show World.ownsRow _ _ _ _ _ _ _
    simpa using h2
end Go.Proofs.YtacpchapgklcgaaGreatDoor
namespace Go.Proofs.YtacpchapgklcgaaGreatDoor
open Go Go.RowKit Go.Proofs
set_option maxHeartbeats 400000
theorem intSize' : (Tryz.prog.info? 2).map (·.size) = some 1 := by kernel_rfl
/-- Of c cells the first j hold the number. -/
def RepSt (w : World) (g c : Nat) (z : Int) (j : Nat) (wr : World) : Prop := Ext w wr ∧ ∃ cur : List Value, wr.heap[g]? = some (.cells cur.toArray 2 (0, 0)) ∧ cur.length = c ∧ cur.take j = List.replicate j (.int .i64 z)
theorem splice_take {cur : List Value} {j m : Nat} {u : Value} (h : cur.take j = List.replicate j u) (_ : j ≤ cur.length) (_ : j + m ≤ cur.length) : (splice cur j (List.replicate m u)).take (j + m) = List.replicate (j + m) u := by
  unfold splice
  rw [h, ← List.append_assoc, List.replicate_append_replicate, List.take_append_of_le_length (by simp), List.take_of_length_le (by simp)]
theorem mulHi {c : Nat} (h : c ≤ 11) : 1 * c / 18446744073709551616 = 0 := by omega
theorem mulLo {c : Nat} (h : c ≤ 11) : 1 * c % 18446744073709551616 = c := by omega
theorem mulC {c : Nat} (h : c ≤ 11) : c < 18446744073709551616 := by omega
set_option maxRecDepth 100000 in
theorem Repeat_c (b c : Nat) (z : Int) (w : World) (hb : Blk w b 2 #[.int .i64 z]) (h1 : 1 ≤ c) (h2 : c ≤ 11) :
    Calls Tryz.prog 97 #[.slice (some ⟨b, 0, none⟩) 1 1, .int .i64 c] w fun e w' => ∃ u, e = .returned u ∧ OwnInts w.heap.size w' u (List.replicate c z) ∧ Ext w w' := by
  obtain ⟨i0, hi, hz0, hz1, hz2⟩ := info_parts intInfo
  go_enter Tryz.func97, Tryz.ntmps97
  go_wp2_with fail
  refine (Tryz.bits_Mul 1 c (by decide) (mulC h2) _).mono ?_
  rintro e w' ⟨rfl, rfl⟩
  rw [mulHi h2, mulLo h2]
  go_wp2_with (at_make; refine wpList_make_full _ rfl _ _ 28 rfl w'.heap.size 2 i0 _ 1 Tryz.underlying28 hi hz0 hz1 .i64 .i64 _ _ c rfl rfl ?d1 ?d2 ?c1 ?c2 ?c3 ?_)
  case d1 => rfl
  case d2 => rfl
  case c1 => rw [hz2]; omega
  case c2 => unfold maxLen; omega
  case c3 => exact Nat.le_refl _
  intro w1 hown hgr
  have hx1 : Ext w' w1 := (Ext.refl _).grown hgr (by simp)
  obtain ⟨cur, hg, hcl⟩ : ∃ cur : List Value, w1.heap[w'.heap.size]? = some (.cells cur.toArray 2 (0, 0)) ∧ cur.length = c := by
    rcases hown.2 with ⟨h', _⟩ | ⟨g', cap, cu, h', _, hg, _, _, hcs, _⟩
    · simp at h'
    · injection h' with e1 e2 e3
      injection e1 with e1
      injection e1 with e1 e4 e5
      subst e1 e3
      exact ⟨cu.toList, by simpa using hg, by simpa using hcs⟩
  have hsrc := (hb.ext hx1).cell 0
  simp only [List.getElem?_toArray, List.getElem?_cons_zero] at hsrc
  have hgb : b < w'.heap.size := hb.lt
  clear hown hgr hi hz0 hz1 hz2
  generalize hG : w'.heap.size = g at *
  have HG := Lib.hid hG
  have HCL := Lib.hid hcl
  clear hG hcl
  go_wp2_with (with_reducible refine wpList_copy_splice rfl _ _ 28 28 rfl 2 Tryz.underlying28 intSize' (some ⟨g, 0, none⟩) (some ⟨b, 0, none⟩) c c 1 1 rfl rfl g 0 cur 2 hg [.int .i64 z] ?k1 ?k2 ?k3 ?k4 g w' ?k5 ?k6 ?_)
  case k1 => show 1 = min 1 c; omega
  case k2 =>
    intro j u hj
    match j, hj with
    | 0, hj => simp at hj; subst hj; exact hsrc
  case k3 => have := HCL.out; simp; omega
  case k4 => intro u hu; simp at hu; subst hu; rfl
  case k5 => rw [← HG.out]; exact hx1
  case k6 => exact Nat.le_refl _
  intro w2 hg2 hbl2
  have hS : RepSt w' g c z 1 w2 := by
    refine ⟨by unfold Ext; rw [HG.out]; exact hbl2, _, hg2.out, ?_, ?_⟩
    · rw [length_splice _ _ _ (by have := HCL.out; simp; omega)]; exact HCL.out
    · simp [splice]
  clear hg hg2 hbl2 hsrc hx1
  go_wp2
  go_loopw [8] (fun i wr => ∃ j : Nat, 1 ≤ j ∧ j ≤ c ∧ i = .int .i64 j ∧ RepSt w' g c z j wr) (fun i _ => c - (intOf i).toNat)
  case atStart => exact ⟨1, Nat.le_refl _, h1, rfl, hS⟩
  case round =>
    clear hS
    obtain ⟨j, hj1, hj, rfl, hS⟩ := hrel
    by_cases hlt : j < c
    · obtain ⟨hx, cu, hgu, hcu, htk⟩ := hS
      have HCU := Lib.hid hcu
      have HTK := Lib.hid htk
      clear hcu htk
      have hcs : (List.replicate (min j (c - j)) (Value.int .i64 z)).length = Nat.min j (c - j) := by simp
      have hn0 : ¬ c = j := by omega
      have hj0 : (0 : Int) ≤ (j : Int) := by omega
      have hj2 : (j : Int) ≤ (c : Int) := by omega
      have hfit : j + (List.replicate (min j (c - j)) (Value.int .i64 z)).length ≤ cu.length := by have := HCU.out; simp; omega
      have h1c : ∀ u ∈ List.replicate (min j (c - j)) (Value.int .i64 z), u.oneCell' = true := fun u hu => by rw [List.eq_of_mem_replicate hu]; rfl
      have hcells : ∀ k u, (List.replicate (min j (c - j)) (Value.int .i64 z))[k]? = some u → wr.cell? ((⟨g, 0, none⟩ : Addr).add k) = some u := by
        intro k u hk
        have hk' : k < min j (c - j) := by simpa using (List.getElem?_eq_some_iff.1 hk).1
        have hadd : (⟨g, 0, none⟩ : Addr).add k = ⟨g, k, none⟩ := by unfold Addr.add; split <;> simp_all
        rw [hadd, cell_of_row wr g k _ _ (0, 0) hgu]
        have e : (cu.take j)[k]? = some (Value.int .i64 z) := by rw [HTK.out, List.getElem?_replicate, if_pos (by omega)]
        rw [List.getElem?_take, if_pos (by omega)] at e
        simp only [List.getElem?_toArray, e]
        rw [List.getElem?_replicate, if_pos hk'] at hk
        exact hk
      have hbl : Below g w' wr := by have := hx; unfold Ext at this; rwa [HG.out] at this
      have hsz : (hb.ext hx).cell 0 = (hb.ext hx).cell 0 := rfl
      have hcb := (hb.ext hx).cell 0
      simp only [List.getElem?_toArray, List.getElem?_cons_zero] at hcb
      have HN := Lib.hid hcs
      have HF := Lib.hid hfit
      have H1 := Lib.hid h1c
      have HC := Lib.hid hcells
      clear hcs hfit h1c hcells hsz
      go_wp2_with fail
      go_region_held3 (fun w' => w'.cell? ⟨b, 0, none⟩ = some (.int .i64 z))
        (first | go_keep | exact hkeep)
        ((refine step_copy_splice (by rfl) _ _ 28 28 (by rfl) 2 Tryz.underlying28 intSize' (some ⟨g, j, none⟩) (some ⟨g, 0, none⟩) (c - j) (c - j) j c (by rfl) (by rfl) g j cu 2 hgu (List.replicate (min j (c - j)) (Value.int .i64 z)) HN.out (fun _ => ⟨rfl, _, rfl, HC.out⟩) HF.out H1.out g w' hbl.drew (Nat.le_refl _) ?_; intro w3 hg3 hbl3; have hkeep := (hbl3.cell (p := ⟨b, 0, none⟩) hgb).trans (hb.cell 0); simp only [List.getElem?_toArray, List.getElem?_cons_zero] at hkeep))
      have hS3 : RepSt w' g c z (j + min j (c - j)) w3 := by
        refine ⟨by unfold Ext; rw [HG.out]; exact hbl3, _, hg3.out, ?_, ?_⟩
        · rw [length_splice _ _ _ HF.out]; exact HCU.out
        · exact splice_take HTK.out (by have := HCU.out; omega) (by have := HF.out; simpa using this)
      have hwr : IntKind.i64.wrap ((j : Int) + ((min j (c - j) : Nat) : Int)) = ((j + min j (c - j) : Nat) : Int) := by
        rw [IntWalk.i64_in _ (by omega)]; omega
      rw [hwr]
      have hm1 : 1 ≤ min j (c - j) := by omega
      have hm2 : j + min j (c - j) ≤ c := by omega
      clear hwr hbl3 hg3 hgu hcb hkeep hbl
      generalize min j (c - j) = mm at *
      go_wp2
      go_roundw
      case rel => exact ⟨j + mm, by omega, by omega, rfl, hS3⟩
      case measure => simp [intOf]; omega
    · have hje : j = c := by omega
      subst hje
      go_wp2
      go_ret
      obtain ⟨hx, cu, hgu, hcu, htk⟩ := hS
      refine ⟨_, rfl, ⟨by simp, .inr ⟨g, j, cu.toArray, by simp, by rw [HG.out]; exact Nat.le_refl _, hgu, by simp, by unfold maxLen; omega, by simpa using hcu, ?_⟩⟩, hx⟩
      simp only [List.length_replicate, Nat.mul_one, ivs, List.map_replicate]
      exact htk
end Go.Proofs.YtacpchapgklcgaaGreatDoor
namespace Go.Proofs.YtacpchapgklcgaaGreatDoor
open Go Go.RowKit Go.Proofs
set_option maxHeartbeats 400000
theorem rowInfo : (Tryz.prog.info? 28).map (fun i => (i.zero, i.size, i.bytes)) = some (some (.slice none 0 0), 1, 24) := by kernel_rfl
/-- A row is appended. -/
theorem OwnIntRows.snoc {base : Nat} {w w' : World} {v v' u : Value} {xss : List (List Int)} {ys : List Int} {vs : List Value} (h1 : w.ownsRow base 28 1 v xss.length vs)
    (h2 : ∀ i, (h : i < xss.length) → ∃ u, vs[i]? = some u ∧ OwnInts base w u xss[i])
    (h3 : ∀ (i j : Nat) (u u' : Value) (g : Nat), vs[i]? = some u → vs[j]? = some u' → u.ownBlock = some g → u'.ownBlock = some g → i = j)
    (hu : OwnInts base w u ys) (hne : ∀ (i : Nat) (u' : Value) (g : Nat), vs[i]? = some u' → u'.ownBlock = some g → u.ownBlock ≠ some g)
    (ho : w'.ownsRow base 28 1 v' (xss.length + 1) (vs ++ [u])) (hg : w.grownBy w' v.ownBlock) : OwnIntRows base w' v' (xss ++ [ys]) := by
  have hl := h1.1
  have keep : ∀ {x : Value} {zs : List Int}, OwnInts base w x zs → OwnInts base w' x zs := fun hx => World.ownsRow.kept hx hg (own_ne hx h1 (by decide))
  refine ⟨vs ++ [u], by simpa using ho, fun i hi => ?_, ?_⟩
  · by_cases h : i < xss.length
    · obtain ⟨x, e, hx⟩ := h2 i h
      exact ⟨x, by rw [List.getElem?_append_left (by omega), e], by rw [List.getElem_append_left h]; exact keep hx⟩
    · have hie : i = xss.length := by simp at hi; omega
      subst hie
      exact ⟨u, by rw [List.getElem?_append_right (by omega)]; simp [hl], by simpa using keep hu⟩
  · intro i j x y g hx hy hgx hgy
    have hlv : vs.length = xss.length := by omega
    by_cases hi : i < vs.length <;> by_cases hj : j < vs.length
    · rw [List.getElem?_append_left hi] at hx
      rw [List.getElem?_append_left hj] at hy
      exact h3 i j x y g hx hy hgx hgy
    · rw [List.getElem?_append_left hi] at hx
      rw [List.getElem?_append_right (by omega)] at hy
      have : u = y := by
        have := (List.getElem?_eq_some_iff.1 hy).1
        have e : j - vs.length = 0 := by simp at this; omega
        rw [e] at hy; simpa using hy
      subst this
      exact absurd hgy (hne i x g hx hgx)
    · rw [List.getElem?_append_right (by omega)] at hx
      rw [List.getElem?_append_left hj] at hy
      have : u = x := by
        have := (List.getElem?_eq_some_iff.1 hx).1
        have e : i - vs.length = 0 := by simp at this; omega
        rw [e] at hx; simpa using hx
      subst this
      exact absurd hgx (hne j y g hy hgy)
    · rw [List.getElem?_append_right (by omega)] at hx hy
      have a1 := (List.getElem?_eq_some_iff.1 hx).1
      have a2 := (List.getElem?_eq_some_iff.1 hy).1
      simp at a1 a2
      omega
/-- The rows of a list lie below the heap's end: a row that is made later lies in another block. -/
theorem rows_ne {base : Nat} {w w' : World} {u : Value} {xss : List (List Int)} {ys : List Int} {vs : List Value} {n : Nat} {v : Value} (h1 : w.ownsRow base 28 1 v n vs) (hn : n = xss.length)
    (h2 : ∀ i, (h : i < xss.length) → ∃ u, vs[i]? = some u ∧ OwnInts base w u xss[i]) (hu : OwnInts w.heap.size w' u ys) :
    ∀ (i : Nat) (u' : Value) (g : Nat), vs[i]? = some u' → u'.ownBlock = some g → u.ownBlock ≠ some g := by
  intro i u' g hi hg hg'
  have hl := h1.1
  have hil : i < xss.length := by have := (List.getElem?_eq_some_iff.1 hi).1; omega
  obtain ⟨x, e, hx⟩ := h2 i hil
  rw [hi] at e
  injection e with e
  subst e
  have a := (hx.lt g hg).2
  have b := (hu.lt g hg').1
  omega
theorem OwnParts.apart {b : Nat} {w w' : World} {v l : Value} {ps : List (Int × Int)} (h : OwnParts b w v ps) {base n : Nat} {vs : List Value} (ho : w.ownsRow base 28 1 l n vs) (hg : w.grownBy w' l.ownBlock) : OwnParts b w' v ps := by
  obtain ⟨us, h1, h2⟩ := h
  refine ⟨us, World.ownsRow.kept h1 hg (own_ne h1 ho (by decide)), fun i hi => ?_⟩
  obtain ⟨c, e0, e1, e2, hb⟩ := h2 i hi
  exact ⟨c, e0, e1, e2, hb.apart ho (by decide) hg⟩
/-- The nodes at which a machine halts. -/
def startsOf (n : Nat) (ps : List (Int × Int)) : List (List Int) := ps.map fun p => segNode (List.replicate (n + 2) (-1)) ((n : Int) / 2) p.1 p.2
theorem startsOf_take (n : Nat) (ps : List (Int × Int)) (k : Nat) (h : k < ps.length) : startsOf n (ps.take (k + 1)) = startsOf n (ps.take k) ++ [segNode (List.replicate (n + 2) (-1)) ((n : Int) / 2) ps[k].1 ps[k].2] := by
  unfold startsOf; rw [List.take_succ_eq_append_getElem h, List.map_append]; rfl
theorem OwnInts.base {b b' : Nat} {w : World} {v : Value} {zs : List Int} (h : OwnInts b w v zs) (hb : b' ≤ b) : OwnInts b' w v zs := ownsRow_base h hb
set_option maxHeartbeats 1600000 in
theorem segmentStarts_c (v : Value) (m : MachD) (n : Nat) (w : World) (h : Mach w v m) (hn : m.rules.length ≤ 6000) (h1 : 2 ≤ m.sy) (h2 : m.sy ≤ 6) (n1 : 1 ≤ n) (n2 : n ≤ 9) :
    Calls Tryz.prog 64 #[v, .int .i64 n] w fun e w' => ∃ u, e = .returned u ∧ OwnIntRows w.heap.size w' u (startsOf n (partsOf m.sy (freeTo m.rules m.rules.length))) ∧ Ext w w' := by
  obtain ⟨rv, rfl, hr⟩ := h
  obtain ⟨i0, hi, hz0, hz1, hz2⟩ := info_parts rowInfo
  have hps : (partsOf m.sy (freeTo m.rules m.rules.length)).length ≤ 6000 := by have := freeTo_length m.rules m.rules.length; simp [partsOf]; omega
  go_enter Tryz.func64, Tryz.ntmps64
  obtain ⟨Ar, cr, rfl, _, _⟩ := hr.form
  go_wp2_with fail
  refine (haltingPartials_c _ m _ ⟨_, rfl, hr.ext ((Ext.alloc _ _).trans (Ext.alloc _ _))⟩ hn h1 h2).mono ?_
  rintro e w1 ⟨u, rfl, hu, hx1⟩
  have hX : Ext w w1 := ((Ext.alloc _ _).trans (Ext.alloc _ _)).trans hx1
  have hown0 : w1.ownsRow w.heap.size 28 1 (.slice (some ⟨w.heap.size + 1, 0, none⟩) 0 0) 0 [] := by
    refine ownsRow_ext ?_ hx1
    have := World.ownsRow_made (base := w.heap.size) (e := 28) (size := 1) (w.alloc (.cells #[.int .i64 m.sy, .int .i64 m.st, .slice Ar m.rules.length cr] 26)) #[] 0 (by simp) (by unfold maxLen; omega) (by simp)
    simpa using this
  generalize hZ : partsOf m.sy (freeTo m.rules m.rules.length) = ps at *
  have HZ := Lib.hid hZ
  clear hZ
  obtain ⟨bz, hu⟩ : ∃ bz, OwnParts bz w1 u ps := ⟨_, hu⟩
  obtain ⟨Az, cz, rfl, h5, h5'⟩ := hu.form
  clear hx1 hr
  go_wp2
  go_loopw [5, 13] (fun l i wr => ∃ k : Nat, k ≤ ps.length ∧ i = .int .i64 k ∧ Ext w wr ∧ OwnParts bz wr (.slice Az ps.length cz) ps ∧ OwnIntRows w.heap.size wr l (startsOf n (ps.take k))) (fun _ i _ => ps.length - (intOf i).toNat)
  case atStart => exact ⟨0, Nat.zero_le _, rfl, hX, hu, ⟨[], by simpa [startsOf] using hown0, fun i hi => by simp [startsOf] at hi, fun i j u u' g hi => by simp at hi⟩⟩
  case round =>
    clear hX hu hown0
    obtain ⟨k, hk, rfl, hX, hu, ho⟩ := hrel
    have hsl : (startsOf n (ps.take k)).length = k := by simp [startsOf]; omega
    obtain ⟨Al, cl, rfl, h6, h6'⟩ := ho.rows.form
    by_cases hlt : k < ps.length
    · obtain ⟨gz, rfl, bc, c0, c1, c2, c3⟩ := hu.at hlt
      have HP := Lib.hid (startsOf_take n ps k hlt)
      have HL := Lib.hid hsl
      have hkl : (startsOf n (ps.take k)).length ≤ 6000 := by omega
      clear hsl
      go_wp2_with fail
      refine (Repeat_c (wr.heap.size + 1) (n + 2) (-1) _ (Blk.new _ _ _ _ (by simp)) (by omega) (by omega)).mono ?_
      rintro e wq ⟨uq, rfl, huq, hxq⟩
      have hL3 : 3 ≤ (List.replicate (n + 2) (-1 : Int)).length := by simp; omega
      have hL4 : (List.replicate (n + 2) (-1 : Int)).length ≤ 1048576 := by simp; omega
      generalize List.replicate (n + 2) (-1 : Int) = L at *
      obtain ⟨Aq, cq, rfl, _, _⟩ := huq.ints.form
      have hXq : Ext wr wq := ((Ext.alloc _ _).trans (Ext.alloc _ _)).trans hxq
      have bX := ((Blk.new wr wr.heap.size _ _ rfl).alloc (.cells #[.int .i64 (-1)] 2)).ext hxq
      have k0 := bX.cell 0
      have k1 := bX.cell 2
      simp only [List.getElem?_toArray, List.getElem?_cons_zero, List.getElem?_cons_succ] at k0 k1
      have bC := c3.ext hXq
      have k2 := bC.cell 0
      simp only [List.getElem?_toArray, List.getElem?_cons_zero] at k2
      have hup : OwnParts bz wq (.slice (some ⟨gz, 0, none⟩) ps.length cz) ps := hu.ext hXq
      have ho := ho.ext hXq
      have hX := hX.trans hXq
      have hui := huq.ints
      clear c0 c1 c2 c3 hxq hXq hu huq
      generalize hps1 : ps[k].1 = pq at *
      generalize hps2 : ps[k].2 = py at *
      clear hps1 hps2
      obtain ⟨vs, o1, o2, o3⟩ := ho
      obtain ⟨hh, hd0⟩ : ∃ q, (n : Int) / 2 = q := ⟨_, rfl⟩
      have hd1 : (n : Int).tdiv 2 = hh := by rw [Int.tdiv_eq_ediv_of_nonneg (by omega)]; exact hd0
      have hd2 : IntKind.i64.wrap hh = hh := IntWalk.i64_in _ (by omega)
      have hd3 : 0 ≤ hh := by omega
      have hd4 : hh ≤ 9 := by omega
      rw [hd0] at HP
      have hsz := hX.size
      have x0 := (Ext.drew wq).cell k0
      have x1 := (Ext.drew wq).cell k1
      have x2 := (Ext.drew wq).cell k2
      go_wp2_with fail
      set_option maxRecDepth 20000 in
      go_region_held3 (fun w' => w'.cell? ⟨wr.heap.size, 0, none⟩ = some (.int .i64 pq) ∧ w'.cell? ⟨wr.heap.size, 2, none⟩ = some (.slice (some ⟨bc, 0, none⟩) 1 1) ∧ w'.cell? ⟨bc, 0, none⟩ = some (.int .i64 py))
        (first | go_keep | exact ⟨hx3.cell x0, hx3.cell x1, hx3.cell x2⟩ | exact ⟨l0, l1, l2⟩)
        (first
          | (go_at_call 98; ((with_reducible refine (segmentNode_c _ L hh pq py _ (hui.ext (Ext.drew _)) hL3 hL4 (by omega) (by omega)).mono ?_)); rintro e w3 ⟨u3, rfl, hu3, hx3⟩; obtain ⟨A3, c3, rfl, _, _⟩ := hu3.ints.form)
          | (refine step_append_lies _ (by rfl) _ _ _ (by rfl) w.heap.size 28 i0 _ 1 24 Tryz.underlying34 hi hz0 hz1 hz2 rfl (by omega) _ _ vs (by rfl) ((ownsRow_ext (ownsRow_ext o1 (Ext.drew _)) hx3).alloc _) ⟨w3.heap.size, 0, none⟩ 1 1 [.slice A3 L.length c3] (by rfl) (by rfl) (World.news_of_block (cs := #[.slice A3 L.length c3]) (t := 28) (fr := (0, 0)) (Blk.new w3 w3.heap.size _ _ rfl)) (by simp [Value.oneCell']) (by omega) (by unfold maxLen; omega) (by omega) (by have := hx3.size; simp at this; simp; omega) (w3.heap.size + 1) (by simp) ?_; intro gg cap w4 hown4 hgrow hat hlt4; have hO := (ownsRow_ext (ownsRow_ext o1 (Ext.drew _)) hx3).alloc (.cells #[.slice A3 L.length c3] 28); have bX4 := Blk.apart ((bX.drew.ext hx3).alloc _) hO (by decide) hgrow; have bC4 := Blk.apart ((bC.drew.ext hx3).alloc _) hO (by decide) hgrow; have l0 := bX4.cell 0; have l1 := bX4.cell 2; have l2 := bC4.cell 0; simp only [List.getElem?_toArray, List.getElem?_cons_zero, List.getElem?_cons_succ] at l0 l1 l2))
      have hu3' : OwnInts wq.drew.heap.size w3 (.slice A3 L.length c3) (segNode L hh pq py) := by have := hu3; rwa [segNode_length] at this
      have R : OwnIntRows w.heap.size w4 (.slice (some ⟨gg, 0, none⟩) ((startsOf n (ps.take k)).length + 1) cap) (startsOf n (ps.take (k + 1))) := by
        rw [HP.out]
        have hO2 : ∀ i, (h : i < (startsOf n (ps.take k)).length) → ∃ u, vs[i]? = some u ∧ OwnInts w.heap.size wq.drew u (startsOf n (ps.take k))[i] := o2
        refine OwnIntRows.snoc (u := .slice A3 L.length c3) hO (fun i hi => ?_) o3 ((hu3'.ext (Ext.alloc _ _)).base (by simpa using hsz)) (rows_ne (w := wq.drew) (xss := startsOf n (ps.take k)) (by exact o1) rfl hO2 hu3') hown4 hgrow
        obtain ⟨u', e, hu'⟩ := o2 i hi
        exact ⟨u', e, ((hu'.ext (Ext.drew _)).ext hx3).ext (Ext.alloc _ _)⟩
      have hX4 : Ext w w4 := (((hX.trans (Ext.drew _)).trans hx3).trans (Ext.alloc _ _)).grown hgrow (fun b hb => (o1.lt b hb).1)
      have hup4 : OwnParts bz w4 (.slice (some ⟨gz, 0, none⟩) ps.length cz) ps := OwnParts.apart (((hup.ext (Ext.drew _)).ext hx3).ext (Ext.alloc _ _)) hO hgrow
      clear o1 o2 o3 hown4 hgrow hat l0 l1 l2 k0 k1 k2 x0 x1 x2 hO bX bC bX4 bC4 hup hu3 hu3' hui
      go_wp2
      go_roundw
      case rel => exact ⟨k + 1, by omega, by go_num, hX4, hup4, R⟩
      case measure => simp [intOf]; omega
    · have HK := Lib.hid (show ps.take k = ps from List.take_of_length_le (by omega))
      clear hsl
      go_wp2
      go_ret
      exact ⟨_, rfl, by rw [HZ.out]; have := ho; rw [HK.out] at this; rw [HK.out]; exact this, hX⟩
end Go.Proofs.YtacpchapgklcgaaGreatDoor
end
section
namespace Go.Proofs.YtacpchapgklcgaaGreatDoor
open Go Go.RowKit Go.Proofs
set_option maxHeartbeats 400000
theorem slicesEqual_c (w : World) (u v : Value) (xs ys : List Int) (ha : Ints w u xs) (hb : Ints w v ys) :
    Calls Tryz.prog 71 #[u, v] w fun e w' => e = .returned (.bool (lEq xs ys)) ∧ Ext w w' := by
  obtain ⟨A, ca, rfl, h1, h1'⟩ := ha.form
  obtain ⟨B, cb, rfl, h2, h2'⟩ := hb.form
  by_cases hl : xs.length = ys.length
  · have hl1 : ((xs.length : Int) != (ys.length : Int)) = false := by simp [hl]
    have hlle : xs.length ≤ ys.length := by omega
    have hlge : ys.length ≤ xs.length := by omega
    clear hl
    go_enter Tryz.func71, Tryz.ntmps71
    go_wp2
    go_loopw [13] (fun i wr => ∃ k : Nat, k ≤ xs.length ∧ i = .int .i64 k ∧ Ext w wr ∧ takeEq xs ys k) (fun i _ => xs.length - (intOf i).toNat)
    case atStart => exact ⟨0, Nat.zero_le _, rfl, Ext.refl _, rfl⟩
    case round =>
      obtain ⟨k, hk, rfl, hx, ht⟩ := hrel
      by_cases hlt : k < xs.length
      · obtain ⟨b, off, rfl, hc⟩ := ha.at hlt
        obtain ⟨b', off', rfl, hc'⟩ := hb.at (k := k) (by omega)
        have c0 := hx.cell (hc k hlt)
        have c0' := hx.cell (hc' k (by omega))
        clear hc hc' ha hb
        by_cases he : xs[k] = ys[k]
        · have H : (xs[k] != ys[k]) = false := by simp [he]
          have he' := Lib.hid he
          clear he
          go_wp2
          go_quiet (fail)
          go_wp2
          go_roundw
          case rel => exact ⟨k + 1, by omega, by go_num, hx.trans (Ext.drewN _ _), takeEq_step ht hlt (by omega) he'.out⟩
          case measure => simp [intOf]; omega
        · have H : (xs[k] != ys[k]) = true := by simp [he]
          go_wp2
          go_quiet (fail)
          go_wp2
          go_ret
          exact ⟨by simp [lEq_false (ne_of_get hlt (by omega) he)], hx.trans (Ext.drewN _ _)⟩
      · go_wp2
        go_ret
        exact ⟨by simp [lEq_true (eq_of_takeEq ht (by omega) (by omega))], hx⟩
  · have hl1 : ((xs.length : Int) != (ys.length : Int)) = true := by simp; omega
    go_enter Tryz.func71, Tryz.ntmps71
    go_wp2
    go_ret
    exact ⟨by simp [lEq_false (show ¬ xs = ys from fun h => hl (by rw [h]))], Ext.refl _⟩

def notIn (w : List Int) (xss : List (List Int)) (k : Nat) : Prop := ∀ x ∈ xss.take k, ¬ x = w
theorem notIn_step {w : List Int} {xss : List (List Int)} {k : Nat} (h : notIn w xss k) (hk : k < xss.length) (he : ¬ xss[k] = w) : notIn w xss (k + 1) := by
  unfold notIn at *
  rw [List.take_succ_eq_append_getElem hk]
  intro x hx
  rcases List.mem_append.1 hx with h1 | h1
  · exact h x h1
  · simp at h1; subst h1; exact he
theorem notIn_end {w : List Int} {xss : List (List Int)} {k : Nat} (h : notIn w xss k) (hk : xss.length ≤ k) : ¬ w ∈ xss := by
  intro hm
  exact h w (by rwa [List.take_of_length_le hk]) rfl
def allTo (p : Int → Bool) (zs : List Int) (k : Nat) : Prop := (zs.take k).all p = true
theorem allTo_step {p : Int → Bool} {zs : List Int} {k : Nat} (h : allTo p zs k) (hk : k < zs.length) (he : p zs[k] = true) : allTo p zs (k + 1) := by
  unfold allTo at *
  rw [List.take_succ_eq_append_getElem hk, List.all_append, h]; simp [he]
theorem allTo_end {p : Int → Bool} {zs : List Int} {k : Nat} (h : allTo p zs k) (hk : zs.length ≤ k) : zs.all p = true := by
  unfold allTo at h
  rwa [List.take_of_length_le hk] at h
theorem all_no {p : Int → Bool} {zs : List Int} {k : Nat} (hk : k < zs.length) (he : p zs[k] = false) : zs.all p = false := by
  rw [List.all_eq_false]
  exact ⟨zs[k], List.getElem_mem hk, by simp [he]⟩
theorem allWithin_c (v : Value) (zs : List Int) (lo hi : Int) (w : World) (h : Ints w v zs) :
    Calls Tryz.prog 84 #[v, .int .i64 lo, .int .i64 hi] w fun e w' => e = .returned (.bool (zs.all fun z => inB z lo hi)) ∧ w = w' := by
  obtain ⟨A, c, rfl, h1, h2⟩ := h.form
  go_enter Tryz.func84, Tryz.ntmps84
  go_wp2
  go_loop [11] (fun i => ∃ k : Nat, k ≤ zs.length ∧ i = .int .i64 k ∧ allTo (fun z => inB z lo hi) zs k) (fun i => zs.length - (intOf i).toNat)
  case atStart => exact ⟨0, Nat.zero_le _, rfl, rfl⟩
  case round =>
    obtain ⟨k, hk, rfl, ht⟩ := hrel
    by_cases hlt : k < zs.length
    · obtain ⟨b, off, rfl, hc⟩ := h.at hlt
      have c0 := hc k hlt
      clear hc
      cases he : inB zs[k] lo hi
      · go_wp2_with (go_at_call 24; refine (within_c _ _ _ _).mono ?_; rintro e w' ⟨rfl, rfl⟩)
        go_ret
        exact ⟨by simp [all_no (p := fun z => inB z lo hi) hlt he], rfl⟩
      · go_wp2_with (go_at_call 24; refine (within_c _ _ _ _).mono ?_; rintro e w' ⟨rfl, rfl⟩)
        go_round
        case rel => exact ⟨k + 1, by omega, by go_num, allTo_step (p := fun z => inB z lo hi) ht hlt he⟩
        case measure => simp [intOf]; omega
    · go_wp2
      go_ret
      exact ⟨by simp [allTo_end ht (by omega)], rfl⟩
/-- May a node begin: by the program. -/
def mayB (x : List Int) : Bool := decide (x.getD 1 0 ≤ 0) && (x.drop 2).all fun z => inB z (-1) 0
/-- May a node begin: by the reference. -/
def mayS (x : List Int) : Bool := decide (x.getD 1 0 ≤ 0) && (x.drop 2).all fun z => decide (z ≤ 0)
theorem Ints.drop {w : World} {b off c : Nat} {zs : List Int} (h : Ints w (.slice (some ⟨b, off, none⟩) zs.length c) zs) (k : Nat) (hk : k ≤ zs.length) : Ints w (.slice (some ⟨b, off + k, none⟩) (zs.length - k) (c - k)) (zs.drop k) := by
  obtain ⟨A, c', hv, h1, h2, h3, h4⟩ := h
  injection hv with e1 e2 e3
  subst e1 e3
  refine ⟨_, _, by rw [List.length_drop], by rw [List.length_drop]; omega, by omega, by simp, fun hn => ⟨b, off + k, rfl, fun j hj => ?_⟩⟩
  rw [List.length_drop] at hn
  obtain ⟨b', off', e, hc⟩ := h4 (by omega)
  injection e with e
  injection e with e5 e6 e7
  subst e5 e6
  simp only [ivs_length, List.length_drop] at hj
  rw [Nat.add_assoc, hc (k + j) (by simp; omega), ivs_get zs (k + j) (by omega), ivs_get (zs.drop k) j (by simp; omega)]
  simp
theorem mayBegin_c (v : Value) (x : List Int) (w : World) (h : Ints w v x) (hl : 3 ≤ x.length) :
    Calls Tryz.prog 66 #[v] w fun e w' => e = .returned (.bool (mayB x)) ∧ w = w' := by
  obtain ⟨A, c, rfl, h1, h2⟩ := h.form
  obtain ⟨b, off, rfl, hc⟩ := h.at (k := 1) (by omega)
  have c0 := hc 1 (by omega)
  have hd := h.drop 2 (by omega)
  have e1 : x.getD 1 0 = x[1] := by rw [List.getD_eq_getElem?_getD, List.getElem?_eq_getElem (by omega)]; rfl
  have hM : Hid (mayB x = (decide (x[1] ≤ 0) && (x.drop 2).all fun z => inB z (-1) 0)) := by unfold Hid mayB; rw [e1]
  clear hc e1
  have hcc : ¬ c = 2 := by omega
  have hc2 : (2 : Int) ≤ (c : Int) := by omega
  have hl2 : (2 : Int) ≤ (x.length : Int) := by omega
  by_cases hx : x[1] ≤ 0
  · have HX : decide (x[1] ≤ 0) = true := by simp [hx]
    go_enter Tryz.func66, Tryz.ntmps66
    go_wp2_with (go_at_call 84; ((with_reducible refine (allWithin_c _ _ _ _ _ hd).mono ?_)); rintro e w' ⟨rfl, rfl⟩)
    go_ret
    exact ⟨by rw [hM.out, HX]; rfl, rfl⟩
  · have HX : decide (x[1] ≤ 0) = false := by simp; omega
    go_enter Tryz.func66, Tryz.ntmps66
    go_wp2
    go_ret
    exact ⟨by rw [hM.out, HX]; rfl, rfl⟩
end Go.Proofs.YtacpchapgklcgaaGreatDoor
namespace Go.Proofs.YtacpchapgklcgaaGreatDoor
open Go Go.RowKit Go.Proofs
set_option maxHeartbeats 400000
theorem mayS_no {x : List Int} {k : Nat} (h2 : 2 ≤ k) (hk : k < x.length) (he : 0 < x[k]) : mayS x = false := by
  unfold mayS
  have : (x.drop 2).all (fun z => decide (z ≤ 0)) = false := by
    rw [List.all_eq_false]
    exact ⟨x[k], by rw [List.mem_drop_iff_getElem]; exact ⟨k - 2, by omega, by congr 1; omega⟩, by simp; omega⟩
  rw [this]; simp
theorem mayS_yes {x : List Int} (hl : 3 ≤ x.length) (h1 : x[1] ≤ 0) (h : ∀ j, 2 ≤ j → (hj : j < x.length) → x[j] ≤ 0) : mayS x = true := by
  unfold mayS
  have e1 : x.getD 1 0 = x[1] := by rw [List.getD_eq_getElem?_getD, List.getElem?_eq_getElem (by omega)]; rfl
  rw [e1]
  have : (x.drop 2).all (fun z => decide (z ≤ 0)) = true := by
    rw [List.all_eq_true]
    intro z hz
    rw [List.mem_drop_iff_getElem] at hz
    obtain ⟨j, hj, rfl⟩ := hz
    have := h (j + 2) (by omega) hj
    simpa [Nat.add_comm] using this
  rw [this]; simp [h1]
theorem mayS_no1 {x : List Int} (hl : 3 ≤ x.length) (h1 : ¬ x[1] ≤ 0) : mayS x = false := by
  unfold mayS
  have e1 : x.getD 1 0 = x[1] := by rw [List.getD_eq_getElem?_getD, List.getElem?_eq_getElem (by omega)]; rfl
  rw [e1]; simp [h1]
def lowTo (x : List Int) (k : Nat) : Prop := ∀ j, 2 ≤ j → j < k → (hj : j < x.length) → x[j] ≤ 0
theorem l00Own_c (v : Value) (zs : List Int) (w : World) (h : Ints w v zs) (h0 : 0 < zs.length) (h1 : zs.length ≤ 1048576) :
    Calls Tryz.prog 76 #[v] w fun e w' => ∃ u, e = .returned u ∧ OwnInts w.heap.size w' u zs ∧ Ext w w' := by
  obtain ⟨i0, hi, hz0, hz1, hz2⟩ := info_parts intInfo
  obtain ⟨A, c, rfl, _, _⟩ := h.form
  obtain ⟨b, off, rfl, hc⟩ := h.at h0
  have hcl := ints_cells hc
  have hown0 : (w.alloc (.cells #[] 2)).ownsRow w.heap.size 2 1 (.slice (some ⟨w.heap.size, 0, none⟩) 0 0) 0 [] :=
    World.ownsRow_made (base := w.heap.size) (e := 2) (size := 1) w #[] 0 (by simp) (by unfold maxLen; omega) (by simp)
  have hcl2 : ∀ j u, (ivs zs)[j]? = some u → (w.alloc (.cells #[] 2)).cell? ((⟨b, off, none⟩ : Addr).add j) = some u := by
    intro j u hj
    have hadd : (⟨b, off, none⟩ : Addr).add j = ⟨b, off + j, none⟩ := by unfold Addr.add; split <;> simp_all
    rw [hadd]
    exact (Ext.alloc _ _).cell (hcl j u hj)
  have hm : 0 + zs.length ≤ maxLen := by unfold maxLen; omega
  have HC := Lib.hid hcl2
  have HO := Lib.hid hown0
  clear hcl2 hcl hc hown0
  go_enter Tryz.func76, Tryz.ntmps76
  go_wp2_with (at_builtin; refine wpList_append_own _ rfl _ _ 28 rfl w.heap.size 2 i0 (.int .i64 0) 1 8 Tryz.underlying28 hi hz0 hz1 hz2 rfl (by decide) _ _ _ rfl HO.out ⟨b, off, none⟩ zs.length c (ivs zs) rfl (by simp) HC.out (ivs_one zs) hm (by omega) (by simp) ?_)
  intro v' w1 hown' hgrow _
  go_wp2
  go_ret
  refine ⟨_, rfl, ?_, (Ext.alloc _ _).grown hgrow (fun b hb => (HO.out.lt b hb).1)⟩
  simpa [OwnInts] using hown'
end Go.Proofs.YtacpchapgklcgaaGreatDoor
namespace Go.Proofs.YtacpchapgklcgaaGreatDoor
open Go Go.RowKit Go.Proofs
/-- A node of n cells is valid. -/
structure NodeOk (sy st : Int) (n : Nat) (x : List Int) : Prop where
  len : x.length = n + 2
  lo : -1 ≤ x.getD 0 0
  hi : x.getD 0 0 ≤ n
  out : (x.getD 0 0 < 0 ∨ x.getD 0 0 = n) → x.getD 1 0 = -1
  ins : ¬ (x.getD 0 0 < 0 ∨ x.getD 0 0 = n) → 0 ≤ x.getD 1 0 ∧ x.getD 1 0 < st
  cells : ∀ j, 2 ≤ j → j < n + 2 → -1 ≤ x.getD j 0 ∧ x.getD j 0 < sy
/-- The node before a node, by a rule r of a state p and a symbol a. -/
def before (x : List Int) (p a : Int) (r : RuleD) : Option (List Int) :=
  if (0 ≤ x.getD 1 0 ∧ r.n ≠ x.getD 1 0) ∨ x.getD 0 0 - r.m < -1 ∨ (x.length : Int) - 2 < x.getD 0 0 - r.m then none
  else if x.getD 0 0 - r.m = -1 ∨ x.getD 0 0 - r.m = (x.length : Int) - 2 then (if 0 ≤ x.getD 1 0 then some (segNode x (x.getD 0 0 - r.m) (-1) 0) else none)
  else if x.getD (2 + (x.getD 0 0 - r.m)).toNat 0 = r.w ∨ x.getD (2 + (x.getD 0 0 - r.m)).toNat 0 = -1 then some (segNode x (x.getD 0 0 - r.m) p a) else none
theorem getD_segNode_zero (x : List Int) (h p a : Int) (hl : 3 ≤ x.length) : (segNode x h p a).getD 0 0 = h := by
  unfold segNode
  split
  · rw [List.getD_eq_getElem?_getD, List.getElem?_set_ne (by omega), List.getElem?_set_ne (by omega), List.getElem?_set_self (by omega)]; rfl
  · rw [List.getD_eq_getElem?_getD, List.getElem?_set_ne (by omega), List.getElem?_set_self (by omega)]; rfl
theorem getD_segNode_one (x : List Int) (h p a : Int) (hl : 3 ≤ x.length) : (segNode x h p a).getD 1 0 = p := by
  unfold segNode
  split
  · rw [List.getD_eq_getElem?_getD, List.getElem?_set_ne (by omega), List.getElem?_set_self (by simp; omega)]; rfl
  · rw [List.getD_eq_getElem?_getD, List.getElem?_set_self (by simp; omega)]; rfl
theorem getD_segNode (x : List Int) (h p a : Int) (j : Nat) (hj : 2 ≤ j) : (segNode x h p a).getD j 0 = x.getD j 0 ∨ (segNode x h p a).getD j 0 = a := by
  unfold segNode
  split
  · by_cases e : (2 + h).toNat = j
    · by_cases hl : j < x.length
      · right; rw [e, List.getD_eq_getElem?_getD, List.getElem?_set_self (by simp; omega)]; rfl
      · left; simp only [List.getD_eq_getElem?_getD]; rw [List.getElem?_eq_none (by simp; omega), List.getElem?_eq_none (by omega)]
    · left; simp only [List.getD_eq_getElem?_getD]; rw [List.getElem?_set_ne e, List.getElem?_set_ne (by omega), List.getElem?_set_ne (by omega)]
  · left; simp only [List.getD_eq_getElem?_getD]; rw [List.getElem?_set_ne (by omega), List.getElem?_set_ne (by omega)]
/-- The node before a valid node is valid. -/
theorem before_ok {sy st : Int} {n : Nat} {x : List Int} {p a : Int} {r : RuleD} {y : List Int} (h : NodeOk sy st n x) (hn : 1 ≤ n) (hp : 0 ≤ p ∧ p < st) (ha : 0 ≤ a ∧ a < sy) (hy : before x p a r = some y) : NodeOk sy st n y := by
  have hl := h.len
  unfold before at hy
  split at hy
  · cases hy
  · rename_i h1
    simp only [not_or, Int.not_lt] at h1
    split at hy
    · rename_i h2
      split at hy
      · rename_i h3
        injection hy with hy
        subst hy
        refine ⟨by simp [hl], ?_, ?_, fun _ => getD_segNode_one _ _ _ _ (by omega), ?_, ?_⟩
        · rw [getD_segNode_zero _ _ _ _ (by omega)]; omega
        · rw [getD_segNode_zero _ _ _ _ (by omega)]; omega
        · rw [getD_segNode_zero _ _ _ _ (by omega)]; intro hh; exfalso; apply hh; omega
        · intro j h2 h3
          rcases getD_segNode x (x.getD 0 0 - r.m) (-1) 0 j h2 with e | e
          · rw [e]; exact h.cells j h2 h3
          · rw [e]; omega
      · cases hy
    · rename_i h2
      split at hy
      · injection hy with hy
        subst hy
        refine ⟨by simp [hl], ?_, ?_, ?_, ?_, ?_⟩
        · rw [getD_segNode_zero _ _ _ _ (by omega)]; omega
        · rw [getD_segNode_zero _ _ _ _ (by omega)]; omega
        · rw [getD_segNode_zero _ _ _ _ (by omega)]; intro hh; omega
        · rw [getD_segNode_one _ _ _ _ (by omega)]; intro _; exact hp
        · intro j h2 h3
          rcases getD_segNode x (x.getD 0 0 - r.m) p a j h2 with e | e
          · rw [e]; exact h.cells j h2 h3
          · rw [e]; omega
      · cases hy
/-- The ways through the program's test, with what each comes to. -/
theorem beforeWays (x : List Int) (p a : Int) (r : RuleD) (x0 x1 H N y : Int) (e0 : x.getD 0 0 = x0) (e1 : x.getD 1 0 = x1) (eH : x0 - r.m = H) (eN : (x.length : Int) - 2 = N) (ey : x.getD (2 + H).toNat 0 = y) :
    (0 ≤ x1 ∧ (r.n != x1) = true ∧ before x p a r = none) ∨
    (((0 ≤ x1 ∧ (r.n != x1) = false) ∨ x1 < 0) ∧ ((H < -1 ∧ before x p a r = none) ∨ (-1 ≤ H ∧ N < H ∧ before x p a r = none) ∨
      (H ≤ N ∧ (H == -1) = true ∧ before x p a r = if 0 ≤ x1 then some (segNode x H (-1) 0) else none) ∨
      (-1 ≤ H ∧ (H == -1) = false ∧ (H == N) = true ∧ before x p a r = if 0 ≤ x1 then some (segNode x H (-1) 0) else none) ∨
      (0 ≤ H ∧ H < N ∧ (H == -1) = false ∧ (H == N) = false ∧ (((y == r.w) = true ∧ before x p a r = some (segNode x H p a)) ∨ ((y == r.w) = false ∧ (y == -1) = true ∧ before x p a r = some (segNode x H p a)) ∨ ((y == r.w) = false ∧ (y == -1) = false ∧ before x p a r = none))))) := by
  unfold before
  rw [e0, e1, eH, eN, ey]
  by_cases c1 : 0 ≤ x1 ∧ r.n ≠ x1
  · exact .inl ⟨c1.1, by simp [c1.2], by rw [if_pos (.inl c1)]⟩
  · refine .inr ⟨?_, ?_⟩
    · by_cases c : 0 ≤ x1
      · exact .inl ⟨c, by simp; exact Classical.byContradiction fun hh => c1 ⟨c, hh⟩⟩
      · exact .inr (by omega)
    · by_cases c2 : H < -1
      · exact .inl ⟨c2, by rw [if_pos (.inr (.inl c2))]⟩
      · by_cases c3 : N < H
        · exact .inr (.inl ⟨by omega, c3, by rw [if_pos (.inr (.inr c3))]⟩)
        · have cc : ¬ ((0 ≤ x1 ∧ r.n ≠ x1) ∨ H < -1 ∨ N < H) := by
            rintro (h | h | h)
            · exact c1 h
            · exact c2 h
            · exact c3 h
          rw [if_neg cc]
          by_cases c4 : H = -1
          · exact .inr (.inr (.inl ⟨by omega, by simp [c4], by rw [if_pos (.inl c4)]⟩))
          · by_cases c5 : H = N
            · exact .inr (.inr (.inr (.inl ⟨by omega, by simp [c4], by simp [c5], by rw [if_pos (.inr c5)]⟩)))
            · have c6 : ¬ (H = -1 ∨ H = N) := by omega
              rw [if_neg c6]
              refine .inr (.inr (.inr (.inr ⟨by omega, by omega, by simp [c4], by simp [c5], ?_⟩)))
              by_cases d1 : y = r.w
              · exact .inl ⟨by simp [d1], by rw [if_pos (.inl d1)]⟩
              · by_cases d2 : y = -1
                · exact .inr (.inl ⟨by simp [d1], by simp [d2], by rw [if_pos (.inr d2)]⟩)
                · exact .inr (.inr ⟨by simp [d1], by simp [d2], by rw [if_neg (by rintro (h | h); exact d1 h; exact d2 h)]⟩)
end Go.Proofs.YtacpchapgklcgaaGreatDoor
end
