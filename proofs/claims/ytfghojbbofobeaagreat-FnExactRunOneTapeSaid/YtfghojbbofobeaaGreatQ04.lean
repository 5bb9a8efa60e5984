/- Contracts of the laws' copies of lists of lists and of proofs. Lists are short.
The arguments of the laws of this seat, opened, continued: lists of lists, a proof. No condition.
Contracts of the copies of lists and of the nodes of segments. Lists are not empty and short.
Contract of the library's Repeat, for a list of one number and up to eleven of it.
Contract of the program's list of the nodes at which a machine halts. The machine is valid, the size is from 1 to 9. -/
import Derived.Test.YtfghojbbofobeaaGreatQ03
import Derived.Test.YtfghojbbofobeaaGreatQ02
import Derived.Test.YtfghojbbofobeaaGreatShelf
import Derived.Laws.CopyOwn
section
namespace Go.Proofs.YtfghojbbofobeaaGreat
open Go Go.RowKit Go.Proofs
set_option maxHeartbeats 400000
theorem rowInfo' : (Tryz.prog.info? 46).map (fun i => (i.zero, i.size, i.bytes)) = some (some (.slice none 0 0), 1, 24) := by kernel_rfl
/-- The first k rows are copied. -/
def RowsTo (b : Nat) (w : World) (xss : List (List Int)) (k : Nat) (vs : List Value) : Prop :=
  (∀ i, (h : i < xss.length) → i < k → ∃ u, vs[i]? = some u ∧ OwnInts b w u xss[i]) ∧
    ∀ (i j : Nat) (u u' : Value) (g : Nat), i < k → j < k → vs[i]? = some u → vs[j]? = some u' → u.ownBlock = some g → u'.ownBlock = some g → i = j
theorem RowsTo.ext {b : Nat} {w w' : World} {xss : List (List Int)} {k : Nat} {vs : List Value} (h : RowsTo b w xss k vs) (he : Ext w w') : RowsTo b w' xss k vs :=
  ⟨fun i hi hk => by obtain ⟨u, e, hu⟩ := h.1 i hi hk; exact ⟨u, e, hu.ext he⟩, h.2⟩
theorem far_of_ne {w : World} {base base' : Nat} {e e' : TypeId} {size size' : Nat} {v v' : Value} {n n' : Nat} {xs xs' : List Value} (h : w.ownsRow base e size v n xs) (h' : w.ownsRow base' e' size' v' n' xs') (hne : e ≠ e') {g : Nat} (hg : v'.ownBlock = some g) : ∀ k, v.ownBlock = some k → k ≠ g := by
  intro k hk he
  rcases own_ne h h' hne with c | c
  · rw [c] at hk; cases hk
  · exact c (by rw [hk, hg, he])
theorem RowsTo.step {g c0 : Nat} {w w2 : World} {xss : List (List Int)} {k n : Nat} {vs : List Value} {u : Value} (h : RowsTo g w xss k vs) (hx : Ext w w2) (ho : w2.ownsRow g 46 1 (.slice (some ⟨g, 0, none⟩) n c0) n vs) (hk : k < xss.length) (hn : k < vs.length)
    (hu : OwnInts w.heap.size w2 u xss[k]) (hb : g ≤ w.heap.size) : RowsTo g (w2.setCell ⟨g, k, none⟩ u) xss (k + 1) (vs.set k u) := by
  have keep : ∀ {b : Nat} {v : Value} {zs : List Int}, OwnInts b w2 v zs → OwnInts b (w2.setCell ⟨g, k, none⟩ u) v zs := fun hv => ownsRow_far (p := ⟨g, k, none⟩) hv (far_of_ne hv ho (by decide) rfl) u
  refine ⟨fun i hi hik => ?_, fun i j x x' b hi hj hxi hxj hb1 hb2 => ?_⟩
  · by_cases c : i = k
    · subst c
      exact ⟨u, List.getElem?_set_self hn, keep (ownsRow_base hu hb)⟩
    · obtain ⟨x, e, hx'⟩ := h.1 i hi (by omega)
      exact ⟨x, by rw [List.getElem?_set_ne (Ne.symm c)]; exact e, keep (hx'.ext hx)⟩
  · have old : ∀ (i : Nat) (x : Value), i < k → vs[i]? = some x → x.ownBlock = some b → b < w.heap.size := fun i x hi hx1 hb1 => by
      obtain ⟨x', e, hx'⟩ := h.1 i (by omega) hi
      rw [hx1] at e
      injection e with e
      subst e
      exact (hx'.lt b hb1).2
    have new : u.ownBlock = some b → w.heap.size ≤ b := fun hb1 => (hu.lt b hb1).1
    by_cases ci : i = k <;> by_cases cj : j = k
    · omega
    · subst ci
      rw [List.getElem?_set_self hn] at hxi
      injection hxi with hxi
      subst hxi
      rw [List.getElem?_set_ne (Ne.symm cj)] at hxj
      have := old j x' (by omega) hxj hb2
      have := new hb1
      omega
    · subst cj
      rw [List.getElem?_set_self hn] at hxj
      injection hxj with hxj
      subst hxj
      rw [List.getElem?_set_ne (Ne.symm ci)] at hxi
      have := old i x (by omega) hxi hb1
      have := new hb2
      omega
    · rw [List.getElem?_set_ne (Ne.symm ci)] at hxi
      rw [List.getElem?_set_ne (Ne.symm cj)] at hxj
      exact h.2 i j x x' b (by omega) (by omega) hxi hxj hb1 hb2
theorem toInt64SS_c (v : Value) (xss : List (List Int)) (w : World) (h : IntRows w v xss) (hn : xss.length + tot xss ≤ 1048576) :
    Calls Tryz.prog 8 #[v] w fun e w' => ∃ u, e = .returned u ∧ OwnIntRows w.heap.size w' u xss ∧ Ext w w' := by
  obtain ⟨A, c, rfl, h2, h3⟩ := h.form
  obtain ⟨i0, hi, hz0, hz1, hz2⟩ := info_parts rowInfo'
  go_enter Tryz.func8, Tryz.ntmps8
  go_wp2_with (at_make; refine wpList_make_full _ rfl _ _ 25 rfl w.heap.size 46 i0 _ 1 Tryz.underlying25 hi hz0 hz1 .i64 .i64 _ _ xss.length rfl rfl rfl rfl ?c1 ?c2 ?c3 ?_)
  case c1 => rw [hz2]; omega
  case c2 => unfold maxLen; omega
  case c3 => exact Nat.le_refl _
  intro w1 hown hgr
  have hx1 : Ext w w1 := (Ext.refl _).grown hgr (by simp)
  obtain ⟨cs, hown⟩ : ∃ cs, w1.ownsRow w.heap.size 46 1 (.slice (some ⟨w.heap.size, 0, none⟩) xss.length xss.length) xss.length cs := ⟨_, hown⟩
  clear hgr hi hz0 hz1 hz2
  have hsz : w.heap.size < w1.heap.size := (hown.lt _ rfl).2
  generalize hg : w.heap.size = g at *
  have HG := Lib.hid hg
  clear hg
  go_wp2
  go_loopw [4] (fun i wr => ∃ k : Nat, k ≤ xss.length ∧ i = .int .i64 k ∧ Ext w wr ∧ ∃ vs, wr.ownsRow g 46 1 (.slice (some ⟨g, 0, none⟩) xss.length xss.length) xss.length vs ∧ RowsTo g wr xss k vs) (fun i _ => xss.length - (intOf i).toNat)
  case atStart => exact ⟨0, Nat.zero_le _, rfl, hx1, cs, hown, fun i _ hk => by omega, fun i j u u' b hi => by omega⟩
  case round =>
    obtain ⟨k, hk, rfl, hx, vs, ho, hf⟩ := hrel
    by_cases hlt : k < xss.length
    · obtain ⟨b, off, rfl, hc⟩ := h.at hlt
      obtain ⟨A1, d1, c0, r0⟩ := hc k hlt
      have d0 := hx.cell c0
      have r0 := r0.ext hx
      have hb : w.heap.size ≤ g := Nat.le_of_eq HG.out
      have hyl : xss[k].length ≤ 1048576 := by
        have := tot_take_succ xss k hlt
        have := tot_take_le xss (k + 1)
        omega
      have HF : Hid (∀ (w2 : World) (u : Value), Ext wr w2 → OwnInts wr.heap.size w2 u xss[k] → RowsTo g (w2.setCell ⟨g, k, none⟩ u) xss (k + 1) (vs.set k u)) := fun w2 u hx2 hu =>
        hf.step hx2 (ownsRow_ext ho hx2) hlt (by have := ho.1; omega) hu (by have := (ho.lt g rfl).2; omega)
      clear hc c0
      generalize xss[k] = y at *
      go_wp2_with fail
      refine (toInt64S_c _ y _ r0 hyl).mono ?_
      rintro e w2 ⟨u, rfl, hu, hx2⟩
      have ho2 := ownsRow_ext ho hx2
      have hl := ho.1
      have q0 := ho2.cellAt k (by omega)
      rw [List.getElem?_eq_getElem (by omega)] at q0
      have f0 := ho2.frozenAt k
      obtain ⟨A2, c2, rfl, _, _⟩ := hu.ints.form
      clear d0
      go_wp2
      go_roundw
      case rel => exact ⟨k + 1, by omega, by go_num, (hx.trans hx2).setCell hb _, _, (ho2.stored k _).1, HF.out _ _ hx2 hu⟩
      case measure => simp [intOf]; omega
    · go_wp2
      go_ret
      refine ⟨_, rfl, ?_, hx⟩
      have hl := ho.1
      rw [HG.out]
      refine ⟨vs, ho, fun i hi => hf.1 i hi (by omega), fun i j u u' b hi hj => ?_⟩
      have a1 := (List.getElem?_eq_some_iff.1 hi).1
      have a2 := (List.getElem?_eq_some_iff.1 hj).1
      exact hf.2 i j u u' b (by omega) (by omega) hi hj
theorem ownsRow_low {w : World} {base : Nat} {e : TypeId} {size : Nat} {v : Value} {n : Nat} {xs : List Value} (h : w.ownsRow base e size v n xs) {p : Addr} (hp : p.block < base) (u : Value) : (w.setCell p u).ownsRow base e size v n xs :=
  ownsRow_far h (fun k hk => by have := (h.lt k hk).1; omega) u
theorem OwnIntRows.low {w : World} {base : Nat} {v : Value} {xss : List (List Int)} (h : OwnIntRows base w v xss) {p : Addr} (hp : p.block < base) (u : Value) : OwnIntRows base (w.setCell p u) v xss := by
  obtain ⟨vs, h1, h2, h3⟩ := h
  exact ⟨vs, ownsRow_low h1 hp u, fun i hi => by obtain ⟨x, e, hx⟩ := h2 i hi; exact ⟨x, e, ownsRow_low hx hp u⟩, h3⟩
theorem OwnIntRows.base {w : World} {base base' : Nat} {v : Value} {xss : List (List Int)} (h : OwnIntRows base w v xss) (hb : base' ≤ base) : OwnIntRows base' w v xss := by
  obtain ⟨vs, h1, h2, h3⟩ := h
  exact ⟨vs, ownsRow_base h1 hb, fun i hi => by obtain ⟨x, e, hx⟩ := h2 i hi; exact ⟨x, e, ownsRow_base hx hb⟩, h3⟩
/-- A proof. -/
structure ProofD where
  k : Int
  ns : List Int
  ws : List (List Int)
deriving DecidableEq
def Prf (w : World) (v : Value) (p : ProofD) : Prop := ∃ nv wv, v = .agg #[.int .i64 p.k, nv, wv] ∧ Ints w nv p.ns ∧ IntRows w wv p.ws
theorem Prf.ext {w w' : World} {v : Value} {p : ProofD} (h : Prf w v p) (he : Ext w w') : Prf w' v p := by
  obtain ⟨nv, wv, hv, h1, h2⟩ := h; exact ⟨nv, wv, hv, h1.ext he, h2.ext he⟩
def prfSize (p : ProofD) : Nat := p.ns.length + (p.ws.length + tot p.ws)
end Go.Proofs.YtfghojbbofobeaaGreat
end
section
namespace Go.Proofs.YtfghojbbofobeaaGreat
open Go Go.RowKit Go.ChangeShapes Go.WideShapes Go.Deep Go.Joins
section
variable {H : Type} {enc : TypeId × Value → H} {w : World}
theorem open_introws {t : TypeId} {fuel : Nat} {v : Value} {x : DataW H × List MemPlace} (ht : Tryz.prog.underlying t = some (.slice 46)) (h : DataW.trod enc Tryz.prog w 0 (fun _ => true) true fuel t [v] = some x) : ∃ xss, IntRows w v xss := by
  obtain ⟨ls, xs, h1, h2⟩ := open_rows (size := 1) (fun cs (a : List Int) => ∃ u, cs = [u] ∧ Ints w u a) ht (by kernel_rfl) (by omega) (fun n cs y hy => by
    rcases DataW.trod_slice Tryz.underlying46 hy with ⟨rfl, _⟩ | ⟨a, len, cap, _, _, _, _, rfl, _⟩
    · obtain ⟨zs, hz⟩ := open_ints Tryz.underlying46 hy
      exact ⟨zs, _, rfl, hz⟩
    · obtain ⟨zs, hz⟩ := open_ints Tryz.underlying46 hy
      exact ⟨zs, _, rfl, hz⟩) h
  have hl : xs.length = ls.length := by obtain ⟨_, _, _, _, _, q⟩ := h1.form; omega
  refine ⟨ls, xs, h1, fun i hi => ?_⟩
  obtain ⟨u, e, hu⟩ := h2 i hi
  refine ⟨u, ?_, hu⟩
  have hi' : i < xs.length := by omega
  rw [Nat.mul_one, List.drop_eq_getElem_cons hi'] at e
  simp only [List.take_succ_cons, List.take_zero, List.cons.injEq, and_true] at e
  rw [List.getElem?_eq_getElem hi', e]
end
end Go.Proofs.YtfghojbbofobeaaGreat
end
section
namespace Go.Proofs.YtfghojbbofobeaaGreat
open Go Go.RowKit Go.Proofs
set_option maxHeartbeats 400000
theorem intSize (w : World) : (Go.sizeOf 2).run Tryz.prog w = .ok 1 w := by kernel_rfl
theorem ivs_one (zs : List Int) : ∀ u ∈ ivs zs, u.oneCell' = true := by
  intro u hu
  simp only [ivs, List.mem_map] at hu
  obtain ⟨z, _, rfl⟩ := hu
  rfl
theorem ints_cells {w : World} {b off : Nat} {zs : List Int} (hc : ∀ j, (hj : j < zs.length) → w.cell? ⟨b, off + j, none⟩ = some (.int .i64 zs[j])) : ∀ j u, (ivs zs)[j]? = some u → w.cell? ⟨b, off + j, none⟩ = some u := by
  intro j u hj
  obtain ⟨hl, _⟩ := List.getElem?_eq_some_iff.1 hj
  rw [ivs_length] at hl
  rw [ivs_get zs j hl] at hj
  injection hj with hj
  subst hj
  exact hc j hl
theorem Clone_c (v : Value) (zs : List Int) (w : World) (h : Ints w v zs) (h0 : 0 < zs.length) (h1 : zs.length ≤ 1048576) :
    Calls Tryz.prog 73 #[v] w fun e w' => ∃ u, e = .returned u ∧ OwnInts w.heap.size w' u zs ∧ Ext w w' := by
  obtain ⟨i0, hi, hz0, hz1, hz2⟩ := info_parts intInfo
  obtain ⟨A, c, rfl, _, _⟩ := h.form
  obtain ⟨b, off, rfl, hc⟩ := h.at h0
  have hm : zs.length ≤ maxLen := by unfold maxLen; omega
  refine (Tryz.slices_Clone i0 _ 1 8 hi hz0 hz1 hz2 rfl (by omega) intSize b off zs.length c (ivs zs) w (by simp) hm (by omega) (ints_cells hc) (ivs_one zs)).mono ?_
  rintro e w' ⟨u, rfl, ho, _, hb⟩
  exact ⟨u, rfl, ho, hb⟩
/-- A node with a place, a state, and a symbol at a cell. -/
def segNode (x : List Int) (place state symbol : Int) : List Int :=
  if 0 ≤ place ∧ place ≤ (x.length : Int) - 3 then ((x.set 0 place).set 1 state).set (2 + place).toNat symbol else (x.set 0 place).set 1 state
theorem ivs_set (zs : List Int) (k : Nat) (a : Int) : ivs (zs.set k a) = (ivs zs).set k (.int .i64 a) := by simp [ivs, List.map_set]
@[simp] theorem segNode_length (x : List Int) (a b c : Int) : (segNode x a b c).length = x.length := by unfold segNode; split <;> simp
end Go.Proofs.YtfghojbbofobeaaGreat
namespace Go.Proofs.YtfghojbbofobeaaGreat
open Go Go.RowKit Go.Proofs
set_option maxHeartbeats 400000
theorem intSize' : (Tryz.prog.info? 2).map (·.size) = some 1 := by kernel_rfl
/-- Of c cells the first j hold the number. -/
def RepSt (w : World) (g c : Nat) (z : Int) (j : Nat) (wr : World) : Prop := Ext w wr ∧ ∃ cur : List Value, wr.heap[g]? = some (.cells cur.toArray 2 (0, 0)) ∧ cur.length = c ∧ cur.take j = List.replicate j (.int .i64 z)
theorem splice_take {cur : List Value} {j m : Nat} {u : Value} (h : cur.take j = List.replicate j u) (_ : j ≤ cur.length) (_ : j + m ≤ cur.length) : (splice cur j (List.replicate m u)).take (j + m) = List.replicate (j + m) u := by
  unfold splice
  rw [h, ← List.append_assoc, List.replicate_append_replicate, List.take_append_of_le_length (by simp), List.take_of_length_le (by simp)]
theorem mulHi {c : Nat} (h : c ≤ 11) : 1 * c / 18446744073709551616 = 0 := by omega
theorem mulLo {c : Nat} (h : c ≤ 11) : 1 * c % 18446744073709551616 = c := by omega
theorem mulC {c : Nat} (h : c ≤ 11) : c < 18446744073709551616 := by omega
end Go.Proofs.YtfghojbbofobeaaGreat
namespace Go.Proofs.YtfghojbbofobeaaGreat
open Go Go.RowKit Go.Proofs
set_option maxHeartbeats 400000
theorem rowInfo : (Tryz.prog.info? 46).map (fun i => (i.zero, i.size, i.bytes)) = some (some (.slice none 0 0), 1, 24) := by kernel_rfl
/-- A row is appended. -/
theorem OwnIntRows.snoc {base : Nat} {w w' : World} {v v' u : Value} {xss : List (List Int)} {ys : List Int} {vs : List Value} (h1 : w.ownsRow base 46 1 v xss.length vs)
    (h2 : ∀ i, (h : i < xss.length) → ∃ u, vs[i]? = some u ∧ OwnInts base w u xss[i])
    (h3 : ∀ (i j : Nat) (u u' : Value) (g : Nat), vs[i]? = some u → vs[j]? = some u' → u.ownBlock = some g → u'.ownBlock = some g → i = j)
    (hu : OwnInts base w u ys) (hne : ∀ (i : Nat) (u' : Value) (g : Nat), vs[i]? = some u' → u'.ownBlock = some g → u.ownBlock ≠ some g)
    (ho : w'.ownsRow base 46 1 v' (xss.length + 1) (vs ++ [u])) (hg : w.grownBy w' v.ownBlock) : OwnIntRows base w' v' (xss ++ [ys]) := by
  have hl := h1.1
  have keep : ∀ {x : Value} {zs : List Int}, OwnInts base w x zs → OwnInts base w' x zs := fun hx => World.ownsRow.kept hx hg (own_ne hx h1 (by decide))
  refine ⟨vs ++ [u], by simpa using ho, fun i hi => ?_, ?_⟩
  · by_cases h : i < xss.length
    · obtain ⟨x, e, hx⟩ := h2 i h
      exact ⟨x, by rw [List.getElem?_append_left (by omega), e], by rw [List.getElem_append_left h]; exact keep hx⟩
    · have hie : i = xss.length := by simp at hi; omega
      subst hie
      exact ⟨u, by rw [List.getElem?_append_right (by omega)]; simp [hl], by simpa using keep hu⟩
  · intro i j x y g hx hy hgx hgy
    have hlv : vs.length = xss.length := by omega
    by_cases hi : i < vs.length <;> by_cases hj : j < vs.length
    · rw [List.getElem?_append_left hi] at hx
      rw [List.getElem?_append_left hj] at hy
      exact h3 i j x y g hx hy hgx hgy
    · rw [List.getElem?_append_left hi] at hx
      rw [List.getElem?_append_right (by omega)] at hy
      have : u = y := by
        have := (List.getElem?_eq_some_iff.1 hy).1
        have e : j - vs.length = 0 := by simp at this; omega
        rw [e] at hy; simpa using hy
      subst this
      exact absurd hgy (hne i x g hx hgx)
    · rw [List.getElem?_append_right (by omega)] at hx
      rw [List.getElem?_append_left hj] at hy
      have : u = x := by
        have := (List.getElem?_eq_some_iff.1 hx).1
        have e : i - vs.length = 0 := by simp at this; omega
        rw [e] at hx; simpa using hx
      subst this
      exact absurd hgx (hne j y g hy hgy)
    · rw [List.getElem?_append_right (by omega)] at hx hy
      have a1 := (List.getElem?_eq_some_iff.1 hx).1
      have a2 := (List.getElem?_eq_some_iff.1 hy).1
      simp at a1 a2
      omega
/-- The rows of a list lie below the heap's end: a row that is made later lies in another block. -/
theorem rows_ne {base : Nat} {w w' : World} {u : Value} {xss : List (List Int)} {ys : List Int} {vs : List Value} {n : Nat} {v : Value} (h1 : w.ownsRow base 46 1 v n vs) (hn : n = xss.length)
    (h2 : ∀ i, (h : i < xss.length) → ∃ u, vs[i]? = some u ∧ OwnInts base w u xss[i]) (hu : OwnInts w.heap.size w' u ys) :
    ∀ (i : Nat) (u' : Value) (g : Nat), vs[i]? = some u' → u'.ownBlock = some g → u.ownBlock ≠ some g := by
  intro i u' g hi hg hg'
  have hl := h1.1
  have hil : i < xss.length := by have := (List.getElem?_eq_some_iff.1 hi).1; omega
  obtain ⟨x, e, hx⟩ := h2 i hil
  rw [hi] at e
  injection e with e
  subst e
  have a := (hx.lt g hg).2
  have b := (hu.lt g hg').1
  omega
/-- The nodes at which a machine halts. -/
def startsOf (n : Nat) (ps : List (Int × Int)) : List (List Int) := ps.map fun p => segNode (List.replicate (n + 2) (-1)) ((n : Int) / 2) p.1 p.2
theorem startsOf_take (n : Nat) (ps : List (Int × Int)) (k : Nat) (h : k < ps.length) : startsOf n (ps.take (k + 1)) = startsOf n (ps.take k) ++ [segNode (List.replicate (n + 2) (-1)) ((n : Int) / 2) ps[k].1 ps[k].2] := by
  unfold startsOf; rw [List.take_succ_eq_append_getElem h, List.map_append]; rfl
theorem OwnInts.base {b b' : Nat} {w : World} {v : Value} {zs : List Int} (h : OwnInts b w v zs) (hb : b' ≤ b) : OwnInts b' w v zs := ownsRow_base h hb
end Go.Proofs.YtfghojbbofobeaaGreat
end
