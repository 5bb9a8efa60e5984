/- Contract of the reference's node before a node. The machine is valid, the node is valid.
Contract of the reference's list of the nodes before a node. The machine is valid, the node is valid.
Contract of the reference's list of the nodes at which a machine halts. The machine is valid.
Plain words on the reference's search: how its list grows in memory, and when it ends.
Contract of the reference's search. The machine is valid.
Contract of the program's list of the nodes that are found. -/
import Derived.Test.YtacpchapgklcgaaGreatDoorR18
import Derived.Deep.RegionLaw
section
namespace Go.Proofs.YtacpchapgklcgaaGreatDoor
open Go Go.RowKit Go.Proofs
set_option maxHeartbeats 400000
/-- The ways through the reference's test on a valid node, with what each comes to. -/
theorem backWays {sy st : Int} {n : Nat} {x : List Int} (h : NodeOk sy st n x) (hn : 1 ≤ n) (p a : Int) (r : RuleD) (x0 x1 H y : Int) (hm : -1 ≤ r.m) (hm' : r.m ≤ 1) (e0 : x.getD 0 0 = x0) (e1 : x.getD 1 0 = x1) (eH : x0 - r.m = H) (ey : x.getD (2 + H).toNat 0 = y) :
    ((x0 < 0 ∨ x0 = n) ∧ inB H 0 ((n : Int) - 1) = false ∧ before x p a r = none) ∨
    (¬ (x0 < 0 ∨ x0 = n) ∧ (r.n != x1) = true ∧ before x p a r = none) ∨
    ((((x0 < 0 ∨ x0 = n) ∧ inB H 0 ((n : Int) - 1) = true) ∨ (¬ (x0 < 0 ∨ x0 = n) ∧ (r.n != x1) = false)) ∧
      ((H < 0 ∧ before x p a r = some ((x.set 0 H).set 1 (-1))) ∨ (0 ≤ H ∧ H = n ∧ before x p a r = some ((x.set 0 H).set 1 (-1))) ∨
       (0 ≤ H ∧ H < n ∧ ((0 ≤ y ∧ (y != r.w) = true ∧ before x p a r = none) ∨ (0 ≤ y ∧ (y != r.w) = false ∧ before x p a r = some (((x.set 0 H).set 1 p).set (2 + H).toNat a)) ∨ (y < 0 ∧ before x p a r = some (((x.set 0 H).set 1 p).set (2 + H).toNat a)))))) := by
  have hl := h.len
  have b1 := h.lo
  have b2 := h.hi
  have b3 := h.out
  have b4 := h.ins
  have b5 := h.cells
  have en : (x.length : Int) - 2 = n := by omega
  unfold before
  rw [e0, e1] at *
  rw [eH, ey, en]
  have hseg1 : H < 0 ∨ H = n → segNode x H (-1) 0 = (x.set 0 H).set 1 (-1) := fun hh => by unfold segNode; rw [if_neg (by omega)]
  have hseg2 : 0 ≤ H → H < n → segNode x H p a = ((x.set 0 H).set 1 p).set (2 + H).toNat a := fun h1 h2 => by unfold segNode; rw [if_pos (by omega)]
  have hy : 0 ≤ H → H < n → -1 ≤ y := fun h1 h2 => by rw [← ey]; exact (b5 _ (by omega) (by omega)).1
  by_cases ho : x0 < 0 ∨ x0 = n
  · have hx1 := b3 ho
    by_cases hb : 0 ≤ H ∧ H ≤ (n : Int) - 1
    · right; right
      refine ⟨.inl ⟨ho, by simp [inB, hb]⟩, .inr (.inr ⟨by omega, by omega, ?_⟩)⟩
      have hy := hy (by omega) (by omega)
      rw [if_neg (by omega), if_neg (by omega), hseg2 (by omega) (by omega)]
      by_cases hy0 : 0 ≤ y
      · by_cases hyw : y = r.w
        · exact .inr (.inl ⟨hy0, by simp [hyw], by rw [if_pos (by omega)]⟩)
        · exact .inl ⟨hy0, by simp [hyw], by rw [if_neg (by omega)]⟩
      · exact .inr (.inr ⟨by omega, by rw [if_pos (by omega)]⟩)
    · left
      refine ⟨ho, ?_, ?_⟩
      · simp only [inB, Bool.and_eq_false_iff, decide_eq_false_iff_not]; omega
      · by_cases c : (0 ≤ x1 ∧ r.n ≠ x1) ∨ H < -1 ∨ (n : Int) < H
        · rw [if_pos c]
        · rw [if_neg c, if_pos (by omega), if_neg (by omega)]
  · have hx1 := b4 ho
    right
    by_cases hne : r.n = x1
    · right
      refine ⟨.inr ⟨ho, by simp [hne]⟩, ?_⟩
      rw [if_neg (by omega)]
      by_cases c : H < 0 ∨ H = n
      · rw [if_pos (by omega), if_pos (by omega), hseg1 c]
        rcases c with c | c
        · exact .inl ⟨c, rfl⟩
        · exact .inr (.inl ⟨by omega, c, rfl⟩)
      · rw [if_neg (by omega), hseg2 (by omega) (by omega)]
        have hy := hy (by omega) (by omega)
        refine .inr (.inr ⟨by omega, by omega, ?_⟩)
        by_cases hy0 : 0 ≤ y
        · by_cases hyw : y = r.w
          · exact .inr (.inl ⟨hy0, by simp [hyw], by rw [if_pos (by omega)]⟩)
          · exact .inl ⟨hy0, by simp [hyw], by rw [if_neg (by omega)]⟩
        · exact .inr (.inr ⟨by omega, by rw [if_pos (by omega)]⟩)
    · left
      exact ⟨ho, by simp [hne], by rw [if_pos (by omega)]⟩
/-- The node before a node by the rule with index k, if there is a rule. -/
def backOf (m : MachD) (x : List Int) (k : Nat) : Option (List Int) :=
  match m.rules[k]? with
  | some r => if r = noR then none else before x ((k : Int) / m.sy) ((k : Int) % m.sy) r
  | none => none
theorem backOf_no {m : MachD} {x : List Int} {k : Nat} (hk : k < m.rules.length) (h : m.rules[k] = noR) : backOf m x k = none := by simp [backOf, hk, h]
theorem backOf_yes {m : MachD} {x : List Int} {k : Nat} (hk : k < m.rules.length) (h : ¬ m.rules[k] = noR) : backOf m x k = before x ((k : Int) / m.sy) ((k : Int) % m.sy) m.rules[k] := by simp [backOf, hk, h]
theorem predsTo_back {m : MachD} {x : List Int} {k : Nat} (hk : k < m.rules.length) : predsTo m x (k + 1) = addNew (predsTo m x k) (backOf m x k) := by
  by_cases h : m.rules[k] = noR
  · rw [predsTo_no hk h, backOf_no hk h]; rfl
  · rw [predsTo_yes hk h, backOf_yes hk h]
end Go.Proofs.YtacpchapgklcgaaGreatDoor
end
section
namespace Go.Proofs.YtacpchapgklcgaaGreatDoor
open Go Go.RowKit Go.Proofs
set_option maxHeartbeats 400000
end Go.Proofs.YtacpchapgklcgaaGreatDoor
namespace Go.Proofs.YtacpchapgklcgaaGreatDoor
open Go Go.RowKit Go.Proofs
set_option maxHeartbeats 400000
/-- The node as the reference builds it. -/
theorem segNode_build (n : Nat) (h q y : Int) (h0 : 0 ≤ h) (h1 : h < n) : segNode (List.replicate (n + 2) (-1)) h q y = ([h, q] ++ List.replicate n (-1)).set (2 + h).toNat y := by
  unfold segNode
  rw [if_pos (by simp; omega)]
  rfl
end Go.Proofs.YtacpchapgklcgaaGreatDoor
namespace Go.Proofs.YtacpchapgklcgaaGreatDoor
open Go Go.RowKit Go.Proofs
set_option maxHeartbeats 400000
theorem results_tmp4 {fn : Func} {t u v x : Tmp} (h : fn.results = #[.tmp t, .tmp u, .tmp v, .tmp x]) (tmps : Array Value) (P : Program) (w : World) :
    (results fn tmps).run P w = .ok (.tuple #[tmps.getD t undef, tmps.getD u undef, tmps.getD v undef, tmps.getD x undef]) w := by
  simp [results, h]
/-- The list while the rows of another list are taken in. -/
structure GrowInv (B1 : Nat) (w : World) (lv : Value) (list : List (List Int)) (us : List Value) (k : Nat) (nodes : List (List Int)) (nv : Value) (vs : List Value) (wr : World) : Prop where
  rest : Rest w.heap.size B1 0 lv list us nodes nv vs wr
  apart : ∀ (i j : Nat) (u u' : Value) (g : Nat), vs[i]? = some u → vs[j]? = some u' → u.ownBlock = some g → u'.ownBlock = some g → i = j
  old : ∀ (i : Nat) (u : Value) (g : Nat), vs[i]? = some u → u.ownBlock = some g → g < B1 ∨ ∃ j u', j < k ∧ us[j]? = some u' ∧ u'.ownBlock = some g
  outer : nv.ownBlock = none ∨ nv.ownBlock ≠ lv.ownBlock
  ex : Ext w wr
section
variable {B1 : Nat} {w : World} {lv : Value} {list : List (List Int)} {us : List Value} {k : Nat} {nodes : List (List Int)} {nv : Value} {vs : List Value} {wr wr' : World}
theorem GrowInv.ext (h : GrowInv B1 w lv list us k nodes nv vs wr) (he : Ext wr wr') : GrowInv B1 w lv list us k nodes nv vs wr' := ⟨h.rest.ext he, h.apart, h.old, h.outer, h.ex.trans he⟩
theorem GrowInv.rows (h : GrowInv B1 w lv list us k nodes nv vs wr) : OwnIntRows w.heap.size wr nv nodes := ⟨vs, h.rest.own, h.rest.rows, h.apart⟩
theorem GrowInv.skip (h : GrowInv B1 w lv list us k nodes nv vs wr) : GrowInv B1 w lv list us (k + 1) nodes nv vs wr :=
  ⟨h.rest, h.apart, fun i u g a b => by
    rcases h.old i u g a b with c | ⟨j, u', c, d⟩
    · exact .inl c
    · exact .inr ⟨j, u', by omega, d⟩, h.outer, h.ex⟩
theorem GrowInv.start {W : World} (ho : OwnIntRows w.heap.size W nv nodes) (hx : Ext w W) (he : Ext W wr) (u1 : wr.ownsRow W.heap.size 28 1 lv list.length us) (u2 : ∀ i, (h : i < list.length) → ∃ u, us[i]? = some u ∧ OwnInts W.heap.size wr u list[i]) :
    ∃ vs, GrowInv W.heap.size w lv list us 0 nodes nv vs wr := by
  obtain ⟨vs, o1, o2, o3⟩ := ho
  refine ⟨vs, ⟨ownsRow_ext o1 he, fun i hi => by obtain ⟨u, e, hu⟩ := o2 i hi; exact ⟨u, e, hu.ext he⟩, u1, u2⟩, o3, fun i u g hi hg => ?_, ?_, hx.trans he⟩
  · have hl := o1.1
    have hil : i < nodes.length := by have := (List.getElem?_eq_some_iff.1 hi).1; omega
    obtain ⟨u', e, hu'⟩ := o2 i hil
    rw [hi] at e
    injection e with e
    subst e
    exact .inl (hu'.lt g hg).2
  · cases hn : nv.ownBlock with
    | none => exact .inl rfl
    | some g =>
      refine .inr fun he => ?_
      have a1 := (o1.lt g hn).2
      have a2 := (u1.lt g he.symm).1
      omega
theorem GrowInv.added {w4 : World} {o : Obj} {u : Value} {y : List Int} {v' : Value} (hB : w.heap.size ≤ B1) (h : GrowInv B1 w lv list us k nodes nv vs wr)
    (hap : ∀ (i j : Nat) (u u' : Value) (g : Nat), us[i]? = some u → us[j]? = some u' → u.ownBlock = some g → u'.ownBlock = some g → i = j)
    (hu : us[k]? = some u) (hru : OwnInts B1 wr u y) (hlw : ∀ g, lv.ownBlock = some g → g < wr.heap.size)
    (hown : w4.ownsRow w.heap.size 28 1 v' (nodes.length + 1) (vs ++ [u])) (hg : (wr.alloc o).grownBy w4 nv.ownBlock) (hloc : v'.ownBlock = nv.ownBlock ∨ v'.ownBlock = some (wr.alloc o).heap.size) :
    GrowInv B1 w lv list us (k + 1) (nodes ++ [y]) v' (vs ++ [u]) w4 := by
  have hown' := hown
  obtain ⟨A', c', rfl, _, _, _⟩ := (ownsRow_row hown).form
  obtain ⟨g', rfl, hgb, hgl⟩ := own_at hown (by omega)
  have R4 := (h.rest.ext (Ext.alloc wr o)).snoc hB h.outer (hru.ext (Ext.alloc wr o)) hown hg
  have own3 := h.rest.own.alloc o
  have hb4 : Ext w w4 := (h.ex.trans (Ext.alloc wr o)).grown hg (fun b hb => (own3.lt b hb).1)
  have hl := h.rest.own.1
  have hne : ∀ (i : Nat) (u' : Value) (g : Nat), vs[i]? = some u' → u'.ownBlock = some g → u.ownBlock ≠ some g := by
    intro i u' g hi hgu he
    rcases h.old i u' g hi hgu with hlt | ⟨j, u'', hj, hj', hgj⟩
    · have := (hru.lt g he).1
      omega
    · have := hap j k u'' u g hj' hu hgj he
      omega
  refine ⟨R4, apart_snoc (nodes := nodes) (by omega) h.apart hne, ?_, ?_, hb4⟩
  · intro i x g hi hgx
    by_cases hlt : i < vs.length
    · rw [List.getElem?_append_left hlt] at hi
      rcases h.old i x g hi hgx with c | ⟨j, x', c, d⟩
      · exact .inl c
      · exact .inr ⟨j, x', by omega, d⟩
    · rw [List.getElem?_append_right (by omega)] at hi
      have := (List.getElem?_eq_some_iff.1 hi).1
      have e : i - vs.length = 0 := by simp at this; omega
      rw [e] at hi
      simp at hi
      subst hi
      exact .inr ⟨k, u, by omega, hu, hgx⟩
  · rcases hloc with e | e
    · rw [e]; exact h.outer
    · refine .inr fun he => ?_
      have := hlw _ (he ▸ e)
      simp at this
      omega
end
/-- The reference's search stops at the beginning of step k. -/
def stopS (m : MachD) (n : Nat) (bud : Int) (ea : Bool) (k : Nat) : Prop := ((iterS m n k).2 = true ∧ ea = true) ∨ 2000 < (iterS m n k).1.length ∨ (k : Int) = bud
def FindEnds (m : MachD) (n : Nat) (bud : Int) (ea : Bool) (k : Nat) : Prop := (∀ j < k, j < (iterS m n j).1.length ∧ ¬ stopS m n bud ea j) ∧ (¬ k < (iterS m n k).1.length ∨ stopS m n bud ea k)
def FindSRes (w : World) (m : MachD) (n : Nat) (bud : Int) (ea : Bool) (e : Ending) (w' : World) : Prop :=
  ∃ k, FindEnds m n bud ea k ∧ (∃ u, e = .returned (.tuple #[u, .bool (!(iterS m n k).2), .int .i64 (if k < (iterS m n k).1.length then k else (iterS m n k).1.length), .bool (!decide (k < (iterS m n k).1.length) && decide ((iterS m n k).1.length ≤ 2000))]) ∧ OwnIntRows w.heap.size w' u (iterS m n k).1) ∧ Ext w w'
end Go.Proofs.YtacpchapgklcgaaGreatDoor
namespace Go.Proofs.YtacpchapgklcgaaGreatDoor
open Go Go.RowKit Go.Proofs
set_option maxHeartbeats 400000
theorem any_take {l : List (List Int)} {k : Nat} (h : k < l.length) (f : List Int → Bool) : (l.take (k + 1)).any f = ((l.take k).any f || f l[k]) := by
  rw [List.take_succ_eq_append_getElem h, List.any_append]; simp
end Go.Proofs.YtacpchapgklcgaaGreatDoor
end
section
namespace Go.Proofs.YtacpchapgklcgaaGreatDoor
open Go Go.RowKit Go.Proofs
set_option maxHeartbeats 400000
/-- What both lists of nodes answer, beginning in a world w. -/
def NodesRes (w : World) (m : MachD) (n : Int) (e : Ending) (w' : World) : Prop :=
  ((machOk m = false ∧ e = .returned (.tuple #[.slice none 0 0, .bool false, .int .i64 1])) ∨
   (machOk m = true ∧ inB n 1 9 = false ∧ e = .returned (.tuple #[.slice none 0 0, .bool false, .int .i64 2])) ∨
   (machOk m = true ∧ inB n 1 9 = true ∧ ∃ k, EndsS m n.toNat k ∧
     ((2000 < (iterS m n.toNat k).1.length ∧ e = .returned (.tuple #[.slice none 0 0, .bool false, .int .i64 5])) ∨
      ((iterS m n.toNat k).1.length ≤ 2000 ∧ ∃ nv, e = .returned (.tuple #[nv, .bool (!(iterS m n.toNat k).2), .int .i64 0]) ∧ OwnIntRows w.heap.size w' nv (iterS m n.toNat k).1)))) ∧ Ext w w'
theorem SegSt.own_rows {base : Nat} {w : World} {bs : Nat} {m : MachD} {rv : Value} {nodes : List (List Int)} {beg : Bool} {nv : Value} {vs : List Value} {bm : Nat} (h : SegSt base w bs m rv nodes beg nv vs bm) : OwnIntRows base w nv nodes := ⟨vs, h.own, h.rows, h.apart⟩
theorem FindInv.start {base : Nat} {wr w5 : World} {bs : Nat} {m : MachD} {rv lv : Value} {list : List (List Int)} {us : List Value} {nodes : List (List Int)} {beg : Bool} {nv : Value} {vs : List Value} {bm : Nat}
    (hst : SegSt base wr bs m rv nodes beg nv vs bm) (hx : Ext wr w5) (u1 : w5.ownsRow wr.heap.size 28 1 lv list.length us) (u2 : ∀ i, (h : i < list.length) → ∃ u, us[i]? = some u ∧ OwnInts wr.heap.size w5 u list[i]) :
    FindInv base wr.heap.size w5 bs m rv lv list us 0 nodes beg nv vs bm w5 := by
  refine ⟨hst.ext hx, u1, u2, fun i u g hi hg => ?_, ?_, Below.refl _ _⟩
  · have hl := hst.own.1
    have hil : i < nodes.length := by have := (List.getElem?_eq_some_iff.1 hi).1; omega
    obtain ⟨u', e, hu'⟩ := hst.rows i hil
    rw [hi] at e
    injection e with e
    subst e
    exact .inl (hu'.lt g hg).2
  · cases hn : nv.ownBlock with
    | none => exact .inl rfl
    | some g =>
      refine .inr fun he => ?_
      have a1 := (hst.own.lt g hn).2
      have a2 := (u1.lt g he.symm).1
      omega
set_option maxRecDepth 20000 in
set_option maxHeartbeats 4000000 in
theorem SegmentNodes_c (v : Value) (m : MachD) (n : Int) (w : World) (h : Mach w v m) (hT : Tab w) :
    Calls Tryz.prog 27 #[v, .int .i64 n] w (NodesRes w m n) := by
  obtain ⟨rv, rfl, hr⟩ := h
  obtain ⟨Ar, cr, rfl, h3, h3'⟩ := hr.form
  have bM := Blk.new w w.heap.size 26 #[.int .i64 m.sy, .int .i64 m.st, .slice Ar m.rules.length cr] rfl
  have hx0 := Ext.alloc w (.cells #[.int .i64 m.sy, .int .i64 m.st, .slice Ar m.rules.length cr] 26)
  have hr0 := hr.ext hx0
  go_enter Tryz.func27, Tryz.ntmps27
  go_wp2_with fail
  refine (ValidMachine_c _ m _ ⟨_, rfl, hr0⟩).mono ?_
  rintro e w1 ⟨rfl, hx1⟩
  cases hmo : machOk m with
  | false =>
    go_wp2
    go_ret3
    exact ⟨.inl ⟨hmo, rfl⟩, hx0.trans hx1⟩
  | true =>
    go_wp2_with fail
    refine (sizeOk_c _ _).mono ?_
    rintro e w' ⟨rfl, rfl⟩
    cases hno : inB n 1 9 with
    | false =>
      go_wp2
      go_ret3
      exact ⟨.inr (.inl ⟨hmo, hno, rfl⟩), hx0.trans hx1⟩
    | true =>
      have hmk := Lib.hid (MOk.of hmo)
      have hnn : 1 ≤ n ∧ n ≤ 9 := by simpa [inB] using hno
      have HMO := Lib.hid hmo
      have HNO := Lib.hid hno
      obtain ⟨nn, hnE⟩ : ∃ nn : Nat, n = (nn : Int) := ⟨n.toNat, by omega⟩
      subst hnE
      have n1 : 1 ≤ nn := by omega
      have n2 : nn ≤ 9 := by omega
      have bM1 := bM.ext hx1
      have hX1 := hx0.trans hx1
      have hr1 := hr0.ext hx1
      have hl6 := hmk.out.len2
      have c0 := bM1.cell 0
      have c1 := bM1.cell 1
      have c2 := bM1.cell 2
      simp only [List.getElem?_toArray, List.getElem?_cons_zero, List.getElem?_cons_succ] at c0 c1 c2
      clear hmo hno bM hx0 hx1 hnn
      go_wp2_with fail
      refine (segmentsOf_c _ m nn w1 _ rfl hr1 hl6 hmk.out.sy1 hmk.out.sy2 n1 n2 (fun x hx => (starts_ok hmk.out n1 x hx).fits hmk.out n1 n2) (hT.below hT.low hX1)).mono ?_
      rintro e w2 ⟨bs, nv, vs, bm, rfl, hst, hx2⟩
      clear c0 c1 c2
      obtain ⟨s0, hs0⟩ : ∃ s0, s0 = iterS m nn 0 := ⟨_, rfl⟩
      have hs1 : addAll ([], false) (startsIn m nn) = s0 := hs0.symm
      rw [hs1] at hst ⊢
      have HS0 := Lib.hid hs0
      clear hs0 hs1
      have bM2 := bM1.ext hx2
      have hX2 := hX1.trans hx2
      have hr2 := hr.ext hX2
      clear hr0
      go_wp2
      go_loopw [8, 9] (fun r i wr => ∃ (k : Nat) (s : List (List Int) × Bool) (nv : Value) (vs : List Value), s = iterS m nn k ∧ i = .int .i64 k ∧ r = .bool (decide (s.1.length ≤ 2000)) ∧ (∀ j < k, goesS m nn j) ∧ SegSt w1.heap.size wr bs m (.slice Ar m.rules.length cr) s.1 s.2 nv vs bm ∧ Below w1.heap.size w2 wr) (fun _ i _ => 2001 - (intOf i).toNat)
      case atStart => exact ⟨0, s0, nv, vs, HS0.out, rfl, rfl, fun j hj => by omega, hst, Below.refl _ _⟩
      case round =>
        clear hst
        obtain ⟨k, s, nv, vs, hsk, rfl, rfl, hgo, hst, hbl⟩ := hrel
        have hE : Ext w1 wr := Below.trans hx2 hbl
        have hX := hX1.trans hE
        have bM3 := bM1.ext hE
        obtain ⟨An, cn, rfl, q1, q2, _⟩ := (ownsRow_row hst.own).form
        have cb := hst.blk.cell 3
        have cb5 := hst.blk.cell 5
        have c0 := bM3.cell 0
        have c1 := bM3.cell 1
        have c2 := bM3.cell 2
        simp only [List.getElem?_toArray, List.getElem?_cons_zero, List.getElem?_cons_succ] at cb cb5 c0 c1 c2
        have HSK := Lib.hid hsk
        have HGO := Lib.hid hgo
        clear bM2 bM1 hsk hgo
        by_cases hroom : s.1.length ≤ 2000
        · have hd : decide (s.1.length ≤ 2000) = true := by simp [hroom]
          by_cases hlt : k < s.1.length
          · obtain ⟨u, hu, hru⟩ := hst.rows k hlt
            obtain ⟨g, rfl, hgb, hgl⟩ := own_at hst.own (by omega)
            have q0 := hst.own.cellAt k (by omega)
            rw [hu] at q0
            obtain ⟨Au, cu, rfl, _, _⟩ := hru.ints.form
            have NOK := Lib.hid (iterS_ok hmk.out n1 k (fun j hj => (HGO.out j hj).1) s.1[k] (by rw [← HSK.out]; exact List.getElem_mem hlt))
            generalize hy : s.1[k] = y at *
            have HY := Lib.hid hy
            clear hy
            have y0 := NOK.out.len
            have y1 := NOK.out.lo
            have y2 := NOK.out.hi
            have hrr := hr.ext hX
            have HPO := Lib.hid (fun x hx => (predsTo_ok hmk.out n1 NOK.out _ (Nat.le_refl _) x hx).fits hmk.out n1 n2)
            have HNF := Lib.hid (fun x hx => (iterS_ok hmk.out n1 k (fun j hj => (HGO.out j hj).1) x (by rw [← HSK.out]; exact hx)).fits hmk.out n1 n2)
            have hMr : Mach wr.drew (.agg #[.int .i64 m.sy, .int .i64 m.st, .slice Ar m.rules.length cr]) m := ⟨_, rfl, hrr.ext (Ext.drew _)⟩
            have hiy : Ints wr.drew (.slice Au y.length cu) y := hru.ints.ext (Ext.drew _)
            have hy3 : 3 ≤ y.length := by omega
            have hy11 : y.length ≤ 11 := by omega
            have hyx : y.getD 0 0 ≤ (y.length : Int) - 2 := by omega
            clear y0
            have hlen5 : s.1.length + (predsTo m y m.rules.length).length ≤ 100000 := by have := predsTo_length m y m.rules.length; omega
            go_wp2_with fail
            go_region_law
              (first
                | (go_simp; go_at_call 36; ((with_reducible refine (segmentPredecessors_c _ _ m y _ hMr hiy hl6 hmk.out.sy1 hmk.out.sy2 hmk.out.mv hy3 hy11 y1 hyx).mono ?_)); rintro e w5 ⟨u5, rfl, ⟨us, u1, u2, u3⟩, hx5⟩; have hx5' := (Ext.drew wr).trans hx5; have inv5 := FindInv.start (list := predsTo m y m.rules.length) hst hx5' u1 u2; have hT5 := hT.below hT.low (hX.trans hx5'); have hT6 := hT.low.mono hX1.size; have hs5 := hE.size; have hs6 := hx5'.size)
                | (go_simp; go_at_call 35; ((with_reducible refine (find_c w1.heap.size wr.heap.size w5 bs m _ u5 (predsTo m y m.rules.length) us s.1 s.2 _ vs bm inv5 hs5 hs6 u3 HNF.out HPO.out hlen5 hT5 hT6).mono ?_)); rintro e w6 ⟨rfl, ⟨nv6, vs6, hst6⟩, hb6⟩))
            all_goals
              have HN : Hid (addAll (s.1, s.2) (predsTo m y m.rules.length) = iterS m nn (k + 1)) := by
                show _ = stepS m (iterS m nn k) k
                rw [← HSK.out]
                unfold stepS
                rw [List.getD_eq_getElem?_getD, List.getElem?_eq_getElem hlt, HY.out]
                rfl
              generalize addAll (s.1, s.2) (predsTo m y m.rules.length) = s' at *
              have HG : Hid (goesS m nn k) := ⟨by rw [← HSK.out]; exact hlt, by rw [← HSK.out]; exact hroom⟩
              try go_wp2
              go_roundw
              · exact ⟨k + 1, s', nv6, vs6, HN.out, by go_num, rfl, fun j hj => if c : j = k then c ▸ HG.out else HGO.out j (by omega), hst6, (hbl.trans (Below.mono hx5' hE.size)).trans hb6⟩
              · simp [intOf]; omega
          · have HE : Hid (EndsS m nn k) := ⟨HGO.out, fun hh => hlt (by rw [HSK.out]; exact hh.1)⟩
            have f3 := cellR cb
            have f5 := cellR cb5
            go_wp2
            refine wp_region_ext (by kernel_rfl) (by kernel_rfl) ?_
            repeat (go_big_quiet_step (fail))
            refine wpQuiet_nil ?_
            intro w4 hx4
            go_wp2
            go_ret3
            have hst4 := hst.ext hx4
            refine ⟨.inr (.inr ⟨HMO.out, HNO.out, k, HE.out, .inr ⟨by rw [HSK.out] at hroom; exact hroom, .slice An s.1.length cn, ?_, ?_⟩⟩), hX.trans hx4⟩
            · show _ = Ending.returned (.tuple #[_, .bool (!(iterS m nn k).2), _])
              rw [← HSK.out]
              rfl
            · show OwnIntRows w.heap.size w4 _ (iterS m nn k).1
              rw [← HSK.out]
              obtain ⟨vs4, o1, o2, o3⟩ := hst4.own_rows
              exact ⟨vs4, ownsRow_base o1 hX1.size, fun i hi => by obtain ⟨u, e, hu⟩ := o2 i hi; exact ⟨u, e, hu.base hX1.size⟩, o3⟩
        · have hd : decide (s.1.length ≤ 2000) = false := by simp [hroom]
          have HE : Hid (EndsS m nn k ∧ 2000 < (iterS m nn k).1.length) := ⟨⟨HGO.out, fun hh => hroom (by rw [HSK.out]; exact hh.2)⟩, by rw [← HSK.out]; omega⟩
          clear hroom
          go_wp2
          go_ret3
          exact ⟨.inr (.inr ⟨HMO.out, HNO.out, k, HE.out.1, .inl ⟨HE.out.2, rfl⟩⟩), hX⟩
end Go.Proofs.YtacpchapgklcgaaGreatDoor
end
