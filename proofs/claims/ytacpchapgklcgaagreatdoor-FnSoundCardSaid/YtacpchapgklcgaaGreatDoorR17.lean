/- Plain words on configurations of a machine: one that is valid, and the reference's step of it.
A made map from strings to bools: what a look-up answers and what a store leaves.
Contract of the program's search for nodes: it adds the nodes of a list that have not been found yet. The nodes are lists of 3 to 11 numbers below a million.
Contract of the program's search for nodes: it adds the nodes of a list that have not been found yet. The nodes are lists of 3 to 11 numbers below a million, and few.
Contracts of the program's search at its beginning, and of its list of the nodes. -/
import Derived.Test.YtacpchapgklcgaaGreatDoorR10
import Derived.Test.YtacpchapgklcgaaGreatDoorR16
import Derived.Test.YtacpchapgklcgaaGreatDoorR05
import Derived.Test.YtacpchapgklcgaaGreatDoorR13
import Derived.Maps.Own
import Derived.Maps.OwnOps
import Derived.Maps.OwnSet
import Derived.Maps.Keyed
import Derived.Maps.Views
import Derived.StringKeys
import Derived.Maps.AppendAt
import Derived.Carry
section
set_option linter.unusedSimpArgs false
set_option linter.unusedVariables false
namespace Go.Proofs.YtacpchapgklcgaaGreatDoor
open Go Go.RowKit Go.Proofs
theorem conf_good {m : MachD} {c : ConfD} (h : confB m c = true) : IGood m c ∧ (c.l.length ≤ 200 ∧ c.r.length ≤ 200) ∧ tidyL c.l ∧ tidyL c.r := by
  simp only [confB, sideOk, inB, Bool.and_eq_true, Bool.or_eq_true, decide_eq_true_eq, List.all_eq_true, beq_iff_eq, bne_iff_ne, ne_eq] at h
  obtain ⟨⟨hq, ⟨hl1, hl2⟩, hl3⟩, ⟨hr1, hr2⟩, hr3⟩ := h
  refine ⟨⟨by omega, by omega, fun z hz => by have := hl2 z hz; omega, fun z hz => by have := hr2 z hz; omega⟩, ⟨by omega, by omega⟩, ?_, ?_⟩
  · rcases hl3 with h | h
    · exact .inl (List.length_eq_zero_iff.1 (by omega))
    · exact .inr h
  · rcases hr3 with h | h
    · exact .inl (List.length_eq_zero_iff.1 (by omega))
    · exact .inr h
theorem conf_back {m : MachD} {c : ConfD} (hg : IGood m c) (hf : c.l.length ≤ 200 ∧ c.r.length ≤ 200) (ht : tidyL c.l ∧ tidyL c.r) : confB m c = true := by
  have side : ∀ xs : List Int, xs.length ≤ 200 → (∀ z ∈ xs, 0 ≤ z ∧ z < m.sy) → tidyL xs → sideOk xs m.sy 200 = true := fun xs h1 h2 h3 => by
    simp only [sideOk, inB, Bool.and_eq_true, Bool.or_eq_true, decide_eq_true_eq, List.all_eq_true, beq_iff_eq, bne_iff_ne, ne_eq]
    refine ⟨⟨by omega, fun z hz => by have := h2 z hz; omega⟩, ?_⟩
    rcases h3 with h3 | h3
    · left; rw [h3]; rfl
    · exact .inr h3
  simp only [confB, Bool.and_eq_true]
  refine ⟨⟨?_, side _ hf.1 hg.l ht.1⟩, side _ hf.2 hg.r ht.2⟩
  have h0 := hg.q0
  have h1 := hg.q1
  simp only [inB, Bool.and_eq_true, decide_eq_true_eq]
  omega
theorem trim_tidy {xs : List Int} (h : tidyL xs) : trim xs = xs := by
  rcases h with h | h
  · rw [h]; rfl
  · have hn : trimN xs xs.length = xs.length := by
      cases hl : xs.length with
      | zero => rfl
      | succ n =>
        have e : xs.getD n 0 = xs.getLastD 0 := by
          rw [List.getLastD_eq_getLast?, List.getLast?_eq_getElem?, List.getD_eq_getElem?_getD, hl]
          rfl
        unfold trimN
        rw [if_neg (by rw [e]; exact h)]
    unfold trim
    rw [hn, List.take_length]
theorem trim_push {s : Int} {xs : List Int} (h : tidyL xs) : trim (s :: xs) = pushL s xs := by
  by_cases hn : s = 0 ∧ xs = []
  · obtain ⟨rfl, rfl⟩ := hn
    rfl
  · have e : pushL s xs = s :: xs := if_neg hn
    have ht := tidy_push (s := s) h
    rw [e] at ht ⊢
    exact trim_tidy ht
/-- The reference's words on a configuration. -/
def cR (c : ConfD) : ConfR := ⟨c.q, c.l, c.r⟩
theorem stepC_eq {ru : RuleD} {c : ConfD} (h : tidyL c.l ∧ tidyL c.r) : stepC ru (cR c) = cR (stepI ru c) := by
  have h1 := trim_push (s := ru.w) h.1
  have h2 := trim_push (s := ru.w) (tidy_drop h.2)
  have h3 := trim_push (s := hdD c.l) (tidy_push (s := ru.w) (tidy_drop h.2))
  unfold stepC stepI
  simp only [cR, hdR]
  simp only [hdD] at h3 ⊢
  rw [h1, h2, h3]
  split <;> rfl
end Go.Proofs.YtacpchapgklcgaaGreatDoor
end
section
namespace Go.Proofs.YtacpchapgklcgaaGreatDoor
open Go Go.RowKit Go.Proofs Go.Maps
set_option maxHeartbeats 400000
theorem plainElem_bool_inv {H : Type} {P : Program} {e : TypeId} (he : P.underlying e = some .bool) {v : Value} {z : DataW H × List MemPlace} (h : plainElem P e v = some z) : ∃ x, v = .bool x ∧ z = (.lit (.bool x), []) := by
  unfold plainElem at h
  rw [he] at h
  cases v <;> simp at h
  exact ⟨_, rfl, h.symm⟩
theorem strKeyed : Keyed Tryz.prog 9 := string_keyed Tryz.underlying9
theorem boolZero (w : World) : (zeroValue 4).run Tryz.prog w = .ok (.bool false) w := by kernel_rfl
/-- The map in block b holds true just for the keys of S, in at most n entries. -/
def Seen (w : World) (b n : Nat) (S : List UInt8 → Bool) : Prop :=
  ∃ D : DataW Unit, w.ownsMap Tryz.prog 9 (plainElem Tryz.prog 4) b n D ∧ ∀ kl, D.atKey (.string kl) (.lit (.bool false)) = .lit (.bool (S kl))
theorem Seen.made (w : World) : Seen (w.alloc (.map #[] 0)) w.heap.size 0 (fun _ => false) :=
  ⟨_, World.ownsMap_made _ _ _ _, fun _ => rfl⟩
theorem Seen.ext {w w' : World} {b n : Nat} {S : List UInt8 → Bool} (h : Seen w b n S) (he : Ext w w') : Seen w' b n S := by
  obtain ⟨D, h1, h2⟩ := h
  exact ⟨D, h1.kept (row := none) ⟨he.os, he.tape, he.output, he.size, fun k hk _ => Below.block he k hk⟩ (by simp), h2⟩
theorem Seen.kept {w w' : World} {b n : Nat} {S : List UInt8 → Bool} {row : Option Nat} (h : Seen w b n S) (hg : w.grownBy w' row) (hne : some b ≠ row) : Seen w' b n S := by
  obtain ⟨D, h1, h2⟩ := h
  exact ⟨D, h1.kept hg hne, h2⟩
theorem Seen.setCell {w : World} {b n : Nat} {S : List UInt8 → Bool} (h : Seen w b n S) {a : Addr} (ha : b ≠ a.block) (u : Value) : Seen (w.setCell a u) b n S := by
  obtain ⟨D, h1, h2⟩ := h
  exact ⟨D, h1.setCell ha u, h2⟩
theorem Seen.mono {w : World} {b n n' : Nat} {S : List UInt8 → Bool} (h : Seen w b n S) (hn : n ≤ n') : Seen w b n' S := by
  obtain ⟨D, h1, h2⟩ := h
  exact ⟨D, h1.mono hn, h2⟩
theorem Seen.lt {w : World} {b n : Nat} {S : List UInt8 → Bool} (h : Seen w b n S) : b < w.heap.size := by
  obtain ⟨D, h1, _⟩ := h
  exact h1.lt
/-- The block of a map is no row of cells. -/
theorem Seen.ne_row {w : World} {b n : Nat} {S : List UInt8 → Bool} (h : Seen w b n S) {base : Nat} {e : TypeId} {size : Nat} {v : Value} {m : Nat} {xs : List Value} (ho : w.ownsRow base e size v m xs) : some b ≠ v.ownBlock := by
  obtain ⟨D, ⟨es, clock, hb, _⟩, _⟩ := h
  rcases ho.2 with ⟨rfl, _⟩ | ⟨g, cap, cur, rfl, _, hg, _⟩
  · simp [Value.ownBlock]
  · intro e
    have : b = g := by simpa [Value.ownBlock] using e
    subst this
    rw [hb] at hg
    cases hg
theorem Seen.ne_blk {w : World} {b n : Nat} {S : List UInt8 → Bool} (h : Seen w b n S) {g : Nat} {t : TypeId} {cs : Array Value} (hg : Blk w g t cs) : b ≠ g := by
  obtain ⟨D, ⟨es, clock, hb, _⟩, _⟩ := h
  rintro rfl
  unfold Blk at hg
  rw [hb] at hg
  cases hg
theorem lit_bool_inj {a b : Bool} (h : (DataW.lit (.bool a) : DataW Unit) = .lit (.bool b)) : a = b := by
  injection h with h
  injection h
theorem Seen.lookup {w : World} {b n : Nat} {S : List UInt8 → Bool} (h : Seen w b n S) (s : ByteArray) (hs : s.size ≤ maxLen) :
    (Instr.lookup 76 (.map (some b)) (.string s) false).run Tryz.prog w = .ok (.bool (S s.data.toList)) w := by
  obtain ⟨D, h1, h2⟩ := h
  obtain ⟨v, ps, hrun, hv⟩ := h1.lookup strKeyed Tryz.underlying76 (boolZero w) (plainElem_bool Tryz.underlying4 false) (Go.WideMaps.keyOf_string_mk Tryz.underlying9 hs)
  obtain ⟨x, hvx, hx⟩ := plainElem_bool_inv Tryz.underlying4 hv
  have hx1 := congrArg Prod.fst hx
  rw [h2] at hx1
  rw [lit_bool_inj hx1, ← hvx]
  exact hrun
theorem Seen.update {w : World} {b n : Nat} {S : List UInt8 → Bool} (h : Seen w b n S) (hn : n < maxLen) (s : ByteArray) (hs : s.size ≤ maxLen) :
    ∃ w', (Instr.mapUpdate 76 (.map (some b)) (.string s) (.bool true)).run Tryz.prog w = .ok () w' ∧ Seen w' b (n + 1) (fun k => decide (k = s.data.toList) || S k) ∧ w.grownBy w' (some b) := by
  obtain ⟨D, h1, h2⟩ := h
  obtain ⟨w', hrun, h3, h4⟩ := h1.update strKeyed Tryz.underlying76 hn (Go.WideMaps.keyOf_string_mk Tryz.underlying9 hs) (plainElem_bool Tryz.underlying4 true)
  refine ⟨w', hrun, ⟨_, h3, fun kl => ?_⟩, h4⟩
  by_cases e : kl = s.data.toList
  · subst e
    rw [atKey_put_same h1.isMap (by exact trivial)]
    simp
  · rw [atKey_put_other (by intro h; injection h with h; exact e h), h2]
    simp [e]
end Go.Proofs.YtacpchapgklcgaaGreatDoor
namespace Go.Proofs.YtacpchapgklcgaaGreatDoor
open Go Go.RowKit Go.Proofs
set_option maxHeartbeats 400000
/-- A node that the search takes. -/
def Fits (x : List Int) : Prop := 3 ≤ x.length ∧ x.length ≤ 11 ∧ ∀ z ∈ x, -1000000 ≤ z ∧ z ≤ 1000000
def addOne (s : List (List Int) × Bool) (x : List Int) : List (List Int) × Bool := if x ∈ s.1 then s else (s.1 ++ [x], s.2 || mayB x)
def addAll (s : List (List Int) × Bool) (l : List (List Int)) : List (List Int) × Bool := l.foldl addOne s
theorem addAll_take (s : List (List Int) × Bool) (l : List (List Int)) (k : Nat) (h : k < l.length) : addAll s (l.take (k + 1)) = addOne (addAll s (l.take k)) l[k] := by
  unfold addAll
  rw [List.take_succ_eq_append_getElem h, List.foldl_append]
  rfl
theorem addOne_fits {s : List (List Int) × Bool} {x : List Int} (hs : ∀ y ∈ s.1, Fits y) (hx : Fits x) : ∀ y ∈ (addOne s x).1, Fits y := by
  unfold addOne
  split
  · exact hs
  · intro y hy
    rcases List.mem_append.1 hy with h | h
    · exact hs y h
    · simp at h; subst h; exact hx
theorem addAll_fits {s : List (List Int) × Bool} {l : List (List Int)} (hs : ∀ y ∈ s.1, Fits y) (hl : ∀ y ∈ l, Fits y) : ∀ y ∈ (addAll s l).1, Fits y := by
  induction l generalizing s with
  | nil => exact hs
  | cons a l ih => exact ih (addOne_fits hs (hl a List.mem_cons_self)) fun y hy => hl y (List.mem_cons_of_mem _ hy)
theorem addOne_length (s : List (List Int) × Bool) (x : List Int) : s.1.length ≤ (addOne s x).1.length ∧ (addOne s x).1.length ≤ s.1.length + 1 := by
  unfold addOne; split <;> simp
theorem addAll_length (s : List (List Int) × Bool) (l : List (List Int)) : s.1.length ≤ (addAll s l).1.length ∧ (addAll s l).1.length ≤ s.1.length + l.length := by
  induction l generalizing s with
  | nil => simp [addAll]
  | cons a l ih =>
    have h1 := addOne_length s a
    have h2 := ih (addOne s a)
    simp only [addAll, List.foldl_cons, List.length_cons] at *
    omega
/-- The keys of nodes. -/
def keysOf (nodes : List (List Int)) (k : List UInt8) : Bool := decide (∃ x ∈ nodes, keyOfList x = k)
theorem keysOf_iff {nodes : List (List Int)} {x : List Int} (hn : ∀ y ∈ nodes, Fits y) (hx : Fits x) : keysOf nodes (keyOfList x) = decide (x ∈ nodes) := by
  unfold keysOf
  have hne : ∀ y, Fits y → y ≠ [] := by rintro y h rfl; simp [Fits] at h
  by_cases h : x ∈ nodes
  · rw [decide_eq_true h, decide_eq_true]
    exact ⟨x, h, rfl⟩
  · rw [decide_eq_false h, decide_eq_false]
    rintro ⟨y, hy, e⟩
    exact h (keyOfList_inj (hne y (hn y hy)) (hne x hx) e ▸ hy)
theorem keysOf_snoc (nodes : List (List Int)) (x : List Int) (k : List UInt8) : keysOf (nodes ++ [x]) k = (decide (k = keyOfList x) || keysOf nodes k) := by
  unfold keysOf
  rw [Bool.eq_iff_iff]
  simp only [decide_eq_true_eq, Bool.or_eq_true, List.mem_append, List.mem_singleton]
  constructor
  · rintro ⟨y, h | h, e⟩
    · exact .inr ⟨y, h, e⟩
    · subst h; exact .inl e.symm
  · rintro (h | ⟨y, h, e⟩)
    · exact ⟨x, .inr rfl, h.symm⟩
    · exact ⟨y, .inl h, e⟩
/-- The search, in memory: its struct, the rows of its nodes, its map. -/
structure SegSt (base : Nat) (w : World) (bs : Nat) (m : MachD) (rv : Value) (nodes : List (List Int)) (beg : Bool) (nv : Value) (vs : List Value) (bm : Nat) : Prop where
  blk : Blk w bs 78 #[.int .i64 m.sy, .int .i64 m.st, rv, nv, .map (some bm), .bool beg]
  own : w.ownsRow base 28 1 nv nodes.length vs
  rows : ∀ i, (h : i < nodes.length) → ∃ u, vs[i]? = some u ∧ OwnInts base w u nodes[i]
  apart : ∀ (i j : Nat) (u u' : Value) (g : Nat), vs[i]? = some u → vs[j]? = some u' → u.ownBlock = some g → u'.ownBlock = some g → i = j
  seen : Seen w bm nodes.length (keysOf nodes)
  lowS : base ≤ bs
  lowM : base ≤ bm
theorem SegSt.ext {base : Nat} {w w' : World} {bs : Nat} {m : MachD} {rv : Value} {nodes : List (List Int)} {beg : Bool} {nv : Value} {vs : List Value} {bm : Nat} (h : SegSt base w bs m rv nodes beg nv vs bm) (he : Ext w w') : SegSt base w' bs m rv nodes beg nv vs bm :=
  ⟨h.blk.ext he, ownsRow_ext h.own he, fun i hi => by obtain ⟨u, e, hu⟩ := h.rows i hi; exact ⟨u, e, hu.ext he⟩, h.apart, h.seen.ext he, h.lowS, h.lowM⟩
/-- The list that is taken in, and how the search stands to it after k of its rows. -/
structure FindInv (base B1 : Nat) (w : World) (bs : Nat) (m : MachD) (rv lv : Value) (list : List (List Int)) (us : List Value) (k : Nat) (nodes : List (List Int)) (beg : Bool) (nv : Value) (vs : List Value) (bm : Nat) (wr : World) : Prop where
  st : SegSt base wr bs m rv nodes beg nv vs bm
  lown : wr.ownsRow B1 28 1 lv list.length us
  lrows : ∀ i, (h : i < list.length) → ∃ u, us[i]? = some u ∧ OwnInts B1 wr u list[i]
  old : ∀ (i : Nat) (u : Value) (g : Nat), vs[i]? = some u → u.ownBlock = some g → g < B1 ∨ ∃ j u', j < k ∧ us[j]? = some u' ∧ u'.ownBlock = some g
  outer : nv.ownBlock = none ∨ nv.ownBlock ≠ lv.ownBlock
  below : Below base w wr
section
variable {base B1 : Nat} {w : World} {bs : Nat} {m : MachD} {rv lv : Value} {list : List (List Int)} {us : List Value} {k : Nat} {nodes : List (List Int)} {beg : Bool} {nv : Value} {vs : List Value} {bm : Nat} {wr wr' : World}
theorem FindInv.ext (h : FindInv base B1 w bs m rv lv list us k nodes beg nv vs bm wr) (he : Ext wr wr') (hb : base ≤ wr.heap.size) : FindInv base B1 w bs m rv lv list us k nodes beg nv vs bm wr' :=
  ⟨h.st.ext he, ownsRow_ext h.lown he, fun i hi => by obtain ⟨u, e, hu⟩ := h.lrows i hi; exact ⟨u, e, hu.ext he⟩, h.old, h.outer, h.below.trans (Below.mono he hb)⟩
theorem FindInv.skip (h : FindInv base B1 w bs m rv lv list us k nodes beg nv vs bm wr) : FindInv base B1 w bs m rv lv list us (k + 1) nodes beg nv vs bm wr :=
  ⟨h.st, h.lown, h.lrows, fun i u g a b => by
    rcases h.old i u g a b with c | ⟨j, u', c, d⟩
    · exact .inl c
    · exact .inr ⟨j, u', by omega, d⟩, h.outer, h.below⟩
/-- What is kept while one block is written that is none of the rows. -/
structure Rest (base B1 : Nat) (bs : Nat) (lv : Value) (list : List (List Int)) (us : List Value) (nodes : List (List Int)) (nv : Value) (vs : List Value) (w : World) : Prop where
  own : w.ownsRow base 28 1 nv nodes.length vs
  rows : ∀ i, (h : i < nodes.length) → ∃ u, vs[i]? = some u ∧ OwnInts base w u nodes[i]
  lown : w.ownsRow B1 28 1 lv list.length us
  lrows : ∀ i, (h : i < list.length) → ∃ u, us[i]? = some u ∧ OwnInts B1 w u list[i]
theorem FindInv.rest (h : FindInv base B1 w bs m rv lv list us k nodes beg nv vs bm wr) : Rest base B1 bs lv list us nodes nv vs wr := ⟨h.st.own, h.st.rows, h.lown, h.lrows⟩
theorem Rest.map (h : Rest base B1 bs lv list us nodes nv vs wr) {b n : Nat} {S : List UInt8 → Bool} (hs : Seen wr b n S) (hg : wr.grownBy wr' (some b)) : Rest base B1 bs lv list us nodes nv vs wr' :=
  ⟨own_kept h.own hg (hs.ne_row h.own), fun i hi => by obtain ⟨u, e, hu⟩ := h.rows i hi; exact ⟨u, e, own_kept hu hg (hs.ne_row hu)⟩,
   own_kept h.lown hg (hs.ne_row h.lown), fun i hi => by obtain ⟨u, e, hu⟩ := h.lrows i hi; exact ⟨u, e, own_kept hu hg (hs.ne_row hu)⟩⟩
theorem Rest.blk (h : Rest base B1 bs lv list us nodes nv vs wr) {g : Nat} {cs : Array Value} (hb : Blk wr g 78 cs) (hg : wr.grownBy wr' (some g)) : Rest base B1 bs lv list us nodes nv vs wr' :=
  ⟨own_kept h.own hg (blk_ne_row hb h.own (by decide)), fun i hi => by obtain ⟨u, e, hu⟩ := h.rows i hi; exact ⟨u, e, own_kept hu hg (blk_ne_row hb hu (by decide))⟩,
   own_kept h.lown hg (blk_ne_row hb h.lown (by decide)), fun i hi => by obtain ⟨u, e, hu⟩ := h.lrows i hi; exact ⟨u, e, own_kept hu hg (blk_ne_row hb hu (by decide))⟩⟩
theorem Rest.ext (h : Rest base B1 bs lv list us nodes nv vs wr) (he : Ext wr wr') : Rest base B1 bs lv list us nodes nv vs wr' :=
  ⟨ownsRow_ext h.own he, fun i hi => by obtain ⟨u, e, hu⟩ := h.rows i hi; exact ⟨u, e, hu.ext he⟩, ownsRow_ext h.lown he, fun i hi => by obtain ⟨u, e, hu⟩ := h.lrows i hi; exact ⟨u, e, hu.ext he⟩⟩
/-- The row is appended to the nodes. -/
theorem Rest.snoc (h : Rest base B1 bs lv list us nodes nv vs wr) (hB : base ≤ B1) (ho : nv.ownBlock = none ∨ nv.ownBlock ≠ lv.ownBlock) {u : Value} {y : List Int} {g cap : Nat} (hu : OwnInts B1 wr u y)
    (hown : wr'.ownsRow base 28 1 (.slice (some ⟨g, 0, none⟩) (nodes.length + 1) cap) (nodes.length + 1) (vs ++ [u])) (hg : wr.grownBy wr' nv.ownBlock) :
    Rest base B1 bs lv list us (nodes ++ [y]) (.slice (some ⟨g, 0, none⟩) (nodes.length + 1) cap) (vs ++ [u]) wr' := by
  have hl := h.own.1
  have keep : ∀ {b : Nat} {x : Value} {zs : List Int}, OwnInts b wr x zs → OwnInts b wr' x zs := fun hx => World.ownsRow.kept hx hg (own_ne hx h.own (by decide))
  have klv : wr'.ownsRow B1 28 1 lv list.length us := by
    rcases ho with e | e
    · rw [e] at hg
      exact h.lown.kept hg (by cases lv.ownBlock <;> simp)
    · exact h.lown.kept hg (.inr (Ne.symm e))
  refine ⟨by simpa using hown, fun i hi => ?_, klv, fun i hi => by obtain ⟨x, e, hx⟩ := h.lrows i hi; exact ⟨x, e, keep hx⟩⟩
  by_cases h1 : i < nodes.length
  · obtain ⟨x, e, hx⟩ := h.rows i h1
    exact ⟨x, by rw [List.getElem?_append_left (by omega), e], by rw [List.getElem_append_left h1]; exact keep hx⟩
  · have hie : i = nodes.length := by simp at hi; omega
    subst hie
    exact ⟨u, by rw [List.getElem?_append_right (by omega)]; simp [hl], by simpa using (keep hu).base hB⟩
theorem apart_snoc (hl : vs.length = nodes.length) (h3 : ∀ (i j : Nat) (u u' : Value) (g : Nat), vs[i]? = some u → vs[j]? = some u' → u.ownBlock = some g → u'.ownBlock = some g → i = j) {u : Value}
    (hne : ∀ (i : Nat) (u' : Value) (g : Nat), vs[i]? = some u' → u'.ownBlock = some g → u.ownBlock ≠ some g) :
    ∀ (i j : Nat) (x y : Value) (g : Nat), (vs ++ [u])[i]? = some x → (vs ++ [u])[j]? = some y → x.ownBlock = some g → y.ownBlock = some g → i = j := by
  intro i j x y g hx hy hgx hgy
  by_cases hi : i < vs.length <;> by_cases hj : j < vs.length
  · rw [List.getElem?_append_left hi] at hx
    rw [List.getElem?_append_left hj] at hy
    exact h3 i j x y g hx hy hgx hgy
  · rw [List.getElem?_append_left hi] at hx
    rw [List.getElem?_append_right (by omega)] at hy
    have : u = y := by
      have := (List.getElem?_eq_some_iff.1 hy).1
      have e : j - vs.length = 0 := by simp at this; omega
      rw [e] at hy; simpa using hy
    subst this
    exact absurd hgy (hne i x g hx hgx)
  · rw [List.getElem?_append_right (by omega)] at hx
    rw [List.getElem?_append_left hj] at hy
    have : u = x := by
      have := (List.getElem?_eq_some_iff.1 hx).1
      have e : i - vs.length = 0 := by simp at this; omega
      rw [e] at hx; simpa using hx
    subst this
    exact absurd hgx (hne j y g hy hgy)
  · rw [List.getElem?_append_right (by omega)] at hx hy
    have a1 := (List.getElem?_eq_some_iff.1 hx).1
    have a2 := (List.getElem?_eq_some_iff.1 hy).1
    simp at a1 a2
    omega
end
end Go.Proofs.YtacpchapgklcgaaGreatDoor
namespace Go.Proofs.YtacpchapgklcgaaGreatDoor
open Go Go.RowKit Go.Proofs
set_option maxHeartbeats 400000
/-- The library's table lies below a block number. -/
def TabLow (base : Nat) : Prop := ∀ g, Tryz.prog.globalNamed "internal/strconv.uint64pow10" = some g → g < base
theorem Tab.below {w w' : World} {base : Nat} (h : Tab w) (hl : TabLow base) (hb : Below base w w') : Tab w' := by
  unfold Tab Lib.TabIs World.var? at *
  cases hg : Tryz.prog.globalNamed "internal/strconv.uint64pow10" with
  | none => rw [hg] at h; cases h
  | some g =>
    rw [hg] at h
    simp only [Option.bind_some] at h ⊢
    rw [hb.block g (hl g hg)]
    exact h
theorem Tab.low {w : World} (h : Tab w) : TabLow w.heap.size := by
  intro g hg
  unfold Tab Lib.TabIs World.var? at h
  rw [hg] at h
  simp only [Option.bind_some] at h
  cases hb : w.heap[g]? with
  | none => rw [hb] at h; cases h
  | some o => exact (Array.getElem?_eq_some_iff.1 hb).1
theorem TabLow.mono {b b' : Nat} (h : TabLow b) (hb : b ≤ b') : TabLow b' := fun g hg => Nat.lt_of_lt_of_le (h g hg) hb
section
variable {base B1 : Nat} {w : World} {bs : Nat} {m : MachD} {rv lv : Value} {list : List (List Int)} {us : List Value} {k : Nat} {nodes : List (List Int)} {beg : Bool} {nv : Value} {vs : List Value} {bm : Nat} {wr : World}
/-- The flag is written. -/
theorem FindInv.setBeg (h : FindInv base B1 w bs m rv lv list us k nodes beg nv vs bm wr) (b : Bool) :
    FindInv base B1 w bs m rv lv list us k nodes b nv vs bm (wr.setCell ⟨bs, 5, none⟩ (.bool b)) := by
  have hg := grownBy_setCell wr ⟨bs, 5, none⟩ (.bool b)
  have R := h.rest.blk h.st.blk hg
  exact ⟨⟨h.st.blk.set_ 5 (.bool b), R.own, R.rows, h.st.apart, h.st.seen.setCell (h.st.seen.ne_blk h.st.blk) _, h.st.lowS, h.st.lowM⟩, R.lown, R.lrows, h.old, h.outer, h.below.setCell h.st.lowS _⟩
/-- The row of the list with index k is appended. -/
theorem FindInv.added {w3 w4 : World} {o : Obj} {u : Value} {y : List Int} {v' : Value} (hB : base ≤ B1) (h : FindInv base B1 w bs m rv lv list us k nodes beg nv vs bm wr)
    (hap : ∀ (i j : Nat) (u u' : Value) (g : Nat), us[i]? = some u → us[j]? = some u' → u.ownBlock = some g → u'.ownBlock = some g → i = j)
    (_ : k < list.length) (hu : us[k]? = some u) (R3 : Rest base B1 bs lv list us nodes nv vs w3) (hru : OwnInts B1 w3 u y) (blk3 : Blk w3 bs 78 #[.int .i64 m.sy, .int .i64 m.st, rv, nv, .map (some bm), .bool beg])
    (hs3 : Seen w3 bm (nodes.length + 1) (fun k => decide (k = keyOfList y) || keysOf nodes k)) (hb3 : Below base w w3) (hsz : base ≤ w3.heap.size) (hlw : ∀ g, lv.ownBlock = some g → g < w3.heap.size)
    (hown : w4.ownsRow base 28 1 v' (nodes.length + 1) (vs ++ [u])) (hg : (w3.alloc o).grownBy w4 nv.ownBlock) (hloc : v'.ownBlock = nv.ownBlock ∨ v'.ownBlock = some (w3.alloc o).heap.size) :
    FindInv base B1 w bs m rv lv list us (k + 1) (nodes ++ [y]) beg v' (vs ++ [u]) bm (w4.setCell ⟨bs, 3, none⟩ v') := by
  have hown' := hown
  obtain ⟨A', c', rfl, _, _, _⟩ := (ownsRow_row hown).form
  obtain ⟨g', rfl, hgb, hgl⟩ := own_at hown (by omega)
  have R4 := (R3.ext (Ext.alloc w3 o)).snoc hB h.outer (hru.ext (Ext.alloc w3 o)) hown hg
  have own3 := R3.own.alloc o
  have blk4 := Blk.apart (blk3.alloc o) own3 (by decide) hg
  have seen4 := ((hs3.ext (Ext.alloc w3 o)).kept hg ((hs3.ext (Ext.alloc w3 o)).ne_row own3))
  have hb4 : Below base w w4 := (hb3.alloc hsz o).grown hg (by simp; omega) (fun b hb => (own3.lt b hb).1)
  have R5 := R4.blk blk4 (grownBy_setCell w4 ⟨bs, 3, none⟩ (.slice (some ⟨g', 0, none⟩) (nodes.length + 1) c'))
  have hl := h.st.own.1
  have hne : ∀ (i : Nat) (u' : Value) (g : Nat), vs[i]? = some u' → u'.ownBlock = some g → u.ownBlock ≠ some g := by
    intro i u' g hi hgu he
    rcases h.old i u' g hi hgu with hlt | ⟨j, u'', hj, hj', hgj⟩
    · have := (hru.lt g he).1
      omega
    · have := hap j k u'' u g hj' hu hgj he
      omega
  refine ⟨⟨blk4.set_ 3 _, R5.own, R5.rows, apart_snoc (nodes := nodes) (by omega) h.st.apart hne, ?_, h.st.lowS, h.st.lowM⟩, R5.lown, R5.lrows, ?_, ?_, hb4.setCell h.st.lowS _⟩
  · have := seen4.setCell (a := ⟨bs, 3, none⟩) (seen4.ne_blk blk4) (.slice (some ⟨g', 0, none⟩) (nodes.length + 1) c')
    have e : keysOf (nodes ++ [y]) = fun k => decide (k = keyOfList y) || keysOf nodes k := funext (keysOf_snoc nodes y)
    rw [e]
    simpa using this
  · intro i x g hi hgx
    by_cases hlt : i < vs.length
    · rw [List.getElem?_append_left hlt] at hi
      rcases h.old i x g hi hgx with c | ⟨j, x', c, d⟩
      · exact .inl c
      · exact .inr ⟨j, x', by omega, d⟩
    · rw [List.getElem?_append_right (by omega)] at hi
      have := (List.getElem?_eq_some_iff.1 hi).1
      have e : i - vs.length = 0 := by simp at this; omega
      rw [e] at hi
      simp at hi
      subst hi
      exact .inr ⟨k, u, by omega, hu, hgx⟩
  · rcases hloc with e | e
    · rw [e]; exact h.outer
    · refine .inr fun he => ?_
      have := hlw _ (he ▸ e)
      simp at this
      omega
end
def FindRes (base : Nat) (w : World) (bs : Nat) (m : MachD) (rv : Value) (s : List (List Int) × Bool) (bm : Nat) (e : Ending) (w' : World) : Prop :=
  e = .returned (.bool (decide (s.1.length ≤ 2000))) ∧ (∃ nv vs, SegSt base w' bs m rv s.1 s.2 nv vs bm) ∧ Below base w w'
set_option maxHeartbeats 4000000 in
set_option maxRecDepth 20000 in
theorem find_c (base B1 : Nat) (w : World) (bs : Nat) (m : MachD) (rv lv : Value) (list : List (List Int)) (us : List Value) (nodes : List (List Int)) (beg : Bool) (nv : Value) (vs : List Value) (bm : Nat)
    (h : FindInv base B1 w bs m rv lv list us 0 nodes beg nv vs bm w) (hB : base ≤ B1) (hB1 : B1 ≤ w.heap.size)
    (hap : ∀ (i j : Nat) (u u' : Value) (g : Nat), us[i]? = some u → us[j]? = some u' → u.ownBlock = some g → u'.ownBlock = some g → i = j)
    (hn : ∀ x ∈ nodes, Fits x) (hl : ∀ x ∈ list, Fits x) (hs1 : nodes.length + list.length ≤ 100000) (hT : Tab w) (hTl : TabLow base) :
    Calls Tryz.prog 35 #[.pointer (some ⟨bs, 0, none⟩), lv] w (FindRes base w bs m rv (addAll (nodes, beg) list) bm) := by
  obtain ⟨Al, cl, rfl, h3, h3', _⟩ := (ownsRow_row h.lown).form
  obtain ⟨i0, hi, hz0, hz1, hz2⟩ := info_parts rowInfo
  have HAP := Lib.hid hap
  have HN := Lib.hid hn
  have HL := Lib.hid hl
  clear hap hn hl
  go_enter Tryz.func35, Tryz.ntmps35
  go_wp2
  go_loopw [10] (fun i wr => ∃ k : Nat, k ≤ list.length ∧ i = .int .i64 k ∧ ∃ nv vs, FindInv base B1 w bs m rv (.slice Al list.length cl) list us k (addAll (nodes, beg) (list.take k)).1 (addAll (nodes, beg) (list.take k)).2 nv vs bm wr) (fun i _ => list.length - (intOf i).toNat)
  case atStart => exact ⟨0, Nat.zero_le _, rfl, nv, vs, by simpa [addAll] using h⟩
  case round =>
    clear h
    obtain ⟨k, hk, rfl, nv, vs, inv⟩ := hrel
    have hbw : base ≤ wr.heap.size := Nat.le_trans hB (Nat.le_trans hB1 inv.below.size)
    by_cases hlt : k < list.length
    · obtain ⟨g, rfl, hgb, hgl⟩ := own_at inv.lown (by omega)
      obtain ⟨u, hu, hru⟩ := inv.lrows k hlt
      have q0 := inv.lown.cellAt k (by omega)
      rw [hu] at q0
      obtain ⟨Au, cu, rfl, _, _⟩ := hru.ints.form
      have HT := Lib.hid (addAll_take (nodes, beg) list k hlt)
      have hfy := HL.out list[k] (List.getElem_mem hlt)
      have HF := Lib.hid (addAll_fits (s := (nodes, beg)) (l := list.take k) HN.out (fun y hy => HL.out y (List.mem_of_mem_take hy)))
      have hlen := (addAll_length (nodes, beg) (list.take k)).2
      have hlen2 : (addAll (nodes, beg) (list.take k)).1.length ≤ 100000 := by simp at hlen; omega
      clear hlen
      generalize addAll (nodes, beg) (list.take k) = s at *
      obtain ⟨ns, bg⟩ := s
      simp only at inv HF hlen2
      generalize list[k] = y at *
      obtain ⟨y1, y2, y3⟩ := hfy
      have hfy : Fits y := ⟨y1, y2, y3⟩
      have Y3 := Lib.hid y3
      have FY := Lib.hid hfy
      clear y3 hfy
      go_wp2_with fail
      refine (decimals_c _ y _ hru.ints (by omega) y2 Y3.out (hT.below hTl inv.below)).mono ?_
      rintro e w2 ⟨rfl, hx2⟩
      have inv2 := inv.ext hx2 hbw
      have hru2 := hru.ext hx2
      have hsz2 := hx2.size
      have hks : (⟨(keyOfList y).toArray⟩ : ByteArray).size ≤ maxLen := by
        have := key_length y Y3.out
        show (keyOfList y).toArray.size ≤ maxLen
        simp only [List.size_toArray]
        unfold maxLen; omega
      have hlook := inv2.st.seen.lookup ⟨(keyOfList y).toArray⟩ hks
      have hk2 : keysOf ns (⟨(keyOfList y).toArray⟩ : ByteArray).data.toList = decide (y ∈ ns) := by
        show keysOf ns (keyOfList y) = _
        exact keysOf_iff HF.out FY.out
      rw [hk2] at hlook
      have cb := inv2.st.blk.cell
      clear q0
      by_cases hin : y ∈ ns
      · have hin' : decide (y ∈ ns) = true := by simp [hin]
        rw [hin'] at hlook
        have HA := Lib.hid (show addOne (ns, bg) y = (ns, bg) by simp [addOne, hin])
        clear hin hin' hk2 hks
        go_wp2
        go_roundw
        case rel => exact ⟨k + 1, by omega, by go_num, nv, vs, by rw [HT.out, HA.out]; exact inv2.skip⟩
        case measure => simp [intOf]; omega
      · have hin' : decide (y ∈ ns) = false := by simp [hin]
        rw [hin'] at hlook
        have HA := Lib.hid (show addOne (ns, bg) y = (ns ++ [y], bg || mayB y) by simp [addOne, hin])
        obtain ⟨w3, hupd, hseen3, hg3⟩ := inv2.st.seen.update (by unfold maxLen; omega) ⟨(keyOfList y).toArray⟩ hks
        have hnb : some bs ≠ some bm := by
          have := inv2.st.seen.ne_blk inv2.st.blk
          simp; omega
        have blk3 := inv2.st.blk.kept hg3 hnb
        have rest3 := inv2.rest.map inv2.st.seen hg3
        have hru3 := own_kept hru2 hg3 (inv2.st.seen.ne_row hru2)
        have hbl3 : Below base w w3 := inv2.below.grown hg3 (by omega) (fun b hb => by injection hb with hb; subst hb; exact inv2.st.lowM)
        have cb3 := blk3.cell
        have hbw3 : base ≤ w3.heap.size := by have := hg3.size; omega
        clear hin hin' hk2 hks
        go_wp2_with (at_builtin; refine wpList_append_own_at _ rfl _ _ 34 rfl base 28 i0 (.slice none 0 0) 1 24 Tryz.underlying34 hi hz0 hz1 hz2 rfl (by decide) _ _ _ rfl (rest3.own.alloc _) ⟨w3.heap.size, 0, none⟩ 1 1 [.slice Au y.length cu] rfl rfl (cell_one_new _ _ _) ?c2 ?c3 ?c4 ?c5 ?_)
        case c2 => intro u hu; simp at hu; subst hu; rfl
        case c3 => unfold maxLen; omega
        case c4 => omega
        case c5 => simp; omega
        intro v' w4 hown4 hg4 _ hloc
        obtain ⟨A', c', rfl, _, _, _⟩ := (ownsRow_row hown4).form
        have hlw : ∀ g', (Value.slice (some ⟨g, 0, none⟩) list.length cl).ownBlock = some g' → g' < w3.heap.size := fun g' hg' => by
          simp [Value.ownBlock] at hg'; subst hg'
          have := hg3.size
          omega
        have inv5 := FindInv.added hB inv2 HAP.out hlt hu rest3 hru3 blk3 hseen3 hbl3 hbw3 hlw hown4 hg4 (by simpa using hloc)
        have hru5 : Ints (w4.setCell ⟨bs, 3, none⟩ (.slice A' (ns.length + 1) c')) (.slice Au y.length cu) y := by
          obtain ⟨x5, e5, h5⟩ := inv5.st.rows ns.length (by simp)
          have hl5 := inv2.st.own.1
          rw [List.getElem?_append_right (by omega)] at e5
          simp [hl5] at e5
          subst e5
          simpa using h5.ints
        have blk4 := Blk.apart (blk3.alloc _) (rest3.own.alloc _) (by decide) hg4
        have fz := blk4.frozen 3
        have cz := blk4.cell 3
        have cb5 := inv5.st.blk.cell 5
        have fb5 := inv5.st.blk.frozen 5
        simp only [List.getElem?_toArray, List.getElem?_cons_zero, List.getElem?_cons_succ] at cz cb5
        have INV := Lib.hid inv5
        clear cb cb3 hupd hlook hseen3 rest3 blk3 hru3 hru2 inv2 hg4 hown4 blk4 inv5
        cases bg with
        | true =>
          go_wp2
          go_roundw
          case rel => exact ⟨k + 1, by omega, by go_num, _, _, by rw [HT.out, HA.out]; exact INV.out.setBeg true⟩
          case measure => simp [intOf]; omega
        | false =>
          go_wp2_with fail
          refine (mayBegin_c _ y _ hru5 (by omega)).mono ?_
          rintro e w6 ⟨rfl, rfl⟩
          go_wp2
          go_roundw
          case rel => exact ⟨k + 1, by omega, by go_num, _, _, by rw [HT.out, HA.out]; exact INV.out.setBeg (mayB y)⟩
          case measure => simp [intOf]; omega
    · have hke : k = list.length := by omega
      have ht : list.take k = list := by rw [hke, List.take_length]
      rw [ht] at inv
      have hlen := (addAll_length (nodes, beg) list).2
      have cb := inv.st.blk.cell 3
      simp only [List.getElem?_toArray, List.getElem?_cons_zero, List.getElem?_cons_succ] at cb
      obtain ⟨An, cn, rfl, _, _, _⟩ := (ownsRow_row inv.st.own).form
      clear ht
      generalize addAll (nodes, beg) list = s at *
      simp only at hlen
      go_wp2
      go_ret
      exact ⟨by first | rfl | (congr 2; simp; omega), ⟨_, _, inv.st⟩, inv.below⟩
end Go.Proofs.YtacpchapgklcgaaGreatDoor
end
section
namespace Go.Proofs.YtacpchapgklcgaaGreatDoor
open Go Go.RowKit Go.Proofs
set_option maxHeartbeats 400000
/-- The nodes at which a machine halts, of n cells. -/
def startsIn (m : MachD) (n : Nat) : List (List Int) := startsOf n (partsOf m.sy (freeTo m.rules m.rules.length))
theorem startsIn_length (m : MachD) (n : Nat) : (startsIn m n).length ≤ m.rules.length := by
  have := freeTo_length m.rules m.rules.length
  simp [startsIn, startsOf, partsOf]; omega
def SegsRes (w : World) (m : MachD) (rv : Value) (s : List (List Int) × Bool) (e : Ending) (w' : World) : Prop :=
  ∃ bs nv vs bm, e = .returned (.tuple #[.pointer (some ⟨bs, 0, none⟩), .bool (decide (s.1.length ≤ 2000))]) ∧ SegSt w.heap.size w' bs m rv s.1 s.2 nv vs bm ∧ Ext w w'
set_option maxHeartbeats 4000000 in
theorem segmentsOf_c (v : Value) (m : MachD) (n : Nat) (w : World) (rv : Value) (hv : v = .agg #[.int .i64 m.sy, .int .i64 m.st, rv]) (hr : Rules w rv m.rules) (hn : m.rules.length ≤ 6000) (h1 : 2 ≤ m.sy) (h2 : m.sy ≤ 6) (n1 : 1 ≤ n) (n2 : n ≤ 9)
    (hF : ∀ x ∈ startsIn m n, Fits x) (hT : Tab w) :
    Calls Tryz.prog 34 #[v, .int .i64 n] w (SegsRes w m rv (addAll ([], false) (startsIn m n))) := by
  subst hv
  obtain ⟨Ar, cr, rfl, h3, h3'⟩ := hr.form
  have HF := Lib.hid hF
  clear hF
  have hmm := @run_makeMap Tryz.prog
  go_enter Tryz.func34, Tryz.ntmps34
  go_wp2_with fail
  have HB : ∃ W, W = ((w.alloc (.cells #[.int .i64 m.sy, .int .i64 m.st, .slice Ar m.rules.length cr] 26)).alloc (.map #[] 0)).alloc (.cells #[.int .i64 m.sy, .int .i64 m.st, .slice Ar m.rules.length cr, .slice none 0 0, .map (some (w.heap.size + 1)), .bool false] 78) := ⟨_, rfl⟩
  obtain ⟨W, hW⟩ := HB
  have hX0 : Ext w W := by rw [hW]; exact ((Ext.alloc _ _).trans (Ext.alloc _ _)).trans (Ext.alloc _ _)
  have hsz : W.heap.size = w.heap.size + 3 := by rw [hW]; simp
  have bS : Blk W (w.heap.size + 2) 78 #[.int .i64 m.sy, .int .i64 m.st, .slice Ar m.rules.length cr, .slice none 0 0, .map (some (w.heap.size + 1)), .bool false] := by
    rw [hW]; exact Blk.new _ _ _ _ (by simp)
  have hSeen : Seen W (w.heap.size + 1) 0 (keysOf []) := by
    have e : keysOf [] = fun _ => false := by funext k; simp [keysOf]
    rw [e, hW]
    have := Seen.made (w.alloc (.cells #[.int .i64 m.sy, .int .i64 m.st, .slice Ar m.rules.length cr] 26))
    simp only [World.size_alloc] at this
    exact this.ext (Ext.alloc _ _)
  have hr0 := hr.ext hX0
  rw [← hW]
  clear hW
  refine (segmentStarts_c _ m n W ⟨_, rfl, hr0⟩ hn h1 h2 n1 n2).mono ?_
  rintro e w1 ⟨u, rfl, hu, hx1⟩
  obtain ⟨us, u1, u2, u3⟩ := hu
  have hX1 := hX0.trans hx1
  have inv : FindInv w.heap.size W.heap.size w1 (w.heap.size + 2) m (.slice Ar m.rules.length cr) u (startsIn m n) us 0 [] false (.slice none 0 0) [] (w.heap.size + 1) w1 :=
    ⟨⟨bS.ext hx1, ⟨by simp, .inl ⟨rfl, rfl⟩⟩, fun i hi => by simp at hi, fun i j u u' g hi => by simp at hi, hSeen.ext hx1, by omega, by omega⟩, u1, u2, fun i u g hi => by simp at hi, .inl rfl, Below.refl _ _⟩
  have hsl := startsIn_length m n
  go_wp2_with fail
  refine (find_c w.heap.size W.heap.size w1 (w.heap.size + 2) m _ u (startsIn m n) us [] false _ [] (w.heap.size + 1) inv (by omega) hx1.size u3 (fun x hx => by simp at hx) HF.out (by simp; omega) (hT.below hT.low hX1) hT.low).mono ?_
  rintro e w2 ⟨rfl, ⟨nv, vs, hst⟩, hb⟩
  generalize addAll ([], false) (startsIn m n) = s at *
  go_wp2
  go_ret2
  exact ⟨_, nv, vs, _, rfl, hst, Below.trans hX1 hb⟩
end Go.Proofs.YtacpchapgklcgaaGreatDoor
end
