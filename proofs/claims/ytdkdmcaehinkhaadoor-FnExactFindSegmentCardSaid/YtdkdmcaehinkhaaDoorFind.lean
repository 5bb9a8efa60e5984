/- Contract of the program's search for nodes: it adds the nodes of a list that have not been found yet. The nodes are lists of 3 to 11 numbers below a million. -/
import Derived.Test.YtdkdmcaehinkhaaDoorSeen
namespace Go.Proofs.YtdkdmcaehinkhaaDoor
open Go Go.RowKit Go.Proofs
set_option maxHeartbeats 400000
/-- A node that the search takes. -/
def Fits (x : List Int) : Prop := 3 ≤ x.length ∧ x.length ≤ 11 ∧ ∀ z ∈ x, -1000000 ≤ z ∧ z ≤ 1000000
def addOne (s : List (List Int) × Bool) (x : List Int) : List (List Int) × Bool := if x ∈ s.1 then s else (s.1 ++ [x], s.2 || mayB x)
def addAll (s : List (List Int) × Bool) (l : List (List Int)) : List (List Int) × Bool := l.foldl addOne s
theorem addAll_take (s : List (List Int) × Bool) (l : List (List Int)) (k : Nat) (h : k < l.length) : addAll s (l.take (k + 1)) = addOne (addAll s (l.take k)) l[k] := by
  unfold addAll
  rw [List.take_succ_eq_append_getElem h, List.foldl_append]
  rfl
theorem addOne_fits {s : List (List Int) × Bool} {x : List Int} (hs : ∀ y ∈ s.1, Fits y) (hx : Fits x) : ∀ y ∈ (addOne s x).1, Fits y := by
  unfold addOne
  split
  · exact hs
  · intro y hy
    rcases List.mem_append.1 hy with h | h
    · exact hs y h
    · simp at h; subst h; exact hx
theorem addAll_fits {s : List (List Int) × Bool} {l : List (List Int)} (hs : ∀ y ∈ s.1, Fits y) (hl : ∀ y ∈ l, Fits y) : ∀ y ∈ (addAll s l).1, Fits y := by
  induction l generalizing s with
  | nil => exact hs
  | cons a l ih => exact ih (addOne_fits hs (hl a List.mem_cons_self)) fun y hy => hl y (List.mem_cons_of_mem _ hy)
theorem addOne_length (s : List (List Int) × Bool) (x : List Int) : s.1.length ≤ (addOne s x).1.length ∧ (addOne s x).1.length ≤ s.1.length + 1 := by
  unfold addOne; split <;> simp
theorem addAll_length (s : List (List Int) × Bool) (l : List (List Int)) : s.1.length ≤ (addAll s l).1.length ∧ (addAll s l).1.length ≤ s.1.length + l.length := by
  induction l generalizing s with
  | nil => simp [addAll]
  | cons a l ih =>
    have h1 := addOne_length s a
    have h2 := ih (addOne s a)
    simp only [addAll, List.foldl_cons, List.length_cons] at *
    omega
/-- The keys of nodes. -/
def keysOf (nodes : List (List Int)) (k : List UInt8) : Bool := decide (∃ x ∈ nodes, keyOfList x = k)
theorem keysOf_iff {nodes : List (List Int)} {x : List Int} (hn : ∀ y ∈ nodes, Fits y) (hx : Fits x) : keysOf nodes (keyOfList x) = decide (x ∈ nodes) := by
  unfold keysOf
  have hne : ∀ y, Fits y → y ≠ [] := by rintro y h rfl; simp [Fits] at h
  by_cases h : x ∈ nodes
  · rw [decide_eq_true h, decide_eq_true]
    exact ⟨x, h, rfl⟩
  · rw [decide_eq_false h, decide_eq_false]
    rintro ⟨y, hy, e⟩
    exact h (keyOfList_inj (hne y (hn y hy)) (hne x hx) e ▸ hy)
theorem keysOf_snoc (nodes : List (List Int)) (x : List Int) (k : List UInt8) : keysOf (nodes ++ [x]) k = (decide (k = keyOfList x) || keysOf nodes k) := by
  unfold keysOf
  rw [Bool.eq_iff_iff]
  simp only [decide_eq_true_eq, Bool.or_eq_true, List.mem_append, List.mem_singleton]
  constructor
  · rintro ⟨y, h | h, e⟩
    · exact .inr ⟨y, h, e⟩
    · subst h; exact .inl e.symm
  · rintro (h | ⟨y, h, e⟩)
    · exact ⟨x, .inr rfl, h.symm⟩
    · exact ⟨y, .inl h, e⟩
/-- The search, in memory: its struct, the rows of its nodes, its map. -/
structure SegSt (base : Nat) (w : World) (bs : Nat) (m : MachD) (rv : Value) (nodes : List (List Int)) (beg : Bool) (nv : Value) (vs : List Value) (bm : Nat) : Prop where
  blk : Blk w bs 64 #[.int .i64 m.sy, .int .i64 m.st, rv, nv, .map (some bm), .bool beg]
  own : w.ownsRow base 38 1 nv nodes.length vs
  rows : ∀ i, (h : i < nodes.length) → ∃ u, vs[i]? = some u ∧ OwnInts base w u nodes[i]
  apart : ∀ (i j : Nat) (u u' : Value) (g : Nat), vs[i]? = some u → vs[j]? = some u' → u.ownBlock = some g → u'.ownBlock = some g → i = j
  seen : Seen w bm nodes.length (keysOf nodes)
  lowS : base ≤ bs
  lowM : base ≤ bm
theorem SegSt.ext {base : Nat} {w w' : World} {bs : Nat} {m : MachD} {rv : Value} {nodes : List (List Int)} {beg : Bool} {nv : Value} {vs : List Value} {bm : Nat} (h : SegSt base w bs m rv nodes beg nv vs bm) (he : Ext w w') : SegSt base w' bs m rv nodes beg nv vs bm :=
  ⟨h.blk.ext he, ownsRow_ext h.own he, fun i hi => by obtain ⟨u, e, hu⟩ := h.rows i hi; exact ⟨u, e, hu.ext he⟩, h.apart, h.seen.ext he, h.lowS, h.lowM⟩
/-- The list that is taken in, and how the search stands to it after k of its rows. -/
structure FindInv (base B1 : Nat) (w : World) (bs : Nat) (m : MachD) (rv lv : Value) (list : List (List Int)) (us : List Value) (k : Nat) (nodes : List (List Int)) (beg : Bool) (nv : Value) (vs : List Value) (bm : Nat) (wr : World) : Prop where
  st : SegSt base wr bs m rv nodes beg nv vs bm
  lown : wr.ownsRow B1 38 1 lv list.length us
  lrows : ∀ i, (h : i < list.length) → ∃ u, us[i]? = some u ∧ OwnInts B1 wr u list[i]
  old : ∀ (i : Nat) (u : Value) (g : Nat), vs[i]? = some u → u.ownBlock = some g → g < B1 ∨ ∃ j u', j < k ∧ us[j]? = some u' ∧ u'.ownBlock = some g
  outer : nv.ownBlock = none ∨ nv.ownBlock ≠ lv.ownBlock
  below : Below base w wr
theorem Blk.kept {w w' : World} {g : Nat} {t : TypeId} {cs : Array Value} {row : Option Nat} (h : Blk w g t cs) (hg : w.grownBy w' row) (hne : some g ≠ row) : Blk w' g t cs := (hg.block g h.lt hne).trans h
theorem blk_ne_row {w : World} {g : Nat} {t : TypeId} {cs : Array Value} (hb : Blk w g t cs) {base : Nat} {e : TypeId} {size : Nat} {v : Value} {n : Nat} {xs : List Value} (ho : w.ownsRow base e size v n xs) (hne : t ≠ e) : some g ≠ v.ownBlock := by
  rcases ho.2 with ⟨rfl, _⟩ | ⟨g', cap, cur, rfl, _, hh, _⟩
  · simp [Value.ownBlock]
  · intro he
    have : g = g' := by simpa [Value.ownBlock] using he
    subst this
    unfold Blk at hb
    rw [hb] at hh
    injection hh with hh
    injection hh with _ ht
    exact hne ht
theorem own_kept {w w' : World} {base : Nat} {e : TypeId} {size : Nat} {v : Value} {n : Nat} {xs : List Value} {g : Nat} (h : w.ownsRow base e size v n xs) (hg : w.grownBy w' (some g)) (hne : some g ≠ v.ownBlock) : w'.ownsRow base e size v n xs := h.kept hg (.inr (Ne.symm hne))
theorem grownBy_setCell (w : World) (p : Addr) (u : Value) : w.grownBy (w.setCell p u) (some p.block) :=
  ⟨rfl, rfl, rfl, by simp [World.setCell], fun k _ hk => Below.heap_setCell w p u k (fun e => hk (by rw [e]))⟩
section
variable {base B1 : Nat} {w : World} {bs : Nat} {m : MachD} {rv lv : Value} {list : List (List Int)} {us : List Value} {k : Nat} {nodes : List (List Int)} {beg : Bool} {nv : Value} {vs : List Value} {bm : Nat} {wr wr' : World}
theorem FindInv.ext (h : FindInv base B1 w bs m rv lv list us k nodes beg nv vs bm wr) (he : Ext wr wr') (hb : base ≤ wr.heap.size) : FindInv base B1 w bs m rv lv list us k nodes beg nv vs bm wr' :=
  ⟨h.st.ext he, ownsRow_ext h.lown he, fun i hi => by obtain ⟨u, e, hu⟩ := h.lrows i hi; exact ⟨u, e, hu.ext he⟩, h.old, h.outer, h.below.trans (Below.mono he hb)⟩
theorem FindInv.skip (h : FindInv base B1 w bs m rv lv list us k nodes beg nv vs bm wr) : FindInv base B1 w bs m rv lv list us (k + 1) nodes beg nv vs bm wr :=
  ⟨h.st, h.lown, h.lrows, fun i u g a b => by
    rcases h.old i u g a b with c | ⟨j, u', c, d⟩
    · exact .inl c
    · exact .inr ⟨j, u', by omega, d⟩, h.outer, h.below⟩
/-- What is kept while one block is written that is none of the rows. -/
structure Rest (base B1 : Nat) (bs : Nat) (lv : Value) (list : List (List Int)) (us : List Value) (nodes : List (List Int)) (nv : Value) (vs : List Value) (w : World) : Prop where
  own : w.ownsRow base 38 1 nv nodes.length vs
  rows : ∀ i, (h : i < nodes.length) → ∃ u, vs[i]? = some u ∧ OwnInts base w u nodes[i]
  lown : w.ownsRow B1 38 1 lv list.length us
  lrows : ∀ i, (h : i < list.length) → ∃ u, us[i]? = some u ∧ OwnInts B1 w u list[i]
theorem FindInv.rest (h : FindInv base B1 w bs m rv lv list us k nodes beg nv vs bm wr) : Rest base B1 bs lv list us nodes nv vs wr := ⟨h.st.own, h.st.rows, h.lown, h.lrows⟩
theorem Rest.map (h : Rest base B1 bs lv list us nodes nv vs wr) {b n : Nat} {S : List UInt8 → Bool} (hs : Seen wr b n S) (hg : wr.grownBy wr' (some b)) : Rest base B1 bs lv list us nodes nv vs wr' :=
  ⟨own_kept h.own hg (hs.ne_row h.own), fun i hi => by obtain ⟨u, e, hu⟩ := h.rows i hi; exact ⟨u, e, own_kept hu hg (hs.ne_row hu)⟩,
   own_kept h.lown hg (hs.ne_row h.lown), fun i hi => by obtain ⟨u, e, hu⟩ := h.lrows i hi; exact ⟨u, e, own_kept hu hg (hs.ne_row hu)⟩⟩
theorem Rest.blk (h : Rest base B1 bs lv list us nodes nv vs wr) {g : Nat} {cs : Array Value} (hb : Blk wr g 64 cs) (hg : wr.grownBy wr' (some g)) : Rest base B1 bs lv list us nodes nv vs wr' :=
  ⟨own_kept h.own hg (blk_ne_row hb h.own (by decide)), fun i hi => by obtain ⟨u, e, hu⟩ := h.rows i hi; exact ⟨u, e, own_kept hu hg (blk_ne_row hb hu (by decide))⟩,
   own_kept h.lown hg (blk_ne_row hb h.lown (by decide)), fun i hi => by obtain ⟨u, e, hu⟩ := h.lrows i hi; exact ⟨u, e, own_kept hu hg (blk_ne_row hb hu (by decide))⟩⟩
theorem Rest.ext (h : Rest base B1 bs lv list us nodes nv vs wr) (he : Ext wr wr') : Rest base B1 bs lv list us nodes nv vs wr' :=
  ⟨ownsRow_ext h.own he, fun i hi => by obtain ⟨u, e, hu⟩ := h.rows i hi; exact ⟨u, e, hu.ext he⟩, ownsRow_ext h.lown he, fun i hi => by obtain ⟨u, e, hu⟩ := h.lrows i hi; exact ⟨u, e, hu.ext he⟩⟩
/-- The row is appended to the nodes. -/
theorem Rest.snoc (h : Rest base B1 bs lv list us nodes nv vs wr) (hB : base ≤ B1) (ho : nv.ownBlock = none ∨ nv.ownBlock ≠ lv.ownBlock) {u : Value} {y : List Int} {g cap : Nat} (hu : OwnInts B1 wr u y)
    (hown : wr'.ownsRow base 38 1 (.slice (some ⟨g, 0, none⟩) (nodes.length + 1) cap) (nodes.length + 1) (vs ++ [u])) (hg : wr.grownBy wr' nv.ownBlock) :
    Rest base B1 bs lv list us (nodes ++ [y]) (.slice (some ⟨g, 0, none⟩) (nodes.length + 1) cap) (vs ++ [u]) wr' := by
  have hl := h.own.1
  have keep : ∀ {b : Nat} {x : Value} {zs : List Int}, OwnInts b wr x zs → OwnInts b wr' x zs := fun hx => World.ownsRow.kept hx hg (own_ne hx h.own (by decide))
  have klv : wr'.ownsRow B1 38 1 lv list.length us := by
    rcases ho with e | e
    · rw [e] at hg
      exact h.lown.kept hg (by cases lv.ownBlock <;> simp)
    · exact h.lown.kept hg (.inr (Ne.symm e))
  refine ⟨by simpa using hown, fun i hi => ?_, klv, fun i hi => by obtain ⟨x, e, hx⟩ := h.lrows i hi; exact ⟨x, e, keep hx⟩⟩
  by_cases h1 : i < nodes.length
  · obtain ⟨x, e, hx⟩ := h.rows i h1
    exact ⟨x, by rw [List.getElem?_append_left (by omega), e], by rw [List.getElem_append_left h1]; exact keep hx⟩
  · have hie : i = nodes.length := by simp at hi; omega
    subst hie
    exact ⟨u, by rw [List.getElem?_append_right (by omega)]; simp [hl], by simpa using (keep hu).base hB⟩
theorem apart_snoc (hl : vs.length = nodes.length) (h3 : ∀ (i j : Nat) (u u' : Value) (g : Nat), vs[i]? = some u → vs[j]? = some u' → u.ownBlock = some g → u'.ownBlock = some g → i = j) {u : Value}
    (hne : ∀ (i : Nat) (u' : Value) (g : Nat), vs[i]? = some u' → u'.ownBlock = some g → u.ownBlock ≠ some g) :
    ∀ (i j : Nat) (x y : Value) (g : Nat), (vs ++ [u])[i]? = some x → (vs ++ [u])[j]? = some y → x.ownBlock = some g → y.ownBlock = some g → i = j := by
  intro i j x y g hx hy hgx hgy
  by_cases hi : i < vs.length <;> by_cases hj : j < vs.length
  · rw [List.getElem?_append_left hi] at hx
    rw [List.getElem?_append_left hj] at hy
    exact h3 i j x y g hx hy hgx hgy
  · rw [List.getElem?_append_left hi] at hx
    rw [List.getElem?_append_right (by omega)] at hy
    have : u = y := by
      have := (List.getElem?_eq_some_iff.1 hy).1
      have e : j - vs.length = 0 := by simp at this; omega
      rw [e] at hy; simpa using hy
    subst this
    exact absurd hgy (hne i x g hx hgx)
  · rw [List.getElem?_append_right (by omega)] at hx
    rw [List.getElem?_append_left hj] at hy
    have : u = x := by
      have := (List.getElem?_eq_some_iff.1 hx).1
      have e : i - vs.length = 0 := by simp at this; omega
      rw [e] at hx; simpa using hx
    subst this
    exact absurd hgx (hne j y g hy hgy)
  · rw [List.getElem?_append_right (by omega)] at hx hy
    have a1 := (List.getElem?_eq_some_iff.1 hx).1
    have a2 := (List.getElem?_eq_some_iff.1 hy).1
    simp at a1 a2
    omega
end
end Go.Proofs.YtdkdmcaehinkhaaDoor
