/- Words for memory that all walks of this seat use: what a call leaves of old memory, a slice that reads as a list, rows of rows. No condition.
How the arguments of a law are opened: a slice whose elements all read, numbers, structs. No condition.
From the walk of a law to its row: a law that answers true and leaves old memory as it was meets its statement. No condition. -/
import Derived.WalkKit
import Derived.Lib.Hide
import Derived.Deep.QuietTactic
import Derived.BigQuiet
import Derived.Lib.QuietBelow
import Derived.Deep.Slices
import Derived.Lib.SmallJoins
import Derived.Carry
import Derived.ProofKit
import Derived.LaidMore
import Derived.OpenShut
import Derived.Stop.Joined
section
namespace Go.Proofs.YtapjofbjedpmgaaGreat
open Go Go.RowKit
/-- Old blocks are as they were. -/
def Ext (w w' : World) : Prop := Below w.heap.size w w'
theorem Ext.refl (w : World) : Ext w w := Below.refl _ _
theorem Ext.trans {a b c : World} (h : Ext a b) (k : Ext b c) : Ext a c :=
  Below.trans h (Below.mono k h.size)
theorem Ext.alloc (w : World) (o : Obj) : Ext w (w.alloc o) := (Below.refl _ _).alloc (Nat.le_refl _) o
theorem Ext.drew (w : World) : Ext w w.drew := (Below.refl _ _).drew
theorem Ext.drewN (w : World) (n : Nat) : Ext w (w.drewN n) := ⟨rfl, rfl, rfl, Nat.le_refl _, fun _ _ => rfl⟩
theorem Ext.size {w w' : World} (h : Ext w w') : w.heap.size ≤ w'.heap.size := Below.size h
theorem Ext.cell {w w' : World} (h : Ext w w') {p : Addr} {v : Value} (hp : w.cell? p = some v) : w'.cell? p = some v :=
  (Below.cell h (World.block_lt_of_cell? w p hp)).trans hp
theorem Ext.block {w w' : World} (h : Ext w w') {g : Nat} {o : Obj} (hg : w.heap[g]? = some o) : w'.heap[g]? = some o :=
  (Below.block h g (Array.getElem?_eq_some_iff.1 hg).1).trans hg
theorem Ext.frozen {w w' : World} (h : Ext w w') {p : Addr} {v : Value} (hp : w.cell? p = some v) : w'.frozen? p = w.frozen? p :=
  Below.frozen h (World.block_lt_of_cell? w p hp)
/-- A store into a block that was not there at the beginning. -/
theorem Ext.setCell {w w' : World} (h : Ext w w') {p : Addr} (hp : w.heap.size ≤ p.block) (u : Value) : Ext w (w'.setCell p u) := Below.setCell h hp u
theorem Ext.grown {w a b : World} (h : Ext w a) {row : Option Nat} (hg : a.grownBy b row) (hr : ∀ k, row = some k → w.heap.size ≤ k) : Ext w b :=
  Below.grown h hg h.size hr

/-- A slice value of n elements (size cells each) reads as the cells xs. -/
def Row (w : World) (size : Nat) (v : Value) (n : Nat) (xs : List Value) : Prop :=
  ∃ (A : Option Addr) (c : Nat), v = .slice A n c ∧ n ≤ c ∧ c ≤ 9223372036854775807 ∧ xs.length = n * size ∧
    (0 < n → ∃ b off, A = some ⟨b, off, none⟩ ∧ ∀ j, j < xs.length → w.cell? ⟨b, off + j, none⟩ = xs[j]?)
theorem Row.ext {w w' : World} {size n : Nat} {v : Value} {xs : List Value} (h : Row w size v n xs) (he : Ext w w') : Row w' size v n xs := by
  obtain ⟨A, c, rfl, h1, h1', h2, h3⟩ := h
  refine ⟨A, c, rfl, h1, h1', h2, fun hn => ?_⟩
  obtain ⟨b, off, rfl, hc⟩ := h3 hn
  refine ⟨b, off, rfl, fun j hj => ?_⟩
  have := hc j hj
  rw [List.getElem?_eq_getElem hj] at this ⊢
  exact he.cell this
/-- The address of an element that is there. -/
theorem Row.at {w : World} {size n c : Nat} {A : Option Addr} {xs : List Value} (h : Row w size (.slice A n c) n xs) {k : Nat} (hk : k < n) :
    ∃ b off, A = some ⟨b, off, none⟩ ∧ ∀ j, j < n * size → w.cell? ⟨b, off + j, none⟩ = xs[j]? := by
  obtain ⟨A', c', hv, h1, _, h2, h3⟩ := h
  obtain ⟨b, off, hA, hc⟩ := h3 (by omega)
  injection hv with hv1 hv2 hv3
  subst hv1
  exact ⟨b, off, hA, fun j hj => hc j (by omega)⟩
theorem Row.form {w : World} {size n : Nat} {v : Value} {xs : List Value} (h : Row w size v n xs) : ∃ A c, v = .slice A n c ∧ n ≤ c ∧ c ≤ 9223372036854775807 ∧ xs.length = n * size := by
  obtain ⟨A, c, hv, h1, h1', h2, h3⟩ := h
  exact ⟨A, c, hv, h1, h1', h2⟩

def ivs (zs : List Int) : List Value := zs.map (Value.int .i64)
@[simp] theorem ivs_length (zs : List Int) : (ivs zs).length = zs.length := by simp [ivs]
theorem ivs_get (zs : List Int) (k : Nat) (h : k < zs.length) : (ivs zs)[k]? = some (.int .i64 zs[k]) := by simp [ivs, h]

/-- A slice of numbers. -/
def Ints (w : World) (v : Value) (zs : List Int) : Prop := Row w 1 v zs.length (ivs zs)
theorem Ints.ext {w w' : World} {v : Value} {zs : List Int} (h : Ints w v zs) (he : Ext w w') : Ints w' v zs := Row.ext h he
theorem Ints.at {w : World} {c : Nat} {A : Option Addr} {zs : List Int} (h : Ints w (.slice A zs.length c) zs) {k : Nat} (hk : k < zs.length) :
    ∃ b off, A = some ⟨b, off, none⟩ ∧ ∀ j, (hj : j < zs.length) → w.cell? ⟨b, off + j, none⟩ = some (.int .i64 zs[j]) := by
  obtain ⟨b, off, hA, hc⟩ := Row.at h hk
  exact ⟨b, off, hA, fun j hj => by rw [hc j (by omega), ivs_get zs j hj]⟩
theorem Ints.form {w : World} {v : Value} {zs : List Int} (h : Ints w v zs) : ∃ A c, v = .slice A zs.length c ∧ zs.length ≤ c ∧ c ≤ 9223372036854775807 := by
  obtain ⟨A, c, hv, h1, h2, _⟩ := Row.form h
  exact ⟨A, c, hv, h1, h2⟩

theorem ownsRow_row {w : World} {base : Nat} {e : TypeId} {size : Nat} {v : Value} {n : Nat} {xs : List Value} (h : w.ownsRow base e size v n xs) : Row w size v n xs := by
  obtain ⟨h1, h2⟩ := h
  rcases h2 with ⟨rfl, rfl⟩ | ⟨g, cap, cur, rfl, hb, hh, hnc, hcm, hcs, htk⟩
  · exact ⟨none, 0, rfl, Nat.le_refl _, by omega, h1, fun h => absurd h (by omega)⟩
  · refine ⟨_, cap, rfl, hnc, by simpa [maxLen] using hcm, h1, fun _ => ⟨g, 0, rfl, fun j hj => ?_⟩⟩
    rw [Nat.zero_add, cell_of_row w g j cur e (0, 0) hh, ← htk, List.getElem?_take, if_pos (by omega)]
    simp
theorem ownsRow_ext {w w' : World} {base : Nat} {e : TypeId} {size : Nat} {v : Value} {n : Nat} {xs : List Value} (h : w.ownsRow base e size v n xs) (he : Ext w w') : w'.ownsRow base e size v n xs := by
  obtain ⟨h1, h2⟩ := h
  refine ⟨h1, ?_⟩
  rcases h2 with h2 | ⟨g, cap, cur, hv, hb, hh, r⟩
  · exact .inl h2
  · exact .inr ⟨g, cap, cur, hv, hb, he.block hh, r⟩
theorem ownsRow_base {w : World} {base base' : Nat} {e : TypeId} {size : Nat} {v : Value} {n : Nat} {xs : List Value} (h : w.ownsRow base e size v n xs) (hb : base' ≤ base) : w.ownsRow base' e size v n xs := by
  obtain ⟨h1, h2⟩ := h
  refine ⟨h1, ?_⟩
  rcases h2 with h2 | ⟨g, cap, cur, hv, hb', r⟩
  · exact .inl h2
  · exact .inr ⟨g, cap, cur, hv, by omega, r⟩
/-- A cell, in every world that a quiet region may come to. -/
theorem cellR {w : World} {p : Addr} {v : Value} (h : w.cell? p = some v) : ∀ d os, (Sort.grow (redrawn w d) os).cell? p = some v := fun d os => cell_regrown h d os
/-- A region that draws its order, reads, and calls what makes memory but answers a plain value. -/
theorem wp_region_ext {P : Program} {id : Nat} {Q : Exit → Act → World → Prop} {a : Act} {w : World} {l : List Oper} (hm : P.follows .mixedOrders = true) (hB : Region.lexB .any l.toArray = true)
    (h : wpQuiet P l.toArray (fun w' => ∃ p : Regrown, w' = Sort.grow (redrawn w p.d) p.os) (fun a' => ∀ w', Ext w w' → Q .normal a' w') l a) : (Code.region id l.toArray true).wp P Q a w := by
  refine wp_region_quiet (C := fun w' => ∃ p : Regrown, w' = Sort.grow (redrawn w p.d) p.os) hm hB ⟨⟨w.drawn + 1, #[]⟩, by rw [Sort.grow_empty]; rfl⟩ ?_
  have e : (fun a' => ∀ w', (∃ p : Regrown, w' = Sort.grow (redrawn w p.d) p.os) → Q .normal a' w') = (fun a' => ∀ w', Ext w w' → Q .normal a' w') := by
    funext a'
    apply propext
    exact ⟨fun h w' hw => h w' (regrown_of_below hw), fun h w' ⟨p, hp⟩ => h w' (by subst hp; exact below_regrown w p.d p.os)⟩
  rw [e]
  simpa using h
theorem Calls.extR {P : Program} {f : FuncId} {args : Array Value} {w : World} {d : Nat} {os : Array Obj} {v : Value}
    (h : Calls P f args (Sort.grow (redrawn w d) os) fun e w' => e = .returned v ∧ Ext (Sort.grow (redrawn w d) os) w') : Calls P f args (Sort.grow (redrawn w d) os) fun e w'' => e = .returned v ∧ ∃ p : Regrown, w'' = Sort.grow (redrawn w p.d) p.os :=
  Calls.regrown_of h
theorem Calls.sameR {P : Program} {f : FuncId} {args : Array Value} {w : World} {d : Nat} {os : Array Obj} {v : Value}
    (h : Calls P f args (Sort.grow (redrawn w d) os) fun e w' => e = .returned v ∧ Sort.grow (redrawn w d) os = w') : Calls P f args (Sort.grow (redrawn w d) os) fun e w'' => e = .returned v ∧ ∃ p : Regrown, w'' = Sort.grow (redrawn w p.d) p.os :=
  Calls.regrown_of (h.mono fun _ _ ⟨he, hw⟩ => ⟨he, hw ▸ Below.refl _ _⟩)
/-- A block that is known whole. -/
def Blk (w : World) (g : Nat) (t : TypeId) (cs : Array Value) : Prop := w.heap[g]? = some (.cells cs t (0, 0))
section
variable {w w' : World} {g : Nat} {t : TypeId} {cs : Array Value}
theorem Blk.lt (h : Blk w g t cs) : g < w.heap.size := (Array.getElem?_eq_some_iff.1 h).1
theorem Blk.cell (h : Blk w g t cs) (i : Nat) : w.cell? ⟨g, i, none⟩ = cs[i]? := cell_of_row w g i cs t (0, 0) h
theorem Blk.frozen (h : Blk w g t cs) (i : Nat) : w.frozen? ⟨g, i, none⟩ = false := by
  unfold Blk at h
  simp [World.frozen?, h]
theorem Blk.new (w : World) (g : Nat) (t : TypeId) (cs : Array Value) (hg : w.heap.size = g) : Blk (w.alloc (.cells cs t)) g t cs := hg ▸ heap_alloc_new w _
theorem Blk.alloc (h : Blk w g t cs) (o : Obj) : Blk (w.alloc o) g t cs := (Below.heap_alloc w o g h.lt).trans h
theorem Blk.ext (h : Blk w g t cs) (he : Ext w w') : Blk w' g t cs := he.block h
theorem Blk.drew (h : Blk w g t cs) : Blk w.drew g t cs := h
theorem Blk.set_ (h : Blk w g t cs) (i : Nat) (u : Value) : Blk (w.setCell ⟨g, i, none⟩ u) g t (cs.setIfInBounds i u) := by
  unfold Blk at h ⊢
  simp [World.setCell, Array.getElem?_modify, h]
theorem Blk.far (h : Blk w g t cs) {p : Addr} (hp : g ≠ p.block) (u : Value) : Blk (w.setCell p u) g t cs := (Below.heap_setCell w p u g hp).trans h
theorem ownsRow_far {base : Nat} {e : TypeId} {size : Nat} {v : Value} {n : Nat} {xs : List Value} (h : w.ownsRow base e size v n xs) {p : Addr} (hp : ∀ k, v.ownBlock = some k → k ≠ p.block) (u : Value) : (w.setCell p u).ownsRow base e size v n xs := by
  obtain ⟨h1, h2⟩ := h
  refine ⟨h1, ?_⟩
  rcases h2 with h2 | ⟨g, cap, cur, hv, hg, hh, r⟩
  · exact Or.inl h2
  · exact Or.inr ⟨g, cap, cur, hv, hg, by rw [Below.heap_setCell _ _ _ _ (hp g (by rw [hv]; rfl))]; exact hh, r⟩
/-- Behind an append to a row of one element type, a block of another type is as it was. -/
theorem Blk.apart {base : Nat} {e : TypeId} {size : Nat} {v : Value} {n : Nat} {xs : List Value} (hb : Blk w g t cs) (ho : w.ownsRow base e size v n xs) (hne : t ≠ e) (hg : w.grownBy w' v.ownBlock) : Blk w' g t cs := by
  refine (hg.block g hb.lt ?_).trans hb
  intro he
  rcases ho.2 with ⟨rfl, _⟩ | ⟨g', cap, cur, rfl, _, hh, _⟩
  · simp [Value.ownBlock] at he
  · have : g = g' := by simpa [Value.ownBlock] using he
    subst this
    unfold Blk at hb
    rw [hb] at hh
    injection hh with hh
    injection hh with _ ht
    exact hne ht
theorem Row.far {size n : Nat} {v : Value} {xs : List Value} (h : Row w size v n xs) {p : Addr} (hp : ∀ k, v.ownBlock = some k → k ≠ p.block) (u : Value) : Row (w.setCell p u) size v n xs := by
  obtain ⟨A, c, rfl, h1, h1', h2, h3⟩ := h
  refine ⟨A, c, rfl, h1, h1', h2, fun hn => ?_⟩
  obtain ⟨b, off, rfl, hc⟩ := h3 hn
  refine ⟨b, off, rfl, fun j hj => ?_⟩
  rw [← hc j hj]
  exact World.cell?_setCell_other w p _ u (fun e => hp b rfl (by rw [e]))
end
/-- A struct of three cells in a new block: the world and the block under names. -/
theorem box3 (w : World) (x y z : Value) (t : TypeId) : ∃ w1 b, w.alloc (.cells #[x, y, z] t) = w1 ∧ w.heap.size = b ∧ Ext w w1 ∧ w1.heap[b]? = some (.cells #[x, y, z] t (0, 0)) ∧ w1.heap.size = b + 1 ∧
    w1.cell? ⟨b, 0, none⟩ = some x ∧ w1.cell? ⟨b, 1, none⟩ = some y ∧ w1.cell? ⟨b, 2, none⟩ = some z :=
  ⟨_, _, rfl, rfl, Ext.alloc _ _, heap_alloc_new w _, by simp, by simp, by simp, by simp⟩
theorem own_at {w : World} {base : Nat} {e : TypeId} {size : Nat} {A : Option Addr} {n c : Nat} {xs : List Value} (h : w.ownsRow base e size (.slice A n c) n xs) (hn : 0 < n) :
    ∃ g, A = some ⟨g, 0, none⟩ ∧ base ≤ g ∧ g < w.heap.size := by
  rcases h.2 with ⟨h', h0⟩ | ⟨g, cap, cur, h', hb, hg, _⟩
  · omega
  · injection h' with e1 e2 e3
    exact ⟨g, e1, hb, (Array.getElem?_eq_some_iff.1 hg).1⟩
/-- A slice of slices of numbers. -/
def IntRows (w : World) (v : Value) (xss : List (List Int)) : Prop := ∃ vs, Row w 1 v xss.length vs ∧ ∀ i, (h : i < xss.length) → ∃ u, vs[i]? = some u ∧ Ints w u xss[i]
theorem IntRows.ext {w w' : World} {v : Value} {xss : List (List Int)} (h : IntRows w v xss) (he : Ext w w') : IntRows w' v xss := by
  obtain ⟨vs, h1, h2⟩ := h
  exact ⟨vs, h1.ext he, fun i hi => by obtain ⟨u, e, hu⟩ := h2 i hi; exact ⟨u, e, hu.ext he⟩⟩
theorem IntRows.form {w : World} {v : Value} {xss : List (List Int)} (h : IntRows w v xss) : ∃ A c, v = .slice A xss.length c ∧ xss.length ≤ c ∧ c ≤ 9223372036854775807 := by
  obtain ⟨vs, h1, _⟩ := h
  obtain ⟨A, c, hv, h1, h2, _⟩ := h1.form
  exact ⟨A, c, hv, h1, h2⟩
theorem IntRows.at {w : World} {c : Nat} {A : Option Addr} {xss : List (List Int)} (h : IntRows w (.slice A xss.length c) xss) {k : Nat} (hk : k < xss.length) :
    ∃ b off, A = some ⟨b, off, none⟩ ∧ ∀ j, (hj : j < xss.length) → ∃ A' c', w.cell? ⟨b, off + j, none⟩ = some (.slice A' xss[j].length c') ∧ Ints w (.slice A' xss[j].length c') xss[j] := by
  obtain ⟨vs, h1, h2⟩ := h
  obtain ⟨b, off, hA, hc⟩ := Row.at h1 hk
  refine ⟨b, off, hA, fun j hj => ?_⟩
  obtain ⟨u, e, hu⟩ := h2 j hj
  obtain ⟨A', c', rfl, _, _⟩ := hu.form
  exact ⟨A', c', by rw [hc j (by omega), e], hu⟩
theorem rem_run {P : Program} (t : TypeId) (a b : Int) (h0 : 0 ≤ a) (h1 : 1 ≤ b) (w : World) : (binOp .rem t (.int .i64 a) (.int .i64 b)).run P w = .ok (.int .i64 (a % b)) w := by
  have hb : ¬ b = 0 := by omega
  have e : a.tmod b = a % b := Int.tmod_eq_emod_of_nonneg h0
  simp [binOp, Op.intDiv, hb, e]
end Go.Proofs.YtapjofbjedpmgaaGreat
end
section
namespace Go.Proofs.YtapjofbjedpmgaaGreat
open Go Go.RowKit Go.ChangeShapes Go.WideShapes Go.Deep Go.Joins
section
variable {H : Type} {enc : TypeId × Value → H} {P : Program} {w : World} {spare : Nat → Bool} {held : Bool}
theorem addr_at {a : Addr} {n : Nat} {v : Value} (h : w.cell? (a.add n) = some v) (h0 : w.cell? (a.add 0) ≠ none) : w.cell? ⟨a.block, a.off + n, none⟩ = some v ∧ a = ⟨a.block, a.off, none⟩ := by
  obtain ⟨u, hu⟩ := Option.ne_none_iff_exists'.1 h0
  have hs : a.spot = none := by simpa [Addr.add] using World.cell?_spot hu
  obtain ⟨b, o, s⟩ := a
  simp only at hs
  subst hs
  refine ⟨?_, rfl⟩
  by_cases hn : n = 0
  · subst hn; simpa [Addr.add] using h
  · simpa [Addr.add, hn] using h
/-- A slice whose elements all read. -/
theorem open_rows {α : Type} {t e : TypeId} {fuel size : Nat} {v : Value} {x : DataW H × List MemPlace} (f : List Value → α → Prop) (ht : P.underlying t = some (.slice e)) (hC : P.cellsOf e = size) (hs : 0 < size)
    (hel : ∀ n cs y, DataW.trod enc P w 0 spare held n e cs = some y → ∃ a, f cs a) (h : DataW.trod enc P w 0 spare held fuel t [v] = some x) :
    ∃ (ls : List α) (xs : List Value), Row w size v ls.length xs ∧ ∀ i, (hi : i < ls.length) → f ((xs.drop (i * size)).take size) ls[i] := by
  rcases open_slice ht h with ⟨h0, _⟩ | ⟨a, len, cap, m, n, D, Pl, hcs, _, hl, hm, hmm, _, hx⟩
  · injection h0 with h0 _
    subst h0
    exact ⟨[], [], ⟨none, 0, rfl, Nat.le_refl _, by omega, by simp, fun h => by simp at h⟩, fun i hi => by simp at hi⟩
  · injection hcs with hv _
    subst hv
    rw [hC] at hx
    have hle : len ≤ m := by rw [hmm]; split <;> omega
    have key : ∀ k, k ≤ len → ∃ (ls : List α) (xs : List Value), ls.length = k ∧ xs.length = k * size ∧ (∀ j, j < xs.length → w.cell? (a.add j) = xs[j]?) ∧ ∀ i, (hi : i < ls.length) → f ((xs.drop (i * size)).take size) ls[i] := by
      intro k
      induction k with
      | zero => intro _; exact ⟨[], [], rfl, by simp, fun j hj => by simp at hj, fun i hi => by simp at hi⟩
      | succ k ih =>
        intro hk
        obtain ⟨ls, xs, h1, h2, h3, h4⟩ := ih (by omega)
        obtain ⟨cs', c1, c2⟩ := hx k (by omega)
        obtain ⟨_, d1, d2⟩ := World.cells?_some c1
        obtain ⟨b, hb⟩ := hel n cs' _ c2
        refine ⟨ls ++ [b], xs ++ cs', by simp [h1], by simp [h2, d1, Nat.succ_mul], fun j hj => ?_, fun i hi => ?_⟩
        · by_cases c : j < xs.length
          · rw [List.getElem?_append_left c]; exact h3 j c
          · rw [List.getElem?_append_right (by omega)]
            have := d2 (j - xs.length) (by simp at hj; omega)
            rw [add_add] at this
            rw [← this, h2]
            congr 2
            omega
        · by_cases c : i < ls.length
          · rw [List.getElem_append_left c, List.drop_append_of_le_length (by rw [h2]; exact Nat.mul_le_mul_right _ (by omega)), List.take_append_of_le_length (by
              have : i * size + size ≤ k * size := by rw [← Nat.succ_mul]; exact Nat.mul_le_mul_right _ (by omega)
              simp [h2]; omega)]
            exact h4 i c
          · have hie : i = ls.length := by simp at hi; omega
            subst hie
            have e1 : (xs ++ cs').drop (ls.length * size) = cs' := by rw [h1, ← h2, List.drop_left]
            have e2 : (ls ++ [b])[ls.length] = b := by simp
            rw [e1, e2, ← d1, List.take_length]
            exact hb
    obtain ⟨ls, xs, h1, h2, h3, h4⟩ := key len (Nat.le_refl _)
    refine ⟨ls, xs, ⟨some a, cap, by rw [h1], by omega, by simpa [maxLen] using hm, by rw [h2, h1], fun hn => ?_⟩, h4⟩
    have hpos : 0 < xs.length := by rw [h2]; exact Nat.mul_pos (by omega) hs
    have z := h3 0 hpos
    rw [List.getElem?_eq_getElem hpos] at z
    have hz : w.cell? (a.add 0) ≠ none := by rw [z]; simp
    refine ⟨a.block, a.off, by rw [← (addr_at z hz).2], fun j hj => ?_⟩
    have := h3 j hj
    rw [List.getElem?_eq_getElem hj] at this ⊢
    exact (addr_at this hz).1
end
end Go.Proofs.YtapjofbjedpmgaaGreat
end
section
namespace Go.Proofs.YtapjofbjedpmgaaGreat
open Go Go.RowKit Go.ChangeShapes Go.WideShapes Go.Deep Go.Joins
section
variable {H : Type} {enc : TypeId × Value → H} {P : Program}
theorem trodAll_stays (hl : laidOutB P = true) {W W' : World} (hb : Below W.heap.size W W') : ∀ {ts : List TypeId} {vs : List Value} {ds : List (DataW H)} {ps : List MemPlace},
    (ts.all fun t => P.readableRec t && decide (t < P.types.size)) = true → DataW.TrodAll enc P W 0 (fun _ => true) true ts vs ds ps → (∀ x ∈ ps, x.block < W.heap.size) →
    DataW.TrodAll enc P W' 0 (fun b => decide (b < W.heap.size)) true ts vs ds ps
  | [], _, _, _, _, h, _ => by
    obtain ⟨rfl, rfl, rfl⟩ := trodAll_nil h
    exact rfl
  | t :: ts, _, _, _, hr, h, hlt => by
    obtain ⟨v, vs, d, ds, p, q, rfl, rfl, rfl, h1, h2⟩ := trodAll_cons h
    simp only [List.all_cons, Bool.and_eq_true, decide_eq_true_eq] at hr
    exact ⟨p, q, Below.trod hl hr.1.1 hr.1.2 h1 hb (fun x hx => hlt x (List.mem_append_left _ hx)), trodAll_stays hl hb (by simpa using hr.2) h2 (fun x hx => hlt x (List.mem_append_right _ hx)), rfl⟩
theorem trodAll_len {w : World} {base : Nat} {sp : Nat → Bool} {held : Bool} : ∀ {ts : List TypeId} {vs : List Value} {ds : List (DataW H)} {ps : List MemPlace}, DataW.TrodAll enc P w base sp held ts vs ds ps → ds.length = ts.length
  | [], _, _, _, h => by obtain ⟨rfl, rfl, rfl⟩ := trodAll_nil h; rfl
  | _ :: _, _, _, _, h => by
    obtain ⟨v, vs, d, ds, p, q, rfl, rfl, rfl, _, h2⟩ := trodAll_cons h
    simp [trodAll_len h2]
theorem law_post {f : Func} {s : ChangeSpec} {W W' : World} {args : Array Value} {ds gs : List (DataW H)} {before : List MemPlace} {tb : TypeId}
    (hl : laidOutB P = true) (hp : (f.params.toList.all fun t => P.readableRec t && decide (t < P.types.size)) = true) (hr : f.resultTypes = #[tb]) (htb : P.underlying tb = some .bool) (hv : s.vars = [])
    (hs : ∀ ds : List (DataW H), ds.length = f.params.size → s.fn H ds = { results := [.lit (.bool true)], args := ds })
    (hW : DataW.Whole enc P f.params.toList s.vars false W args.toList ds gs before) (hb : Below W.heap.size W W') :
    s.post enc P f false true false false W args (.bool true) W' := by
  have hW' := hW
  obtain ⟨p, q, hA, hV, rfl, hfz, _⟩ := hW
  rw [hv] at hV
  obtain ⟨rfl, rfl⟩ := trodVars_none hV
  have hlen : ds.length = f.params.size := by simpa using trodAll_len hA
  have hlt : ∀ x ∈ p, x.block < W.heap.size := fun x hx => hW'.lt x (by simpa using hx)
  refine ⟨ds, [], p ++ [], [], p, [], hW', ?_, ?_, ?_, hb.frame _, fun h => by cases h⟩
  · rw [List.append_nil, hs ds hlen, hr]
    exact trodAll_mk1 (shut_bool htb true)
  · rw [List.append_nil, hs ds hlen]
    exact trodAll_stays hl hb hp hA hlt
  · rw [List.append_nil, hs ds hlen, hv]
    exact rfl
end
end Go.Proofs.YtapjofbjedpmgaaGreat
end
