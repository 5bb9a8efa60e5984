/- What the machine on one half of the tape does in its places, in plain words.
What a tape that is folded on one half stands for, in plain words.
A made map to numbers, as a function on what its keys stand for: what a look-up answers and what a store leaves. No condition. -/
import Derived.Test.YtkbpchdncljlbaaGreatDoorV13
import Derived.Test.YtkbpchdncljlbaaGreatDoorV03
import Derived.Test.YtkbpchdncljlbaaGreatDoorV11
import Derived.Test.YtkbpchdncljlbaaGreatDoorV08
import Derived.Test.YtkbpchdncljlbaaGreatDoorV01
import Derived.Maps.Own
import Derived.Maps.OwnSet
import Derived.Maps.Keyed
import Derived.Maps.Views
import Derived.DeepKeys4
section
namespace Go.Proofs.YtkbpchdncljlbaaGreatDoor
open Go Go.RowKit Go.Proofs
structure FP where
  k : Int
  q : Int
  h : Int
deriving DecidableEq
def FP.v (p : FP) : Value := .agg #[.int .i64 p.k, .int .i64 p.q, .int .i64 p.h]
theorem FP.v_inj (x y : FP) (h : x.v = y.v) : x = y := by
  cases x; cases y
  simp only [FP.v] at h
  injection h with h
  simp at h
  simp [h]
def ActV (a : ActG FP) : Value := .agg #[.int .i64 a.w, .int .i64 a.m, .int .i64 a.p.k, .int .i64 a.p.q, .int .i64 a.p.h, .bool a.no]
def noA : ActG FP := ⟨0, 0, ⟨0, 0, 0⟩, true⟩
def foldMainD (m : MachD) (q h v : Int) : ActG FP :=
  if m.rules.getD (q * m.sy + v).toNat noR = noR then noA
  else if ((m.rules.getD (q * m.sy + v).toNat noR).m == 1) == (h == 0) then ⟨(m.rules.getD (q * m.sy + v).toNat noR).w, 1, ⟨1, (m.rules.getD (q * m.sy + v).toNat noR).n, h⟩, false⟩
  else if h == 0 then ⟨(m.rules.getD (q * m.sy + v).toNat noR).w, -1, ⟨2, (m.rules.getD (q * m.sy + v).toNat noR).n, 0⟩, false⟩
  else ⟨(m.rules.getD (q * m.sy + v).toNat noR).w, -1, ⟨4, (m.rules.getD (q * m.sy + v).toNat noR).n, 0⟩, false⟩
def keepD (v : Int) (p : FP) (mv k h : Int) : ActG FP := ⟨v, mv, ⟨k, p.q, h⟩, false⟩
def actF (m : MachD) (p : FP) (v : Int) : ActG FP :=
  if p.k = 0 then (if v = m.sy then noA else foldMainD m p.q p.h v)
  else if p.k = 1 then (if v = m.sy then noA else keepD v p 1 0 p.h)
  else if p.k = 2 then (if v = m.sy then keepD v p 1 3 0 else keepD v p (-1) 0 0)
  else if p.k = 3 then (if v = m.sy then noA else keepD v p 1 0 1)
  else if p.k = 4 then (if v = m.sy then noA else keepD v p (-1) 5 0)
  else (if v = m.sy then keepD v p 1 0 0 else foldMainD m p.q 1 v)
structure POk (st : Int) (p : FP) : Prop where
  k0 : 0 ≤ p.k
  k5 : p.k ≤ 5
  q0 : 0 ≤ p.q
  q1 : p.q < st
  h01 : p.h = 0 ∨ p.h = 1
  hk : 2 ≤ p.k → p.h = 0
theorem POk.kinds {st : Int} {p : FP} (h : POk st p) : p.k = 0 ∨ p.k = 1 ∨ p.k = 2 ∨ p.k = 3 ∨ p.k = 4 ∨ p.k = 5 := by
  have := h.k0; have := h.k5; omega
theorem machOk_all {m : MachD} (h : machOk m = true) : 2 ≤ m.sy ∧ m.sy ≤ 6 ∧ 1 ≤ m.st ∧ m.st ≤ 1000 ∧ (m.rules.length : Int) = m.sy * m.st := by
  simp only [machOk, inB, Bool.and_eq_true, decide_eq_true_eq] at h
  omega
theorem ruleIx {m : MachD} {q v : Int} (s1 : 2 ≤ m.sy) (s2 : m.sy ≤ 6) (hl : (m.rules.length : Int) = m.sy * m.st) (q0 : 0 ≤ q) (q1 : q < m.st) (v0 : 0 ≤ v) (v1 : v < m.sy) : ∃ j : Nat, q * m.sy + v = j ∧ j < m.rules.length := by
  have h1 : 0 ≤ q * m.sy := Int.mul_nonneg q0 (by omega)
  have h2 : (q + 1) * m.sy ≤ m.st * m.sy := Int.mul_le_mul_of_nonneg_right (by omega) (by omega)
  have h3 : (q + 1) * m.sy = q * m.sy + m.sy := by rw [Int.add_mul, Int.one_mul]
  have h4 : m.st * m.sy = m.sy * m.st := Int.mul_comm _ _
  refine ⟨(q * m.sy + v).toNat, by omega, by omega⟩
end Go.Proofs.YtkbpchdncljlbaaGreatDoor
end
section
namespace Go.Proofs.YtkbpchdncljlbaaGreatDoor
open Go Go.RowKit Go.Proofs
def idxZ (z : Int) : Nat := if z < 0 then (-2 * z).toNat else (2 * z + 1).toNat
def plZ (k : Nat) : Int := if k % 2 = 0 then -((k : Int) / 2) else ((k : Int) - 1) / 2
theorem idx_pl (k : Nat) (h : 1 ≤ k) : idxZ (plZ k) = k := by
  unfold idxZ plZ
  split <;> split <;> omega
theorem pl_idx (z : Int) : plZ (idxZ z) = z := by
  unfold idxZ plZ
  split <;> split <;> omega
theorem idx_pos (z : Int) : 1 ≤ idxZ z := by
  unfold idxZ
  split <;> omega
theorem idx_ge (z : Int) (n : Nat) (h : (n : Int) ≤ 2 * z ∨ (n : Int) ≤ -2 * z) : n ≤ idxZ z := by
  unfold idxZ
  split <;> omega
theorem pl_le (k : Nat) (h : 1 ≤ k) : -(k : Int) ≤ 2 * plZ k ∧ 2 * plZ k ≤ (k : Int) - 1 := by
  unfold plZ
  split <;> omega
/-- The symbol in a place of the tape; the cells are those behind the marker. -/
def symZ (D : List Int) (z : Int) : Int := D.getD (idxZ z - 1) 0
theorem sym_far {D : List Int} {z : Int} (h : D.length + 1 ≤ idxZ z) : symZ D z = 0 := by
  unfold symZ
  rw [List.getD_eq_getElem?_getD, List.getElem?_eq_none (by omega)]
  rfl
def fnL (f : Nat → Int) (n : Nat) : List Int := (List.range n).map f
theorem fnL_succ (f : Nat → Int) (n : Nat) : fnL f (n + 1) = fnL f n ++ [f n] := by simp [fnL, List.range_succ]
@[simp] theorem fnL_length (f : Nat → Int) (n : Nat) : (fnL f n).length = n := by simp [fnL]
theorem fnL_get (f : Nat → Int) (n i : Nat) (h : i < n) : (fnL f n)[i]? = some (f i) := by simp [fnL, h]
theorem trimN_app (xs ys : List Int) : ∀ k, k ≤ xs.length → trimN (xs ++ ys) k = trimN xs k := by
  intro k
  induction k with
  | zero => intro _; rfl
  | succ k ih =>
    intro h
    have e : (xs ++ ys).getD k 0 = xs.getD k 0 := by rw [List.getD_eq_getElem?_getD, List.getD_eq_getElem?_getD, List.getElem?_append_left (by omega)]
    simp only [trimN]
    rw [e, ih (by omega)]
theorem trim_snoc0 (xs : List Int) : trim (xs ++ [0]) = trim xs := by
  have e : (xs ++ [0]).getD xs.length 0 = 0 := by simp [List.getD_eq_getElem?_getD]
  have e1 : trimN (xs ++ [0]) (xs ++ [0]).length = trimN xs xs.length := by
    rw [show (xs ++ [(0 : Int)]).length = xs.length + 1 by simp]
    simp only [trimN]
    rw [if_pos e, trimN_app _ _ _ (Nat.le_refl _)]
  unfold trim
  rw [e1, List.take_append_of_le_length (trimN_le _ _)]
theorem trim_fn (f : Nat → Int) (N : Nat) : ∀ n, (∀ k, N ≤ k → k < N + n → f k = 0) → trim (fnL f (N + n)) = trim (fnL f N) := by
  intro n
  induction n with
  | zero => intro _; rfl
  | succ n ih =>
    intro h
    rw [← Nat.add_assoc, fnL_succ, h (N + n) (by omega) (by omega), trim_snoc0]
    exact ih (fun k h1 h2 => h k h1 (by omega))
theorem trim_fn2 (f : Nat → Int) (a b : Nat) (h : ∀ k, a ≤ k ∨ b ≤ k → f k = 0) : trim (fnL f a) = trim (fnL f b) := by
  by_cases hab : a ≤ b
  · obtain ⟨n, rfl⟩ : ∃ n, b = a + n := ⟨b - a, by omega⟩
    exact (trim_fn f a n (fun k h1 _ => h k (.inl h1))).symm
  · obtain ⟨n, rfl⟩ : ∃ n, a = b + n := ⟨a - b, by omega⟩
    exact trim_fn f b n (fun k h1 _ => h k (.inr h1))
def unfL (D : List Int) (p : Int) : List Int := trim (fnL (fun k => symZ D (p - 1 - k)) (D.length + 2))
def unfR (D : List Int) (p : Int) : List Int := trim (fnL (fun k => symZ D (p + k)) (D.length + 2))
theorem fnL_ext (f g : Nat → Int) (n : Nat) (h : ∀ k, k < n → f k = g k) : fnL f n = fnL g n := List.map_congr_left (fun k hk => h k (by simpa using hk))
theorem fnL_take (f : Nat → Int) (n k : Nat) (h : k ≤ n) : (fnL f n).take k = fnL f k := by
  unfold fnL
  rw [← List.map_take, List.take_range, Nat.min_eq_left h]
theorem fnL_drop (f : Nat → Int) (n k : Nat) : (fnL f n).drop k = fnL (fun i => f (k + i)) (n - k) := by
  apply List.ext_getElem?
  intro i
  rw [List.getElem?_drop]
  by_cases h : k + i < n
  · rw [fnL_get _ _ _ h, fnL_get _ _ _ (by omega)]
  · rw [List.getElem?_eq_none (by simp; omega), List.getElem?_eq_none (by simp; omega)]
theorem fnL_rev (f : Nat → Int) (n : Nat) : (fnL f n).reverse = fnL (fun i => f (n - 1 - i)) n := by
  apply List.ext_getElem?
  intro i
  by_cases h : i < n
  · rw [fnL_get _ _ _ h, List.getElem?_reverse (by simpa using h), fnL_length, fnL_get _ _ _ (by omega)]
  · rw [List.getElem?_eq_none (by simp; omega), List.getElem?_eq_none (by simp; omega)]
/-- The tape from left to right, as the reference lays it. -/
def lineF (D : List Int) (most : Nat) : List Int := fnL (fun i => symZ D ((i : Int) - most)) (2 * most + 1)
theorem line_left (D : List Int) (most k head : Nat) (h1 : 1 ≤ k) (h2 : k ≤ D.length + 1) (hm : most = D.length / 2 + 2) (hh : (head : Int) = plZ k + most) : trim ((lineF D most).take head).reverse = unfL D (plZ k) := by
  have hp := pl_le k h1
  unfold lineF unfL
  rw [fnL_take _ _ _ (by omega), fnL_rev, fnL_ext _ (fun i : Nat => symZ D (plZ k - 1 - i)) head (fun i hi => by
    have e : ((head - 1 - i : Nat) : Int) - most = plZ k - 1 - i := by omega
    show symZ D (((head - 1 - i : Nat) : Int) - most) = _
    rw [e])]
  refine trim_fn2 _ _ _ (fun i hi => sym_far (idx_ge _ _ (.inr ?_)))
  omega
theorem line_right (D : List Int) (most k head : Nat) (h1 : 1 ≤ k) (h2 : k ≤ D.length + 1) (hm : most = D.length / 2 + 2) (hh : (head : Int) = plZ k + most) : trim ((lineF D most).drop head) = unfR D (plZ k) := by
  have hp := pl_le k h1
  unfold lineF unfR
  rw [fnL_drop, fnL_ext _ (fun i : Nat => symZ D (plZ k + i)) _ (fun i hi => by
    have e : ((head + i : Nat) : Int) - most = plZ k + i := by omega
    show symZ D (((head + i : Nat) : Int) - most) = _
    rw [e])]
  refine trim_fn2 _ _ _ (fun i hi => sym_far (idx_ge _ _ (.inl ?_)))
  omega
theorem trim_last (xs : List Int) : (trim xs).length = 0 ∨ (trim xs).getLastD 0 ≠ 0 := by
  have key : ∀ n, n ≤ xs.length → trimN xs n = 0 ∨ ∃ j, trimN xs n = j + 1 ∧ xs.getD j 0 ≠ 0 := by
    intro n
    induction n with
    | zero => intro _; exact .inl rfl
    | succ n ih =>
      intro h
      simp only [trimN]
      by_cases hz : xs.getD n 0 = 0
      · rw [if_pos hz]; exact ih (by omega)
      · rw [if_neg hz]; exact .inr ⟨n, rfl, hz⟩
  rcases key xs.length (Nat.le_refl _) with h | ⟨j, h, hz⟩
  · left; simp [trim, h]
  · right
    have hl := trimN_le xs xs.length
    have hj : j < xs.length := by omega
    have e : (trim xs).length = j + 1 := by simp [trim, h]; omega
    rw [lastD_get (by omega)]
    have e2 : (trim xs)[(trim xs).length - 1]? = xs[j]? := by
      rw [e, show j + 1 - 1 = j by omega]
      unfold trim
      rw [h, List.getElem?_take, if_pos (by omega)]
    rw [List.getElem?_eq_getElem (by omega), List.getElem?_eq_getElem hj] at e2
    injection e2 with e2
    rw [e2]
    rw [List.getD_eq_getElem?_getD, List.getElem?_eq_getElem hj] at hz
    exact hz
theorem side_trim {xs : List Int} {sy : Int} (h : ∀ z ∈ xs, inB z 0 (sy - 1) = true) : sideOk (trim xs) sy 200 = decide (((trim xs).length : Int) ≤ 200) := by
  have h1 : ((trim xs).all fun z => inB z 0 (sy - 1)) = true := List.all_eq_true.2 fun z hz => h z (trim_mem hz)
  have h2 : ((((trim xs).length : Int) == 0) || (trim xs).getLastD 0 != 0) = true := by
    rcases trim_last xs with h | h
    · simp [h]
    · rw [bne_iff_ne.2 h, Bool.or_true]
  simp only [sideOk, h1, h2, Bool.and_true]
theorem sym_in {D : List Int} {sy : Int} (h : ∀ z ∈ D, inB z 0 (sy - 1) = true) (hs : 1 ≤ sy) (z : Int) : inB (symZ D z) 0 (sy - 1) = true := by
  unfold symZ
  rw [List.getD_eq_getElem?_getD]
  by_cases hl : idxZ z - 1 < D.length
  · rw [List.getElem?_eq_getElem hl]
    exact h _ (List.getElem_mem hl)
  · rw [List.getElem?_eq_none (by omega)]
    simp [inB]
    omega
theorem fnL_all {f : Nat → Int} {n : Nat} {p : Int → Prop} (h : ∀ k, p (f k)) : ∀ z ∈ fnL f n, p z := by
  intro z hz
  obtain ⟨k, _, rfl⟩ := List.mem_map.1 hz
  exact h k
/-- The configuration that a folded tape stands for, and its code. -/
def unfD (q : Int) (D : List Int) (k : Nat) : ConfD × Int :=
  if decide (((unfL D (plZ k)).length : Int) ≤ 200) && decide (((unfR D (plZ k)).length : Int) ≤ 200) then (⟨q, unfL D (plZ k), unfR D (plZ k)⟩, 0) else (blankC, 5)
theorem unf_conf {m : MachD} {q : Int} {D : List Int} {k : Nat} (hq : inB q 0 (m.st - 1) = true) (h : ∀ z ∈ D, inB z 0 (m.sy - 1) = true) (hs : 1 ≤ m.sy) :
    confB m ⟨q, unfL D (plZ k), unfR D (plZ k)⟩ = (decide (((unfL D (plZ k)).length : Int) ≤ 200) && decide (((unfR D (plZ k)).length : Int) ≤ 200)) := by
  unfold confB
  have e1 : sideOk (unfL D (plZ k)) m.sy 200 = decide (((unfL D (plZ k)).length : Int) ≤ 200) := side_trim (fnL_all (fun i => sym_in h hs _))
  have e2 : sideOk (unfR D (plZ k)) m.sy 200 = decide (((unfR D (plZ k)).length : Int) ≤ 200) := side_trim (fnL_all (fun i => sym_in h hs _))
  simp only [hq, e1, e2, Bool.true_and]
/-- Whether the sides of a configuration have the marker only at the left end, and the head stands in the right half. -/
def fmtB (sy : Int) (c : ConfD) (half : Int) : Bool := decide (1 ≤ c.l.length) && decide (c.l.getLastD 0 = sy) && !decide (sy ∈ c.l.dropLast) && !decide (sy ∈ c.r) && !decide ((c.l.length : Int) % 2 = half)
def backD (c : ConfD) : List Int := c.l.dropLast.reverse ++ c.r
def decP (sy : Int) (p : FP) (c : ConfD) : ConfD × Int :=
  if p.k = 0 ∨ (p.k = 5 ∧ c.r.getD 0 0 ≠ sy) then
    (if fmtB sy c (if p.k = 0 then p.h else 1) then unfD p.q (backD c) c.l.length else (blankC, 9))
  else (blankC, 6)
end Go.Proofs.YtkbpchdncljlbaaGreatDoor
end
section
namespace Go.Proofs.YtkbpchdncljlbaaGreatDoor
open Go Go.RowKit Go.Proofs Go.Maps
/-- A type of maps to numbers. -/
structure MapTy (P : Program) (t k e : TypeId) : Prop where
  keyed : Keyed P k
  und : P.underlying t = some (.map k e)
  el : P.underlying e = some (.int .i64)
  zero : ∀ w, (zeroValue e).run P w = .ok (.int .i64 0) w
section
variable {P : Program} {t k e : TypeId} {α : Type} {enc : α → Value} {w w' : World} {b n : Nat} {T T' : α → Option Int}
/-- The map in block b has T a at the key of a, in at most n entries. -/
def Tbl (P : Program) (k e : TypeId) (enc : α → Value) (w : World) (b n : Nat) (T : α → Option Int) : Prop :=
  ∃ D : DataW Unit, w.ownsMap P k (plainElem P e) b n D ∧ ∀ a l, keyOf P k (enc a) = some l → Maps.has D l = (T a).isSome ∧ D.atKey l (.lit (.int .i64 0)) = .lit (.int .i64 ((T a).getD 0))
theorem Tbl.made (P : Program) (k e : TypeId) (enc : α → Value) (w : World) : Tbl P k e enc (w.alloc (.map #[] 0)) w.heap.size 0 (fun _ => none) :=
  ⟨_, World.ownsMap_made _ _ _ _, fun _ _ _ => ⟨rfl, rfl⟩⟩
theorem Tbl.kept {row : Option Nat} (h : Tbl P k e enc w b n T) (hg : w.grownBy w' row) (hne : some b ≠ row) : Tbl P k e enc w' b n T := by
  obtain ⟨D, h1, h2⟩ := h
  exact ⟨D, h1.kept hg hne, h2⟩
theorem Tbl.ext (h : Tbl P k e enc w b n T) (he : Ext w w') : Tbl P k e enc w' b n T :=
  h.kept (row := none) ⟨he.os, he.tape, he.output, he.size, fun k hk _ => Below.block he k hk⟩ (by simp)
theorem Tbl.setCell (h : Tbl P k e enc w b n T) {a : Addr} (ha : b ≠ a.block) (u : Value) : Tbl P k e enc (w.setCell a u) b n T := by
  obtain ⟨D, h1, h2⟩ := h
  exact ⟨D, h1.setCell ha u, h2⟩
theorem Tbl.mono {n' : Nat} (h : Tbl P k e enc w b n T) (hn : n ≤ n') : Tbl P k e enc w b n' T := by
  obtain ⟨D, h1, h2⟩ := h
  exact ⟨D, h1.mono hn, h2⟩
theorem Tbl.lt (h : Tbl P k e enc w b n T) : b < w.heap.size := by
  obtain ⟨D, h1, _⟩ := h
  exact h1.lt
theorem Tbl.ne_row (h : Tbl P k e enc w b n T) {base : Nat} {e' : TypeId} {size : Nat} {v : Value} {m : Nat} {xs : List Value} (ho : w.ownsRow base e' size v m xs) : some b ≠ v.ownBlock := by
  obtain ⟨D, ⟨es, clock, hb, _⟩, _⟩ := h
  rcases ho.2 with ⟨rfl, _⟩ | ⟨g, cap, cur, rfl, _, hg, _⟩
  · simp [Value.ownBlock]
  · intro e
    have : b = g := by simpa [Value.ownBlock] using e
    subst this
    rw [hb] at hg
    cases hg
theorem Tbl.ne_blk (h : Tbl P k e enc w b n T) {g : Nat} {t' : TypeId} {cs : Array Value} (hg : Blk w g t' cs) : b ≠ g := by
  obtain ⟨D, ⟨es, clock, hb, _⟩, _⟩ := h
  rintro rfl
  unfold Blk at hg
  rw [hb] at hg
  cases hg
theorem lit_int_inj {a b : Int} (h : (DataW.lit (.int .i64 a) : DataW Unit) = .lit (.int .i64 b)) : a = b := by
  injection h with h
  injection h
theorem Tbl.lookup (h : Tbl P k e enc w b n T) (M : MapTy P t k e) (a : α) (hk : ∃ l, keyOf P k (enc a) = some l) :
    (Instr.lookup t (.map (some b)) (enc a) false).run P w = .ok (.int .i64 ((T a).getD 0)) w := by
  obtain ⟨D, h1, h2⟩ := h
  obtain ⟨l, hl⟩ := hk
  obtain ⟨c, hrun, hat, _⟩ := h1.lookup_int M.keyed M.und M.el (M.zero w) hl
  rw [(h2 a l hl).2] at hat
  rw [lit_int_inj hat]
  exact hrun
theorem Tbl.lookup2 (h : Tbl P k e enc w b n T) (M : MapTy P t k e) (a : α) (hk : ∃ l, keyOf P k (enc a) = some l) :
    (Instr.lookup t (.map (some b)) (enc a) true).run P w = .ok (.tuple #[.int .i64 ((T a).getD 0), .bool (T a).isSome]) w := by
  obtain ⟨D, h1, h2⟩ := h
  obtain ⟨l, hl⟩ := hk
  obtain ⟨v, ps, hrun, hv⟩ := h1.look_ok M.keyed M.und (M.zero w) (plainElem_int M.el (by decide)) hl
  obtain ⟨c, rfl, hc, _⟩ := plainElem_int_inv M.el hv
  have hc1 := congrArg Prod.fst hc
  simp only at hc1
  rw [(h2 a l hl).2] at hc1
  rw [(h2 a l hl).1, ← lit_int_inj hc1] at hrun
  exact hrun
theorem Tbl.update [DecidableEq α] (h : Tbl P k e enc w b n T) (M : MapTy P t k e) (hinj : ∀ x y, enc x = enc y → x = y) (hn : n < maxLen) (a : α) (hk : ∃ l, keyOf P k (enc a) = some l) (c : Int) (hc : (Lit.int .i64 c).wf = true) :
    ∃ w', (Instr.mapUpdate t (.map (some b)) (enc a) (.int .i64 c)).run P w = .ok () w' ∧ Tbl P k e enc w' b (n + 1) (fun x => if x = a then some c else T x) ∧ w.grownBy w' (some b) := by
  obtain ⟨D, h1, h2⟩ := h
  obtain ⟨l, hl⟩ := hk
  obtain ⟨w', hrun, h3, h4⟩ := h1.update M.keyed M.und hn hl (plainElem_int M.el hc)
  refine ⟨w', hrun, ⟨_, h3, fun x lx hx => ?_⟩, h4⟩
  by_cases e : x = a
  · subst e
    rw [hl] at hx
    injection hx with hx
    subst hx
    rw [has_put_same h1.isMap (M.keyed.key hl), atKey_put_same h1.isMap (M.keyed.key hl)]
    simp
  · have hne : lx ≠ l := fun e' => e (hinj _ _ (M.keyed.inj hx (e' ▸ hl)))
    rw [has_put_other hne, atKey_put_other hne]
    simp only [e, if_false]
    exact h2 x lx hx
end
end Go.Proofs.YtkbpchdncljlbaaGreatDoor
end
