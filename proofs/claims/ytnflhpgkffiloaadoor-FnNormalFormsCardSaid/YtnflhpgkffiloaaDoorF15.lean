/- A list without zeros at its end, in the row of the whole one. No condition.
Plain words: a run of a machine with several tapes stays among valid configurations; the texts of a run. No program runs here.
Plain words on formula tapes: the normal form, and the cells for which a formula tape stands. -/
import Derived.Test.YtnflhpgkffiloaaDoorF08
import Derived.Test.YtnflhpgkffiloaaDoorF11
import Derived.Test.YtnflhpgkffiloaaDoorF14
import Derived.Test.YtnflhpgkffiloaaDoorF13
import Derived.Test.YtnflhpgkffiloaaDoorF10
section
set_option linter.unusedVariables false
namespace Go.Proofs.YtnflhpgkffiloaaDoor
open Go Go.RowKit Go.Proofs
theorem own_trim {base : Nat} {w : World} {A : Option Addr} {c : Nat} {x : List Int} (h : OwnInts base w (.slice A x.length c) x) : OwnInts base w (.slice A (trimN x x.length) c) (trim x) := by
  have hl := trimN_le x x.length
  by_cases hA : A = none
  · subst hA
    rcases h.2 with ⟨e, h0⟩ | ⟨g, cap, cur, e, _⟩
    · injection e with e1 e2 e3
      have hx : x = [] := List.length_eq_zero_iff.1 (by simpa using h0)
      subst hx
      subst e3
      exact h
    · injection e with e1
      cases e1
  · exact h.take _ hl hA
end Go.Proofs.YtnflhpgkffiloaaDoor
end
section
set_option linter.unusedVariables false
set_option linter.unusedSimpArgs false
namespace Go.Proofs.YtnflhpgkffiloaaDoor
open Go Go.RowKit Go.Proofs
theorem trimN_end (xs : List Int) : ∀ n, trimN xs n = 0 ∨ xs.getD (trimN xs n - 1) 0 ≠ 0 := by
  intro n
  induction n with
  | zero => exact .inl rfl
  | succ n ih =>
    unfold trimN
    split
    · exact ih
    · rename_i h
      right
      simpa using h
theorem getD_in {xs : List Int} {hi : Int} (h : ∀ z ∈ xs, 0 ≤ z ∧ z ≤ hi) (h0 : 0 ≤ hi) (k : Nat) : 0 ≤ xs.getD k 0 ∧ xs.getD k 0 ≤ hi := by
  by_cases hk : k < xs.length
  · rw [List.getD_eq_getElem?_getD, List.getElem?_eq_getElem hk]
    exact h _ (List.getElem_mem hk)
  · rw [List.getD_eq_getElem?_getD, List.getElem?_eq_none (by omega)]
    exact ⟨Int.le_refl _, h0⟩
theorem MEnd.one {rs : List MRuleD} {c : MConfD} {N i j : Nat} (h : MEnd rs c N i) (h' : MEnd rs c N j) : i = j := by
  rcases Nat.lt_trichotomy i j with e | e | e
  · rcases h.stop with s | s
    · have := h'.le; omega
    · exact absurd s (h'.runs.no i e)
  · exact e
  · rcases h'.stop with s | s
    · have := h.le; omega
    · exact absurd s (h.runs.no j e)
end Go.Proofs.YtnflhpgkffiloaaDoor
end
section
set_option linter.unusedSimpArgs false
set_option linter.unusedVariables false
namespace Go.Proofs.YtnflhpgkffiloaaDoor
open Go Go.RowKit Go.Proofs
/-- A formula tape: the state, the wall on which the head is and its place there, the walls, the repeaters, the offsets. -/
structure FoD where
  q : Int
  hd : Int
  at_ : Int
  ws : List (List Int)
  rs : List (List Int)
  os : List Int
def wordIn (m : MachD) (w : List Int) (n : Nat) : Bool := decide (w.length ≤ n) && w.all fun z => inB z 0 (m.sy - 1)
def repIn (m : MachD) (w : List Int) : Bool := decide (1 ≤ w.length) && wordIn m w 20
def atOk (f : FoD) : Bool :=
  inB f.at_ 0 (((f.ws.getD f.hd.toNat []).length : Int) - 1) || (decide (f.at_ = ((f.ws.getD f.hd.toNat []).length : Int)) && decide (f.hd < (f.rs.length : Int))) || (decide (f.at_ = -1) && decide (0 < f.hd))
def foOk (m : MachD) (f : FoD) : Bool :=
  inB f.q 0 (m.st - 1) && inB (f.rs.length : Int) 1 3 && decide (f.ws.length = f.rs.length + 1) && decide (f.os.length = f.rs.length) && f.ws.all (fun w => wordIn m w 100) && f.rs.all (repIn m) &&
    f.os.all (fun z => inB z (-1000) 1000) && inB f.hd 0 (f.rs.length : Int) && atOk f
/-- The first wall without blanks at its beginning that are not under the head. -/
def stF (h0 : Bool) : List Int → Int → List Int × Int
  | [], a => ([], a)
  | z :: w, a => if z = 0 ∧ ¬ (h0 = true ∧ a = 0) then stF h0 w (if h0 then a - 1 else a) else (z :: w, a)
/-- The last wall without blanks at its end that are not under the head; the first n symbols are left. -/
def stE (hl : Bool) (a : Int) (w : List Int) : Nat → List Int
  | 0 => []
  | n + 1 => if w.getD n 0 = 0 ∧ ¬ (hl = true ∧ a = n) then stE hl a w n else w.take (n + 1)
def stripFo (f : FoD) : FoD :=
  let p := stF (decide (f.hd = 0)) (f.ws.getD 0 []) f.at_
  let ws := f.ws.set 0 p.1
  let l := ws.length - 1
  ⟨f.q, f.hd, p.2, ws.set l (stE (decide (f.hd = (l : Int))) p.2 (ws.getD l []) (ws.getD l []).length), f.rs, f.os⟩
structure Ro where
  u : List Int
  v : List Int
  x : List Int
  a : Int
/-- Symbols go from the wall u over the repeater v to the wall x. -/
def rotR (h0 h1 : Bool) : Nat → List Int → List Int → List Int → Int → Ro
  | 0, u, v, x, a => ⟨u, v, x, a⟩
  | k + 1, u, v, x, a =>
    if u.getD k 0 = v.getD (v.length - 1) 0 ∧ ¬ (h0 = true ∧ a = k) then rotR h0 h1 k (u.take k) (v.drop (v.length - 1) ++ v.take (v.length - 1)) (u.getD k 0 :: x) (if h1 then a + 1 else a)
    else ⟨u, v, x, a⟩
structure Ab where
  x : List Int
  a : Int
  o : Int
def begB (x v : List Int) : Bool := decide (v.length ≤ x.length) && lEq (x.take v.length) v
/-- The repeater v takes its words from the wall x. -/
def absR (h1 : Bool) (v : List Int) : Nat → List Int → Int → Int → Ab
  | 0, x, a, o => ⟨x, a, o⟩
  | k + 1, x, a, o =>
    if begB x v = true ∧ ¬ (h1 = true ∧ a < v.length) then absR h1 v k (x.drop v.length) (if h1 then a - v.length else a) (o + 1) else ⟨x, a, o⟩
/-- The head is on a repeater. -/
def touchB (f : FoD) (i : Int) : Bool :=
  (decide (f.at_ = -1) && decide (f.hd - 1 = i)) || (!decide (f.at_ = -1) && decide (f.at_ = ((f.ws.getD f.hd.toNat []).length : Int)) && decide (f.hd = i))
def rotAt (f : FoD) (i : Nat) : FoD :=
  if touchB f i then f else
    let R := rotR (decide (f.hd = (i : Int))) (decide (f.hd = (i : Int) + 1)) (f.ws.getD i []).length (f.ws.getD i []) (f.rs.getD i []) (f.ws.getD (i + 1) []) f.at_
    ⟨f.q, f.hd, R.a, (f.ws.set i R.u).set (i + 1) R.x, f.rs.set i R.v, f.os⟩
def absAt (f : FoD) (i : Nat) : FoD :=
  if touchB f i then f else
    let R := absR (decide (f.hd = (i : Int) + 1)) (f.rs.getD i []) (f.ws.getD (i + 1) []).length (f.ws.getD (i + 1) []) f.at_ (f.os.getD i 0)
    ⟨f.q, f.hd, R.a, f.ws.set (i + 1) R.x, f.rs, f.os.set i R.o⟩
def normFo (f : FoD) : FoD := (List.range f.rs.length).foldl absAt ((List.range f.rs.length).foldl rotAt (stripFo f))
/-- The cells. -/
def repL (r : List Int) (e : Nat) : List Int := (List.replicate e r).flatten
theorem repL_succ (r : List Int) (e : Nat) : repL r (e + 1) = r ++ repL r e := by simp [repL, List.replicate_succ]
theorem repL_snoc (r : List Int) (e : Nat) : repL r (e + 1) = repL r e ++ r := by simp [repL, List.replicate_succ']
theorem repL_length (r : List Int) (e : Nat) : (repL r e).length = e * r.length := by
  induction e with
  | zero => simp [repL]
  | succ e ih => rw [repL_succ, List.length_append, ih, Nat.succ_mul, Nat.add_comm]
def preF : List (List Int) → List (List Int) → List Nat → List Int
  | w :: ws, r :: rs, e :: es => w ++ repL r e ++ preF ws rs es
  | _, _, _ => []
def tapeF : List (List Int) → List (List Int) → List Nat → List Int
  | w :: ws, r :: rs, e :: es => w ++ repL r e ++ tapeF ws rs es
  | w :: _, _, _ => w
  | [], _, _ => []
def hoff (ws rs : List (List Int)) (es : List Nat) (k : Nat) : Nat := (preF (ws.take k) (rs.take k) (es.take k)).length
/-- The cell at a place of a list, blank beyond its ends. -/
def cellZ (l : List Int) (i : Int) : Int := if i < 0 then 0 else l.getD i.toNat 0
def SameL (l : List Int) (h : Int) (l' : List Int) (h' : Int) : Prop := ∀ i : Int, cellZ l (h + i) = cellZ l' (h' + i)
theorem SameL.refl (l : List Int) (h : Int) : SameL l h l h := fun _ => rfl
theorem SameL.trans {l l' l'' : List Int} {h h' h'' : Int} (a : SameL l h l' h') (b : SameL l' h' l'' h'') : SameL l h l'' h'' := fun i => (a i).trans (b i)
theorem cellZ_cons (z : Int) (l : List Int) (i : Int) : cellZ (z :: l) i = if i = 0 then z else cellZ l (i - 1) := by
  unfold cellZ
  by_cases h : i < 0
  · rw [if_pos h, if_neg (by omega), if_pos (by omega)]
  · rw [if_neg h]
    by_cases h0 : i = 0
    · subst h0; rfl
    · rw [if_neg h0, if_neg (by omega)]
      have e : i.toNat = (i - 1).toNat + 1 := by omega
      rw [e]
      rfl
theorem SameL.front (l : List Int) (h : Int) : SameL (0 :: l) h l (h - 1) := fun i => by
  rw [cellZ_cons]
  split
  · rename_i e
    unfold cellZ
    rw [if_pos (by omega)]
  · congr 1
    omega
theorem SameL.back (l : List Int) (h : Int) : SameL (l ++ [0]) h l h := fun i => by
  unfold cellZ
  by_cases c : h + i < 0
  · rw [if_pos c, if_pos c]
  · rw [if_neg c, if_neg c, List.getD_eq_getElem?_getD, List.getD_eq_getElem?_getD]
    rcases Nat.lt_trichotomy (h + i).toNat l.length with d | d | d
    · rw [List.getElem?_append_left d]
    · rw [d, List.getElem?_append_right (Nat.le_refl _), List.getElem?_eq_none (Nat.le_refl _)]
      simp
    · rw [List.getElem?_eq_none (by simp; omega), List.getElem?_eq_none (by omega)]
theorem preF_append : ∀ (A B : List (List Int)) (E : List Nat) (W R : List (List Int)) (F : List Nat), A.length = B.length → A.length = E.length → preF (A ++ W) (B ++ R) (E ++ F) = preF A B E ++ preF W R F
  | [], [], [], W, R, F, _, _ => rfl
  | a :: A, b :: B, e :: E, W, R, F, h1, h2 => by
    have := preF_append A B E W R F (by simpa using h1) (by simpa using h2)
    simp only [List.cons_append, preF, this, List.append_assoc]
theorem tapeF_append : ∀ (A B : List (List Int)) (E : List Nat) (W R : List (List Int)) (F : List Nat), A.length = B.length → A.length = E.length → tapeF (A ++ W) (B ++ R) (E ++ F) = preF A B E ++ tapeF W R F
  | [], [], [], W, R, F, _, _ => rfl
  | a :: A, b :: B, e :: E, W, R, F, h1, h2 => by
    have := tapeF_append A B E W R F (by simpa using h1) (by simpa using h2)
    simp only [List.cons_append, tapeF, preF, this, List.append_assoc]
theorem tapeF_front (p w : List Int) (C D : List (List Int)) (F : List Nat) : tapeF ((p ++ w) :: C) D F = p ++ tapeF (w :: C) D F := by
  cases D with
  | nil => rfl
  | cons d D =>
    cases F with
    | nil => rfl
    | cons f F => simp only [tapeF, List.append_assoc]
theorem preF_front (p w : List Int) (C D : List (List Int)) (F : List Nat) (h1 : D ≠ []) (h2 : F ≠ []) : (preF ((p ++ w) :: C) D F).length = p.length + (preF (w :: C) D F).length := by
  cases D with
  | nil => exact absurd rfl h1
  | cons d D =>
    cases F with
    | nil => exact absurd rfl h2
    | cons f F => simp only [preF, List.length_append]; omega
theorem rep_turn (s : Int) (v : List Int) : ∀ e, s :: repL (v ++ [s]) e = repL (s :: v) e ++ [s]
  | 0 => rfl
  | e + 1 => by
    have := rep_turn s v e
    rw [repL_succ, repL_succ]
    simp only [List.append_assoc, List.cons_append, List.nil_append]
    rw [this]
/-- The place of the i-th repeater between its walls: the tape and where the k-th wall begins. -/
structure Cut3 (A B : List (List Int)) (E : List Nat) (C D : List (List Int)) (F : List Nat) : Prop where
  b : A.length = B.length
  e : A.length = E.length
  d : C.length = D.length
  f : C.length = F.length
theorem Cut3.rot_tape {A B C D : List (List Int)} {E F : List Nat} (h : Cut3 A B E C D F) (u v x : List Int) (s : Int) (e : Nat) :
    tapeF (A ++ (u ++ [s]) :: x :: C) (B ++ (v ++ [s]) :: D) (E ++ e :: F) = tapeF (A ++ u :: (s :: x) :: C) (B ++ (s :: v) :: D) (E ++ e :: F) := by
  rw [tapeF_append _ _ _ _ _ _ h.b h.e, tapeF_append _ _ _ _ _ _ h.b h.e]
  congr 1
  show (u ++ [s]) ++ repL (v ++ [s]) e ++ tapeF (x :: C) D F = u ++ repL (s :: v) e ++ tapeF (([s] ++ x) :: C) D F
  rw [tapeF_front]
  have := rep_turn s v e
  simp only [List.append_assoc, List.singleton_append, List.cons_append, List.nil_append]
  congr 1
  rw [← List.cons_append, this]
  simp
theorem Cut3.abs_tape {A B C D : List (List Int)} {E F : List Nat} (h : Cut3 A B E C D F) (u v x : List Int) (e : Nat) :
    tapeF (A ++ u :: (v ++ x) :: C) (B ++ v :: D) (E ++ e :: F) = tapeF (A ++ u :: x :: C) (B ++ v :: D) (E ++ (e + 1) :: F) := by
  rw [tapeF_append _ _ _ _ _ _ h.b h.e, tapeF_append _ _ _ _ _ _ h.b h.e]
  congr 1
  show u ++ repL v e ++ tapeF ((v ++ x) :: C) D F = u ++ repL v (e + 1) ++ tapeF (x :: C) D F
  rw [tapeF_front, repL_snoc]
  simp
theorem hoff_low {A B : List (List Int)} {E : List Nat} (W W' R R' : List (List Int)) (F F' : List Nat) (h1 : A.length = B.length) (h2 : A.length = E.length) {k : Nat} (hk : k ≤ A.length) : hoff (A ++ W) (B ++ R) (E ++ F) k = hoff (A ++ W') (B ++ R') (E ++ F') k := by
  unfold hoff
  rw [List.take_append_of_le_length hk, List.take_append_of_le_length (by omega), List.take_append_of_le_length (by omega), List.take_append_of_le_length hk, List.take_append_of_le_length (by omega), List.take_append_of_le_length (by omega)]
theorem hoff_mid {A B : List (List Int)} {E : List Nat} (u : List Int) (W : List (List Int)) (v : List Int) (R : List (List Int)) (e : Nat) (F : List Nat) (h1 : A.length = B.length) (h2 : A.length = E.length) :
    hoff (A ++ u :: W) (B ++ v :: R) (E ++ e :: F) (A.length + 1) = (preF A B E).length + u.length + e * v.length := by
  unfold hoff
  have t : ∀ {α : Type} (X : List α) (y : α) (Y : List α), (X ++ y :: Y).take (X.length + 1) = X ++ [y] := fun X y Y => by
    rw [List.take_append, List.take_of_length_le (by omega)]; simp
  rw [t, h1, t, ← h1, h2, t, preF_append _ _ _ _ _ _ h1 h2]
  simp [preF, repL_length]
  omega
theorem hoff_high {A B : List (List Int)} {E : List Nat} (u x : List Int) (C : List (List Int)) (v : List Int) (D : List (List Int)) (e : Nat) (F : List Nat) (h : Cut3 A B E C D F) (k : Nat) (hk : k < C.length) :
    ∃ z, ∀ u' x' v' e', u'.length + e' * v'.length + x'.length = u.length + e * v.length + x.length → hoff (A ++ u' :: x' :: C) (B ++ v' :: D) (E ++ e' :: F) (A.length + 2 + k) = z := by
  have t : ∀ {α : Type} (X : List α) (y y' : α) (Y : List α) (k : Nat), (X ++ y :: y' :: Y).take (X.length + 2 + k) = X ++ y :: y' :: Y.take k := fun X y y' Y k => by
    rw [List.take_append, List.take_of_length_le (by omega)]
    congr 1
    rw [show X.length + 2 + k - X.length = k + 2 by omega]
    rfl
  obtain ⟨d, D', rfl⟩ : ∃ d D', D = d :: D' := by
    cases D with
    | nil => have := h.d; rw [List.length_nil] at this; omega
    | cons d D => exact ⟨d, D, rfl⟩
  obtain ⟨f, F', rfl⟩ : ∃ f F', F = f :: F' := by
    cases F with
    | nil => have := h.f; rw [List.length_nil] at this; omega
    | cons f F => exact ⟨f, F, rfl⟩
  refine ⟨hoff (A ++ u :: x :: C) (B ++ v :: d :: D') (E ++ e :: f :: F') (A.length + 2 + k), fun u' x' v' e' hl => ?_⟩
  unfold hoff
  rw [t, t, h.b, t, t, ← h.b, h.e, t, t, preF_append _ _ _ _ _ _ h.b h.e, preF_append _ _ _ _ _ _ h.b h.e]
  simp only [preF, List.length_append, repL_length]
  omega
end Go.Proofs.YtnflhpgkffiloaaDoor
end
