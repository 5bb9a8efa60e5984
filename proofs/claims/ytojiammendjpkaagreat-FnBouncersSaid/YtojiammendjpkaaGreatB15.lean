/- Plain words on formula tapes: the normal form, and the cells for which a formula tape stands.
Plain words: the normal form of a formula tape stands for the same cells.
Plain words: the normal form of a formula tape stands for the same configuration. -/
import Derived.Test.YtojiammendjpkaaGreatB09
import Derived.Test.YtojiammendjpkaaGreatB14
section
set_option linter.unusedSimpArgs false
set_option linter.unusedVariables false
namespace Go.Proofs.YtojiammendjpkaaGreat
open Go Go.RowKit Go.Proofs
/-- A formula tape: the state, the wall on which the head is and its place there, the walls, the repeaters, the offsets. -/
structure FoD where
  q : Int
  hd : Int
  at_ : Int
  ws : List (List Int)
  rs : List (List Int)
  os : List Int
def wordIn (m : MachD) (w : List Int) (n : Nat) : Bool := decide (w.length ≤ n) && w.all fun z => inB z 0 (m.sy - 1)
def repIn (m : MachD) (w : List Int) : Bool := decide (1 ≤ w.length) && wordIn m w 20
def atOk (f : FoD) : Bool :=
  inB f.at_ 0 (((f.ws.getD f.hd.toNat []).length : Int) - 1) || (decide (f.at_ = ((f.ws.getD f.hd.toNat []).length : Int)) && decide (f.hd < (f.rs.length : Int))) || (decide (f.at_ = -1) && decide (0 < f.hd))
def foOk (m : MachD) (f : FoD) : Bool :=
  inB f.q 0 (m.st - 1) && inB (f.rs.length : Int) 1 3 && decide (f.ws.length = f.rs.length + 1) && decide (f.os.length = f.rs.length) && f.ws.all (fun w => wordIn m w 100) && f.rs.all (repIn m) &&
    f.os.all (fun z => inB z (-1000) 1000) && inB f.hd 0 (f.rs.length : Int) && atOk f
/-- The first wall without blanks at its beginning that are not under the head. -/
def stF (h0 : Bool) : List Int → Int → List Int × Int
  | [], a => ([], a)
  | z :: w, a => if z = 0 ∧ ¬ (h0 = true ∧ a = 0) then stF h0 w (if h0 then a - 1 else a) else (z :: w, a)
/-- The last wall without blanks at its end that are not under the head; the first n symbols are left. -/
def stE (hl : Bool) (a : Int) (w : List Int) : Nat → List Int
  | 0 => []
  | n + 1 => if w.getD n 0 = 0 ∧ ¬ (hl = true ∧ a = n) then stE hl a w n else w.take (n + 1)
def stripFo (f : FoD) : FoD :=
  let p := stF (decide (f.hd = 0)) (f.ws.getD 0 []) f.at_
  let ws := f.ws.set 0 p.1
  let l := ws.length - 1
  ⟨f.q, f.hd, p.2, ws.set l (stE (decide (f.hd = (l : Int))) p.2 (ws.getD l []) (ws.getD l []).length), f.rs, f.os⟩
structure Ro where
  u : List Int
  v : List Int
  x : List Int
  a : Int
/-- Symbols go from the wall u over the repeater v to the wall x. -/
def rotR (h0 h1 : Bool) : Nat → List Int → List Int → List Int → Int → Ro
  | 0, u, v, x, a => ⟨u, v, x, a⟩
  | k + 1, u, v, x, a =>
    if u.getD k 0 = v.getD (v.length - 1) 0 ∧ ¬ (h0 = true ∧ a = k) then rotR h0 h1 k (u.take k) (v.drop (v.length - 1) ++ v.take (v.length - 1)) (u.getD k 0 :: x) (if h1 then a + 1 else a)
    else ⟨u, v, x, a⟩
structure Ab where
  x : List Int
  a : Int
  o : Int
def begB (x v : List Int) : Bool := decide (v.length ≤ x.length) && lEq (x.take v.length) v
/-- The repeater v takes its words from the wall x. -/
def absR (h1 : Bool) (v : List Int) : Nat → List Int → Int → Int → Ab
  | 0, x, a, o => ⟨x, a, o⟩
  | k + 1, x, a, o =>
    if begB x v = true ∧ ¬ (h1 = true ∧ a < v.length) then absR h1 v k (x.drop v.length) (if h1 then a - v.length else a) (o + 1) else ⟨x, a, o⟩
/-- The head is on a repeater. -/
def touchB (f : FoD) (i : Int) : Bool :=
  (decide (f.at_ = -1) && decide (f.hd - 1 = i)) || (!decide (f.at_ = -1) && decide (f.at_ = ((f.ws.getD f.hd.toNat []).length : Int)) && decide (f.hd = i))
def rotAt (f : FoD) (i : Nat) : FoD :=
  if touchB f i then f else
    let R := rotR (decide (f.hd = (i : Int))) (decide (f.hd = (i : Int) + 1)) (f.ws.getD i []).length (f.ws.getD i []) (f.rs.getD i []) (f.ws.getD (i + 1) []) f.at_
    ⟨f.q, f.hd, R.a, (f.ws.set i R.u).set (i + 1) R.x, f.rs.set i R.v, f.os⟩
def absAt (f : FoD) (i : Nat) : FoD :=
  if touchB f i then f else
    let R := absR (decide (f.hd = (i : Int) + 1)) (f.rs.getD i []) (f.ws.getD (i + 1) []).length (f.ws.getD (i + 1) []) f.at_ (f.os.getD i 0)
    ⟨f.q, f.hd, R.a, f.ws.set (i + 1) R.x, f.rs, f.os.set i R.o⟩
def normFo (f : FoD) : FoD := (List.range f.rs.length).foldl absAt ((List.range f.rs.length).foldl rotAt (stripFo f))
/-- The cells. -/
def repL (r : List Int) (e : Nat) : List Int := (List.replicate e r).flatten
theorem repL_succ (r : List Int) (e : Nat) : repL r (e + 1) = r ++ repL r e := by simp [repL, List.replicate_succ]
theorem repL_snoc (r : List Int) (e : Nat) : repL r (e + 1) = repL r e ++ r := by simp [repL, List.replicate_succ']
theorem repL_length (r : List Int) (e : Nat) : (repL r e).length = e * r.length := by
  induction e with
  | zero => simp [repL]
  | succ e ih => rw [repL_succ, List.length_append, ih, Nat.succ_mul, Nat.add_comm]
def preF : List (List Int) → List (List Int) → List Nat → List Int
  | w :: ws, r :: rs, e :: es => w ++ repL r e ++ preF ws rs es
  | _, _, _ => []
def tapeF : List (List Int) → List (List Int) → List Nat → List Int
  | w :: ws, r :: rs, e :: es => w ++ repL r e ++ tapeF ws rs es
  | w :: _, _, _ => w
  | [], _, _ => []
def hoff (ws rs : List (List Int)) (es : List Nat) (k : Nat) : Nat := (preF (ws.take k) (rs.take k) (es.take k)).length
/-- The cell at a place of a list, blank beyond its ends. -/
def cellZ (l : List Int) (i : Int) : Int := if i < 0 then 0 else l.getD i.toNat 0
def SameL (l : List Int) (h : Int) (l' : List Int) (h' : Int) : Prop := ∀ i : Int, cellZ l (h + i) = cellZ l' (h' + i)
theorem SameL.refl (l : List Int) (h : Int) : SameL l h l h := fun _ => rfl
theorem SameL.trans {l l' l'' : List Int} {h h' h'' : Int} (a : SameL l h l' h') (b : SameL l' h' l'' h'') : SameL l h l'' h'' := fun i => (a i).trans (b i)
theorem cellZ_cons (z : Int) (l : List Int) (i : Int) : cellZ (z :: l) i = if i = 0 then z else cellZ l (i - 1) := by
  unfold cellZ
  by_cases h : i < 0
  · rw [if_pos h, if_neg (by omega), if_pos (by omega)]
  · rw [if_neg h]
    by_cases h0 : i = 0
    · subst h0; rfl
    · rw [if_neg h0, if_neg (by omega)]
      have e : i.toNat = (i - 1).toNat + 1 := by omega
      rw [e]
      rfl
theorem SameL.front (l : List Int) (h : Int) : SameL (0 :: l) h l (h - 1) := fun i => by
  rw [cellZ_cons]
  split
  · rename_i e
    unfold cellZ
    rw [if_pos (by omega)]
  · congr 1
    omega
theorem SameL.back (l : List Int) (h : Int) : SameL (l ++ [0]) h l h := fun i => by
  unfold cellZ
  by_cases c : h + i < 0
  · rw [if_pos c, if_pos c]
  · rw [if_neg c, if_neg c, List.getD_eq_getElem?_getD, List.getD_eq_getElem?_getD]
    rcases Nat.lt_trichotomy (h + i).toNat l.length with d | d | d
    · rw [List.getElem?_append_left d]
    · rw [d, List.getElem?_append_right (Nat.le_refl _), List.getElem?_eq_none (Nat.le_refl _)]
      simp
    · rw [List.getElem?_eq_none (by simp; omega), List.getElem?_eq_none (by omega)]
theorem preF_append : ∀ (A B : List (List Int)) (E : List Nat) (W R : List (List Int)) (F : List Nat), A.length = B.length → A.length = E.length → preF (A ++ W) (B ++ R) (E ++ F) = preF A B E ++ preF W R F
  | [], [], [], W, R, F, _, _ => rfl
  | a :: A, b :: B, e :: E, W, R, F, h1, h2 => by
    have := preF_append A B E W R F (by simpa using h1) (by simpa using h2)
    simp only [List.cons_append, preF, this, List.append_assoc]
theorem tapeF_append : ∀ (A B : List (List Int)) (E : List Nat) (W R : List (List Int)) (F : List Nat), A.length = B.length → A.length = E.length → tapeF (A ++ W) (B ++ R) (E ++ F) = preF A B E ++ tapeF W R F
  | [], [], [], W, R, F, _, _ => rfl
  | a :: A, b :: B, e :: E, W, R, F, h1, h2 => by
    have := tapeF_append A B E W R F (by simpa using h1) (by simpa using h2)
    simp only [List.cons_append, tapeF, preF, this, List.append_assoc]
theorem tapeF_front (p w : List Int) (C D : List (List Int)) (F : List Nat) : tapeF ((p ++ w) :: C) D F = p ++ tapeF (w :: C) D F := by
  cases D with
  | nil => rfl
  | cons d D =>
    cases F with
    | nil => rfl
    | cons f F => simp only [tapeF, List.append_assoc]
theorem preF_front (p w : List Int) (C D : List (List Int)) (F : List Nat) (h1 : D ≠ []) (h2 : F ≠ []) : (preF ((p ++ w) :: C) D F).length = p.length + (preF (w :: C) D F).length := by
  cases D with
  | nil => exact absurd rfl h1
  | cons d D =>
    cases F with
    | nil => exact absurd rfl h2
    | cons f F => simp only [preF, List.length_append]; omega
theorem rep_turn (s : Int) (v : List Int) : ∀ e, s :: repL (v ++ [s]) e = repL (s :: v) e ++ [s]
  | 0 => rfl
  | e + 1 => by
    have := rep_turn s v e
    rw [repL_succ, repL_succ]
    simp only [List.append_assoc, List.cons_append, List.nil_append]
    rw [this]
/-- The place of the i-th repeater between its walls: the tape and where the k-th wall begins. -/
structure Cut3 (A B : List (List Int)) (E : List Nat) (C D : List (List Int)) (F : List Nat) : Prop where
  b : A.length = B.length
  e : A.length = E.length
  d : C.length = D.length
  f : C.length = F.length
theorem Cut3.rot_tape {A B C D : List (List Int)} {E F : List Nat} (h : Cut3 A B E C D F) (u v x : List Int) (s : Int) (e : Nat) :
    tapeF (A ++ (u ++ [s]) :: x :: C) (B ++ (v ++ [s]) :: D) (E ++ e :: F) = tapeF (A ++ u :: (s :: x) :: C) (B ++ (s :: v) :: D) (E ++ e :: F) := by
  rw [tapeF_append _ _ _ _ _ _ h.b h.e, tapeF_append _ _ _ _ _ _ h.b h.e]
  congr 1
  show (u ++ [s]) ++ repL (v ++ [s]) e ++ tapeF (x :: C) D F = u ++ repL (s :: v) e ++ tapeF (([s] ++ x) :: C) D F
  rw [tapeF_front]
  have := rep_turn s v e
  simp only [List.append_assoc, List.singleton_append, List.cons_append, List.nil_append]
  congr 1
  rw [← List.cons_append, this]
  simp
theorem Cut3.abs_tape {A B C D : List (List Int)} {E F : List Nat} (h : Cut3 A B E C D F) (u v x : List Int) (e : Nat) :
    tapeF (A ++ u :: (v ++ x) :: C) (B ++ v :: D) (E ++ e :: F) = tapeF (A ++ u :: x :: C) (B ++ v :: D) (E ++ (e + 1) :: F) := by
  rw [tapeF_append _ _ _ _ _ _ h.b h.e, tapeF_append _ _ _ _ _ _ h.b h.e]
  congr 1
  show u ++ repL v e ++ tapeF ((v ++ x) :: C) D F = u ++ repL v (e + 1) ++ tapeF (x :: C) D F
  rw [tapeF_front, repL_snoc]
  simp
theorem hoff_low {A B : List (List Int)} {E : List Nat} (W W' R R' : List (List Int)) (F F' : List Nat) (h1 : A.length = B.length) (h2 : A.length = E.length) {k : Nat} (hk : k ≤ A.length) : hoff (A ++ W) (B ++ R) (E ++ F) k = hoff (A ++ W') (B ++ R') (E ++ F') k := by
  unfold hoff
  rw [List.take_append_of_le_length hk, List.take_append_of_le_length (by omega), List.take_append_of_le_length (by omega), List.take_append_of_le_length hk, List.take_append_of_le_length (by omega), List.take_append_of_le_length (by omega)]
theorem hoff_mid {A B : List (List Int)} {E : List Nat} (u : List Int) (W : List (List Int)) (v : List Int) (R : List (List Int)) (e : Nat) (F : List Nat) (h1 : A.length = B.length) (h2 : A.length = E.length) :
    hoff (A ++ u :: W) (B ++ v :: R) (E ++ e :: F) (A.length + 1) = (preF A B E).length + u.length + e * v.length := by
  unfold hoff
  have t : ∀ {α : Type} (X : List α) (y : α) (Y : List α), (X ++ y :: Y).take (X.length + 1) = X ++ [y] := fun X y Y => by
    rw [List.take_append, List.take_of_length_le (by omega)]; simp
  rw [t, h1, t, ← h1, h2, t, preF_append _ _ _ _ _ _ h1 h2]
  simp [preF, repL_length]
  omega
theorem hoff_high {A B : List (List Int)} {E : List Nat} (u x : List Int) (C : List (List Int)) (v : List Int) (D : List (List Int)) (e : Nat) (F : List Nat) (h : Cut3 A B E C D F) (k : Nat) (hk : k < C.length) :
    ∃ z, ∀ u' x' v' e', u'.length + e' * v'.length + x'.length = u.length + e * v.length + x.length → hoff (A ++ u' :: x' :: C) (B ++ v' :: D) (E ++ e' :: F) (A.length + 2 + k) = z := by
  have t : ∀ {α : Type} (X : List α) (y y' : α) (Y : List α) (k : Nat), (X ++ y :: y' :: Y).take (X.length + 2 + k) = X ++ y :: y' :: Y.take k := fun X y y' Y k => by
    rw [List.take_append, List.take_of_length_le (by omega)]
    congr 1
    rw [show X.length + 2 + k - X.length = k + 2 by omega]
    rfl
  obtain ⟨d, D', rfl⟩ : ∃ d D', D = d :: D' := by
    cases D with
    | nil => have := h.d; rw [List.length_nil] at this; omega
    | cons d D => exact ⟨d, D, rfl⟩
  obtain ⟨f, F', rfl⟩ : ∃ f F', F = f :: F' := by
    cases F with
    | nil => have := h.f; rw [List.length_nil] at this; omega
    | cons f F => exact ⟨f, F, rfl⟩
  refine ⟨hoff (A ++ u :: x :: C) (B ++ v :: d :: D') (E ++ e :: f :: F') (A.length + 2 + k), fun u' x' v' e' hl => ?_⟩
  unfold hoff
  rw [t, t, h.b, t, t, ← h.b, h.e, t, t, preF_append _ _ _ _ _ _ h.b h.e, preF_append _ _ _ _ _ _ h.b h.e]
  simp only [preF, List.length_append, repL_length]
  omega
end Go.Proofs.YtojiammendjpkaaGreat
end
section
set_option linter.unusedSimpArgs false
set_option linter.unusedVariables false
namespace Go.Proofs.YtojiammendjpkaaGreat
open Go Go.RowKit Go.Proofs
/-- How often each repeater is repeated. -/
def esF : List Int → List Int → List Nat
  | c :: cs, o :: os => (c + o).toNat :: esF cs os
  | _, _ => []
theorem esF_length : ∀ (cs os : List Int), cs.length = os.length → (esF cs os).length = os.length
  | [], [], _ => rfl
  | c :: cs, o :: os, h => by simp only [esF, List.length_cons, esF_length cs os (by simpa using h)]
theorem esF_append : ∀ (cs os cs' os' : List Int), cs.length = os.length → esF (cs ++ cs') (os ++ os') = esF cs os ++ esF cs' os'
  | [], [], _, _, _ => rfl
  | c :: cs, o :: os, cs', os', h => by simp only [List.cons_append, esF, esF_append cs os cs' os' (by simpa using h)]
def tapeO (f : FoD) (cs : List Int) : List Int := tapeF f.ws f.rs (esF cs f.os)
def headO (f : FoD) (cs : List Int) : Int := (hoff f.ws f.rs (esF cs f.os) f.hd.toNat : Nat) + f.at_
/-- The lists have fitting lengths. -/
structure ShapeF (f : FoD) (cs : List Int) : Prop where
  r1 : 1 ≤ f.rs.length
  ws : f.ws.length = f.rs.length + 1
  os : f.os.length = f.rs.length
  cn : cs.length = f.rs.length
  h0 : 0 ≤ f.hd
  h1 : f.hd ≤ f.rs.length
  pos : ∀ k, k < f.rs.length → 0 ≤ cs.getD k 0 + f.os.getD k 0
/-- Two formula tapes stand for the same cells. -/
structure SameFo (cs : List Int) (f g : FoD) : Prop where
  q : g.q = f.q
  hd : g.hd = f.hd
  ws : g.ws.length = f.ws.length
  rs : g.rs.length = f.rs.length
  os : g.os.length = f.os.length
  ge : ∀ k, f.os.getD k 0 ≤ g.os.getD k 0
  tape : SameL (tapeO f cs) (headO f cs) (tapeO g cs) (headO g cs)
theorem SameFo.refl (cs : List Int) (f : FoD) : SameFo cs f f := ⟨rfl, rfl, rfl, rfl, rfl, fun _ => Int.le_refl _, SameL.refl _ _⟩
theorem SameFo.trans {cs : List Int} {f g h : FoD} (a : SameFo cs f g) (b : SameFo cs g h) : SameFo cs f h :=
  ⟨b.q.trans a.q, b.hd.trans a.hd, b.ws.trans a.ws, b.rs.trans a.rs, b.os.trans a.os, fun k => Int.le_trans (a.ge k) (b.ge k), a.tape.trans b.tape⟩
theorem SameFo.shape {cs : List Int} {f g : FoD} (h : SameFo cs f g) (s : ShapeF f cs) : ShapeF g cs :=
  ⟨by rw [h.rs]; exact s.r1, by rw [h.ws, h.rs]; exact s.ws, by rw [h.os, h.rs]; exact s.os, by rw [h.rs]; exact s.cn, by rw [h.hd]; exact s.h0, by rw [h.hd, h.rs]; exact s.h1, fun k hk => by
    have := s.pos k (by rw [← h.rs]; exact hk)
    have := h.ge k
    omega⟩
theorem set_mid {α : Type} : ∀ (A : List α) (u u' : α) (W : List α), (A ++ u :: W).set A.length u' = A ++ u' :: W
  | [], _, _, _ => rfl
  | a :: A, u, u', W => by simp only [List.cons_append, List.length_cons, List.set_cons_succ, set_mid A u u' W]
theorem set_mid1 {α : Type} : ∀ (A : List α) (u x x' : α) (W : List α), (A ++ u :: x :: W).set (A.length + 1) x' = A ++ u :: x' :: W
  | [], _, _, _, _ => rfl
  | a :: A, u, x, x', W => by simp only [List.cons_append, List.length_cons, List.set_cons_succ, set_mid1 A u x x' W]
theorem getD_mid {α : Type} (A : List α) (u d : α) (W : List α) : (A ++ u :: W).getD A.length d = u := by
  rw [List.getD_eq_getElem?_getD, List.getElem?_append_right (Nat.le_refl _)]; simp
theorem getD_mid1 {α : Type} (A : List α) (u x d : α) (W : List α) : (A ++ u :: x :: W).getD (A.length + 1) d = x := by
  rw [List.getD_eq_getElem?_getD, List.getElem?_append_right (by omega)]; simp
theorem split_mid {α : Type} {xs : List α} {i : Nat} (h : i < xs.length) : ∃ A u W, xs = A ++ u :: W ∧ A.length = i :=
  ⟨xs.take i, xs[i], xs.drop (i + 1), by rw [← List.drop_eq_getElem_cons h, List.take_append_drop], by rw [List.length_take]; omega⟩
theorem last_split {u : List Int} {k : Nat} (h : u.length = k + 1) : u = u.take k ++ [u.getD k 0] := by
  have hk : k < u.length := by omega
  have e : u.getD k 0 = u[k] := by rw [List.getD_eq_getElem?_getD, List.getElem?_eq_getElem hk]; rfl
  rw [e]
  have := List.take_succ_eq_append_getElem hk
  rw [← this, List.take_of_length_le (by omega)]
/-- A wall's symbols go over a repeater. -/
theorem rotR_same {A B C D : List (List Int)} {E F : List Nat} (h : Cut3 A B E C D F) (e : Nat) (hd : Nat) (hhd : hd ≤ A.length + 1 + C.length) : ∀ (k : Nat) (u v x : List Int) (a : Int), u.length = k → v ≠ [] →
    tapeF (A ++ (rotR (decide (hd = A.length)) (decide (hd = A.length + 1)) k u v x a).u :: (rotR (decide (hd = A.length)) (decide (hd = A.length + 1)) k u v x a).x :: C) (B ++ (rotR (decide (hd = A.length)) (decide (hd = A.length + 1)) k u v x a).v :: D) (E ++ e :: F) = tapeF (A ++ u :: x :: C) (B ++ v :: D) (E ++ e :: F) ∧
    ((hoff (A ++ (rotR (decide (hd = A.length)) (decide (hd = A.length + 1)) k u v x a).u :: (rotR (decide (hd = A.length)) (decide (hd = A.length + 1)) k u v x a).x :: C) (B ++ (rotR (decide (hd = A.length)) (decide (hd = A.length + 1)) k u v x a).v :: D) (E ++ e :: F) hd : Nat) : Int) + (rotR (decide (hd = A.length)) (decide (hd = A.length + 1)) k u v x a).a = (hoff (A ++ u :: x :: C) (B ++ v :: D) (E ++ e :: F) hd : Nat) + a := by
  intro k
  induction k with
  | zero => intro u v x a hu hv; exact ⟨rfl, rfl⟩
  | succ k ih =>
    intro u v x a hu hv
    unfold rotR
    split
    · rename_i hc
      obtain ⟨hc, _⟩ := hc
      have hvl : 0 < v.length := List.length_pos_iff.2 hv
      have hv2 : v = v.take (v.length - 1) ++ [v.getD (v.length - 1) 0] := last_split (by omega)
      have hvd : v.drop (v.length - 1) ++ v.take (v.length - 1) = u.getD k 0 :: v.take (v.length - 1) := by
        have : v.drop (v.length - 1) = [v.getD (v.length - 1) 0] := by
          have hk : v.length - 1 < v.length := by omega
          rw [List.drop_eq_getElem_cons hk, show v.length - 1 + 1 = v.length by omega, List.drop_length, List.getD_eq_getElem?_getD, List.getElem?_eq_getElem hk]
          rfl
        rw [this, ← hc]; rfl
      have hu2 := last_split hu
      have hi := ih (u.take k) (v.drop (v.length - 1) ++ v.take (v.length - 1)) (u.getD k 0 :: x) (if (decide (hd = A.length + 1)) = true then a + 1 else a) (by rw [List.length_take]; omega) (by rw [hvd]; simp)
      refine ⟨hi.1.trans ?_, hi.2.trans ?_⟩
      · rw [hvd]
        have := h.rot_tape (u.take k) (v.take (v.length - 1)) x (u.getD k 0) e
        rw [← this, ← hu2, hc, ← hv2]
      · rw [hvd]
        have l1 : (u.take k).length = k := by rw [List.length_take]; omega
        have l2 : (u.getD k 0 :: v.take (v.length - 1)).length = v.length := by rw [List.length_cons, List.length_take]; omega
        rcases Nat.lt_trichotomy hd (A.length + 1) with c | c | c
        · rw [decide_eq_false (by omega)]
          rw [hoff_low (A := A) (B := B) (E := E) (u.take k :: (u.getD k 0 :: x) :: C) (u :: x :: C) ((u.getD k 0 :: v.take (v.length - 1)) :: D) (v :: D) (e :: F) (e :: F) h.b h.e (by omega)]
          rfl
        · subst c
          rw [decide_eq_true rfl, hoff_mid _ _ _ _ _ _ h.b h.e, hoff_mid _ _ _ _ _ _ h.b h.e, l1, l2, hu]
          simp only [if_true]
          omega
        · rw [decide_eq_false (by omega)]
          obtain ⟨z, hz⟩ := hoff_high u x C v D e F h (hd - (A.length + 2)) (by omega)
          have z1 := hz (u.take k) (u.getD k 0 :: x) (u.getD k 0 :: v.take (v.length - 1)) e (by rw [l1, l2, List.length_cons, hu]; omega)
          have z2 := hz u x v e rfl
          rw [show A.length + 2 + (hd - (A.length + 2)) = hd by omega] at z1 z2
          rw [z1, z2]
          rfl
    · exact ⟨rfl, rfl⟩
theorem lEq_iff : ∀ {xs ys : List Int}, lEq xs ys = true → xs = ys := by
  intro xs ys h
  simpa [lEq] using h
/-- A repeater takes its words from the wall behind it. -/
theorem absR_same {A B C D : List (List Int)} {E F : List Nat} (h : Cut3 A B E C D F) (c : Int) (u v : List Int) (hv : v ≠ []) (hd : Nat) (hhd : hd ≤ A.length + 1 + C.length) : ∀ (k : Nat) (x : List Int) (a o : Int), 0 ≤ c + o →
    tapeF (A ++ u :: (absR (decide (hd = A.length + 1)) v k x a o).x :: C) (B ++ v :: D) (E ++ (c + (absR (decide (hd = A.length + 1)) v k x a o).o).toNat :: F) = tapeF (A ++ u :: x :: C) (B ++ v :: D) (E ++ (c + o).toNat :: F) ∧
    ((hoff (A ++ u :: (absR (decide (hd = A.length + 1)) v k x a o).x :: C) (B ++ v :: D) (E ++ (c + (absR (decide (hd = A.length + 1)) v k x a o).o).toNat :: F) hd : Nat) : Int) + (absR (decide (hd = A.length + 1)) v k x a o).a = (hoff (A ++ u :: x :: C) (B ++ v :: D) (E ++ (c + o).toNat :: F) hd : Nat) + a ∧
    o ≤ (absR (decide (hd = A.length + 1)) v k x a o).o := by
  intro k
  induction k with
  | zero => intro x a o ho; exact ⟨rfl, rfl, Int.le_refl _⟩
  | succ k ih =>
    intro x a o ho
    unfold absR
    split
    · rename_i hc
      obtain ⟨hc, _⟩ := hc
      simp only [begB, Bool.and_eq_true, decide_eq_true_eq] at hc
      have hx : v ++ x.drop v.length = x := by
        have := lEq_iff hc.2
        rw [← List.take_append_drop v.length x, this]
        simp
      have hi := ih (x.drop v.length) (if (decide (hd = A.length + 1)) = true then a - v.length else a) (o + 1) (by omega)
      have he : (c + (o + 1)).toNat = (c + o).toNat + 1 := by omega
      have hxl : x.length = v.length + (x.drop v.length).length := by rw [List.length_drop]; omega
      refine ⟨hi.1.trans ?_, hi.2.1.trans ?_, by have := hi.2.2; omega⟩
      · rw [he]
        have := h.abs_tape u v (x.drop v.length) (c + o).toNat
        rw [hx] at this
        exact this.symm
      · rw [he]
        rcases Nat.lt_trichotomy hd (A.length + 1) with d | d | d
        · rw [decide_eq_false (by omega)]
          rw [hoff_low (A := A) (B := B) (E := E) (u :: x.drop v.length :: C) (u :: x :: C) (v :: D) (v :: D) (((c + o).toNat + 1) :: F) ((c + o).toNat :: F) h.b h.e (by omega)]
          rfl
        · subst d
          rw [decide_eq_true rfl, hoff_mid _ _ _ _ _ _ h.b h.e, hoff_mid _ _ _ _ _ _ h.b h.e]
          simp only [if_true]
          rw [Nat.add_mul]
          omega
        · rw [decide_eq_false (by omega)]
          obtain ⟨z, hz⟩ := hoff_high u x C v D (c + o).toNat F h (hd - (A.length + 2)) (by omega)
          have z1 := hz u (x.drop v.length) v ((c + o).toNat + 1) (by rw [Nat.add_mul]; omega)
          have z2 := hz u x v (c + o).toNat rfl
          rw [show A.length + 2 + (hd - (A.length + 2)) = hd by omega] at z1 z2
          rw [z1, z2]
          rfl
    · exact ⟨rfl, rfl, Int.le_refl _⟩
/-- The lists around a repeater. -/
theorem ShapeF.split {f : FoD} {cs : List Int} (h : ShapeF f cs) {i : Nat} (hi : i < f.rs.length) :
    ∃ A u x C B v D O o P cA c cB, f.ws = A ++ u :: x :: C ∧ f.rs = B ++ v :: D ∧ f.os = O ++ o :: P ∧ cs = cA ++ c :: cB ∧ A.length = i ∧ B.length = i ∧ O.length = i ∧ cA.length = i ∧ C.length = D.length ∧ C.length = P.length ∧ cB.length = P.length := by
  have h1 := h.ws
  have h2 := h.os
  have h3 := h.cn
  obtain ⟨A, u, W, hA, lA⟩ := split_mid (xs := f.ws) (i := i) (by omega)
  obtain ⟨B, v, D, hB, lB⟩ := split_mid (xs := f.rs) hi
  obtain ⟨O, o, P, hO, lO⟩ := split_mid (xs := f.os) (i := i) (by omega)
  obtain ⟨cA, c, cB, hC, lC⟩ := split_mid (xs := cs) (i := i) (by omega)
  cases W with
  | nil => rw [hA] at h1; rw [hB] at h1 hi; simp at h1 hi; omega
  | cons x C =>
    refine ⟨A, u, x, C, B, v, D, O, o, P, cA, c, cB, hA, hB, hO, hC, lA, lB, lO, lC, ?_, ?_, ?_⟩
    · rw [hA, hB] at h1; simp at h1; omega
    · rw [hA, hB] at h1; rw [hO, hB] at h2; simp at h1 h2; omega
    · rw [hO, hB] at h2; rw [hC, hB] at h3; simp at h2 h3; omega
theorem dec_nat {a : Int} (h : 0 ≤ a) (k : Nat) : decide (a = (k : Int)) = decide (a.toNat = k) := by
  by_cases c : a = (k : Int)
  · rw [decide_eq_true c, decide_eq_true (by omega)]
  · rw [decide_eq_false c, decide_eq_false (by omega)]
theorem rotAt_same {f : FoD} {cs : List Int} (h : ShapeF f cs) (hne : ∀ r ∈ f.rs, r ≠ []) {i : Nat} (hi : i < f.rs.length) : SameFo cs f (rotAt f i) := by
  unfold rotAt
  split
  · exact SameFo.refl _ _
  · obtain ⟨A, u, x, C, B, v, D, O, o, P, cA, c, cB, hA, hB, hO, hC, lA, lB, lO, lC, e1, e2, e3⟩ := h.split hi
    have hh0 := h.h0
    have hh1 := h.h1
    have hv : v ≠ [] := hne v (by rw [hB]; simp)
    have hcut : Cut3 A B (esF cA O) C D (esF cB P) := ⟨by omega, by rw [esF_length _ _ (by omega)]; omega, e1, by rw [esF_length _ _ e3]; omega⟩
    have hes : esF cs f.os = esF cA O ++ (c + o).toNat :: esF cB P := by rw [hC, hO, esF_append _ _ _ _ (by omega)]; rfl
    have d0 : decide (f.hd = (i : Int)) = decide (f.hd.toNat = A.length) := by rw [dec_nat hh0, lA]
    have d1 : decide (f.hd = (i : Int) + 1) = decide (f.hd.toNat = A.length + 1) := by
      have := dec_nat hh0 (i + 1)
      rw [show ((i + 1 : Nat) : Int) = (i : Int) + 1 by omega] at this
      rw [this, lA]
    have g0 : f.ws.getD i [] = u := by rw [hA, ← lA, getD_mid]
    have g1 : f.ws.getD (i + 1) [] = x := by rw [hA, ← lA, getD_mid1]
    have g2 : f.rs.getD i [] = v := by rw [hB, ← lB, getD_mid]
    have hR := rotR_same hcut (c + o).toNat f.hd.toNat (by rw [hB] at hh1; simp at hh1; omega) u.length u v x f.at_ rfl hv
    simp only
    rw [d0, d1, g0, g1, g2]
    generalize rotR (decide (f.hd.toNat = A.length)) (decide (f.hd.toNat = A.length + 1)) u.length u v x f.at_ = R at hR ⊢
    have w1 : (f.ws.set i R.u).set (i + 1) R.x = A ++ R.u :: R.x :: C := by rw [hA, ← lA, set_mid, set_mid1]
    have w2 : f.rs.set i R.v = B ++ R.v :: D := by rw [hB, ← lB, set_mid]
    refine ⟨rfl, rfl, by simp, by simp, rfl, fun _ => Int.le_refl _, ?_⟩
    unfold tapeO headO
    simp only
    rw [w1, w2, hes, hA, hB, hR.1, hR.2]
    exact SameL.refl _ _
theorem absAt_same {f : FoD} {cs : List Int} (h : ShapeF f cs) (hne : ∀ r ∈ f.rs, r ≠ []) {i : Nat} (hi : i < f.rs.length) : SameFo cs f (absAt f i) := by
  unfold absAt
  split
  · exact SameFo.refl _ _
  · obtain ⟨A, u, x, C, B, v, D, O, o, P, cA, c, cB, hA, hB, hO, hC, lA, lB, lO, lC, e1, e2, e3⟩ := h.split hi
    have hh0 := h.h0
    have hh1 := h.h1
    have hv : v ≠ [] := hne v (by rw [hB]; simp)
    have hcut : Cut3 A B (esF cA O) C D (esF cB P) := ⟨by omega, by rw [esF_length _ _ (by omega)]; omega, e1, by rw [esF_length _ _ e3]; omega⟩
    have hes : esF cs f.os = esF cA O ++ (c + o).toNat :: esF cB P := by rw [hC, hO, esF_append _ _ _ _ (by omega)]; rfl
    have d1 : decide (f.hd = (i : Int) + 1) = decide (f.hd.toNat = A.length + 1) := by
      have := dec_nat hh0 (i + 1)
      rw [show ((i + 1 : Nat) : Int) = (i : Int) + 1 by omega] at this
      rw [this, lA]
    have g1 : f.ws.getD (i + 1) [] = x := by rw [hA, ← lA, getD_mid1]
    have g2 : f.rs.getD i [] = v := by rw [hB, ← lB, getD_mid]
    have g3 : f.os.getD i 0 = o := by rw [hO, ← lO, getD_mid]
    have g4 : cs.getD i 0 = c := by rw [hC, ← lC, getD_mid]
    have hp := h.pos i hi
    rw [g3, g4] at hp
    have hR := absR_same hcut c u v hv f.hd.toNat (by rw [hB] at hh1; simp at hh1; omega) x.length x f.at_ o hp
    simp only
    rw [d1, g1, g2, g3]
    generalize absR (decide (f.hd.toNat = A.length + 1)) v x.length x f.at_ o = R at hR ⊢
    have w1 : f.ws.set (i + 1) R.x = A ++ u :: R.x :: C := by rw [hA, ← lA, set_mid1]
    have w2 : f.os.set i R.o = O ++ R.o :: P := by rw [hO, ← lO, set_mid]
    have hes2 : esF cs (f.os.set i R.o) = esF cA O ++ (c + R.o).toNat :: esF cB P := by rw [w2, hC, esF_append _ _ _ _ (by omega)]; rfl
    refine ⟨rfl, rfl, by simp, rfl, by simp, fun k => ?_, ?_⟩
    · show f.os.getD k 0 ≤ (f.os.set i R.o).getD k 0
      by_cases hk : k = i
      · subst hk
        rw [w2, ← lO, getD_mid, lO, g3]
        exact hR.2.2
      · rw [List.getD_eq_getElem?_getD, List.getD_eq_getElem?_getD, List.getElem?_set_ne (fun e => hk e.symm)]
        exact Int.le_refl _
    · unfold tapeO headO
      simp only
      rw [w1, hes2, hes, hA, hB, hR.1, hR.2.1]
      exact SameL.refl _ _
end Go.Proofs.YtojiammendjpkaaGreat
end
section
set_option linter.unusedSimpArgs false
set_option linter.unusedVariables false
namespace Go.Proofs.YtojiammendjpkaaGreat
open Go Go.RowKit Go.Proofs
theorem hoff_zero (ws rs : List (List Int)) (es : List Nat) : hoff ws rs es 0 = 0 := by simp [hoff, preF]
theorem stF_same (W rs : List (List Int)) (es : List Nat) (hd : Nat) (hr : 1 ≤ rs.length) (he : 1 ≤ es.length) : ∀ (w : List Int) (a : Int),
    SameL (tapeF (w :: W) rs es) ((hoff (w :: W) rs es hd : Nat) + a) (tapeF ((stF (decide (hd = 0)) w a).1 :: W) rs es) ((hoff ((stF (decide (hd = 0)) w a).1 :: W) rs es hd : Nat) + (stF (decide (hd = 0)) w a).2)
  | [], a => SameL.refl _ _
  | z :: w, a => by
    unfold stF
    split
    · rename_i hc
      obtain ⟨rfl, _⟩ := hc
      have ih := stF_same W rs es hd hr he w (if (decide (hd = 0)) = true then a - 1 else a)
      refine SameL.trans ?_ ih
      have e1 : tapeF ((0 :: w) :: W) rs es = 0 :: tapeF (w :: W) rs es := tapeF_front [0] w W rs es
      rw [e1]
      have e2 : ((hoff (w :: W) rs es hd : Nat) : Int) + (if (decide (hd = 0)) = true then a - 1 else a) = (hoff ((0 :: w) :: W) rs es hd : Nat) + a - 1 := by
        cases hd with
        | zero => rw [hoff_zero, hoff_zero]; simp
        | succ k =>
          have : hoff ((0 :: w) :: W) rs es (k + 1) = 1 + hoff (w :: W) rs es (k + 1) := by
            have h1 : rs.take (k + 1) ≠ [] := by
              intro e
              have hl : (rs.take (k + 1)).length = min (k + 1) rs.length := List.length_take
              rw [e, List.length_nil] at hl
              omega
            have h2 : es.take (k + 1) ≠ [] := by
              intro e
              have hl : (es.take (k + 1)).length = min (k + 1) es.length := List.length_take
              rw [e, List.length_nil] at hl
              omega
            exact preF_front [0] w (W.take k) (rs.take (k + 1)) (es.take (k + 1)) h1 h2
          rw [this, decide_eq_false (by omega)]
          simp only [Bool.false_eq_true, if_false]
          omega
      rw [e2]
      exact SameL.front _ _
    · exact SameL.refl _ _
theorem stE_same (hl : Bool) (a : Int) (P w : List Int) (H : Int) : ∀ n, n ≤ w.length → SameL (P ++ w.take n) H (P ++ stE hl a w n) H
  | 0, _ => by simp [stE]; exact SameL.refl _ _
  | n + 1, hn => by
    unfold stE
    split
    · rename_i hc
      have ih := stE_same hl a P w H n (by omega)
      refine SameL.trans ?_ ih
      have hk : n < w.length := by omega
      have e : w.take (n + 1) = w.take n ++ [0] := by
        rw [List.take_succ_eq_append_getElem hk]
        have := hc.1
        rw [List.getD_eq_getElem?_getD, List.getElem?_eq_getElem hk] at this
        rw [show w[n] = 0 from this]
      rw [e, ← List.append_assoc]
      exact SameL.back _ _
    · exact SameL.refl _ _
theorem strip_same {f : FoD} {cs : List Int} (h : ShapeF f cs) : SameFo cs f (stripFo f) := by
  have h1 := h.r1
  have h2 := h.ws
  have h3 := h.os
  have h4 := h.cn
  have h5 := h.h0
  have h6 := h.h1
  have hel := esF_length cs f.os (by omega)
  obtain ⟨w, W, hw⟩ : ∃ w W, f.ws = w :: W := by
    cases hws : f.ws with
    | nil => rw [hws] at h2; simp at h2
    | cons w W => exact ⟨w, W, rfl⟩
  have d0 : decide (f.hd = 0) = decide (f.hd.toNat = 0) := dec_nat h5 0
  have hF := stF_same W f.rs (esF cs f.os) f.hd.toNat h1 (by omega) w f.at_
  unfold stripFo
  have g0 : f.ws.getD 0 [] = w := by rw [hw]; rfl
  rw [d0, g0]
  generalize stF (decide (f.hd.toNat = 0)) w f.at_ = p at hF ⊢
  have s0 : f.ws.set 0 p.1 = p.1 :: W := by rw [hw]; rfl
  simp only
  rw [s0]
  have hWl : W.length = f.rs.length := by rw [hw] at h2; simp at h2; omega
  obtain ⟨A, u, hA, lA⟩ : ∃ A u, p.1 :: W = A ++ [u] ∧ A.length = f.rs.length := by
    obtain ⟨A, u, W', e, l⟩ := split_mid (xs := p.1 :: W) (i := f.rs.length) (by simp; omega)
    have : W' = [] := by
      have := congrArg List.length e
      simp at this
      exact List.length_eq_zero_iff.1 (by omega)
    subst this
    exact ⟨A, u, e, l⟩
  have hl : (p.1 :: W).length - 1 = A.length := by rw [hA]; simp
  rw [hl]
  have hu : (p.1 :: W).getD A.length [] = u := by rw [hA]; exact getD_mid A u [] []
  rw [hu, hA, set_mid]
  refine ⟨rfl, rfl, by simp; omega, rfl, rfl, fun _ => Int.le_refl _, ?_⟩
  have hT : SameL (tapeO f cs) (headO f cs) (tapeF (A ++ [u]) f.rs (esF cs f.os)) ((hoff (A ++ [u]) f.rs (esF cs f.os) f.hd.toNat : Nat) + p.2) := by
    rw [← hA]
    unfold tapeO headO
    rw [hw]
    exact hF
  refine hT.trans ?_
  unfold tapeO headO
  simp only
  have ta : ∀ z : List Int, tapeF (A ++ [z]) f.rs (esF cs f.os) = preF A f.rs (esF cs f.os) ++ z := fun z => by
    have := tapeF_append A f.rs (esF cs f.os) [z] [] [] lA (by omega)
    rw [List.append_nil, List.append_nil] at this
    rw [this]
    rfl
  have hh : ∀ z z' : List Int, hoff (A ++ [z]) f.rs (esF cs f.os) f.hd.toNat = hoff (A ++ [z']) f.rs (esF cs f.os) f.hd.toNat := fun z z' => by
    have := hoff_low (A := A) (B := f.rs) (E := esF cs f.os) [z] [z'] [] [] [] [] lA (by omega) (k := f.hd.toNat) (by omega)
    rwa [List.append_nil, List.append_nil] at this
  rw [ta, ta, hh u (stE (decide (f.hd = (A.length : Int))) p.2 u u.length)]
  have := stE_same (decide (f.hd = (A.length : Int))) p.2 (preF A f.rs (esF cs f.os)) u ((hoff (A ++ [stE (decide (f.hd = (A.length : Int))) p.2 u u.length]) f.rs (esF cs f.os) f.hd.toNat : Nat) + p.2) u.length (Nat.le_refl _)
  rw [List.take_length] at this
  exact this
theorem rotR_v (h0 h1 : Bool) : ∀ (k : Nat) (u v x : List Int) (a : Int), (rotR h0 h1 k u v x a).v.length = v.length
  | 0, _, _, _, _ => rfl
  | k + 1, u, v, x, a => by
    unfold rotR
    split
    · rw [rotR_v h0 h1 k]
      rw [List.length_append, List.length_drop, List.length_take]
      omega
    · rfl
theorem rotAt_ne {f : FoD} (h : ∀ r ∈ f.rs, r ≠ []) (i : Nat) : ∀ r ∈ (rotAt f i).rs, r ≠ [] := by
  unfold rotAt
  split
  · exact h
  · intro r hr e
    have hr1 : r ∈ f.rs.set i (rotR (decide (f.hd = (i : Int))) (decide (f.hd = (i : Int) + 1)) (f.ws.getD i []).length (f.ws.getD i []) (f.rs.getD i []) (f.ws.getD (i + 1) []) f.at_).v := hr
    rcases List.mem_or_eq_of_mem_set hr1 with hr | hr
    · exact h r hr e
    · rw [e] at hr
      have hl := rotR_v (decide (f.hd = (i : Int))) (decide (f.hd = (i : Int) + 1)) (f.ws.getD i []).length (f.ws.getD i []) (f.rs.getD i []) (f.ws.getD (i + 1) []) f.at_
      rw [← hr] at hl
      by_cases hi : i < f.rs.length
      · have : f.rs.getD i [] = f.rs[i] := by rw [List.getD_eq_getElem?_getD, List.getElem?_eq_getElem hi]; rfl
        rw [this] at hl
        exact h _ (List.getElem_mem hi) (List.length_eq_zero_iff.1 hl.symm)
      · have hs := hr1
        rw [List.set_eq_of_length_le (by omega)] at hs
        exact h r hs e
theorem absAt_rs (f : FoD) (i : Nat) : (absAt f i).rs = f.rs := by
  unfold absAt
  split <;> rfl
/-- The normal form. -/
theorem norm_same {f : FoD} {cs : List Int} (h : ShapeF f cs) (hne : ∀ r ∈ f.rs, r ≠ []) : SameFo cs f (normFo f) := by
  have s0 := strip_same h
  have n0 : ∀ r ∈ (stripFo f).rs, r ≠ [] := hne
  have rot : ∀ k, k ≤ f.rs.length → SameFo cs f ((List.range k).foldl rotAt (stripFo f)) ∧ ∀ r ∈ ((List.range k).foldl rotAt (stripFo f)).rs, r ≠ [] := fun k => by
    induction k with
    | zero => intro _; exact ⟨s0, n0⟩
    | succ k ih =>
      intro hk
      obtain ⟨a, b⟩ := ih (by omega)
      rw [List.range_succ, List.foldl_append]
      exact ⟨a.trans (rotAt_same (a.shape h) b (by rw [a.rs]; omega)), rotAt_ne b k⟩
  obtain ⟨a1, b1⟩ := rot f.rs.length (Nat.le_refl _)
  have ab : ∀ k, k ≤ f.rs.length → SameFo cs f ((List.range k).foldl absAt ((List.range f.rs.length).foldl rotAt (stripFo f))) ∧ ∀ r ∈ ((List.range k).foldl absAt ((List.range f.rs.length).foldl rotAt (stripFo f))).rs, r ≠ [] := fun k => by
    induction k with
    | zero => intro _; exact ⟨a1, b1⟩
    | succ k ih =>
      intro hk
      obtain ⟨a, b⟩ := ih (by omega)
      rw [List.range_succ, List.foldl_append]
      refine ⟨a.trans (absAt_same (a.shape h) b (by rw [a.rs]; omega)), ?_⟩
      show ∀ r ∈ (absAt _ k).rs, r ≠ []
      rw [absAt_rs]
      exact b
  exact (ab f.rs.length (Nat.le_refl _)).1
/-- The configuration for cells and a head. -/
def foCfg (q : Int) (l : List Int) (h : Int) : ConfD := if h < 0 then ⟨q, [], trim (0 :: l)⟩ else ⟨q, trim (l.take h.toNat).reverse, trim (l.drop h.toNat)⟩
theorem foCfg_r (q : Int) (l : List Int) {h : Int} (h1 : -1 ≤ h) (i : Nat) : (foCfg q l h).r.getD i 0 = cellZ l (h + i) := by
  unfold foCfg
  split
  · show (trim (0 :: l)).getD i 0 = _
    rw [trim_get]
    have := cellZ_cons 0 l i
    unfold cellZ at this
    rw [if_neg (by omega), Int.toNat_natCast] at this
    rw [this]
    unfold cellZ
    split
    · rename_i e
      rw [if_pos (by omega)]
    · rename_i e
      rw [show h + (i : Int) = (i : Int) - 1 by omega]
  · show (trim _).getD i 0 = _
    rw [trim_get]
    unfold cellZ
    rw [if_neg (by omega), List.getD_eq_getElem?_getD, List.getElem?_drop, ← List.getD_eq_getElem?_getD]
    congr 1
    omega
theorem foCfg_l (q : Int) (l : List Int) {h : Int} (h1 : -1 ≤ h) (h2 : h ≤ l.length) (i : Nat) : (foCfg q l h).l.getD i 0 = cellZ l (h - 1 - i) := by
  unfold foCfg cellZ
  split
  · rw [if_pos (by omega)]
    rfl
  · show (trim _).getD i 0 = _
    rw [trim_get]
    have hl : (l.take h.toNat).length = h.toNat := by rw [List.length_take]; omega
    by_cases c : i < h.toNat
    · rw [if_neg (by omega), List.getD_eq_getElem?_getD, List.getElem?_reverse (by omega), hl, List.getElem?_take, if_pos (by omega), ← List.getD_eq_getElem?_getD]
      congr 1
      omega
    · rw [if_pos (by omega), List.getD_eq_getElem?_getD, List.getElem?_eq_none (by rw [List.length_reverse]; omega)]
      rfl
theorem foCfg_q (q : Int) (l : List Int) (h : Int) : (foCfg q l h).q = q := by unfold foCfg; split <;> rfl
end Go.Proofs.YtojiammendjpkaaGreat
end
