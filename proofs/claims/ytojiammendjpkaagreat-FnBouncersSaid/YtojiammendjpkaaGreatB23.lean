/- Plain words: steps of a formula tape, and why a machine with a bouncer's formula never halts.
Plain words: a step of a formula tape stands for steps of the machine.
Plain words: a bouncer never halts. -/
import Derived.Test.YtojiammendjpkaaGreatB15
import Derived.Test.YtojiammendjpkaaGreatB20
import Derived.Test.YtojiammendjpkaaGreatB17
import Derived.Test.YtojiammendjpkaaGreatB22
section
set_option linter.unusedSimpArgs false
set_option linter.unusedVariables false
namespace Go.Proofs.YtojiammendjpkaaGreat
open Go Go.RowKit Go.Proofs
/-- A configuration on a line. -/
structure LC where
  q : Int
  t : Int → Int
  p : Int
def ruleL (m : MachD) (q s : Int) : RuleD := m.rules.getD (q * m.sy + s).toNat noR
def stepL (r : RuleD) (c : LC) : LC := ⟨r.n, updF c.t c.p r.w, if 0 < r.m then c.p + 1 else c.p - 1⟩
/-- So many steps lead from one to the other. -/
def LR (m : MachD) : Nat → LC → LC → Prop
  | 0, c, d => c = d
  | n + 1, c, d => ¬ ruleL m c.q (c.t c.p) = noR ∧ LR m n (stepL (ruleL m c.q (c.t c.p)) c) d
theorem LR.trans {m : MachD} : ∀ {a b : Nat} {c d e : LC}, LR m a c d → LR m b d e → LR m (a + b) c e
  | 0, b, c, d, e, h, h' => by
    have h : c = d := h
    subst h
    rwa [Nat.zero_add]
  | a + 1, b, c, d, e, h, h' => by
    rw [show a + 1 + b = (a + b) + 1 by omega]
    exact ⟨h.1, LR.trans h.2 h'⟩
theorem ruleL_move {m : MachD} (hm : machOk m = true) {q s : Int} (h : ¬ ruleL m q s = noR) : (ruleL m q s).m = 1 ∨ (ruleL m q s).m = -1 := by
  obtain ⟨_, _, hall⟩ := machOk_five hm
  unfold ruleL at h ⊢
  rw [List.getD_eq_getElem?_getD] at h ⊢
  cases e : m.rules[(q * m.sy + s).toNat]? with
  | none => rw [e] at h; exact absurd rfl h
  | some r =>
    rw [e] at h
    have hr := hall r (List.mem_of_getElem? e)
    simp only [Option.getD_some] at h ⊢
    simp only [ruleOk, h, decide_false, Bool.false_or, Bool.and_eq_true, Bool.or_eq_true, beq_iff_eq] at hr
    exact hr.1.2
/-- The steps of a configuration are those on the line. -/
theorem LR.cfg {m : MachD} (hm : machOk m = true) : ∀ {n : Nat} {c d : LC} {x : ConfD}, LR m n c d → Ln x c.t c.p → x.q = c.q →
    (∀ i < n, ¬ lookI m (cfgI m x i) = noR) ∧ Ln (cfgI m x n) d.t d.p ∧ (cfgI m x n).q = d.q
  | 0, c, d, x, h, hl, hq => by
    have h : c = d := h
    subst h
    exact ⟨fun i hi => by omega, hl, hq⟩
  | n + 1, c, d, x, ⟨h1, h2⟩, hl, hq => by
    have hk : lookI m x = ruleL m c.q (c.t c.p) := by unfold lookI ruleL; rw [hl.head, hq]
    have hst : Ln (stepI (lookI m x) x) (stepL (ruleL m c.q (c.t c.p)) c).t (stepL (ruleL m c.q (c.t c.p)) c).p ∧ (stepI (lookI m x) x).q = (stepL (ruleL m c.q (c.t c.p)) c).q := by
      rw [hk]
      rcases ruleL_move hm h1 with e | e
      · generalize ruleL m c.q (c.t c.p) = r at e
        obtain ⟨w, mv, nx⟩ := r
        simp only at e
        subst e
        exact ⟨hl.right, rfl⟩
      · generalize ruleL m c.q (c.t c.p) = r at e
        obtain ⟨w, mv, nx⟩ := r
        simp only at e
        subst e
        exact ⟨hl.left, rfl⟩
    have sh : ∀ i, cfgI m (stepI (lookI m x) x) i = cfgI m x (i + 1) := fun i => by
      induction i with
      | zero => rfl
      | succ i ih => show stepI (lookI m (cfgI m (stepI (lookI m x) x) i)) (cfgI m (stepI (lookI m x) x) i) = _; rw [ih]; rfl
    obtain ⟨a, b, c'⟩ := LR.cfg hm h2 hst.1 hst.2
    rw [sh] at b c'
    refine ⟨fun i hi => ?_, b, c'⟩
    cases i with
    | zero => show ¬ lookI m x = noR; rw [hk]; exact h1
    | succ i => rw [← sh]; exact a i (by omega)
/-- A list of cells laid from a place on. -/
def TL (l : List Int) (s : Int) : Int → Int := fun i => cellZ l (i - s)
theorem TL_mid (P Q : List Int) (x s : Int) : TL (P ++ x :: Q) s (s + P.length) = x := by
  unfold TL cellZ
  rw [if_neg (by omega), show (s + (P.length : Int) - s).toNat = P.length by omega, List.getD_eq_getElem?_getD, List.getElem?_append_right (Nat.le_refl _)]
  simp
theorem TL_upd (P Q : List Int) (x z s : Int) : updF (TL (P ++ x :: Q) s) (s + P.length) z = TL (P ++ z :: Q) s := by
  funext i
  unfold updF
  split
  · rename_i e; subst e; rw [TL_mid]
  · rename_i e
    unfold TL cellZ
    split
    · rfl
    · rename_i h
      obtain ⟨k, hk⟩ : ∃ k : Nat, i - s = k := Int.eq_ofNat_of_zero_le (by omega)
      rw [hk, Int.toNat_natCast, List.getD_eq_getElem?_getD, List.getD_eq_getElem?_getD]
      by_cases c : k < P.length
      · rw [List.getElem?_append_left c, List.getElem?_append_left c]
      · rw [List.getElem?_append_right (by omega), List.getElem?_append_right (by omega)]
        obtain ⟨j, hj⟩ : ∃ j, k - P.length = j + 1 := ⟨k - P.length - 1, by omega⟩
        rw [hj, List.getElem?_cons_succ, List.getElem?_cons_succ]
/-- A run over a word until the head leaves it. -/
def shR (m : MachD) (q0 side : Int) : Nat → List Int → Int → Int → Option (List Int)
  | 0, _, _, _ => none
  | n + 1, out, a, q =>
    if ruleL m q (out.getD a.toNat 0) = noR then none
    else if inB (a + (ruleL m q (out.getD a.toNat 0)).m) 0 ((out.length : Int) - 1) = true then shR m q0 side n (out.set a.toNat (ruleL m q (out.getD a.toNat 0)).w) (a + (ruleL m q (out.getD a.toNat 0)).m) (ruleL m q (out.getD a.toNat 0)).n
    else if (ruleL m q (out.getD a.toNat 0)).m = side ∧ (ruleL m q (out.getD a.toNat 0)).n = q0 then some (out.set a.toNat (ruleL m q (out.getD a.toNat 0)).w) else none
def shF (m : MachD) (q : Int) (w : List Int) (side : Int) : Option (List Int) := shR m q side 200 w (if side = -1 then (w.length : Int) - 1 else 0) q
theorem shR_run {m : MachD} (hm : machOk m = true) {q0 side : Int} (hs : side = 1 ∨ side = -1) (P Q : List Int) (s : Int) : ∀ (n : Nat) (out : List Int) (a q : Int) (o : List Int), shR m q0 side n out a q = some o → 0 ≤ a → a < out.length →
    o.length = out.length ∧ ∃ k, 1 ≤ k ∧ LR m k ⟨q, TL (P ++ (out ++ Q)) s, s + P.length + a⟩ ⟨q0, TL (P ++ (o ++ Q)) s, if side = 1 then s + P.length + out.length else s + P.length - 1⟩
  | 0, out, a, q, o, h, _, _ => by simp [shR] at h
  | n + 1, out, a, q, o, h, h0, h1 => by
    obtain ⟨j, rfl⟩ : ∃ j : Nat, a = j := Int.eq_ofNat_of_zero_le h0
    obtain ⟨A, x, B, rfl, hA⟩ := split_mid (xs := out) (i := j) (by omega)
    subst hA
    unfold shR at h
    rw [Int.toNat_natCast, getD_mid] at h
    have hcell : TL (P ++ ((A ++ x :: B) ++ Q)) s (s + P.length + A.length) = x := by
      have := TL_mid (P ++ A) (B ++ Q) x s
      rw [List.length_append] at this
      rw [show P ++ ((A ++ x :: B) ++ Q) = (P ++ A) ++ x :: (B ++ Q) by simp, show s + (P.length : Int) + A.length = s + ((P.length + A.length : Nat) : Int) by omega]
      exact this
    have hupd : ∀ z, updF (TL (P ++ ((A ++ x :: B) ++ Q)) s) (s + P.length + A.length) z = TL (P ++ ((A ++ z :: B) ++ Q)) s := fun z => by
      have := TL_upd (P ++ A) (B ++ Q) x z s
      rw [List.length_append] at this
      rw [show P ++ ((A ++ x :: B) ++ Q) = (P ++ A) ++ x :: (B ++ Q) by simp, show P ++ ((A ++ z :: B) ++ Q) = (P ++ A) ++ z :: (B ++ Q) by simp, show s + (P.length : Int) + A.length = s + ((P.length + A.length : Nat) : Int) by omega]
      exact this
    split at h
    · cases h
    · rename_i hr
      have hmv := ruleL_move hm hr
      rw [set_mid] at h
      generalize hR : ruleL m q x = r at h hr hmv
      have hst : stepL r ⟨q, TL (P ++ ((A ++ x :: B) ++ Q)) s, s + P.length + A.length⟩ = ⟨r.n, TL (P ++ ((A ++ r.w :: B) ++ Q)) s, s + P.length + (A.length + r.m)⟩ := by
        unfold stepL
        simp only [hupd]
        congr 1
        rcases hmv with e | e <;> rw [e] <;> simp <;> omega
      have one : ∀ k d, LR m k ⟨r.n, TL (P ++ ((A ++ r.w :: B) ++ Q)) s, s + P.length + (A.length + r.m)⟩ d → LR m (k + 1) ⟨q, TL (P ++ ((A ++ x :: B) ++ Q)) s, s + P.length + A.length⟩ d := fun k d hd => by
        refine ⟨?_, ?_⟩
        · show ¬ ruleL m q (TL (P ++ ((A ++ x :: B) ++ Q)) s (s + P.length + A.length)) = noR
          rw [hcell, hR]; exact hr
        · show LR m k (stepL (ruleL m q (TL (P ++ ((A ++ x :: B) ++ Q)) s (s + P.length + A.length))) _) d
          rw [hcell, hR, hst]; exact hd
      split at h
      · rename_i hin
        have hin := inB_iff.1 hin
        obtain ⟨hl, k, hk, hR2⟩ := shR_run hm hs P Q s n _ _ _ o h (by omega) (by simp at hin ⊢; omega)
        refine ⟨by rw [hl]; simp, k + 1, by omega, ?_⟩
        have := one k _ hR2
        simp only [List.length_append, List.length_cons] at this ⊢
        exact this
      · rename_i hin
        split at h
        · rename_i hc
          injection h with h
          subst h
          refine ⟨by simp, 1, Nat.le_refl _, one 0 _ ?_⟩
          show LC.mk _ _ _ = LC.mk _ _ _
          rw [hc.2]
          congr 1
          have hin2 : ¬ (0 ≤ (A.length : Int) + r.m ∧ (A.length : Int) + r.m ≤ ((A ++ x :: B).length : Int) - 1) := fun hh => hin (inB_iff.2 hh)
          have h1' := hc.1
          simp only [List.length_append, List.length_cons] at hin2 h1 ⊢
          rcases hs with e | e <;> subst e <;> simp only [if_pos, h1'] <;> first | (simp; omega) | omega
        · cases h
/-- A run over a word that is repeated. -/
theorem rep_right {m : MachD} (hm : machOk m = true) {q : Int} {v w : List Int} (hv : 1 ≤ v.length) (h : shF m q v 1 = some w) (P : List Int) (s : Int) : ∀ (e : Nat) (Q : List Int), w.length = v.length ∧
    ∃ k, LR m k ⟨q, TL (P ++ (repL v e ++ Q)) s, s + P.length⟩ ⟨q, TL (P ++ (repL w e ++ Q)) s, s + P.length + (e * v.length : Nat)⟩
  | 0, Q => ⟨(shR_run hm (.inl rfl) [] [] 0 200 v _ q w h (by simp) (by simp; omega)).1, 0, by simp [LR, repL]⟩
  | e + 1, Q => by
    obtain ⟨hl, k, hk⟩ := rep_right hm hv h P s e (v ++ Q)
    have h2 := shR_run hm (.inl rfl) (P ++ repL w e) Q s 200 v _ q w h (by simp) (by simp; omega)
    obtain ⟨_, j, _, hj⟩ := h2
    refine ⟨hl, k + j, ?_⟩
    have e1 : P ++ (repL v (e + 1) ++ Q) = P ++ (repL v e ++ (v ++ Q)) := by rw [repL_snoc]; simp
    have e2 : P ++ (repL w (e + 1) ++ Q) = P ++ repL w e ++ (w ++ Q) := by rw [repL_snoc]; simp
    rw [e1, e2]
    refine LR.trans hk ?_
    rw [show P ++ (repL w e ++ (v ++ Q)) = P ++ repL w e ++ (v ++ Q) by simp]
    have e3 : s + (P.length : Int) + ((e * v.length : Nat) : Int) = s + ((P ++ repL w e).length : Int) + (if (1 : Int) = -1 then ((v.length : Int) - 1) else 0) := by
      rw [List.length_append, repL_length, hl]; simp; omega
    have e4 : s + (P.length : Int) + (((e + 1) * v.length : Nat) : Int) = if (1 : Int) = 1 then s + ((P ++ repL w e).length : Int) + v.length else s + ((P ++ repL w e).length : Int) - 1 := by
      rw [if_pos rfl, List.length_append, repL_length, hl, Nat.succ_mul]; omega
    rw [e3, e4]
    exact hj
theorem rep_left {m : MachD} (hm : machOk m = true) {q : Int} {v w : List Int} (hv : 1 ≤ v.length) (h : shF m q v (-1) = some w) (P : List Int) (s : Int) : ∀ (e : Nat) (Q : List Int), w.length = v.length ∧
    ∃ k, LR m k ⟨q, TL (P ++ (repL v e ++ Q)) s, s + P.length + (e * v.length : Nat) - 1⟩ ⟨q, TL (P ++ (repL w e ++ Q)) s, s + P.length - 1⟩
  | 0, Q => ⟨(shR_run hm (.inr rfl) [] [] 0 200 v _ q w h (by simp; omega) (by simp; omega)).1, 0, by simp [LR, repL]⟩
  | e + 1, Q => by
    obtain ⟨hl, k, hk⟩ := rep_left hm hv h P s e (w ++ Q)
    have h2 := shR_run hm (.inr rfl) (P ++ repL v e) Q s 200 v _ q w h (by simp; omega) (by simp; omega)
    obtain ⟨_, j, _, hj⟩ := h2
    refine ⟨hl, j + k, ?_⟩
    have e1 : P ++ (repL v (e + 1) ++ Q) = P ++ repL v e ++ (v ++ Q) := by rw [repL_snoc]; simp
    have e2 : P ++ (repL w (e + 1) ++ Q) = P ++ (repL w e ++ (w ++ Q)) := by rw [repL_snoc]; simp
    rw [e1, e2]
    have e3 : s + (P.length : Int) + (((e + 1) * v.length : Nat) : Int) - 1 = s + ((P ++ repL v e).length : Int) + (if (-1 : Int) = -1 then ((v.length : Int) - 1) else 0) := by
      rw [if_pos rfl, List.length_append, repL_length, Nat.succ_mul]; omega
    have e4 : s + (P.length : Int) + ((e * v.length : Nat) : Int) - 1 = if (-1 : Int) = 1 then s + ((P ++ repL v e).length : Int) + v.length else s + ((P ++ repL v e).length : Int) - 1 := by
      rw [if_neg (by decide), List.length_append, repL_length]; omega
    rw [e3]
    refine LR.trans hj ?_
    rw [← e4, show P ++ repL v e ++ (w ++ Q) = P ++ (repL v e ++ (w ++ Q)) by simp]
    exact hk
end Go.Proofs.YtojiammendjpkaaGreat
end
section
set_option linter.unusedSimpArgs false
set_option linter.unusedVariables false
namespace Go.Proofs.YtojiammendjpkaaGreat
open Go Go.RowKit Go.Proofs
/-- The first or the last wall made longer where the head has left it outwards. -/
def wideF (f : FoD) : FoD :=
  if f.at_ = -1 ∧ f.hd = 0 then ⟨f.q, f.hd, 0, f.ws.set 0 (0 :: f.ws.getD 0 []), f.rs, f.os⟩
  else if f.at_ = ((f.ws.getD f.hd.toNat []).length : Int) ∧ f.hd = (f.ws.length : Int) - 1 then ⟨f.q, f.hd, f.at_, f.ws.set f.hd.toNat (f.ws.getD f.hd.toNat [] ++ [0]), f.rs, f.os⟩ else f
def ruleW (m : MachD) (f : FoD) : RuleD := ruleL m f.q ((f.ws.getD f.hd.toNat []).getD f.at_.toNat 0)
def stW (m : MachD) (f : FoD) : FoD :=
  wideF ⟨(ruleW m f).n, f.hd, f.at_ + (ruleW m f).m, f.ws.set f.hd.toNat ((f.ws.getD f.hd.toNat []).set f.at_.toNat (ruleW m f).w), f.rs, f.os⟩
def passF (f : FoD) (i side : Int) (w : List Int) : FoD :=
  wideF ⟨f.q, if side = 1 then i + 1 else i, if side = -1 then ((f.ws.getD i.toNat []).length : Int) - 1 else 0, f.ws, f.rs.set i.toNat w, f.os⟩
def unrF (f : FoD) (i side : Int) : FoD :=
  if side = 1 then ⟨f.q, f.hd, f.at_, f.ws.set i.toNat (f.ws.getD i.toNat [] ++ f.rs.getD i.toNat []), f.rs, f.os.set i.toNat (f.os.getD i.toNat 0 - 1)⟩
  else ⟨f.q, f.hd, ((f.rs.getD i.toNat []).length : Int) - 1, f.ws.set (i.toNat + 1) (f.rs.getD i.toNat [] ++ f.ws.getD (i.toNat + 1) []), f.rs, f.os.set i.toNat (f.os.getD i.toNat 0 - 1)⟩
/-- What a step leaves before it is judged: its kind, its repeater. -/
def rawF (m : MachD) (f : FoD) : Option (Int × FoD) :=
  if (onB f).2 = 0 then (if ruleW m f = noR then none else some (0, stW m f))
  else match shF m f.q (f.rs.getD (onB f).1.toNat []) (onB f).2 with
    | some w => some (1, passF f (onB f).1 (onB f).2 w)
    | none => some (2, unrF f (onB f).1 (onB f).2)
def stepF (m : MachD) (f : FoD) : Option (Int × FoD) :=
  match rawF m f with
  | some (k, g) => if foOk m g = true then some (k, g) else none
  | none => none
/-- The line of a formula tape. -/
def lineF (f : FoD) (es : List Nat) (s : Int) : LC := ⟨f.q, TL (tapeF f.ws f.rs es) s, s + (hoff f.ws f.rs es f.hd.toNat : Nat) + f.at_⟩
theorem TL_front (l : List Int) (s : Int) : TL (0 :: l) s = TL l (s + 1) := by
  funext i
  unfold TL
  rw [cellZ_cons]
  split
  · rename_i h
    unfold cellZ
    rw [if_pos (by omega)]
  · congr 1; omega
theorem TL_back (l : List Int) (s : Int) : TL (l ++ [0]) s = TL l s := by
  funext i
  have := SameL.back l 0 (i - s)
  rw [Int.zero_add] at this
  exact this
/-- Lengths that fit. -/
structure LenF (f : FoD) (es : List Nat) : Prop where
  r1 : 1 ≤ f.rs.length
  ws : f.ws.length = f.rs.length + 1
  es : es.length = f.rs.length
  h0 : 0 ≤ f.hd
  h1 : f.hd ≤ f.rs.length
theorem wide_line {f : FoD} {es : List Nat} (h : LenF f es) (s : Int) : ∃ s', lineF (wideF f) es s' = lineF f es s := by
  obtain ⟨h1, h2, h3, h4, h5⟩ := h
  unfold wideF
  split
  · rename_i hc
    obtain ⟨ha, hh⟩ := hc
    obtain ⟨w, W, hw⟩ : ∃ w W, f.ws = w :: W := by
      cases hws : f.ws with
      | nil => rw [hws] at h2; simp at h2
      | cons w W => exact ⟨w, W, rfl⟩
    refine ⟨s - 1, ?_⟩
    unfold lineF
    simp only [hw, hh, ha, List.set_cons_zero, List.getD_cons_zero, Int.toNat_zero]
    have e1 : tapeF ((0 :: w) :: W) f.rs es = 0 :: tapeF (w :: W) f.rs es := tapeF_front [0] w W f.rs es
    rw [e1, TL_front, hoff_zero, hoff_zero, show s - 1 + 1 = s by omega]
    congr 1
    omega
  · split
    · rename_i hn hc
      obtain ⟨ha, hh⟩ := hc
      refine ⟨s, ?_⟩
      have hk : f.hd.toNat = f.rs.length := by omega
      obtain ⟨A, u, W, hA, lA⟩ := split_mid (xs := f.ws) (i := f.rs.length) (by omega)
      have : W = [] := by
        have := congrArg List.length hA
        simp at this
        exact List.length_eq_zero_iff.1 (by omega)
      subst this
      have ta : ∀ z : List Int, tapeF (A ++ [z]) f.rs es = preF A f.rs es ++ z := fun z => by
        have := tapeF_append A f.rs es [z] [] [] lA (by omega)
        rw [List.append_nil, List.append_nil] at this
        rw [this]
        rfl
      have hh' : ∀ z z' : List Int, hoff (A ++ [z]) f.rs es f.rs.length = hoff (A ++ [z']) f.rs es f.rs.length := fun z z' => by
        have := hoff_low (A := A) (B := f.rs) (E := es) [z] [z'] [] [] [] [] lA (by omega) (k := f.rs.length) (by omega)
        rwa [List.append_nil, List.append_nil] at this
      unfold lineF
      simp only [hk]
      rw [hA, ← lA, getD_mid, set_mid, ta, ta, ← List.append_assoc, TL_back, lA, hh' (u ++ [0]) u]
    · exact ⟨s, rfl⟩
theorem tape_cut {ws rs : List (List Int)} {es : List Nat} {k : Nat} (h1 : ws.length = rs.length + 1) (h2 : es.length = rs.length) (hk : k ≤ rs.length) :
    ∃ A u C, ws = A ++ u :: C ∧ A.length = k ∧ tapeF ws rs es = preF A (rs.take k) (es.take k) ++ tapeF (u :: C) (rs.drop k) (es.drop k) ∧ (preF A (rs.take k) (es.take k)).length = hoff ws rs es k := by
  obtain ⟨A, u, C, hA, lA⟩ := split_mid (xs := ws) (i := k) (by omega)
  have l1 : (rs.take k).length = k := by rw [List.length_take]; omega
  have l2 : (es.take k).length = k := by rw [List.length_take]; omega
  refine ⟨A, u, C, hA, lA, ?_, ?_⟩
  · have := tapeF_append A (rs.take k) (es.take k) (u :: C) (rs.drop k) (es.drop k) (by omega) (by omega)
    rwa [List.take_append_drop, List.take_append_drop, ← hA] at this
  · unfold hoff
    rw [hA, List.take_left' lA]
/-- A step on a wall. -/
theorem wall_line {m : MachD} (hm : machOk m = true) {f : FoD} {es : List Nat} (h : LenF f es) (h0 : 0 ≤ f.at_) (h1 : f.at_ < ((f.ws.getD f.hd.toNat []).length : Int)) (hr : ¬ ruleW m f = noR) (s : Int) :
    LR m 1 (lineF f es s) (lineF ⟨(ruleW m f).n, f.hd, f.at_ + (ruleW m f).m, f.ws.set f.hd.toNat ((f.ws.getD f.hd.toNat []).set f.at_.toNat (ruleW m f).w), f.rs, f.os⟩ es s) := by
  obtain ⟨k, hk⟩ : ∃ k : Nat, f.hd = k := Int.eq_ofNat_of_zero_le h.h0
  obtain ⟨j, hj⟩ : ∃ j : Nat, f.at_ = j := Int.eq_ofNat_of_zero_le h0
  obtain ⟨A, u, C, hA, lA, hT, hH⟩ := tape_cut h.ws h.es (k := k) (by have := h.h1; omega)
  have hu : f.ws.getD k [] = u := by rw [hA, ← lA]; exact getD_mid A u [] C
  rw [hk, Int.toNat_natCast, hu] at h1
  obtain ⟨u1, x, u2, hu2, l2⟩ := split_mid (xs := u) (i := j) (by omega)
  have hx : ruleW m f = ruleL m f.q x := by unfold ruleW; rw [hk, Int.toNat_natCast, hu, hj, Int.toNat_natCast, hu2, ← l2, getD_mid]
  rw [hx] at hr ⊢
  have hmv := ruleL_move hm hr
  have tp : ∀ z, tapeF (A ++ (u1 ++ z :: u2) :: C) f.rs es = (preF A (f.rs.take k) (es.take k) ++ u1) ++ z :: tapeF (u2 :: C) (f.rs.drop k) (es.drop k) := fun z => by
    have := tapeF_append A (f.rs.take k) (es.take k) ((u1 ++ z :: u2) :: C) (f.rs.drop k) (es.drop k) (by rw [List.length_take]; have := h.h1; omega) (by rw [List.length_take]; have := h.h1; have := h.es; omega)
    rw [List.take_append_drop, List.take_append_drop] at this
    rw [this, tapeF_front u1 (z :: u2), show z :: u2 = [z] ++ u2 from rfl, tapeF_front [z] u2]
    simp
  have hset : f.ws.set f.hd.toNat ((f.ws.getD f.hd.toNat []).set f.at_.toNat (ruleL m f.q x).w) = A ++ (u1 ++ (ruleL m f.q x).w :: u2) :: C := by
    rw [hk, Int.toNat_natCast, hu, hj, Int.toNat_natCast, hu2, ← l2, set_mid, hA, ← lA, set_mid]
  rw [hset]
  have hho : ∀ z, hoff (A ++ (u1 ++ z :: u2) :: C) f.rs es k = (preF A (f.rs.take k) (es.take k)).length := fun z => by
    unfold hoff
    rw [List.take_left' lA]
  have hws : f.ws = A ++ (u1 ++ x :: u2) :: C := by rw [hA, hu2]
  have hpos : s + ((hoff f.ws f.rs es k : Nat) : Int) + f.at_ = s + ((preF A (f.rs.take k) (es.take k) ++ u1).length : Int) := by
    rw [hj, hws, hho, List.length_append, ← l2]; omega
  have hcell : (lineF f es s).t (lineF f es s).p = x := by
    unfold lineF
    simp only
    rw [hk, Int.toNat_natCast, hpos]
    rw [hws, tp]
    exact TL_mid _ _ x s
  refine ⟨?_, ?_⟩
  · rw [hcell]; exact hr
  · rw [hcell]
    show stepL (ruleL m f.q x) (lineF f es s) = _
    unfold stepL lineF
    simp only
    rw [hk, Int.toNat_natCast, hpos]
    congr 1
    · rw [tp, hws, tp]
      exact TL_upd _ _ x _ s
    · rw [hho, List.length_append, hj]
      rcases hmv with e | e <;> rw [e] <;> simp <;> omega
theorem tape_mid {A C B D : List (List Int)} {E F : List Nat} {k : Nat} (lA : A.length = k) (lB : B.length = k) (lE : E.length = k) (u v : List Int) (e : Nat) :
    tapeF (A ++ u :: C) (B ++ v :: D) (E ++ e :: F) = (preF A B E ++ u) ++ (repL v e ++ tapeF C D F) ∧ hoff (A ++ u :: C) (B ++ v :: D) (E ++ e :: F) k = (preF A B E).length ∧
    hoff (A ++ u :: C) (B ++ v :: D) (E ++ e :: F) (k + 1) = (preF A B E ++ u).length + e * v.length := by
  refine ⟨?_, ?_, ?_⟩
  · rw [tapeF_append A B E _ _ _ (by omega) (by omega)]
    simp [tapeF]
  · unfold hoff
    rw [List.take_left' lA, List.take_left' lB, List.take_left' lE]
  · unfold hoff
    have t1 : (A ++ u :: C).take (k + 1) = A ++ [u] := by rw [List.take_append, lA, show k + 1 - k = 1 by omega, List.take_of_length_le (by omega)]; simp
    have t2 : (B ++ v :: D).take (k + 1) = B ++ [v] := by rw [List.take_append, lB, show k + 1 - k = 1 by omega, List.take_of_length_le (by omega)]; simp
    have t3 : (E ++ e :: F).take (k + 1) = E ++ [e] := by rw [List.take_append, lE, show k + 1 - k = 1 by omega, List.take_of_length_le (by omega)]; simp
    rw [t1, t2, t3, preF_append _ _ _ _ _ _ (by omega) (by omega)]
    simp [preF, repL_length]
    omega
/-- The parts of a formula tape around a repeater. -/
theorem mid_parts {f : FoD} {es : List Nat} (h : LenF f es) {k : Nat} (hk : k < f.rs.length) :
    ∃ A u C B v D E e F, f.ws = A ++ u :: C ∧ f.rs = B ++ v :: D ∧ es = E ++ e :: F ∧ A.length = k ∧ B.length = k ∧ E.length = k ∧ 1 ≤ C.length := by
  obtain ⟨A, u, C, hA, lA⟩ := split_mid (xs := f.ws) (i := k) (by have := h.ws; omega)
  obtain ⟨B, v, D, hB, lB⟩ := split_mid (xs := f.rs) (i := k) hk
  obtain ⟨E, e, F, hE, lE⟩ := split_mid (xs := es) (i := k) (by have := h.es; omega)
  refine ⟨A, u, C, B, v, D, E, e, F, hA, hB, hE, lA, lB, lE, ?_⟩
  have := congrArg List.length hA
  have h2 := h.ws
  simp at this
  omega
/-- A repeater is passed. -/
theorem pass_line {m : MachD} (hm : machOk m = true) {f : FoD} {es : List Nat} (h : LenF f es) {k : Nat} (hk : k < f.rs.length) {side : Int} (hv : 1 ≤ (f.rs.getD k []).length) {w : List Int} (hs : shF m f.q (f.rs.getD k []) side = some w)
    (hp : (side = 1 ∧ f.hd = k ∧ f.at_ = ((f.ws.getD k []).length : Int)) ∨ (side = -1 ∧ f.hd = (k : Int) + 1 ∧ f.at_ = -1)) (s : Int) :
    ∃ n, LR m n (lineF f es s) (lineF ⟨f.q, if side = 1 then (k : Int) + 1 else k, if side = -1 then ((f.ws.getD k []).length : Int) - 1 else 0, f.ws, f.rs.set k w, f.os⟩ es s) := by
  obtain ⟨A, u, C, B, v, D, E, e, F, hA, hB, hE, lA, lB, lE, _⟩ := mid_parts h hk
  have hvv : f.rs.getD k [] = v := by rw [hB, ← lB]; exact getD_mid B v [] D
  have huu : f.ws.getD k [] = u := by rw [hA, ← lA]; exact getD_mid A u [] C
  rw [hvv] at hv hs
  rw [huu] at hp ⊢
  have hset : f.rs.set k w = B ++ w :: D := by rw [hB, ← lB, set_mid]
  rw [hset]
  obtain ⟨T1, H1, K1⟩ := tape_mid (C := C) (D := D) (F := F) lA lB lE u v e
  obtain ⟨T2, H2, K2⟩ := tape_mid (C := C) (D := D) (F := F) lA lB lE u w e
  rcases hp with ⟨rfl, hh, ha⟩ | ⟨rfl, hh, ha⟩
  · obtain ⟨hl, n, hn⟩ := rep_right hm hv hs (preF A B E ++ u) s e (tapeF C D F)
    refine ⟨n, ?_⟩
    have e1 : lineF f es s = ⟨f.q, TL ((preF A B E ++ u) ++ (repL v e ++ tapeF C D F)) s, s + ((preF A B E ++ u).length : Int)⟩ := by
      unfold lineF
      rw [hh, Int.toNat_natCast, hA, hB, hE, T1, H1, ha]
      congr 1
      rw [List.length_append]; omega
    rw [e1]
    have e2 : lineF ⟨f.q, if (1 : Int) = 1 then (k : Int) + 1 else k, if (1 : Int) = -1 then (u.length : Int) - 1 else 0, f.ws, B ++ w :: D, f.os⟩ es s = ⟨f.q, TL ((preF A B E ++ u) ++ (repL w e ++ tapeF C D F)) s, s + ((preF A B E ++ u).length : Int) + (e * v.length : Nat)⟩ := by
      unfold lineF
      rw [if_pos rfl, if_neg (by decide)]
      simp only
      rw [show ((k : Int) + 1).toNat = k + 1 by omega, hA, hE, T2, K2, hl]
      congr 1
      omega
    rw [e2]
    exact hn
  · obtain ⟨hl, n, hn⟩ := rep_left hm hv hs (preF A B E ++ u) s e (tapeF C D F)
    refine ⟨n, ?_⟩
    have e1 : lineF f es s = ⟨f.q, TL ((preF A B E ++ u) ++ (repL v e ++ tapeF C D F)) s, s + ((preF A B E ++ u).length : Int) + (e * v.length : Nat) - 1⟩ := by
      unfold lineF
      rw [hh, show ((k : Int) + 1).toNat = k + 1 by omega, hA, hB, hE, T1, K1, ha]
      congr 1
      omega
    rw [e1]
    have e2 : lineF ⟨f.q, if (-1 : Int) = 1 then (k : Int) + 1 else k, if (-1 : Int) = -1 then (u.length : Int) - 1 else 0, f.ws, B ++ w :: D, f.os⟩ es s = ⟨f.q, TL ((preF A B E ++ u) ++ (repL w e ++ tapeF C D F)) s, s + ((preF A B E ++ u).length : Int) - 1⟩ := by
      unfold lineF
      rw [if_neg (by decide), if_pos rfl]
      simp only
      rw [Int.toNat_natCast, hA, hE, T2, H2]
      congr 1
      rw [List.length_append]; omega
    rw [e2]
    exact hn
/-- A repeater is unrolled. -/
theorem unr_line {f : FoD} {es : List Nat} (h : LenF f es) {k : Nat} (hk : k < f.rs.length) {side : Int} (he : 1 ≤ es.getD k 0)
    (hp : (side = 1 ∧ f.hd = k ∧ f.at_ = ((f.ws.getD k []).length : Int)) ∨ (side = -1 ∧ f.hd = (k : Int) + 1 ∧ f.at_ = -1)) (s : Int) :
    lineF (unrF f k side) (es.set k (es.getD k 0 - 1)) s = lineF f es s := by
  obtain ⟨A, u, C, B, v, D, E, e, F, hA, hB, hE, lA, lB, lE, hC⟩ := mid_parts h hk
  have hvv : f.rs.getD k [] = v := by rw [hB, ← lB]; exact getD_mid B v [] D
  have huu : f.ws.getD k [] = u := by rw [hA, ← lA]; exact getD_mid A u [] C
  have hee : es.getD k 0 = e := by rw [hE, ← lE]; exact getD_mid E e 0 F
  rw [hee] at he ⊢
  obtain ⟨d, rfl⟩ : ∃ d, e = d + 1 := ⟨e - 1, by omega⟩
  have hset : es.set k (d + 1 - 1) = E ++ d :: F := by rw [hE, ← lE, set_mid]; rfl
  rw [hset]
  obtain ⟨T1, H1, K1⟩ := tape_mid (C := C) (D := D) (F := F) lA lB lE u v (d + 1)
  rcases hp with ⟨rfl, hh, ha⟩ | ⟨rfl, hh, ha⟩
  · unfold unrF lineF
    rw [if_pos rfl]
    simp only
    rw [hh, Int.toNat_natCast, huu, hvv]
    have hw : f.ws.set k (u ++ v) = A ++ (u ++ v) :: C := by rw [hA, ← lA, set_mid]
    obtain ⟨T2, H2, K2⟩ := tape_mid (C := C) (D := D) (F := F) lA lB lE (u ++ v) v d
    rw [hw, hB, T2, H2, hA, hE, T1, H1, repL_succ]
    simp
  · obtain ⟨x, C', rfl⟩ : ∃ x C', C = x :: C' := by
      cases C with
      | nil => simp at hC
      | cons x C' => exact ⟨x, C', rfl⟩
    unfold unrF lineF
    rw [if_neg (by decide)]
    simp only
    rw [hh, show ((k : Int) + 1).toNat = k + 1 by omega, Int.toNat_natCast, hvv]
    have hx : f.ws.getD (k + 1) [] = x := by rw [hA, ← lA]; exact getD_mid1 A u x [] C'
    have hw : f.ws.set (k + 1) (v ++ x) = A ++ u :: (v ++ x) :: C' := by rw [hA, ← lA, set_mid1]
    obtain ⟨T2, H2, K2⟩ := tape_mid (C := (v ++ x) :: C') (D := D) (F := F) lA lB lE u v d
    rw [hx, hw, hB, T2, K2, hA, hE, T1, K1, repL_snoc, tapeF_front]
    simp only [List.append_assoc]
    congr 1
    rw [Nat.succ_mul, ha]
    omega
/-- The counts behind a step. -/
def cntF (k : Int) (f : FoD) (es : List Nat) : List Nat := if k = 2 then es.set (onB f).1.toNat (es.getD (onB f).1.toNat 0 - 1) else es
theorem onB_cases {m : MachD} {f : FoD} (hok : foOk m f = true) : (onB f).2 = 0 ∧ 0 ≤ f.at_ ∧ f.at_ < ((f.ws.getD f.hd.toNat []).length : Int) ∨
    ∃ k : Nat, k < f.rs.length ∧ (onB f).1 = k ∧ (((onB f).2 = 1 ∧ f.hd = k ∧ f.at_ = ((f.ws.getD k []).length : Int)) ∨ ((onB f).2 = -1 ∧ f.hd = (k : Int) + 1 ∧ f.at_ = -1)) := by
  have hat := atOk_iff (foOk_parts hok).2.2.2.2.2.2
  have hh := foOk_hd hok
  unfold onB
  by_cases c1 : f.at_ = -1
  · rw [if_pos c1]
    have hpos : 0 < f.hd := by
      rcases hat with h | h | h
      · omega
      · omega
      · exact h.2
    exact .inr ⟨(f.hd - 1).toNat, by omega, by show f.hd - 1 = _; omega, .inr ⟨rfl, by omega, c1⟩⟩
  · rw [if_neg c1]
    by_cases c2 : f.at_ = ((f.ws.getD f.hd.toNat []).length : Int)
    · rw [if_pos c2]
      have hlt : f.hd < (f.rs.length : Int) := by
        rcases hat with h | h | h
        · omega
        · exact h.2
        · omega
      refine .inr ⟨f.hd.toNat, by omega, by show f.hd = _; omega, .inl ⟨rfl, by omega, c2⟩⟩
    · rw [if_neg c2]
      refine .inl ⟨rfl, ?_⟩
      rcases hat with h | h | h
      · exact h
      · omega
      · omega
theorem ok_len {m : MachD} {f : FoD} {es : List Nat} (hok : foOk m f = true) (he : es.length = f.rs.length) : LenF f es := by
  obtain ⟨a, b, _⟩ := foOk_parts hok
  have c := foOk_hd hok
  exact ⟨a.1, b, he, c.1, c.2⟩
/-- A step of a formula tape stands for steps of the machine. -/
theorem step_line {m : MachD} (hm : machOk m = true) {f g : FoD} {es : List Nat} {k : Int} (hok : foOk m f = true) (he : es.length = f.rs.length) (h : rawF m f = some (k, g)) (hu : k = 2 → 1 ≤ es.getD (onB f).1.toNat 0) (s : Int) :
    ∃ n s', LR m n (lineF f es s) (lineF g (cntF k f es) s') ∧ (k = 0 → 1 ≤ n) := by
  have L := ok_len hok he
  obtain ⟨_, hws, hos, _, hrl, _, _⟩ := foOk_parts hok
  unfold rawF at h
  rcases onB_cases hok with ⟨h2, h0, h1⟩ | ⟨i, hi, h1, hp⟩
  · rw [if_pos h2] at h
    split at h
    · cases h
    · rename_i hr
      injection h with h
      injection h with hk hg
      subst hk hg
      have hw := wall_line hm L h0 h1 hr s
      obtain ⟨s', hs'⟩ := wide_line (f := ⟨(ruleW m f).n, f.hd, f.at_ + (ruleW m f).m, f.ws.set f.hd.toNat ((f.ws.getD f.hd.toNat []).set f.at_.toNat (ruleW m f).w), f.rs, f.os⟩) (es := es) ⟨L.r1, by simp [L.ws], L.es, L.h0, L.h1⟩ s
      refine ⟨1, s', ?_, fun _ => Nat.le_refl _⟩
      rw [show cntF 0 f es = es from if_neg (by decide)]
      unfold stW
      rw [hs']
      exact hw
  · have hne : ¬ (onB f).2 = 0 := by rcases hp with ⟨e, _⟩ | ⟨e, _⟩ <;> omega
    rw [if_neg hne, h1, Int.toNat_natCast] at h
    have hv : 1 ≤ (f.rs.getD i []).length := by rw [getD_get hi]; exact (hrl _ (List.getElem_mem hi)).1
    split at h
    · rename_i w hw
      injection h with h
      injection h with hk hg
      subst hk hg
      obtain ⟨n, hn⟩ := pass_line hm L hi hv hw hp s
      have lws : (f.rs.set i w).length = f.rs.length := by simp
      obtain ⟨s', hs'⟩ := wide_line (f := ⟨f.q, if (onB f).2 = 1 then (i : Int) + 1 else i, if (onB f).2 = -1 then ((f.ws.getD i []).length : Int) - 1 else 0, f.ws, f.rs.set i w, f.os⟩) (es := es) ⟨by rw [lws]; exact L.r1, by rw [lws]; exact L.ws, by rw [lws]; exact L.es, by show 0 ≤ (if (onB f).2 = 1 then (i : Int) + 1 else i); split <;> omega, by show (if (onB f).2 = 1 then (i : Int) + 1 else i) ≤ ((f.rs.set i w).length : Int); rw [lws]; split <;> omega⟩ s
      refine ⟨n, s', ?_, fun e => by omega⟩
      rw [show cntF 1 f es = es from if_neg (by decide)]
      unfold passF
      rw [Int.toNat_natCast, hs']
      exact hn
    · injection h with h
      injection h with hk hg
      subst hk hg
      have hu' := hu rfl
      rw [h1, Int.toNat_natCast] at hu'
      have := unr_line L hi hu' hp s
      refine ⟨0, s, ?_, fun e => by omega⟩
      rw [show cntF 2 f es = es.set i (es.getD i 0 - 1) by unfold cntF; rw [if_pos rfl, h1, Int.toNat_natCast], this]
      rfl
end Go.Proofs.YtojiammendjpkaaGreat
end
section
set_option linter.unusedSimpArgs false
set_option linter.unusedVariables false
namespace Go.Proofs.YtojiammendjpkaaGreat
open Go Go.RowKit Go.Proofs
def shapeB (f g : FoD) : Bool := decide (f.q = g.q) && decide (f.hd = g.hd) && decide (f.at_ = g.at_) && decide (f.ws = g.ws) && decide (f.rs = g.rs)
def subL (ys xs : List Int) : List Int := List.zipWith (fun y x => y - x) ys xs
def addL (ys xs : List Int) : List Int := List.zipWith (fun y x => y + x) ys xs
/-- How a formula tape has grown, where it has. -/
def growF (m : MachD) (f g : FoD) : Option (List Int) :=
  if (foOk m (normFo f) && foOk m (normFo g) && shapeB (normFo f) (normFo g) && (subL (normFo g).os (normFo f).os).all (fun z => inB z 0 2000)) = true then some (subL (normFo g).os (normFo f).os) else none
def runF (m : MachD) : Nat → FoD → Option FoD
  | 0, f => some f
  | n + 1, f => match stepF m f with
    | some (_, g) => runF m n g
    | none => none
/-- The numbers of steps for which a formula tape is accepted. -/
def accR (m : MachD) (f0 : FoD) (cs : List Int) : Nat → Nat → FoD → Bool → List Nat
  | 0, _, _, _ => []
  | k + 1, n, f, real => match stepF m f with
    | none => []
    | some (kind, g) =>
      if kind = 2 ∧ cs.getD (onB f).1.toNat 0 + f.os.getD (onB f).1.toNat 0 < 1 then []
      else (if ((real || decide (kind = 0)) && (growF m f0 g).isSome) = true then [n] else []) ++ accR m f0 cs k (n + 1) g (real || decide (kind = 0))
theorem wide_keep (f : FoD) : (wideF f).os = f.os ∧ (wideF f).rs = f.rs := by
  unfold wideF
  split
  · exact ⟨rfl, rfl⟩
  · split
    · exact ⟨rfl, rfl⟩
    · exact ⟨rfl, rfl⟩
theorem raw_keep {m : MachD} {f g : FoD} {k : Int} (h : rawF m f = some (k, g)) : g.rs.length = f.rs.length ∧ g.os = (if k = 2 then f.os.set (onB f).1.toNat (f.os.getD (onB f).1.toNat 0 - 1) else f.os) ∧ (k = 0 ∨ k = 1 ∨ k = 2) := by
  unfold rawF at h
  split at h
  · split at h
    · cases h
    · injection h with h
      injection h with hk hg
      subst hk hg
      rw [if_neg (by decide)]
      unfold stW
      exact ⟨by rw [(wide_keep _).2], (wide_keep _).1, .inl rfl⟩
  · split at h
    · injection h with h
      injection h with hk hg
      subst hk hg
      rw [if_neg (by decide)]
      unfold passF
      exact ⟨by rw [(wide_keep _).2]; simp, (wide_keep _).1, .inr (.inl rfl)⟩
    · injection h with h
      injection h with hk hg
      subst hk hg
      rw [if_pos rfl]
      unfold unrF
      split
      · exact ⟨rfl, rfl, .inr (.inr rfl)⟩
      · exact ⟨rfl, rfl, .inr (.inr rfl)⟩
theorem step_raw {m : MachD} {f g : FoD} {k : Int} (h : stepF m f = some (k, g)) : rawF m f = some (k, g) ∧ foOk m g = true := by
  unfold stepF at h
  split at h
  · rename_i k' g' e
    split at h
    · rename_i ho
      injection h with h
      injection h with h1 h2
      subst h1 h2
      exact ⟨e, ho⟩
    · cases h
  · cases h
theorem esF_set : ∀ (cs os : List Int) (i : Nat), cs.length = os.length → esF cs (os.set i (os.getD i 0 - 1)) = (esF cs os).set i ((esF cs os).getD i 0 - 1)
  | [], [], i, _ => by simp [esF]
  | c :: cs, o :: os, 0, _ => by
    simp only [List.set_cons_zero, List.getD_cons_zero, esF]
    congr 1
    omega
  | c :: cs, o :: os, i + 1, h => by
    simp only [List.set_cons_succ, List.getD_cons_succ, esF]
    rw [esF_set cs os i (by simpa using h)]
theorem cnt_es {m : MachD} {f g : FoD} {k : Int} (h : rawF m f = some (k, g)) {cs : List Int} (hl : cs.length = f.os.length) : cntF k f (esF cs f.os) = esF cs g.os := by
  obtain ⟨_, ho, _⟩ := raw_keep h
  rw [ho]
  unfold cntF
  split
  · rw [esF_set _ _ _ hl]
  · rfl
theorem getD_set_same {α : Type} {xs : List α} {i : Nat} (h : i < xs.length) (x d : α) : (xs.set i x).getD i d = x := by
  rw [List.getD_eq_getElem?_getD, List.getElem?_set_self h]; rfl
theorem getD_set_ne {α : Type} {xs : List α} {i j : Nat} (h : i ≠ j) (x d : α) : (xs.set i x).getD j d = xs.getD j d := by
  rw [List.getD_eq_getElem?_getD, List.getElem?_set_ne h, List.getD_eq_getElem?_getD]
/-- What an accepted number of steps means. -/
theorem acc_means {m : MachD} (hm : machOk m = true) (f0 : FoD) (cs : List Int) : ∀ (k n0 : Nat) (f : FoD) (real : Bool) (n : Nat), n ∈ accR m f0 cs k n0 f real → foOk m f = true → cs.length = f.rs.length → (∀ j, j < cs.length → 0 ≤ cs.getD j 0 + f.os.getD j 0) →
    ∃ g d, n + 1 = n0 + d ∧ d ≤ k ∧ 1 ≤ d ∧ runF m d f = some g ∧ (growF m f0 g).isSome = true ∧ foOk m g = true ∧ g.rs.length = f.rs.length ∧ (∀ j, j < cs.length → 0 ≤ cs.getD j 0 + g.os.getD j 0) ∧
      ∀ cs', cs'.length = cs.length → (∀ j, cs.getD j 0 ≤ cs'.getD j 0) → ∀ s, ∃ N s', LR m N (lineF f (esF cs' f.os) s) (lineF g (esF cs' g.os) s') ∧ (real = false → 1 ≤ N)
  | 0, n0, f, real, n, h, _, _, _ => by simp [accR] at h
  | k + 1, n0, f, real, n, h, hok, hl, hpos => by
    unfold accR at h
    split at h
    · cases h
    · rename_i kind g hst
      obtain ⟨hraw, hokg⟩ := step_raw hst
      obtain ⟨hrsl, hos, hkind⟩ := raw_keep hraw
      have hosl : f.os.length = f.rs.length := (foOk_parts hok).2.2.1
      split at h
      · cases h
      · rename_i hcond
        have hcond' : kind = 2 → 1 ≤ cs.getD (onB f).1.toNat 0 + f.os.getD (onB f).1.toNat 0 := fun e => by
          have : ¬ cs.getD (onB f).1.toNat 0 + f.os.getD (onB f).1.toNat 0 < 1 := fun hh => hcond ⟨e, hh⟩
          omega
        have hposg : ∀ j, j < cs.length → 0 ≤ cs.getD j 0 + g.os.getD j 0 := fun j hj => by
          rw [hos]
          split
          · rename_i e
            by_cases c : (onB f).1.toNat = j
            · subst c
              rw [getD_set_same (by omega)]
              have := hcond' e
              omega
            · rw [getD_set_ne c]; exact hpos j hj
          · exact hpos j hj
        have one : ∀ cs', cs'.length = cs.length → (∀ j, cs.getD j 0 ≤ cs'.getD j 0) → ∀ s, ∃ N s', LR m N (lineF f (esF cs' f.os) s) (lineF g (esF cs' g.os) s') ∧ (kind = 0 → 1 ≤ N) := fun cs' hl' hge s => by
          have := step_line hm (es := esF cs' f.os) hok (by rw [esF_length _ _ (by omega)]; exact hosl) hraw (fun e => by
            rw [esF_getD _ _ _ (by omega)]
            have a := hcond' e
            have b := hge (onB f).1.toNat
            omega) s
          rwa [cnt_es hraw (by omega)] at this
        rcases List.mem_append.1 h with h | h
        · split at h
          · rename_i hv
            have hn : n = n0 := by simpa using h
            subst hn
            simp only [Bool.and_eq_true, Bool.or_eq_true, decide_eq_true_eq] at hv
            refine ⟨g, 1, rfl, by omega, Nat.le_refl _, ?_, hv.2, hokg, hrsl, hposg, fun cs' hl' hge s => ?_⟩
            · unfold runF; rw [hst]; rfl
            · obtain ⟨N, s', a, b⟩ := one cs' hl' hge s
              refine ⟨N, s', a, fun e => b ?_⟩
              rcases hv.1 with c | c
              · rw [e] at c; cases c
              · exact c
          · cases h
        · obtain ⟨g', d, e1, e2, e3, e4, e5, e6, e7, e8, e9⟩ := acc_means hm f0 cs k (n0 + 1) g (real || decide (kind = 0)) n h hokg (by omega) hposg
          refine ⟨g', d + 1, by omega, by omega, by omega, ?_, e5, e6, by omega, e8, fun cs' hl' hge s => ?_⟩
          · unfold runF; rw [hst]; exact e4
          · obtain ⟨N, s', a, b⟩ := one cs' hl' hge s
            obtain ⟨N', s'', a', b'⟩ := e9 cs' hl' hge s'
            refine ⟨N + N', s'', LR.trans a a', fun e => ?_⟩
            by_cases c : kind = 0
            · have := b c; omega
            · have := b' (by rw [e]; simp [c]); omega
theorem line_same {q : Int} {l l' : List Int} {h h' : Int} (hs : SameL l h l' h') (s : Int) : (⟨q, TL l s, s + h⟩ : LC) = ⟨q, TL l' (s + h - h'), (s + h - h') + h'⟩ := by
  congr 1
  · funext i
    unfold TL
    have := hs (i - s - h)
    rw [show h + (i - s - h) = i - s by omega, show h' + (i - s - h) = i - (s + h - h') by omega] at this
    exact this
  · omega
theorem lineF_head (f : FoD) (cs : List Int) (s : Int) : lineF f (esF cs f.os) s = ⟨f.q, TL (tapeO f cs) s, s + headO f cs⟩ := by
  unfold lineF headO tapeO
  congr 1
  omega
theorem same_line {cs : List Int} {f g : FoD} (h : SameFo cs f g) (s : Int) : ∃ s', lineF g (esF cs g.os) s' = lineF f (esF cs f.os) s := by
  refine ⟨s + headO f cs - headO g cs, ?_⟩
  rw [lineF_head, lineF_head, line_same h.tape s, h.q]
theorem addL_length {xs ys : List Int} (h : xs.length = ys.length) : (addL xs ys).length = xs.length := by simp [addL, h]
theorem addL_getD {xs ys : List Int} (h : xs.length = ys.length) (j : Nat) : (addL xs ys).getD j 0 = xs.getD j 0 + ys.getD j 0 := by
  unfold addL
  rw [List.getD_eq_getElem?_getD, List.getD_eq_getElem?_getD, List.getD_eq_getElem?_getD, List.getElem?_zipWith]
  by_cases c : j < xs.length
  · rw [List.getElem?_eq_getElem c, List.getElem?_eq_getElem (by omega)]; rfl
  · rw [List.getElem?_eq_none (by omega), List.getElem?_eq_none (by omega)]; rfl
theorem esF_add : ∀ (cs xs ys : List Int), cs.length = xs.length → ys.length = xs.length → esF cs ys = esF (addL cs (subL ys xs)) xs
  | [], [], [], _, _ => rfl
  | c :: cs, x :: xs, y :: ys, h1, h2 => by
    have := esF_add cs xs ys (by simpa using h1) (by simpa using h2)
    simp only [addL, subL] at this
    simp only [addL, subL, List.zipWith_cons_cons, esF, this]
    congr 2
    omega
  | [], x :: xs, _, h, _ => by simp at h
  | c :: cs, [], _, h, _ => by simp at h
  | _, [], y :: ys, _, h => by simp at h
  | _, x :: xs, [], _, h => by simp at h
/-- Behind its growth a formula tape stands for its own line at greater counts. -/
theorem grow_line {m : MachD} {f g : FoD} {cs l : List Int} (hf : ShapeF f cs) (hg : ShapeF g cs) (hfn : ∀ r ∈ f.rs, r ≠ []) (hgn : ∀ r ∈ g.rs, r ≠ []) (h : growF m f g = some l) (s : Int) :
    l.length = cs.length ∧ (∀ z ∈ l, 0 ≤ z ∧ z ≤ 2000) ∧ ∃ s', lineF f (esF (addL cs l) f.os) s' = lineF g (esF cs g.os) s := by
  unfold growF at h
  split at h
  · rename_i hc
    injection h with h
    simp only [Bool.and_eq_true, shapeB, decide_eq_true_eq, List.all_eq_true] at hc
    obtain ⟨⟨⟨o1, o2⟩, ⟨⟨⟨e1, e2⟩, e3⟩, e4⟩, e5⟩, hall⟩ := hc
    have Sf := norm_same hf hfn
    have Sg := norm_same hg hgn
    have lf : (normFo f).os.length = cs.length := by rw [Sf.os, hf.os, hf.cn]
    have lg : (normFo g).os.length = cs.length := by rw [Sg.os, hg.os, hg.cn]
    have ll : l.length = cs.length := by rw [← h]; simp [subL, lf, lg]
    have hb : ∀ z ∈ l, 0 ≤ z ∧ z ≤ 2000 := fun z hz => by rw [← h] at hz; have := inB_iff.1 (hall z hz); omega
    have hge : ∀ j, 0 ≤ l.getD j 0 := fun j => by
      rw [List.getD_eq_getElem?_getD]
      cases e : l[j]? with
      | none => exact Int.le_refl _
      | some z => exact (hb z (List.mem_of_getElem? e)).1
    refine ⟨ll, hb, ?_⟩
    obtain ⟨s1, h1⟩ := same_line Sg s
    have hf' : ShapeF f (addL cs l) := ⟨hf.r1, hf.ws, hf.os, by rw [addL_length (by omega)]; exact hf.cn, hf.h0, hf.h1, fun k hk => by
      rw [addL_getD (by omega)]
      have a := hf.pos k hk
      have b := hge k
      omega⟩
    have Sf' := norm_same hf' hfn
    have hX : lineF (normFo g) (esF cs (normFo g).os) s1 = lineF (normFo f) (esF (addL cs l) (normFo f).os) s1 := by
      rw [esF_add cs (normFo f).os (normFo g).os (by omega) (by omega), h]
      unfold lineF
      rw [e1, e2, e3, e4, e5]
    refine ⟨s1 + headO (normFo f) (addL cs l) - headO f (addL cs l), ?_⟩
    rw [← h1, hX, lineF_head, lineF_head, line_same Sf'.tape (s1 + headO (normFo f) (addL cs l) - headO f (addL cs l)), Sf'.q]
    congr 1
    · congr 1; omega
    · omega
  · cases h
/-- A bouncer never halts. -/
theorem bounce_never {m : MachD} (hm : machOk m = true) {f : FoD} {cs : List Int} (hok : foOk m f = true) (hl : cs.length = f.rs.length) (h1 : ∀ j, j < f.rs.length → 1 ≤ cs.getD j 0 + f.os.getD j 0) {k n : Nat} (hn : n ∈ accR m f cs k 1 f false) :
    ∀ i, ¬ lookI m (cfgI m (foCfg f.q (tapeO f cs) (headO f cs)) i) = noR := by
  obtain ⟨hr3, hws, hos, _, hrl, _, hat⟩ := foOk_parts hok
  have hh := foOk_hd hok
  obtain ⟨g, d, _, _, _, _, hgr, hokg, hgl, hposg, hrun⟩ := acc_means hm f cs k 1 f false n hn hok hl (fun j hj => by have := h1 j (by omega); omega)
  obtain ⟨hr3', hws', hos', _, hrl', _, hat'⟩ := foOk_parts hokg
  have hh' := foOk_hd hokg
  obtain ⟨l, hl'⟩ := Option.isSome_iff_exists.1 hgr
  have hfn : ∀ r ∈ f.rs, r ≠ [] := fun r hr => List.length_pos_iff.1 (hrl r hr).1
  have hgn : ∀ r ∈ g.rs, r ≠ [] := fun r hr => List.length_pos_iff.1 (hrl' r hr).1
  have sF : ∀ cs', cs'.length = cs.length → (∀ j, cs.getD j 0 ≤ cs'.getD j 0) → ShapeF f cs' := fun cs' e hge => ⟨hr3.1, hws, hos, by omega, hh.1, hh.2, fun j hj => by
    have a := h1 j hj
    have b := hge j
    omega⟩
  have sG : ∀ cs', cs'.length = cs.length → (∀ j, cs.getD j 0 ≤ cs'.getD j 0) → ShapeF g cs' := fun cs' e hge => ⟨hr3'.1, hws', hos', by omega, hh'.1, hh'.2, fun j hj => by
    have a := hposg j (by omega)
    have b := hge j
    omega⟩
  have gl := grow_line (sF cs rfl (fun _ => Int.le_refl _)) (sG cs rfl (fun _ => Int.le_refl _)) hfn hgn hl' 0
  have lge : ∀ j, 0 ≤ l.getD j 0 := fun j => by
    rw [List.getD_eq_getElem?_getD]
    cases e : l[j]? with
    | none => exact Int.le_refl _
    | some z => exact (gl.2.1 z (List.mem_of_getElem? e)).1
  have cyc : ∀ M : Nat, ∃ N s' cs', M ≤ N ∧ cs'.length = cs.length ∧ (∀ j, cs.getD j 0 ≤ cs'.getD j 0) ∧ LR m N (lineF f (esF cs f.os) 0) (lineF f (esF cs' f.os) s') := fun M => by
    induction M with
    | zero => exact ⟨0, 0, cs, Nat.le_refl _, rfl, fun _ => Int.le_refl _, rfl⟩
    | succ M ih =>
      obtain ⟨N, s', cs', hMN, e1, e2, hLR⟩ := ih
      obtain ⟨N2, s2, hLR2, hpos⟩ := hrun cs' e1 e2 s'
      obtain ⟨_, _, s3, h3⟩ := grow_line (sF cs' e1 e2) (sG cs' e1 e2) hfn hgn hl' s2
      refine ⟨N + N2, s3, addL cs' l, by have := hpos rfl; omega, by rw [addL_length (by omega)]; exact e1, fun j => ?_, ?_⟩
      · rw [addL_getD (by omega)]
        have a := e2 j
        have b := lge j
        omega
      · rw [h3]
        exact LR.trans hLR hLR2
  intro i
  obtain ⟨N, s', cs', hMN, _, _, hLR⟩ := cyc (i + 1)
  have hd := head_ok (sF cs rfl (fun _ => Int.le_refl _)) hat hfn (fun j hj => by have := h1 j hj; omega)
  have hLn : Ln (foCfg f.q (tapeO f cs) (headO f cs)) (lineF f (esF cs f.os) 0).t (lineF f (esF cs f.os) 0).p := by
    rw [lineF_head]
    refine ⟨fun i => ?_, fun i => ?_⟩
    · rw [foCfg_r _ _ (by omega)]
      show _ = cellZ (tapeO f cs) (0 + headO f cs + i - 0)
      congr 1; omega
    · rw [foCfg_l _ _ (by omega) hd.2]
      show _ = cellZ (tapeO f cs) (0 + headO f cs - 1 - i - 0)
      congr 1; omega
  exact (LR.cfg hm hLR hLn (by rw [foCfg_q]; rfl)).1 i (by omega)
end Go.Proofs.YtojiammendjpkaaGreat
end
