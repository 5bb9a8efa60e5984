/- Plain words: the text of a machine, and that its parts are found again. No program stands here.
A region that draws its order, whose operations change memory in one order alone, and whose last operations follow in one order upon all others: it may be walked in an order that is picked, the reading operations first. No program stands here. -/
import Derived.Test.YtcebkjiafjmjfaaGreatDoorP07
import Derived.Test.YtcebkjiafjmjfaaGreatDoorP04
import Derived.Lib.Split
import Derived.Lib.SplitLaws
import Derived.Lib.CountLaws
import Derived.Lib.CutLaws
import Derived.Lib.IndexAny
import Derived.Lib.ParseIntBTie
import Derived.Lib.AtoiTie
import Derived.Lib.AtoiAllCases
import Derived.StillTail
import Derived.OrdersHeld
import Derived.Test.YtcebkjiafjmjfaaGreatDoorP01
section
set_option linter.unusedSimpArgs false
set_option linter.unusedVariables false
namespace Go.Proofs.YtcebkjiafjmjfaaGreatDoor
open Go Go.RowKit Go.Proofs
theorem idx_one {c : UInt8} : ∀ {p : List UInt8} (r : List UInt8), c ∉ p → Lib.index (p ++ c :: r) [c] = p.length
  | [], r, _ => by simp [Lib.index]
  | b :: p, r, h => by
    have hb : ¬ b = c := fun e => h (by rw [e]; exact List.mem_cons_self)
    have ih := idx_one (p := p) r (fun hc => h (List.mem_cons_of_mem _ hc))
    have h1 : [c].isPrefixOf (b :: (p ++ c :: r)) = false := by
      show (c == b && _) = false
      rw [beq_eq_false_iff_ne.2 (Ne.symm hb)]
      rfl
    rw [List.cons_append, Lib.index, h1, ih]
    have : ((p.length : Int) == -1) = false := by rw [beq_eq_false_iff_ne]; omega
    simp [this]
theorem idx_none {c : UInt8} : ∀ {p : List UInt8}, c ∉ p → Lib.index p [c] = -1
  | [], _ => rfl
  | b :: p, h => by
    have hb : ¬ b = c := fun e => h (by rw [e]; exact List.mem_cons_self)
    have ih := idx_none (p := p) (fun hc => h (List.mem_cons_of_mem _ hc))
    have h1 : [c].isPrefixOf (b :: p) = false := by
      show (c == b && _) = false
      rw [beq_eq_false_iff_ne.2 (Ne.symm hb)]
      rfl
    rw [Lib.index, h1, ih]
    rfl
theorem split_joinK {c : UInt8} : ∀ (ps : List (List UInt8)) (p : List UInt8), (∀ q ∈ p :: ps, c ∉ q) → Lib.splitK [c] 0 (Lib.count (Lib.join (p :: ps) [c]) [c]) (Lib.join (p :: ps) [c]) = p :: ps ∧ Lib.count (Lib.join (p :: ps) [c]) [c] = ps.length
  | [], p, h => by
    have hp := idx_none (h p List.mem_cons_self)
    rw [Lib.join_one, Lib.count_miss hp]
    exact ⟨rfl, rfl⟩
  | q :: ps, p, h => by
    have hp : c ∉ p := h p List.mem_cons_self
    obtain ⟨ih1, ih2⟩ := split_joinK ps q (fun x hx => h x (List.mem_cons_of_mem _ hx))
    have e : Lib.join (p :: q :: ps) [c] = p ++ c :: Lib.join (q :: ps) [c] := by
      rw [Lib.join_cons, Lib.join_cons]
      simp [Lib.joinTail]
    have hi := idx_one (Lib.join (q :: ps) [c]) hp
    have hd : (p ++ c :: Lib.join (q :: ps) [c]).drop (p.length + [c].length) = Lib.join (q :: ps) [c] := by
      rw [show p.length + [c].length = p.length + 1 from rfl, List.drop_append, List.drop_of_length_le (by omega), show p.length + 1 - p.length = 1 by omega]
      rfl
    have hc : Lib.count (p ++ c :: Lib.join (q :: ps) [c]) [c] = ps.length + 1 := by rw [Lib.count_hit (by simp) hi, hd, ih2]; omega
    rw [e, hc]
    refine ⟨?_, rfl⟩
    rw [ih2] at ih1
    rw [Lib.splitK, hi]
    have : ((p.length : Int) == -1) = false := by rw [beq_eq_false_iff_ne]; omega
    rw [if_neg (by rw [this]; simp), Int.toNat_natCast, hd, ih1]
    simp
abbrev bsS (l : List UInt8) : ByteArray := ⟨l.toArray⟩
theorem split_join {c : UInt8} (p : List UInt8) (ps : List (List UInt8)) (h : ∀ q ∈ p :: ps, c ∉ q) : Lib.splitB ⟨#[c]⟩ 0 (Lib.countB (bsS (Lib.join (p :: ps) [c])) ⟨#[c]⟩) (bsS (Lib.join (p :: ps) [c])) = (p :: ps).map bsS ∧ Lib.countB (bsS (Lib.join (p :: ps) [c])) ⟨#[c]⟩ = ps.length := by
  obtain ⟨h1, h2⟩ := split_joinK ps p h
  have hd := Lib.splitB_data ⟨#[c]⟩ 0 (Lib.countB (bsS (Lib.join (p :: ps) [c])) ⟨#[c]⟩) (bsS (Lib.join (p :: ps) [c]))
  refine ⟨?_, h2⟩
  have e : Lib.splitK [c] 0 (Lib.countB (bsS (Lib.join (p :: ps) [c])) ⟨#[c]⟩) (Lib.join (p :: ps) [c]) = p :: ps := h1
  have back : ∀ (l : List ByteArray) (xs : List (List UInt8)), l.map (·.data.toList) = xs → l = xs.map bsS := by
    intro l xs hl
    subst hl
    rw [List.map_map]
    conv => lhs; rw [← List.map_id l]
    rfl
  exact back _ _ (hd.trans e)
/-! Numbers. -/
theorem decFrom_snoc {b : UInt8} {d : Nat} (hb : Lib.digitVal b = some d) : ∀ (l : List UInt8) (a n : Nat), Lib.decFrom a l = some n → Lib.decFrom a (l ++ [b]) = some (n * 10 + d)
  | [], a, n, h => by
    have : a = n := by simpa [Lib.decFrom] using h
    subst this
    simp [Lib.decFrom, hb]
  | x :: l, a, n, h => by
    rw [List.cons_append, Lib.decFrom]
    rw [Lib.decFrom] at h
    cases hx : Lib.digitVal x with
    | none => rw [hx] at h; cases h
    | some y =>
      rw [hx] at h
      exact decFrom_snoc hb l _ _ h
theorem dig_val (n : Nat) (h : n < 10) : Lib.digitVal (UInt8.ofNat (48 + n)) = some n := by
  match n, h with
  | 0, _ => decide
  | 1, _ => decide
  | 2, _ => decide
  | 3, _ => decide
  | 4, _ => decide
  | 5, _ => decide
  | 6, _ => decide
  | 7, _ => decide
  | 8, _ => decide
  | 9, _ => decide
theorem decFrom_digits (u : Nat) : Lib.decFrom 0 (Lib.decDigits u) = some u := by
  induction u using Nat.strongRecOn with
  | _ u ih =>
    rw [Lib.decDigits]
    split
    · rename_i h
      show (match Lib.digitVal (UInt8.ofNat (48 + u)) with | some d => Lib.decFrom (0 * 10 + d) [] | none => none) = some u
      rw [dig_val u h]
      show some (0 * 10 + u) = some u
      congr 1
      omega
    · rename_i h
      have := decFrom_snoc (dig_val (u % 10) (by omega)) _ _ _ (ih (u / 10) (by omega))
      rw [this]
      congr 1
      omega
theorem digits_len (u : Nat) (h : u ≤ 1000000) : (Lib.decDigits u).length ≤ 18 := by
  rw [Lib.decDigits_length]
  by_cases h0 : Lib.nDigits u ≤ 18
  · exact h0
  · exfalso
    have key : ∀ k u : Nat, u < 10 ^ (k + 1) → Lib.nDigits u ≤ k + 1 := by
      intro k
      induction k with
      | zero => intro u hu; rw [Lib.nDigits_small (by simpa using hu)]; exact Nat.le_refl _
      | succ k ih =>
        intro u hu
        by_cases hs : u < 10
        · rw [Lib.nDigits_small hs]; omega
        · rw [Lib.nDigits_big hs]
          have := ih (u / 10) (by rw [Nat.pow_succ] at hu; omega)
          omega
    have := key 17 u (by omega)
    omega
/-- The number that a decimal form spells. -/
theorem parse_itoa {n : Int} (h0 : 0 ≤ n) (h1 : n ≤ 1000000) : Lib.parseIntB 64 (Lib.itoa n) = .ok n := by
  obtain ⟨u, rfl⟩ : ∃ u : Nat, n = (u : Int) := ⟨n.toNat, by omega⟩
  have hi : Lib.itoa (u : Int) = Lib.decDigits u := by
    unfold Lib.itoa
    rw [if_neg (by omega), Int.toNat_natCast]
  rw [hi, Lib.parseIntB_64]
  have hne := decDigits_ne u
  have hdig := decDigits_dig u
  have hlen := digits_len u (by omega)
  have hval := decFrom_digits u
  cases hl : Lib.decDigits u with
  | nil => exact absurd hl hne
  | cons c r =>
    rw [hl] at hdig hlen hval
    have hc := hdig c List.mem_cons_self
    have hc2 : 48 ≤ c.toNat ∧ c.toNat ≤ 57 := by
      simp only [isDig, Bool.and_eq_true, decide_eq_true_eq, UInt8.le_iff_toNat_le] at hc
      simpa using hc
    rw [Lib.atoiAll_plain c r (by omega) (by omega), Lib.signless_short hlen]
    have : Lib.decNat (c :: r) = some u := by simp [Lib.decNat, hval]
    rw [this]
    rfl
/-! The text of a machine. -/
/-- The text of a rule. -/
def ruleT (r : RuleD) : List UInt8 := if r = noR then [45, 45, 45] else Lib.itoa r.w ++ (if r.m < 0 then 76 else 82) :: Lib.itoa r.n
def rowT (rs : List RuleD) : List UInt8 := Lib.join (rs.map ruleT) [44]
/-- The rules of each state. -/
def rowsM (m : MachD) : List (List RuleD) := (List.range m.st.toNat).map fun i => (m.rules.drop (i * m.sy.toNat)).take m.sy.toNat
def machT (m : MachD) : List UInt8 := Lib.join ((rowsM m).map rowT) [59]
/-- The bytes of a rule's text. -/
def inRule (c : UInt8) : Bool := isDig c || c == 45 || c == 76 || c == 82
theorem itoa_dig {n : Int} (h : 0 ≤ n) : ∀ c ∈ Lib.itoa n, isDig c = true := by
  intro c hc
  unfold Lib.itoa at hc
  rw [if_neg (by omega)] at hc
  exact decDigits_dig _ c hc
theorem ruleT_bytes {sy st : Int} {r : RuleD} (h : ruleOk sy st r = true) : ∀ c ∈ ruleT r, inRule c = true := by
  intro c hc
  unfold ruleT at hc
  by_cases hr : r = noR
  · rw [if_pos hr] at hc
    simp only [List.mem_cons, List.not_mem_nil, or_false, or_self] at hc
    subst hc; decide
  · rw [if_neg hr] at hc
    simp only [ruleOk, decide_eq_false hr, Bool.false_or, Bool.and_eq_true] at h
    have h1 := inB_iff.1 h.1.1
    have h2 := inB_iff.1 h.2
    rcases List.mem_append.1 hc with h3 | h3
    · simp [inRule, itoa_dig h1.1 c h3]
    · rcases List.mem_cons.1 h3 with h4 | h4
      · subst h4
        split <;> decide
      · simp [inRule, itoa_dig h2.1 c h4]
theorem ruleT_no {sy st : Int} {r : RuleD} (h : ruleOk sy st r = true) : (44 : UInt8) ∉ ruleT r ∧ (59 : UInt8) ∉ ruleT r :=
  ⟨fun hc => absurd (ruleT_bytes h _ hc) (by decide), fun hc => absurd (ruleT_bytes h _ hc) (by decide)⟩
theorem mem_joinTail {c : UInt8} {sep : List UInt8} : ∀ {l : List (List UInt8)}, c ∈ Lib.joinTail sep l → c ∈ sep ∨ ∃ x ∈ l, c ∈ x := by
  intro l hc
  unfold Lib.joinTail at hc
  obtain ⟨y, hy, hcy⟩ := List.mem_flatten.1 hc
  obtain ⟨x, hx, rfl⟩ := List.mem_map.1 hy
  rcases List.mem_append.1 hcy with h | h
  · exact .inl h
  · exact .inr ⟨x, hx, h⟩
theorem mem_join {c : UInt8} {sep : List UInt8} {l : List (List UInt8)} (hc : c ∈ Lib.join l sep) : c ∈ sep ∨ ∃ x ∈ l, c ∈ x := by
  cases l with
  | nil => simp [Lib.join_nil] at hc
  | cons a l =>
    rw [Lib.join_cons] at hc
    rcases List.mem_append.1 hc with h | h
    · exact .inr ⟨a, List.mem_cons_self, h⟩
    · rcases mem_joinTail h with h | ⟨x, hx, h⟩
      · exact .inl h
      · exact .inr ⟨x, List.mem_cons_of_mem _ hx, h⟩
theorem rowT_no {sy st : Int} {rs : List RuleD} (h : ∀ r ∈ rs, ruleOk sy st r = true) : (59 : UInt8) ∉ rowT rs := by
  intro hc
  rcases mem_join hc with h1 | ⟨x, hx, h1⟩
  · exact absurd h1 (by decide)
  · obtain ⟨r, hr, rfl⟩ := List.mem_map.1 hx
    exact (ruleT_no (h r hr)).2 h1
/-- Where the move stands in the text of a rule, and what stands around it. -/
theorem rule_at {sy st : Int} {r : RuleD} (h : ruleOk sy st r = true) (hr : r ≠ noR) : Lib.indexAny (ruleT r) [76, 82] = ((Lib.itoa r.w).length : Int) := by
  simp only [ruleOk, decide_eq_false hr, Bool.false_or, Bool.and_eq_true] at h
  have h1 := inB_iff.1 h.1.1
  unfold ruleT
  rw [if_neg hr]
  have hno : Lib.NoAny (Lib.itoa r.w ++ (if r.m < 0 then 76 else 82) :: Lib.itoa r.n) [76, 82] (Lib.itoa r.w).length := by
    intro j b hj hb
    rw [List.getElem?_append_left hj] at hb
    have := itoa_dig h1.1 b (List.mem_of_getElem? hb)
    by_cases e : b = 76
    · subst e; exact absurd this (by decide)
    · by_cases e2 : b = 82
      · subst e2; exact absurd this (by decide)
      · simp [e, e2]
  refine Lib.indexAny_hit (x := if r.m < 0 then 76 else 82) hno ?_ ?_
  · rw [List.getElem?_append_right (Nat.le_refl _), Nat.sub_self]; rfl
  · split <;> rfl
theorem rule_none : Lib.indexAny (ruleT noR) [76, 82] = -1 := by decide
end Go.Proofs.YtcebkjiafjmjfaaGreatDoor
end
section
namespace Go.Proofs.YtcebkjiafjmjfaaGreatDoor
open Go
section
variable {P : Program} {ops : Array Oper} {md : Region.Mode} {Q : Exit → Act → World → Prop}
/-- An operation that is none of those that stir memory. -/
def calmOp (o : Oper) : Bool :=
  match o.op with
  | .call _ => false
  | .alloc _ => false
  | .buildSlice _ _ _ => false
  | .store _ _ _ => false
  | _ => true
/-- The first n operations in whatever order, each leaving a world of a class that may only become narrower; then L. -/
def wpAnyN (P : Program) (md : Region.Mode) (ops : Array Oper) (Q : Exit → Act → World → Prop) (n : Nat) (L : Array Bool → Act → World → Prop) : Nat → (World → Prop) → Array Bool → Act → World → Prop
  | 0, _, listed, a, w => L listed a w
  | f + 1, S, listed, a, w => Region.ready md ops listed ≠ [] ∧ ∀ i ∈ Region.ready md ops listed, i < n ∧
      wpOp P ops Q i (fun a' w' => ∃ S' : World → Prop, (∀ x, S' x → S x) ∧ S' w' ∧ wpAnyN P md ops Q n L f S' (listed.setIfInBounds i true) a' w') a w
theorem wpAny_of_N {n g : Nat} {L : Array Bool → Act → World → Prop} (hL : ∀ listed a w, L listed a w → wpAny P md ops Q g listed a w) :
    ∀ (f : Nat) (S : World → Prop) (listed : Array Bool) (a : Act) (w : World), wpAnyN P md ops Q n L f S listed a w → wpAny P md ops Q (f + g) listed a w
  | 0, _, listed, a, w, h => by rw [Nat.zero_add]; exact hL _ _ _ h
  | f + 1, S, listed, a, w, h => by
    rw [show f + 1 + g = (f + g) + 1 by omega]
    exact ⟨fun h0 => absurd h0 h.1, fun i hi => wpOp_mono (fun a' w' ⟨S', _, _, h'⟩ => wpAny_of_N hL f S' _ a' w' h') (h.2 i hi).2⟩
theorem yieldsIf_narrow {S S' : World → Prop} {o : Oper} {v : Value} {a : Act} (h : YieldsIf P ops S o v a) (hs : ∀ x, S' x → S x) : YieldsIf P ops S' o v a :=
  h.imp (fun ⟨h1, h2⟩ => ⟨h1, fun w hw => h2 w (hs w hw)⟩) id
/-- A reading operation that may come up may be taken first. -/
theorem wpAnyN_first {n i : Nat} {oi : Oper} {v : Value} {L : Array Bool → Act → World → Prop} (hi : ops[i]? = some oi) (hsel : ∀ (j : Nat) (o : Oper) cs b, ops[j]? = some o → o.op ≠ .select cs b)
    (hQ : ∀ c t t' d w, Q (.panic c) ⟨t, d⟩ w → Q (.panic c) ⟨t', d⟩ w)
    (hs : Region.sinkB md ops n = true) (hc : Region.chainB md ops n = true) (hn : n < ops.size) (hin : i < n)
    (hdone : ∀ listed a w, L listed a w → ∀ j ∈ Region.ready md ops listed, n ≤ j) :
    ∀ (f : Nat) (S : World → Prop) (listed : Array Bool) (a : Act) (w : World), HeadInv md ops n listed →
      (∀ j oj, ops[j]? = some oj → j ≠ i → listed.getD j true = false → (∀ e ∈ oj.after, Region.binds md e = true → e.on ≠ i) → oi.apart ops oj = true) →
      i ∈ Region.ready md ops listed → YieldsIf P ops S oi v a → S w →
      wpAnyN P md ops Q n L f S (listed.setIfInBounds i true) (a.put oi.dst v) w → wpAnyN P md ops Q n L (f + 1) S listed a w := by
  intro f
  induction f with
  | zero =>
    intro S listed a w inv _ hr hy hS H
    have hun := (mem_ready.1 hr).1
    refine ⟨fun h => (by rw [h] at hr; cases hr), fun j hj => ?_⟩
    have hjn : j < n := by
      rcases Nat.lt_or_ge j n with h | h
      · exact h
      · exact absurd hj (tail_waits hs hc hn inv _ i rfl hin hun j h)
    refine ⟨hjn, ?_⟩
    by_cases hji : j = i
    · subst hji; exact hy.wpOp hi hS ⟨S, fun _ h => h, hS, H⟩
    · have := hdone _ _ _ H j (ready_mono hj hji)
      omega
  | succ f ih =>
    intro S listed a w inv hfree hr hy hS H
    have hun := (mem_ready.1 hr).1
    refine ⟨fun h => (by rw [h] at hr; cases hr), fun j hj => ?_⟩
    have hjn : j < n := by
      rcases Nat.lt_or_ge j n with h | h
      · exact h
      · exact absurd hj (tail_waits hs hc hn inv _ i rfl hin hun j h)
    refine ⟨hjn, ?_⟩
    by_cases hji : j = i
    · subst hji; exact hy.wpOp hi hS ⟨S, fun _ h => h, hS, H⟩
    · have h1 := (H.2 j (ready_mono hj hji)).2
      obtain ⟨hjun, oj, hoj, hall⟩ := mem_ready.1 hj
      have hnot : ∀ e ∈ oj.after, Region.binds md e = true → e.on ≠ i := fun e he hb heq => by
        have h1 := hall e he hb
        rw [heq, getD_both hun] at h1
        cases h1
      have h2 := wpOp_putIf hoj (hfree j oj hoj hji hjun hnot) (fun cs b => hsel i oi cs b hi) (fun cs b => hsel j oj cs b hoj) (fun c a w h => by cases hd : oi.dst with
          | none => rw [hd] at h; exact h
          | some d => rw [hd] at h; exact hQ c _ _ _ w h) hy h1
      have hfree' : ∀ k ok, ops[k]? = some ok → k ≠ i → (listed.setIfInBounds j true).getD k true = false →
          (∀ e ∈ ok.after, Region.binds md e = true → e.on ≠ i) → oi.apart ops ok = true := fun k ok hk hki hun hno => by
        refine hfree k ok hk hki ?_ hno
        by_cases hjk : j = k
        · subst hjk; exact hjun
        · rw [getD_set_ne true hjk] at hun; exact hun
      refine wpOp_mono (fun a' w' h3 => ?_) h2
      obtain ⟨hy', S', hsub, hS', hN⟩ := h3
      refine ⟨S', hsub, hS', ih S' (listed.setIfInBounds j true) a' w' (inv.set hj hjn) hfree' (ready_mono hr (Ne.symm hji)) (yieldsIf_narrow hy' hsub) hS' ?_⟩
      rw [Array.setIfInBounds_comm _ _ hji]
      exact hN
/-- The operations one behind the other, in the order that is picked: of a reading one its value in every world of the class; behind one that stirs the class may become narrower. -/
def wpOrd (P : Program) (ops : Array Oper) (Q : Exit → Act → World → Prop) (L : Act → World → Prop) : List Oper → (World → Prop) → Act → World → Prop
  | [], _, a, w => L a w
  | o :: os, S, a, w =>
    (calmOp o = true ∧ ∃ v, YieldsIf P ops S o v a ∧ wpOrd P ops Q L os S (a.put o.dst v) w) ∨
    (calmOp o = false ∧ ∀ K : Act → World → Prop, (∀ (S' : World → Prop) a' w', (∀ x, S' x → S x) → S' w' → wpOrd P ops Q L os S' a' w' → K a' w') →
      if Region.wanted o (yielded ops a.tmps) = true then Oper.wp P o a w K Q else K (a.put o.dst undef) w)
/-- The operations of these numbers. -/
def pickO (l : List Oper) : List Nat → List Oper
  | [] => []
  | i :: is => (l.drop i).head? |>.elim (pickO l is) (fun o => o :: pickO l is)
def ordB (md : Region.Mode) (ops : Array Oper) (n g : Nat) : List Nat → Array Bool → Bool
  | [], listed => Region.seqB md ops g n listed
  | i :: is, listed =>
    (match ops[i]? with
      | some o => decide (i < n) && (if calmOp o then (Region.ready md ops listed).contains i && Region.free md ops listed i else Region.ready md ops listed == [i])
      | none => false) && ordB md ops n g is (listed.setIfInBounds i true)
theorem wpAnyN_ord {n g : Nat} {Lq : Act → World → Prop} {l : List Oper} (hl : ops = l.toArray) (hsel : Region.noSelect ops = true) (hQ : ∀ c t t' d w, Q (.panic c) ⟨t, d⟩ w → Q (.panic c) ⟨t', d⟩ w) (hs : Region.sinkB md ops n = true) (hc : Region.chainB md ops n = true) (hn : n < ops.size) :
    ∀ (is : List Nat) (S : World → Prop) (listed : Array Bool) (a : Act) (w : World), HeadInv md ops n listed → ordB md ops n g is listed = true → S w → wpOrd P ops Q Lq (pickO l is) S a w →
    wpAnyN P md ops Q n (fun listed' a' w' => Region.seqB md ops g n listed' = true ∧ Lq a' w') is.length S listed a w
  | [], S, listed, a, w, inv, hB, hS, h => ⟨by simpa [ordB] using hB, h⟩
  | i :: is, S, listed, a, w, inv, hB, hS, h => by
    simp only [ordB, Bool.and_eq_true] at hB
    obtain ⟨h1, hB'⟩ := hB
    cases hi : ops[i]? with
    | none => rw [hi] at h1; cases h1
    | some o =>
      rw [hi] at h1
      simp only [Bool.and_eq_true, decide_eq_true_eq] at h1
      obtain ⟨hin, h1⟩ := h1
      have hp : pickO l (i :: is) = o :: pickO l is := by
        have : (l.drop i).head? = some o := by
          rw [List.head?_drop]
          rw [hl] at hi
          simpa using hi
        simp [pickO, this]
      rw [hp] at h
      by_cases hk : calmOp o = true
      · rw [if_pos hk] at h1
        simp only [Bool.and_eq_true] at h1
        rcases h with ⟨_, v, hy, hK⟩ | ⟨hk', _⟩
        · have hr : i ∈ Region.ready md ops listed := by simpa using h1.1
          exact wpAnyN_first hi (Region.noSelect_spec hsel) hQ hs hc hn hin (fun listed' a' w' hL => seqB_ready hL.1) is.length S listed a w inv (Region.free_spec hi h1.2) hr hy hS
            (wpAnyN_ord hl hsel hQ hs hc hn is S _ _ w (inv.set hr hin) hB' hS hK)
        · rw [hk] at hk'; cases hk'
      · rw [if_neg hk] at h1
        rcases h with ⟨hk', _⟩ | ⟨_, hK⟩
        · exact absurd hk' hk
        · have hr : Region.ready md ops listed = [i] := by simpa using h1
          refine ⟨by rw [hr]; simp, fun j hj => ?_⟩
          have hji : j = i := by rw [hr] at hj; simpa using hj
          subst hji
          refine ⟨hin, wpOp_step hi fun K' hK' => hK K' fun S' a' w' hsub hS' hW => hK' a' w' ⟨S', hsub, hS', ?_⟩⟩
          exact wpAnyN_ord hl hsel hQ hs hc hn is S' _ a' w' (inv.set hj hin) hB' hS' hW
/-- The condition on the region's form. -/
def ordTailB (md : Region.Mode) (ops : Array Oper) (n : Nat) (is : List Nat) : Bool :=
  Region.noSelect ops && decide (n < ops.size) && decide (is.length = n) && Region.sinkB md ops n && Region.chainB md ops n && ordB md ops n (ops.size - n) is (Array.replicate ops.size false)
theorem wp_region_ord {id : Nat} {a : Act} {w : World} {l : List Oper} (n : Nat) (is : List Nat) (hm : P.follows .mixedOrders = true) (hB : ordTailB .any l.toArray n is = true)
    (hQ : ∀ c t t' d w, Q (.panic c) ⟨t, d⟩ w → Q (.panic c) ⟨t', d⟩ w)
    (h : wpOrd P l.toArray Q (fun a' w' => wpList P l.toArray Q (l.drop n) a' w') (pickO l is) (Ext w.drew) a w.drew) : (Code.region id l.toArray true).wp P Q a w := by
  simp only [ordTailB, Bool.and_eq_true, decide_eq_true_eq] at hB
  obtain ⟨⟨⟨⟨⟨hsel, hn⟩, hlen⟩, hs⟩, hc⟩, hord⟩ := hB
  have hdl : (l.drop n).length = l.toArray.size - n := by simp
  have inv0 : HeadInv .any l.toArray n (Array.replicate l.toArray.size false) :=
    ⟨by simp, fun j oj _ hl => (by rw [getD_replicate_false] at hl; cases hl), fun t _ ht => getD_in (by simpa using ht) (getD_replicate_false _ _)⟩
  have H := wpAnyN_ord (md := .any) (g := l.toArray.size - n) (Lq := fun a' w' => wpList P l.toArray Q (l.drop n) a' w') rfl hsel hQ hs hc hn is (Ext w.drew) _ a w.drew inv0 hord (Ext.refl _) h
  refine wp_region_any hm ?_
  have := wpAny_of_N (Q := Q) (g := l.toArray.size - n) (fun listed a' w' hL => by
    have := wpAny_of_seq (md := .any) (Q' := Q) (l.drop n) n listed a' w' (fun j => by simp [List.getElem?_drop]) (by rw [hdl]; exact hL.1) hL.2
    rwa [hdl] at this) _ _ _ _ _ H
  rw [hlen, show n + (l.toArray.size - n) = l.toArray.size by omega] at this
  exact this
/-- One that reads: its value in every world that keeps the old blocks. -/
theorem wpOrd_read {L : Act → World → Prop} {o : Oper} {os : List Oper} {S : World → Prop} {a : Act} {w : World} {v : Value} (hk : calmOp o = true) (hy : YieldsIf P ops S o v a) (h : wpOrd P ops Q L os S (a.put o.dst v) w) : wpOrd P ops Q L (o :: os) S a w :=
  .inl ⟨hk, v, hy, h⟩
/-- One that stirs, behind which old blocks are as they were. -/
theorem wpOrd_stir {L : Act → World → Prop} {o : Oper} {os : List Oper} {w : World} {a : Act} (hk : calmOp o = false)
    (h : ∀ K : Act → World → Prop, (∀ a' w', Ext w w' → wpOrd P ops Q L os (Ext w') a' w' → K a' w') → if Region.wanted o (yielded ops a.tmps) = true then Oper.wp P o a w K Q else K (a.put o.dst undef) w) : wpOrd P ops Q L (o :: os) (Ext w) a w :=
  .inr ⟨hk, fun K hK => h K fun a' w' he hW => hK (Ext w') a' w' (fun _ hx => he.trans hx) (Ext.refl _) hW⟩
theorem wpOrd_done {L : Act → World → Prop} {S : World → Prop} {a : Act} {w : World} (h : L a w) : wpOrd P ops Q L [] S a w := h
end
end Go.Proofs.YtcebkjiafjmjfaaGreatDoor
end
