/- Contract of the library's maker of strings in a block of the call's own: a string is laid behind what it holds.
Plain words: the text of a machine, and that its parts are found again. No program stands here.
Contract of the text of a rule. The rule is one of a valid machine; the library's table is as its text lays it. -/
import Derived.Test.YtkbpchdncljlbaaDoorR21
import Derived.Lib.AppendStr
import Derived.Test.YtkbpchdncljlbaaDoorR05
import Derived.Test.YtkbpchdncljlbaaDoorR03
import Derived.Lib.Split
import Derived.Lib.SplitLaws
import Derived.Lib.CountLaws
import Derived.Lib.CutLaws
import Derived.Lib.IndexAny
import Derived.Lib.ParseIntBTie
import Derived.Lib.AtoiTie
import Derived.Lib.AtoiAllCases
import Derived.Test.YtkbpchdncljlbaaDoorR11
section
set_option linter.unusedSimpArgs false
set_option linter.unusedVariables false
namespace Go.Proofs.YtkbpchdncljlbaaDoor
open Go Go.RowKit Go.Proofs
set_option maxHeartbeats 400000
set_option maxRecDepth 20000 in
set_option maxHeartbeats 4000000 in
theorem writeStringA_c (B b : Nat) (l : List UInt8) (s : ByteArray) (w : World) (h : Bldr B b l w) (hlen : l.length + s.size ≤ 140737488355328) (hBw : B ≤ w.heap.size) :
    Calls Tryd.prog 61 #[.pointer (some ⟨b, 0, none⟩), .string s] w fun e w' => e = .returned (.tuple #[.int .i64 s.size, .nilIface]) ∧ BdAt B b (.pointer (some ⟨b, 0, none⟩)) (l ++ s.data.toList) w' ∧ Below B w w' := by
  obtain ⟨i0, hi, hz0, hz1, hz2⟩ := info_parts byteInfo
  have hbl : (Lib.byteCells l).length = l.length := by simp [Lib.byteCells]
  go_enter Tryd.func61, Tryd.ntmps61
  go_wp2_with fail
  refine (copyCheck_c B b l w h).mono ?_
  rintro e w1 ⟨rfl, h1, hb1⟩
  obtain ⟨hB, v, hbk, hown, hne⟩ := h1
  rw [hbl] at hown
  obtain ⟨ao, cap, rfl⟩ : ∃ ao cap, v = .slice ao l.length cap := by
    rcases hown.2 with ⟨hv, h0⟩ | ⟨g, cap, cur, hv, _⟩
    · exact ⟨none, 0, by rw [hv, h0]⟩
    · exact ⟨_, _, hv⟩
  have c0 : w1.cell? ⟨b, 0, none⟩ = some (.pointer (some ⟨b, 0, none⟩)) := by rw [Lib.cell_of_heap hbk]; rfl
  have c1 : w1.cell? ⟨b, 1, none⟩ = some (.slice ao l.length cap) := by rw [Lib.cell_of_heap hbk]; rfl
  go_wp2_with (at_builtin; refine Lib.wpList_append_own_string _ rfl _ _ 100 9 rfl B 5 i0 Tryd.underlying100 Tryd.underlying9 hi hz0 hz1 hz2 _ _ _ rfl hown s rfl ?c3 ?c4 ?c5 ?_)
  case c3 => unfold maxLen; omega
  case c4 => omega
  case c5 => have := hb1.size; omega
  intro v' w2 hown' hgrow _
  have hlt : b < w1.heap.size := by
    rcases Nat.lt_or_ge b w1.heap.size with h' | h'
    · exact h'
    · simp [Array.getElem?_eq_none h'] at hbk
  have hb2 : w2.heap[b]? = some (.cells #[.pointer (some ⟨b, 0, none⟩), .slice ao l.length cap] 102 (0, 0)) := by
    rw [hgrow.block b hlt (fun e => hne e.symm)]
    exact hbk
  have d0 : w2.cell? ⟨b, 0, none⟩ = some (.pointer (some ⟨b, 0, none⟩)) := by rw [Lib.cell_of_heap hb2]; rfl
  have d1 : w2.cell? ⟨b, 1, none⟩ = some (.slice ao l.length cap) := by rw [Lib.cell_of_heap hb2]; rfl
  have f1 : w2.frozen? ⟨b, 1, none⟩ = false := Lib.frozen_of_heap hb2 1
  obtain ⟨ao', n', cap', rfl⟩ : ∃ ao n' cap, v' = .slice ao n' cap := by
    rcases hown'.2 with ⟨hv, _⟩ | ⟨g, cap, cur, hv, _⟩
    · exact ⟨_, _, _, hv⟩
    · exact ⟨_, _, _, hv⟩
  go_wp2
  go_ret2
  refine ⟨rfl, ?_, ?_⟩
  · refine Lib.BuilderAt.put (T := 102) (e := 5) hB hb2 (bs' := Lib.byteCells (l ++ s.data.toList)) ?_ (by decide)
    have : Lib.byteCells (l ++ s.data.toList) = Lib.byteCells l ++ Lib.strCells s := by simp [Lib.byteCells, Lib.strCells]
    rw [this]
    have e : (Lib.byteCells l ++ Lib.strCells s).length = l.length + s.size := by simp [hbl, Lib.strCells_length]
    rw [e]
    exact hown'
  · exact (hb1.grown hgrow (by have := hb1.size; omega) (fun k hk => (hown.lt k hk).1)).setCell (p := ⟨b, 1, none⟩) hB _
end Go.Proofs.YtkbpchdncljlbaaDoor
end
section
set_option linter.unusedSimpArgs false
set_option linter.unusedVariables false
namespace Go.Proofs.YtkbpchdncljlbaaDoor
open Go Go.RowKit Go.Proofs
theorem idx_one {c : UInt8} : ∀ {p : List UInt8} (r : List UInt8), c ∉ p → Lib.index (p ++ c :: r) [c] = p.length
  | [], r, _ => by simp [Lib.index]
  | b :: p, r, h => by
    have hb : ¬ b = c := fun e => h (by rw [e]; exact List.mem_cons_self)
    have ih := idx_one (p := p) r (fun hc => h (List.mem_cons_of_mem _ hc))
    have h1 : [c].isPrefixOf (b :: (p ++ c :: r)) = false := by
      show (c == b && _) = false
      rw [beq_eq_false_iff_ne.2 (Ne.symm hb)]
      rfl
    rw [List.cons_append, Lib.index, h1, ih]
    have : ((p.length : Int) == -1) = false := by rw [beq_eq_false_iff_ne]; omega
    simp [this]
theorem idx_none {c : UInt8} : ∀ {p : List UInt8}, c ∉ p → Lib.index p [c] = -1
  | [], _ => rfl
  | b :: p, h => by
    have hb : ¬ b = c := fun e => h (by rw [e]; exact List.mem_cons_self)
    have ih := idx_none (p := p) (fun hc => h (List.mem_cons_of_mem _ hc))
    have h1 : [c].isPrefixOf (b :: p) = false := by
      show (c == b && _) = false
      rw [beq_eq_false_iff_ne.2 (Ne.symm hb)]
      rfl
    rw [Lib.index, h1, ih]
    rfl
theorem split_joinK {c : UInt8} : ∀ (ps : List (List UInt8)) (p : List UInt8), (∀ q ∈ p :: ps, c ∉ q) → Lib.splitK [c] 0 (Lib.count (Lib.join (p :: ps) [c]) [c]) (Lib.join (p :: ps) [c]) = p :: ps ∧ Lib.count (Lib.join (p :: ps) [c]) [c] = ps.length
  | [], p, h => by
    have hp := idx_none (h p List.mem_cons_self)
    rw [Lib.join_one, Lib.count_miss hp]
    exact ⟨rfl, rfl⟩
  | q :: ps, p, h => by
    have hp : c ∉ p := h p List.mem_cons_self
    obtain ⟨ih1, ih2⟩ := split_joinK ps q (fun x hx => h x (List.mem_cons_of_mem _ hx))
    have e : Lib.join (p :: q :: ps) [c] = p ++ c :: Lib.join (q :: ps) [c] := by
      rw [Lib.join_cons, Lib.join_cons]
      simp [Lib.joinTail]
    have hi := idx_one (Lib.join (q :: ps) [c]) hp
    have hd : (p ++ c :: Lib.join (q :: ps) [c]).drop (p.length + [c].length) = Lib.join (q :: ps) [c] := by
      rw [show p.length + [c].length = p.length + 1 from rfl, List.drop_append, List.drop_of_length_le (by omega), show p.length + 1 - p.length = 1 by omega]
      rfl
    have hc : Lib.count (p ++ c :: Lib.join (q :: ps) [c]) [c] = ps.length + 1 := by rw [Lib.count_hit (by simp) hi, hd, ih2]; omega
    rw [e, hc]
    refine ⟨?_, rfl⟩
    rw [ih2] at ih1
    rw [Lib.splitK, hi]
    have : ((p.length : Int) == -1) = false := by rw [beq_eq_false_iff_ne]; omega
    rw [if_neg (by rw [this]; simp), Int.toNat_natCast, hd, ih1]
    simp
abbrev bsS (l : List UInt8) : ByteArray := ⟨l.toArray⟩
theorem split_join {c : UInt8} (p : List UInt8) (ps : List (List UInt8)) (h : ∀ q ∈ p :: ps, c ∉ q) : Lib.splitB ⟨#[c]⟩ 0 (Lib.countB (bsS (Lib.join (p :: ps) [c])) ⟨#[c]⟩) (bsS (Lib.join (p :: ps) [c])) = (p :: ps).map bsS ∧ Lib.countB (bsS (Lib.join (p :: ps) [c])) ⟨#[c]⟩ = ps.length := by
  obtain ⟨h1, h2⟩ := split_joinK ps p h
  have hd := Lib.splitB_data ⟨#[c]⟩ 0 (Lib.countB (bsS (Lib.join (p :: ps) [c])) ⟨#[c]⟩) (bsS (Lib.join (p :: ps) [c]))
  refine ⟨?_, h2⟩
  have e : Lib.splitK [c] 0 (Lib.countB (bsS (Lib.join (p :: ps) [c])) ⟨#[c]⟩) (Lib.join (p :: ps) [c]) = p :: ps := h1
  have back : ∀ (l : List ByteArray) (xs : List (List UInt8)), l.map (·.data.toList) = xs → l = xs.map bsS := by
    intro l xs hl
    subst hl
    rw [List.map_map]
    conv => lhs; rw [← List.map_id l]
    rfl
  exact back _ _ (hd.trans e)
/-! Numbers. -/
theorem decFrom_snoc {b : UInt8} {d : Nat} (hb : Lib.digitVal b = some d) : ∀ (l : List UInt8) (a n : Nat), Lib.decFrom a l = some n → Lib.decFrom a (l ++ [b]) = some (n * 10 + d)
  | [], a, n, h => by
    have : a = n := by simpa [Lib.decFrom] using h
    subst this
    simp [Lib.decFrom, hb]
  | x :: l, a, n, h => by
    rw [List.cons_append, Lib.decFrom]
    rw [Lib.decFrom] at h
    cases hx : Lib.digitVal x with
    | none => rw [hx] at h; cases h
    | some y =>
      rw [hx] at h
      exact decFrom_snoc hb l _ _ h
theorem dig_val (n : Nat) (h : n < 10) : Lib.digitVal (UInt8.ofNat (48 + n)) = some n := by
  match n, h with
  | 0, _ => decide
  | 1, _ => decide
  | 2, _ => decide
  | 3, _ => decide
  | 4, _ => decide
  | 5, _ => decide
  | 6, _ => decide
  | 7, _ => decide
  | 8, _ => decide
  | 9, _ => decide
theorem decFrom_digits (u : Nat) : Lib.decFrom 0 (Lib.decDigits u) = some u := by
  induction u using Nat.strongRecOn with
  | _ u ih =>
    rw [Lib.decDigits]
    split
    · rename_i h
      show (match Lib.digitVal (UInt8.ofNat (48 + u)) with | some d => Lib.decFrom (0 * 10 + d) [] | none => none) = some u
      rw [dig_val u h]
      show some (0 * 10 + u) = some u
      congr 1
      omega
    · rename_i h
      have := decFrom_snoc (dig_val (u % 10) (by omega)) _ _ _ (ih (u / 10) (by omega))
      rw [this]
      congr 1
      omega
theorem digits_len (u : Nat) (h : u ≤ 1000000) : (Lib.decDigits u).length ≤ 18 := by
  rw [Lib.decDigits_length]
  by_cases h0 : Lib.nDigits u ≤ 18
  · exact h0
  · exfalso
    have key : ∀ k u : Nat, u < 10 ^ (k + 1) → Lib.nDigits u ≤ k + 1 := by
      intro k
      induction k with
      | zero => intro u hu; rw [Lib.nDigits_small (by simpa using hu)]; exact Nat.le_refl _
      | succ k ih =>
        intro u hu
        by_cases hs : u < 10
        · rw [Lib.nDigits_small hs]; omega
        · rw [Lib.nDigits_big hs]
          have := ih (u / 10) (by rw [Nat.pow_succ] at hu; omega)
          omega
    have := key 17 u (by omega)
    omega
/-- The number that a decimal form spells. -/
theorem parse_itoa {n : Int} (h0 : 0 ≤ n) (h1 : n ≤ 1000000) : Lib.parseIntB 64 (Lib.itoa n) = .ok n := by
  obtain ⟨u, rfl⟩ : ∃ u : Nat, n = (u : Int) := ⟨n.toNat, by omega⟩
  have hi : Lib.itoa (u : Int) = Lib.decDigits u := by
    unfold Lib.itoa
    rw [if_neg (by omega), Int.toNat_natCast]
  rw [hi, Lib.parseIntB_64]
  have hne := decDigits_ne u
  have hdig := decDigits_dig u
  have hlen := digits_len u (by omega)
  have hval := decFrom_digits u
  cases hl : Lib.decDigits u with
  | nil => exact absurd hl hne
  | cons c r =>
    rw [hl] at hdig hlen hval
    have hc := hdig c List.mem_cons_self
    have hc2 : 48 ≤ c.toNat ∧ c.toNat ≤ 57 := by
      simp only [isDig, Bool.and_eq_true, decide_eq_true_eq, UInt8.le_iff_toNat_le] at hc
      simpa using hc
    rw [Lib.atoiAll_plain c r (by omega) (by omega), Lib.signless_short hlen]
    have : Lib.decNat (c :: r) = some u := by simp [Lib.decNat, hval]
    rw [this]
    rfl
/-! The text of a machine. -/
/-- The text of a rule. -/
def ruleT (r : RuleD) : List UInt8 := if r = noR then [45, 45, 45] else Lib.itoa r.w ++ (if r.m < 0 then 76 else 82) :: Lib.itoa r.n
def rowT (rs : List RuleD) : List UInt8 := Lib.join (rs.map ruleT) [44]
/-- The rules of each state. -/
def rowsM (m : MachD) : List (List RuleD) := (List.range m.st.toNat).map fun i => (m.rules.drop (i * m.sy.toNat)).take m.sy.toNat
def machT (m : MachD) : List UInt8 := Lib.join ((rowsM m).map rowT) [59]
/-- The bytes of a rule's text. -/
def inRule (c : UInt8) : Bool := isDig c || c == 45 || c == 76 || c == 82
theorem itoa_dig {n : Int} (h : 0 ≤ n) : ∀ c ∈ Lib.itoa n, isDig c = true := by
  intro c hc
  unfold Lib.itoa at hc
  rw [if_neg (by omega)] at hc
  exact decDigits_dig _ c hc
theorem ruleT_bytes {sy st : Int} {r : RuleD} (h : ruleOk sy st r = true) : ∀ c ∈ ruleT r, inRule c = true := by
  intro c hc
  unfold ruleT at hc
  by_cases hr : r = noR
  · rw [if_pos hr] at hc
    simp only [List.mem_cons, List.not_mem_nil, or_false, or_self] at hc
    subst hc; decide
  · rw [if_neg hr] at hc
    simp only [ruleOk, decide_eq_false hr, Bool.false_or, Bool.and_eq_true] at h
    have h1 := inB_iff.1 h.1.1
    have h2 := inB_iff.1 h.2
    rcases List.mem_append.1 hc with h3 | h3
    · simp [inRule, itoa_dig h1.1 c h3]
    · rcases List.mem_cons.1 h3 with h4 | h4
      · subst h4
        split <;> decide
      · simp [inRule, itoa_dig h2.1 c h4]
theorem ruleT_no {sy st : Int} {r : RuleD} (h : ruleOk sy st r = true) : (44 : UInt8) ∉ ruleT r ∧ (59 : UInt8) ∉ ruleT r :=
  ⟨fun hc => absurd (ruleT_bytes h _ hc) (by decide), fun hc => absurd (ruleT_bytes h _ hc) (by decide)⟩
theorem mem_joinTail {c : UInt8} {sep : List UInt8} : ∀ {l : List (List UInt8)}, c ∈ Lib.joinTail sep l → c ∈ sep ∨ ∃ x ∈ l, c ∈ x := by
  intro l hc
  unfold Lib.joinTail at hc
  obtain ⟨y, hy, hcy⟩ := List.mem_flatten.1 hc
  obtain ⟨x, hx, rfl⟩ := List.mem_map.1 hy
  rcases List.mem_append.1 hcy with h | h
  · exact .inl h
  · exact .inr ⟨x, hx, h⟩
theorem mem_join {c : UInt8} {sep : List UInt8} {l : List (List UInt8)} (hc : c ∈ Lib.join l sep) : c ∈ sep ∨ ∃ x ∈ l, c ∈ x := by
  cases l with
  | nil => simp [Lib.join_nil] at hc
  | cons a l =>
    rw [Lib.join_cons] at hc
    rcases List.mem_append.1 hc with h | h
    · exact .inr ⟨a, List.mem_cons_self, h⟩
    · rcases mem_joinTail h with h | ⟨x, hx, h⟩
      · exact .inl h
      · exact .inr ⟨x, List.mem_cons_of_mem _ hx, h⟩
theorem rowT_no {sy st : Int} {rs : List RuleD} (h : ∀ r ∈ rs, ruleOk sy st r = true) : (59 : UInt8) ∉ rowT rs := by
  intro hc
  rcases mem_join hc with h1 | ⟨x, hx, h1⟩
  · exact absurd h1 (by decide)
  · obtain ⟨r, hr, rfl⟩ := List.mem_map.1 hx
    exact (ruleT_no (h r hr)).2 h1
/-- Where the move stands in the text of a rule, and what stands around it. -/
theorem rule_at {sy st : Int} {r : RuleD} (h : ruleOk sy st r = true) (hr : r ≠ noR) : Lib.indexAny (ruleT r) [76, 82] = ((Lib.itoa r.w).length : Int) := by
  simp only [ruleOk, decide_eq_false hr, Bool.false_or, Bool.and_eq_true] at h
  have h1 := inB_iff.1 h.1.1
  unfold ruleT
  rw [if_neg hr]
  have hno : Lib.NoAny (Lib.itoa r.w ++ (if r.m < 0 then 76 else 82) :: Lib.itoa r.n) [76, 82] (Lib.itoa r.w).length := by
    intro j b hj hb
    rw [List.getElem?_append_left hj] at hb
    have := itoa_dig h1.1 b (List.mem_of_getElem? hb)
    by_cases e : b = 76
    · subst e; exact absurd this (by decide)
    · by_cases e2 : b = 82
      · subst e2; exact absurd this (by decide)
      · simp [e, e2]
  refine Lib.indexAny_hit (x := if r.m < 0 then 76 else 82) hno ?_ ?_
  · rw [List.getElem?_append_right (Nat.le_refl _), Nat.sub_self]; rfl
  · split <;> rfl
theorem rule_none : Lib.indexAny (ruleT noR) [76, 82] = -1 := by decide
end Go.Proofs.YtkbpchdncljlbaaDoor
end
section
set_option linter.unusedSimpArgs false
set_option linter.unusedVariables false
namespace Go.Proofs.YtkbpchdncljlbaaDoor
open Go Go.RowKit Go.Proofs
set_option maxHeartbeats 400000
theorem bs_app (a b : List UInt8) : bsS a ++ bsS b = bsS (a ++ b) := by
  apply ByteArray.ext
  simp [bsS]
theorem itoaS_size {n : Int} (h0 : 0 ≤ n) (h1 : n ≤ 1000000) : (itoaS n).size ≤ 18 := by
  have e : (itoaS n).size = (Lib.itoa n).length := by show (Lib.itoa n).toArray.size = _; simp
  rw [e]
  unfold Lib.itoa
  rw [if_neg (by omega)]
  exact digits_len _ (by omega)
theorem ruleT_app {r : RuleD} (hr : r ≠ noR) (c : UInt8) (hc : c = if r.m < 0 then 76 else 82) : itoaS r.w ++ ⟨#[c]⟩ ++ itoaS r.n = bsS (ruleT r) := by
  have e : ruleT r = Lib.itoa r.w ++ [c] ++ Lib.itoa r.n := by
    unfold ruleT
    rw [if_neg hr, ← hc]
    simp
  rw [e, ← bs_app, ← bs_app]
  rfl
end Go.Proofs.YtkbpchdncljlbaaDoor
end
