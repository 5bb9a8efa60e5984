/- Plain words: the texts of a run, and that a run ends in one way.
Plain words on runs: positions of the head, the tape around it, and runs that come again moved by some cells.
Contracts of the reference's source of choices: bytes first, then a sequence of its own. Fewer than 2 to the power of 60 choices are made.
Contracts of the laws' small helpers on bytes, lists and rows. -/
import Derived.Test.YtfghojbbofobeaaGreatQ28
import Derived.Test.YtfghojbbofobeaaGreatQ26
import Derived.Test.YtfghojbbofobeaaGreatQ02
section
set_option linter.unusedSimpArgs false
set_option linter.unusedVariables false
namespace Go.Proofs.YtfghojbbofobeaaGreat
open Go Go.RowKit Go.Proofs
/-- The texts of a run and the code. -/
def TRun (M : MachD) (x : ConfD) (N : Nat) (f : ConfD → List UInt8) (L : List (List UInt8)) (k : Int) : Prop :=
  (∃ T, EndAt M x N T ∧ L = (List.range (T + 1)).map (fun i => f (cfgI M x i)) ∧ k = 0) ∨ ((∃ T, FullAt M x N T) ∧ L = [] ∧ k = 5)
theorem EndAt.unique {M : MachD} {x : ConfD} {N T T' : Nat} (h : EndAt M x N T) (h' : EndAt M x N T') : T = T' := by
  have key : ∀ {a b : Nat}, EndAt M x N a → EndAt M x N b → ¬ a < b := fun {a b} ha hb hlt => by
    rcases ha.stop with e | e
    · have := hb.le; omega
    · exact hb.runs.no a hlt e
  have := key h h'
  have := key h' h
  omega
theorem EndAt.not_full {M : MachD} {x : ConfD} {N T T' : Nat} (h : EndAt M x N T) (h' : FullAt M x N T') : False := by
  have hp := h'.pos
  have hle := h'.le
  by_cases hlt : T' ≤ T
  · have := h.runs.fit T' hlt
    rw [h'.full] at this
    cases this
  · rcases h.stop with e | e
    · omega
    · by_cases e1 : T = T' - 1
      · rw [e1] at e; exact h'.no e
      · exact h'.runs.no T (by omega) e
theorem TRun.unique {M : MachD} {x : ConfD} {N : Nat} {f : ConfD → List UInt8} {L L' : List (List UInt8)} {k k' : Int} (h : TRun M x N f L k) (h' : TRun M x N f L' k') : L = L' ∧ k = k' := by
  rcases h with ⟨T, h1, rfl, rfl⟩ | ⟨⟨T, h1⟩, rfl, rfl⟩ <;> rcases h' with ⟨T', h1', rfl, rfl⟩ | ⟨⟨T', h1'⟩, rfl, rfl⟩
  · rw [h1.unique h1']; exact ⟨rfl, rfl⟩
  · exact (h1.not_full h1').elim
  · exact (h1'.not_full h1).elim
  · exact ⟨rfl, rfl⟩
end Go.Proofs.YtfghojbbofobeaaGreat
end
section
set_option linter.unusedSimpArgs false
set_option linter.unusedVariables false
namespace Go.Proofs.YtfghojbbofobeaaGreat
open Go Go.RowKit Go.Proofs
/-- The position of the head behind so many steps. -/
def posI (m : MachD) (c : ConfD) : Nat → Int
  | 0 => 0
  | t + 1 => posI m c t + (lookI m (cfgI m c t)).m
/-- The symbol of a configuration at a distance from its head. -/
def cellC (c : ConfD) (z : Int) : Int := if 0 ≤ z then c.r.getD z.toNat 0 else c.l.getD (-1 - z).toNat 0
theorem pushL_getD (s : Int) (xs : List Int) (i : Nat) : (pushL s xs).getD i 0 = (s :: xs).getD i 0 := by
  unfold pushL
  split
  · rename_i h
    obtain ⟨rfl, rfl⟩ := h
    cases i <;> simp
  · rfl
theorem drop1_getD (xs : List Int) (i : Nat) : (xs.drop 1).getD i 0 = xs.getD (i + 1) 0 := by
  simp [List.getD_eq_getElem?_getD, Nat.add_comm]
theorem cell_step {ru : RuleD} (hm : ru.m = 1 ∨ ru.m = -1) (c : ConfD) (z : Int) : cellC (stepI ru c) (z - ru.m) = if z = 0 then ru.w else cellC c z := by
  rcases hm with h | h
  · have e : stepI ru c = ⟨ru.n, pushL ru.w c.l, c.r.drop 1⟩ := by unfold stepI; rw [if_pos (by omega)]
    rw [e, h]
    unfold cellC
    simp only
    by_cases h0 : z = 0
    · subst h0
      rw [if_neg (by omega), if_pos rfl, pushL_getD]
      rfl
    · rw [if_neg h0]
      by_cases h1 : 0 ≤ z
      · rw [if_pos (show 0 ≤ z - 1 by omega), if_pos h1, drop1_getD]
        congr 1
        omega
      · rw [if_neg (show ¬ 0 ≤ z - 1 by omega), if_neg h1, pushL_getD]
        obtain ⟨k, hk⟩ : ∃ k : Nat, (-1 - (z - 1)).toNat = k + 1 := ⟨(-1 - z).toNat, by omega⟩
        rw [hk, List.getD_cons_succ]
        congr 1
        omega
  · have e : stepI ru c = ⟨ru.n, c.l.drop 1, pushL (hdD c.l) (pushL ru.w (c.r.drop 1))⟩ := by unfold stepI; rw [if_neg (by omega)]
    rw [e, h]
    unfold cellC
    simp only
    by_cases h0 : z = 0
    · subst h0
      rw [if_pos (by omega), if_pos rfl, pushL_getD]
      have : (0 - (-1 : Int)).toNat = 0 + 1 := by omega
      rw [this, List.getD_cons_succ, pushL_getD]
      rfl
    · rw [if_neg h0]
      by_cases h1 : 0 ≤ z
      · rw [if_pos (show 0 ≤ z - -1 by omega), if_pos h1, pushL_getD]
        obtain ⟨k, hk⟩ : ∃ k : Nat, z.toNat = k + 1 := ⟨z.toNat - 1, by omega⟩
        have : (z - -1).toNat = (k + 1) + 1 := by omega
        rw [this, List.getD_cons_succ, pushL_getD, List.getD_cons_succ, drop1_getD, hk]
      · rw [if_neg h1]
        by_cases h2 : z = -1
        · subst h2
          rw [if_pos (by omega), pushL_getD]
          rfl
        · rw [if_neg (show ¬ 0 ≤ z - -1 by omega), drop1_getD]
          congr 1
          omega
theorem hd_cell (c : ConfD) : hdD c.r = cellC c 0 := by simp [hdD, cellC]
theorem look_cell (m : MachD) {c e : ConfD} (hq : c.q = e.q) (hc : cellC c 0 = cellC e 0) : lookI m c = lookI m e := by
  unfold lookI
  rw [hd_cell, hd_cell, hq, hc]
theorem look_move {m : MachD} (hm : machOk m = true) {c : ConfD} (hc : IGood m c) (hn : ¬ lookI m c = noR) : (lookI m c).m = 1 ∨ (lookI m c).m = -1 := by
  obtain ⟨_, _, hall⟩ := machOk_five hm
  obtain ⟨k, hk, e⟩ := hc.idx hm
  rw [lookI_get hk e] at hn ⊢
  have hq := hall _ (List.getElem_mem hk)
  simp only [ruleOk, hn, decide_false, Bool.false_or, Bool.and_eq_true, Bool.or_eq_true, beq_iff_eq] at hq
  exact hq.1.2
/-- Two configurations agree on a set of places, seen from two heads at the same place u. -/
structure Mt (D : Int → Prop) (u : Int) (c e : ConfD) : Prop where
  q : c.q = e.q
  at_ : ∀ z, D z → cellC c (z - u) = cellC e (z - u)
theorem Mt.look {D : Int → Prop} {u : Int} {c e : ConfD} (h : Mt D u c e) (hu : D u) (m : MachD) : lookI m c = lookI m e :=
  look_cell m h.q (by have := h.at_ u hu; rwa [Int.sub_self] at this)
theorem Mt.step {D : Int → Prop} {u : Int} {c e : ConfD} (h : Mt D u c e) {ru : RuleD} (hm : ru.m = 1 ∨ ru.m = -1) : Mt D (u + ru.m) (stepI ru c) (stepI ru e) := by
  refine ⟨?_, fun z hz => ?_⟩
  · unfold stepI
    split <;> rfl
  · have e1 : z - (u + ru.m) = (z - u) - ru.m := by omega
    rw [e1, cell_step hm, cell_step hm, h.at_ z hz]
section
variable {m : MachD} (hm : machOk m = true) {c0 : ConfD} (hc0 : IGood m c0) {a b : Nat} {d : Int} {D : Int → Prop}
include hm hc0
/-- What comes again comes again for ever. -/
theorem shift_all (hb : 1 ≤ b) (hd : posI m c0 (a + b) - posI m c0 a = d) (hD : ∀ z, D z → D (z + d)) (hM : Mt D 0 (cfgI m c0 a) (cfgI m c0 (a + b)))
    (hin : ∀ i ≤ b, D (posI m c0 (a + i) - posI m c0 a)) (hno : ∀ i < a + b, ¬ lookI m (cfgI m c0 i) = noR) :
    ∀ i, (∀ j < a + i, ¬ lookI m (cfgI m c0 j) = noR) ∧ D (posI m c0 (a + i) - posI m c0 a) ∧ posI m c0 (a + b + i) - posI m c0 (a + b) = posI m c0 (a + i) - posI m c0 a ∧
      Mt D (posI m c0 (a + i) - posI m c0 a) (cfgI m c0 (a + i)) (cfgI m c0 (a + b + i)) ∧ ¬ lookI m (cfgI m c0 (a + i)) = noR := by
  intro i
  induction i using Nat.strongRecOn with
  | ind i ih =>
    have hlow : ∀ j < a + i, ¬ lookI m (cfgI m c0 j) = noR := fun j hj => by
      by_cases h : j < a
      · exact hno j (by omega)
      · have := (ih (j - a) (by omega)).2.2.2.2
        rwa [show a + (j - a) = j by omega] at this
    have hu : D (posI m c0 (a + i) - posI m c0 a) := by
      by_cases h : i ≤ b
      · exact hin i h
      · obtain ⟨_, h1, h2, _, _⟩ := ih (i - b) (by omega)
        have e : a + b + (i - b) = a + i := by omega
        rw [e] at h2
        have := hD _ h1
        rw [← h2] at this
        have e2 : posI m c0 (a + i) - posI m c0 (a + b) + d = posI m c0 (a + i) - posI m c0 a := by omega
        rwa [e2] at this
    have hmt : posI m c0 (a + b + i) - posI m c0 (a + b) = posI m c0 (a + i) - posI m c0 a ∧ Mt D (posI m c0 (a + i) - posI m c0 a) (cfgI m c0 (a + i)) (cfgI m c0 (a + b + i)) := by
      cases i with
      | zero => exact ⟨by simp, by simpa using hM⟩
      | succ i =>
        obtain ⟨_, h1, h2, h3, h4⟩ := ih i (by omega)
        have hl := h3.look h1 m
        have hmv := look_move hm (cfg_good hm hc0 (a + i) (fun j hj => hlow j (by omega))) h4
        have e1 : posI m c0 (a + (i + 1)) = posI m c0 (a + i) + (lookI m (cfgI m c0 (a + i))).m := rfl
        have e2 : posI m c0 (a + b + (i + 1)) = posI m c0 (a + b + i) + (lookI m (cfgI m c0 (a + b + i))).m := rfl
        refine ⟨by rw [e1, e2, ← hl]; omega, ?_⟩
        have e3 : cfgI m c0 (a + (i + 1)) = stepI (lookI m (cfgI m c0 (a + i))) (cfgI m c0 (a + i)) := rfl
        have e4 : cfgI m c0 (a + b + (i + 1)) = stepI (lookI m (cfgI m c0 (a + b + i))) (cfgI m c0 (a + b + i)) := rfl
        rw [e3, e4, e1, ← hl]
        have := h3.step hmv
        rwa [show posI m c0 (a + i) - posI m c0 a + (lookI m (cfgI m c0 (a + i))).m = posI m c0 (a + i) + (lookI m (cfgI m c0 (a + i))).m - posI m c0 a by omega] at this
    refine ⟨hlow, hu, hmt.1, hmt.2, ?_⟩
    by_cases h : i < b
    · exact hno (a + i) (by omega)
    · obtain ⟨_, h1, _, h3, h4⟩ := ih (i - b) (by omega)
      have hl := h3.look h1 m
      rw [show a + b + (i - b) = a + i by omega] at hl
      rwa [← hl]
theorem shift_times (hb : 1 ≤ b) (hd : posI m c0 (a + b) - posI m c0 a = d) (hD : ∀ z, D z → D (z + d)) (hM : Mt D 0 (cfgI m c0 a) (cfgI m c0 (a + b)))
    (hin : ∀ i ≤ b, D (posI m c0 (a + i) - posI m c0 a)) (hno : ∀ i < a + b, ¬ lookI m (cfgI m c0 i) = noR) (k : Nat) :
    (cfgI m c0 (a + k * b)).q = (cfgI m c0 a).q ∧ posI m c0 (a + k * b) - posI m c0 a = k * d := by
  induction k with
  | zero => simp
  | succ k ih =>
    obtain ⟨_, _, h2, h3, _⟩ := shift_all hm hc0 hb hd hD hM hin hno (k * b)
    have e : a + b + k * b = a + (k + 1) * b := by rw [Nat.succ_mul]; omega
    rw [e] at h2 h3
    refine ⟨h3.q.symm.trans ih.1, ?_⟩
    have : ((k + 1 : Nat) : Int) * d = k * d + d := by rw [Int.natCast_add, Int.add_mul]; simp
    rw [this]
    omega
end
theorem cfgI_add (m : MachD) (c : ConfD) (a : Nat) : ∀ k, cfgI m (cfgI m c a) k = cfgI m c (a + k) := by
  intro k
  induction k with
  | zero => rfl
  | succ k ih => rw [cfgI, ih]; rfl
/-- No blanks at the end. -/
def tidyL (xs : List Int) : Prop := xs = [] ∨ xs.getLastD 0 ≠ 0
theorem tidy_drop {xs : List Int} (h : tidyL xs) : tidyL (xs.drop 1) := by
  cases xs with
  | nil => exact .inl rfl
  | cons a l =>
    cases l with
    | nil => exact .inl rfl
    | cons b l =>
      right
      rcases h with h | h
      · cases h
      · simpa using h
theorem tidy_push {s : Int} {xs : List Int} (h : tidyL xs) : tidyL (pushL s xs) := by
  unfold pushL
  split
  · exact .inl rfl
  · rename_i hn
    right
    cases xs with
    | nil => simp at hn; simpa using hn
    | cons a l =>
      rcases h with h | h
      · cases h
      · simpa using h
theorem tidy_step {ru : RuleD} {c : ConfD} (h : tidyL c.l ∧ tidyL c.r) : tidyL (stepI ru c).l ∧ tidyL (stepI ru c).r := by
  unfold stepI
  split
  · exact ⟨tidy_push h.1, tidy_drop h.2⟩
  · exact ⟨tidy_drop h.1, tidy_push (tidy_push (tidy_drop h.2))⟩
theorem tidy_cfg {m : MachD} {c : ConfD} (h : tidyL c.l ∧ tidyL c.r) : ∀ n, tidyL (cfgI m c n).l ∧ tidyL (cfgI m c n).r := by
  intro n
  induction n with
  | zero => exact h
  | succ n ih => exact tidy_step ih
theorem len_cfg (m : MachD) (c : ConfD) (n : Nat) : (cfgI m c n).l.length ≤ c.l.length + n ∧ (cfgI m c n).r.length ≤ c.r.length + n + 1 := by
  induction n with
  | zero => exact ⟨by simp [cfgI], by simp [cfgI]⟩
  | succ n ih =>
    have e : cfgI m c (n + 1) = stepI (lookI m (cfgI m c n)) (cfgI m c n) := rfl
    rw [e]
    generalize lookI m (cfgI m c n) = ru
    generalize cfgI m c n = x at *
    unfold stepI
    split
    · have := pushL_len ru.w x.l
      refine ⟨by simp only; omega, by simp; omega⟩
    · have h1 := pushL_len ru.w (x.r.drop 1)
      have h2 := pushL_len (hdD x.l) (pushL ru.w (x.r.drop 1))
      simp only [List.length_drop] at h1
      refine ⟨by simp; omega, by simp only; omega⟩
end Go.Proofs.YtfghojbbofobeaaGreat
end
section
namespace Go.Proofs.YtfghojbbofobeaaGreat
open Go Go.RowKit Go.Proofs
set_option maxHeartbeats 400000
def bvs (bs : List Int) : List Value := bs.map (Value.int .u8)
/-- A slice of bytes. -/
def Bytes (w : World) (v : Value) (bs : List Int) : Prop := Row w 1 v bs.length (bvs bs) ∧ ∀ z ∈ bs, 0 ≤ z ∧ z ≤ 255
theorem Bytes.ext {w w' : World} {v : Value} {bs : List Int} (h : Bytes w v bs) (he : Ext w w') : Bytes w' v bs := ⟨Row.ext h.1 he, h.2⟩
theorem bvs_get (bs : List Int) (k : Nat) (h : k < bs.length) : (bvs bs)[k]? = some (.int .u8 bs[k]) := by simp [bvs, h]
/-- A store of a number into a cell that holds no byte leaves bytes as they are. -/
theorem Bytes.store {w : World} {v : Value} {bs : List Int} (h : Bytes w v bs) {p : Addr} {u : Value} (hp : w.cell? p = some u) (hu : ∀ z, u ≠ .int .u8 z) (x : Value) : Bytes (w.setCell p x) v bs := by
  obtain ⟨⟨A, c, rfl, h1, h1', h2, h3⟩, h4⟩ := h
  refine ⟨⟨A, c, rfl, h1, h1', h2, fun hn => ?_⟩, h4⟩
  obtain ⟨b, off, rfl, hc⟩ := h3 hn
  refine ⟨b, off, rfl, fun j hj => ?_⟩
  have hj' : j < bs.length := by simpa [bvs] using hj
  have := hc j hj
  rw [bvs_get bs j hj'] at this ⊢
  refine (World.cell?_setCell_other w p _ x (fun e => ?_)).trans this
  have e2 : w.cell? p = some (.int .u8 bs[j]) := by first | (rw [← e]; exact this) | (rw [e]; exact this)
  rw [hp] at e2
  injection e2 with e2
  exact hu _ e2
theorem grownBy_drewN (w : World) (n : Nat) (row : Option Nat) : w.grownBy (w.drewN n) row := ⟨rfl, rfl, rfl, Nat.le_refl _, fun _ _ _ => rfl⟩
theorem and255 (x : Int) : 0 ≤ wrap64 (bits .and .u64 x 255) ∧ wrap64 (bits .and .u64 x 255) ≤ 255 := by
  have h : ∃ n : Nat, n ≤ 255 ∧ bits .and .u64 x 255 = IntKind.u64.wrap (n : Int) := by
    refine ⟨(BitVec.ofInt 64 x &&& BitVec.ofInt 64 255).toNat, ?_, rfl⟩
    rw [BitVec.toNat_and]
    have e : (BitVec.ofInt 64 255).toNat = 255 := by decide
    rw [e]
    exact Nat.and_le_right
  obtain ⟨n, hn, e⟩ := h
  have e2 : IntKind.u64.wrap (n : Int) = n := by rw [IntKind.wrap_u64]; omega
  rw [e, e2]
  have e3 : wrap64 (n : Int) = n := by unfold wrap64; omega
  rw [e3]
  omega
end Go.Proofs.YtfghojbbofobeaaGreat
namespace Go.Proofs.YtfghojbbofobeaaGreat
open Go Go.RowKit Go.Proofs
set_option maxHeartbeats 400000
end Go.Proofs.YtfghojbbofobeaaGreat
end
