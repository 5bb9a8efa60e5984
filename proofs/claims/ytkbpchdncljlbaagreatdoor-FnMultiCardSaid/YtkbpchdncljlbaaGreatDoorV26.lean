/- The iterator over the steps of the program's runner has its contract. The machine is valid and the configuration is one of its.
Plain words: the machine on one half of the tape is a valid one; the beginning of its run; and the texts of its run.
Contracts: the code for arguments, the text of a configuration of the program, and the text for which a folded configuration stands. -/
import Derived.Test.YtkbpchdncljlbaaGreatDoorV25
import Derived.Shelf.Abstract
import Derived.Shelf.RegionOpen
import Derived.WalkKit
import Derived.OwnWalkIn
import Derived.TacticsInMore
import Derived.LoopNIn
import Derived.LoopIn
import Derived.Test.YtkbpchdncljlbaaGreatDoorV18
import Derived.Test.YtkbpchdncljlbaaGreatDoorV19
import Derived.Test.YtkbpchdncljlbaaGreatDoorV23
import Derived.Test.YtkbpchdncljlbaaGreatDoorV08
import Derived.Test.YtkbpchdncljlbaaGreatDoorV09
import Derived.Test.YtkbpchdncljlbaaGreatDoorV20
import Derived.Test.YtkbpchdncljlbaaGreatDoorV21
import Derived.Test.YtkbpchdncljlbaaGreatDoorV12
import Derived.Test.YtkbpchdncljlbaaGreatDoorV05
import Derived.Test.YtkbpchdncljlbaaGreatDoorV06
section
set_option linter.unusedSimpArgs false
set_option linter.unusedVariables false
namespace Go.Proofs.YtkbpchdncljlbaaGreatDoor
open Go Go.RowKit Go.Proofs Go.Shelf
attribute [local go_sem] Oper.semAt_some
set_option maxHeartbeats 400000
abbrev encR (x : Int × Bool) : Array Value := #[.int .i64 x.1, .bool x.2]
/-- The run ends behind i steps. -/
structure EndAt (m : MachD) (c : ConfD) (N i : Nat) : Prop where
  runs : RunsTo m c i
  le : i ≤ N
  stop : i = N ∨ lookI m (cfgI m c i) = noR
/-- There is no room behind i steps. -/
structure FullAt (m : MachD) (c : ConfD) (N i : Nat) : Prop where
  pos : 0 < i
  runs : RunsTo m c (i - 1)
  le : i ≤ N
  no : ¬ lookI m (cfgI m c (i - 1)) = noR
  full : fitI (cfgI m c i) = false
section
variable (w0 : World) (b bq bp : Nat) (m : MachD) (c : ConfD) (mv : Value) (N : Nat)
end
theorem fit_both {c : ConfD} (h : fitI c = true) : c.l.length ≤ 200 ∧ c.r.length ≤ 200 := by
  simpa [fitI] using h
end Go.Proofs.YtkbpchdncljlbaaGreatDoor
end
section
set_option linter.unusedSimpArgs false
set_option linter.unusedVariables false
namespace Go.Proofs.YtkbpchdncljlbaaGreatDoor
open Go Go.RowKit Go.Proofs
section
variable {α : Type} [DecidableEq α]
/-- What holds of a machine that is being built. -/
structure BOk (Q : α → Prop) (sy : Nat) (s : List α × List RuleD) : Prop where
  all : ∀ p ∈ s.1, Q p
  rules : ∀ r ∈ s.2, r = noR ∨ ((0 ≤ r.w ∧ r.w < sy) ∧ (r.m = 1 ∨ r.m = -1) ∧ 0 ≤ r.n ∧ r.n < s.1.length)
theorem BOk.sym {Q : α → Prop} {act : α → Int → ActG α} {sy : Nat} {p : α} {s : List α × List RuleD} {v : Int} (h : BOk Q sy s)
    (ha : (act p v).no = false → Q (act p v).p ∧ (0 ≤ (act p v).w ∧ (act p v).w < sy) ∧ ((act p v).m = 1 ∨ (act p v).m = -1)) : BOk Q sy (symStep act p s v) := by
  cases e : (act p v).no with
  | true =>
    rw [symStep_no e]
    refine ⟨h.all, fun r hr => ?_⟩
    rcases List.mem_append.1 hr with hr | hr
    · exact h.rules r hr
    · left; simpa using hr
  | false =>
    obtain ⟨h1, h2, h3⟩ := ha e
    rw [symStep_yes e]
    refine ⟨addP_all h.all h1, fun r hr => ?_⟩
    have hl := addP_length s.1 (act p v).p
    rcases List.mem_append.1 hr with hr | hr
    · rcases h.rules r hr with c | ⟨a, b, c, d⟩
      · exact .inl c
      · exact .inr ⟨a, b, c, by simp only; omega⟩
    · simp only [List.mem_singleton] at hr
      subst hr
      right
      have hi := List.idxOf_lt_length_iff.2 (addP_mem s.1 (act p v).p)
      exact ⟨h2, h3, Int.natCast_nonneg _, by simp only; omega⟩
theorem BOk.row {Q : α → Prop} {act : α → Int → ActG α} {sy : Nat} {p : α} {s : List α × List RuleD} (h : BOk Q sy s)
    (ha : ∀ v : Nat, v < sy → (act p v).no = false → Q (act p v).p ∧ (0 ≤ (act p v).w ∧ (act p v).w < sy) ∧ ((act p v).m = 1 ∨ (act p v).m = -1)) : ∀ n, n ≤ sy → BOk Q sy (rowTo act p s n) := by
  intro n
  induction n with
  | zero => intro _; exact h
  | succ n ih => intro hn; exact (ih (by omega)).sym (ha n (by omega))
theorem bldF_ok {Q : α → Prop} {act : α → Int → ActG α} {d : α} {sy : Nat}
    (ha : ∀ p, Q p → ∀ v : Nat, v < sy → (act p v).no = false → Q (act p v).p ∧ (0 ≤ (act p v).w ∧ (act p v).w < sy) ∧ ((act p v).m = 1 ∨ (act p v).m = -1)) :
    ∀ f k s t, bldF act d sy f k s = some t → BOk Q sy s → s.2.length = k * sy → k ≤ s.1.length → 1 ≤ s.1.length → s.1.length ≤ 1000 → BOk Q sy t ∧ t.2.length = t.1.length * sy ∧ 1 ≤ t.1.length ∧ t.1.length ≤ 1000 := by
  intro f
  induction f with
  | zero => intro k s t h; simp [bldF] at h
  | succ f ih =>
    intro k s t h hb hl hk h1 h2
    simp only [bldF] at h
    split at h
    · rename_i hlt
      split at h
      · cases h
      · rename_i hmost
        have hp : s.1.getD k d ∈ s.1 := by
          rw [List.getD_eq_getElem?_getD, List.getElem?_eq_getElem hlt]
          exact List.getElem_mem hlt
        have hlen := rowTo_length act (s.1.getD k d) s sy
        refine ih (k + 1) _ t h (hb.row (ha _ (hb.all _ hp)) sy (Nat.le_refl _)) ?_ (by omega) (by omega) (by omega)
        rw [hlen.2.2, hl, Nat.succ_mul]
    · rename_i hge
      cases h
      have hkk : k = s.1.length := by omega
      exact ⟨hb, by rw [hl, hkk], h1, h2⟩
end
theorem actF_fine {m : MachD} (hm : machOk m = true) {p : FP} {v : Int} (hp : POk m.st p) (v0 : 0 ≤ v) (v1 : v ≤ m.sy) (hn : (actF m p v).no = false) : (0 ≤ (actF m p v).w ∧ (actF m p v).w ≤ m.sy) ∧ ((actF m p v).m = 1 ∨ (actF m p v).m = -1) := by
  obtain ⟨s1, s2, s3, s4, hl⟩ := machOk_all hm
  obtain ⟨k, q, h⟩ := p
  obtain ⟨k0, k5, q0, q1, h01, hk⟩ := hp
  simp only at k0 k5 q0 q1 h01 hk
  have main : ∀ h', v ≠ m.sy → (foldMainD m q h' v).no = false → (0 ≤ (foldMainD m q h' v).w ∧ (foldMainD m q h' v).w ≤ m.sy) ∧ ((foldMainD m q h' v).m = 1 ∨ (foldMainD m q h' v).m = -1) := by
    intro h' hne hno
    obtain ⟨j, hj1, hj2⟩ := ruleIx s1 s2 hl q0 q1 v0 (by omega : v < m.sy)
    have e0 : m.rules.getD (q * m.sy + v).toNat noR = m.rules[j] := by
      rw [hj1, List.getD_eq_getElem?_getD, Int.toNat_natCast, List.getElem?_eq_getElem hj2]; rfl
    have hr : ruleOk m.sy m.st m.rules[j] = true := by
      have : m.rules.all (ruleOk m.sy m.st) = true := by simp only [machOk, Bool.and_eq_true] at hm; exact hm.2
      exact List.all_eq_true.1 this _ (List.getElem_mem hj2)
    unfold foldMainD at hno ⊢
    rw [e0] at hno ⊢
    generalize m.rules[j] = r at *
    by_cases hn : r = noR
    · rw [if_pos hn] at hno; simp [noA] at hno
    · rw [if_neg hn] at hno ⊢
      have hrn : 0 ≤ r.w ∧ r.w ≤ m.sy - 1 := by
        simp only [ruleOk, decide_eq_false hn, Bool.false_or, Bool.and_eq_true] at hr
        exact inB_iff.1 hr.1.1
      split
      · exact ⟨⟨hrn.1, by simp only; omega⟩, .inl rfl⟩
      · split
        · exact ⟨⟨hrn.1, by simp only; omega⟩, .inr rfl⟩
        · exact ⟨⟨hrn.1, by simp only; omega⟩, .inr rfl⟩
  have hkk : k = 0 ∨ k = 1 ∨ k = 2 ∨ k = 3 ∨ k = 4 ∨ k = 5 := by omega
  by_cases hne : v = m.sy
  · rcases hkk with e | e | e | e | e | e <;> subst e <;> simp [actF, hne, noA, keepD] at hn ⊢
    all_goals omega
  · rcases hkk with e | e | e | e | e | e <;> subst e <;> simp [actF, hne, keepD] at hn ⊢
    · exact main h hne hn
    · omega
    · omega
    · omega
    · omega
    · exact main 1 hne hn
/-- The machine on one half of the tape. -/
def foldM (m : MachD) (s : List FP × List RuleD) : MachD := ⟨m.sy + 1, s.1.length, s.2⟩
theorem fold_ok {m : MachD} (hm : machOk m = true) {s : List FP × List RuleD} (h : foldOf m = some s) : machOk (foldM m s) = true ∧ (∀ p ∈ s.1, POk m.st p) := by
  obtain ⟨s1, s2, s3, s4, hl⟩ := machOk_all hm
  unfold foldOf at h
  split at h
  · cases h
  · rename_i h6
    have hsy : ((m.sy + 1).toNat : Int) = m.sy + 1 := by omega
    have hd : POk m.st fp0 := ⟨by decide, by decide, Int.le_refl _, by show (0 : Int) < m.st; omega, .inl rfl, fun _ => rfl⟩
    obtain ⟨hb, h1, h2, h3⟩ := bldF_ok (Q := POk m.st) (act := actF m) (d := fp0) (sy := (m.sy + 1).toNat) (fun p hp v hv hno => by
      have hf := actF_fine hm hp (v := (v : Int)) (by omega) (by omega) hno
      exact ⟨actF_ok hm hp (by omega) (by omega) hno, ⟨hf.1.1, by omega⟩, hf.2⟩) 1002 0 ([fp0], []) s h ⟨fun p hp => by simp only [List.mem_singleton] at hp; subst hp; exact hd, fun r hr => by cases hr⟩ (by simp) (by simp) (by simp) (by simp)
    refine ⟨?_, hb.all⟩
    have hmul : (s.2.length : Int) = (m.sy + 1) * (s.1.length : Int) := by
      rw [h1, Int.natCast_mul, hsy, Int.mul_comm]
    have a1 : inB (m.sy + 1) 2 6 = true := inB_iff.2 (by omega)
    have a2 : inB (s.1.length : Int) 1 1000 = true := inB_iff.2 (by omega)
    have a3 : decide ((s.2.length : Int) = (m.sy + 1) * (s.1.length : Int)) = true := decide_eq_true hmul
    have a4 : s.2.all (ruleOk (m.sy + 1) (s.1.length : Int)) = true := List.all_eq_true.2 (fun r hr => by
      rcases hb.rules r hr with e | ⟨a, b, c, d⟩
      · simp [ruleOk, e]
      · have b1 : inB r.w 0 (m.sy + 1 - 1) = true := inB_iff.2 (by omega)
        have b2 : inB r.n 0 ((s.1.length : Int) - 1) = true := inB_iff.2 (by omega)
        have b3 : (r.m == 1 || r.m == -1) = true := by rcases b with e | e <;> rw [e] <;> rfl
        simp only [ruleOk, b1, b2, b3, Bool.and_true, Bool.or_true, Bool.and_self])
    show (inB (m.sy + 1) 2 6 && inB (s.1.length : Int) 1 1000 && decide ((s.2.length : Int) = (m.sy + 1) * (s.1.length : Int)) && s.2.all (ruleOk (m.sy + 1) (s.1.length : Int))) = true
    rw [a1, a2, a3, a4]
    rfl
/-- The right side of the beginning: the cells of both sides in turn. -/
def interN (a b : List Int) (n : Nat) : List Int := (List.range n).flatMap fun k => [a.getD k 0, b.getD k 0]
theorem interN_succ (a b : List Int) (n : Nat) : interN a b (n + 1) = interN a b n ++ [a.getD n 0, b.getD n 0] := by simp [interN, List.range_succ]
theorem interN_length (a b : List Int) (n : Nat) : (interN a b n).length = n * 2 := by
  induction n with
  | zero => rfl
  | succ n ih => rw [interN_succ, List.length_append, ih, Nat.succ_mul]; rfl
/-- The beginning of the run on one half of the tape, and its code. -/
def startX (m : MachD) (c : ConfD) (s : List FP × List RuleD) : ConfD := ⟨(s.1.idxOf ⟨0, c.q, 0⟩ : Nat), [m.sy], trim (interN c.r c.l (max c.l.length c.r.length))⟩
def startF (m : MachD) (c : ConfD) : ConfD × Int :=
  match foldOf m with
  | none => (blankC, 5)
  | some s => if (⟨0, c.q, 0⟩ : FP) ∈ s.1 then (if confB (foldM m s) (startX m c s) then (startX m c s, 0) else (blankC, 5)) else (blankC, 6)
/-- The text of the configuration for which one stands. -/
def txtF (m : MachD) (x : ConfD) : List UInt8 := if (decAll m x).2 = 0 then confT (decAll m x).1 else []
/-- The texts of a run and the code. -/
def TRun (M : MachD) (x : ConfD) (N : Nat) (f : ConfD → List UInt8) (L : List (List UInt8)) (k : Int) : Prop :=
  (∃ T, EndAt M x N T ∧ L = (List.range (T + 1)).map (fun i => f (cfgI M x i)) ∧ k = 0) ∨ ((∃ T, FullAt M x N T) ∧ L = [] ∧ k = 5)
theorem EndAt.unique {M : MachD} {x : ConfD} {N T T' : Nat} (h : EndAt M x N T) (h' : EndAt M x N T') : T = T' := by
  have key : ∀ {a b : Nat}, EndAt M x N a → EndAt M x N b → ¬ a < b := fun {a b} ha hb hlt => by
    rcases ha.stop with e | e
    · have := hb.le; omega
    · exact hb.runs.no a hlt e
  have := key h h'
  have := key h' h
  omega
theorem EndAt.not_full {M : MachD} {x : ConfD} {N T T' : Nat} (h : EndAt M x N T) (h' : FullAt M x N T') : False := by
  have hp := h'.pos
  have hle := h'.le
  by_cases hlt : T' ≤ T
  · have := h.runs.fit T' hlt
    rw [h'.full] at this
    cases this
  · rcases h.stop with e | e
    · omega
    · by_cases e1 : T = T' - 1
      · rw [e1] at e; exact h'.no e
      · exact h'.runs.no T (by omega) e
theorem TRun.unique {M : MachD} {x : ConfD} {N : Nat} {f : ConfD → List UInt8} {L L' : List (List UInt8)} {k k' : Int} (h : TRun M x N f L k) (h' : TRun M x N f L' k') : L = L' ∧ k = k' := by
  rcases h with ⟨T, h1, rfl, rfl⟩ | ⟨⟨T, h1⟩, rfl, rfl⟩ <;> rcases h' with ⟨T', h1', rfl, rfl⟩ | ⟨⟨T', h1'⟩, rfl, rfl⟩
  · rw [h1.unique h1']; exact ⟨rfl, rfl⟩
  · exact (h1.not_full h1').elim
  · exact (h1'.not_full h1).elim
  · exact ⟨rfl, rfl⟩
/-- The texts and the code of the whole call. -/
def FTxt (m : MachD) (c : ConfD) (n : Int) (L : List (List UInt8)) (k : Int) : Prop :=
  if machOk m && confB m c then
    if inB n 0 599 then
      if (startF m c).2 = 0 then ∃ s, foldOf m = some s ∧ TRun (foldM m s) (startF m c).1 n.toNat (txtF m) L k
      else L = [] ∧ k = (startF m c).2
    else L = [] ∧ k = 2
  else L = [] ∧ k = 1
theorem FTxt.unique {m : MachD} {c : ConfD} {n : Int} {L L' : List (List UInt8)} {k k' : Int} (h : FTxt m c n L k) (h' : FTxt m c n L' k') : L = L' ∧ k = k' := by
  unfold FTxt at h h'
  split at h
  · rename_i h0
    rw [if_pos h0] at h'
    split at h
    · rename_i h1
      rw [if_pos h1] at h'
      split at h
      · rename_i h2
        rw [if_pos h2] at h'
        obtain ⟨s, e, ht⟩ := h
        obtain ⟨s', e', ht'⟩ := h'
        rw [e] at e'
        cases e'
        exact ht.unique ht'
      · rename_i h2
        rw [if_neg h2] at h'
        exact ⟨h.1.trans h'.1.symm, h.2.trans h'.2.symm⟩
    · rename_i h1
      rw [if_neg h1] at h'
      exact ⟨h.1.trans h'.1.symm, h.2.trans h'.2.symm⟩
  · rename_i h0
    rw [if_neg h0] at h'
    exact ⟨h.1.trans h'.1.symm, h.2.trans h'.2.symm⟩
/-- What the run of the folded machine comes to is one of its configurations. -/
theorem run_conf {m : MachD} (hm : machOk m = true) {s : List FP × List RuleD} (hs : foldOf m = some s) {x : ConfD} (hx : confB (foldM m s) x = true) {i : Nat} (h : RunsTo (foldM m s) x i) : confB (foldM m s) (cfgI (foldM m s) x i) = true := by
  obtain ⟨hg, hf, ht⟩ := conf_good hx
  have hok := (fold_ok hm hs).1
  refine conf_back (cfg_good hok hg i h.no) ?_ (tidy_cfg ht i)
  have := h.fit i (Nat.le_refl _)
  simpa [fitI] using this
end Go.Proofs.YtkbpchdncljlbaaGreatDoor
end
section
set_option linter.unusedSimpArgs false
set_option linter.unusedVariables false
namespace Go.Proofs.YtkbpchdncljlbaaGreatDoor
open Go Go.RowKit Go.Proofs
set_option maxHeartbeats 400000
def codeT (a b : Bool) : Int := if a then (if b then 0 else 2) else 1
/-- What a configuration must be for its text. -/
structure CDig (c : ConfD) : Prop where
  q0 : 0 ≤ c.q
  q9 : c.q ≤ 999
  l1 : c.l.length ≤ 200
  l2 : ∀ z ∈ c.l, 0 ≤ z ∧ z ≤ 9
  r1 : c.r.length ≤ 200
  r2 : ∀ z ∈ c.r, 0 ≤ z ∧ z ≤ 9
theorem CDig.of {m : MachD} {c : ConfD} (hm : machOk m = true) (hc : confB m c = true) : CDig c := by
  obtain ⟨⟨q0, q9⟩, ⟨l1, l2⟩, ⟨r1, r2⟩⟩ := conf_digs hm hc
  exact ⟨q0, q9, l1, l2, r1, r2⟩
theorem fnL_in {D : List Int} {p : Int} {B : Int} (hB : 0 ≤ B) (h : ∀ z ∈ D, 0 ≤ z ∧ z ≤ B) (f : Nat → Int) (n : Nat) : ∀ z ∈ trim (fnL (fun k => symZ D (f k)) n), 0 ≤ z ∧ z ≤ B := fun z hz =>
  fnL_all (f := fun k => symZ D (f k)) (n := n) (p := fun z => 0 ≤ z ∧ z ≤ B) (fun k => by
    unfold symZ
    rw [List.getD_eq_getElem?_getD]
    by_cases hl : idxZ (f k) - 1 < D.length
    · rw [List.getElem?_eq_getElem hl]; exact h _ (List.getElem_mem hl)
    · rw [List.getElem?_eq_none (by omega)]; exact ⟨Int.le_refl _, hB⟩) z (trim_mem hz)
/-- The configuration for which one stands can be shown. -/
theorem decP_dig {sy st : Int} {p : FP} {c : ConfD} (hp : POk st p) (hst : st ≤ 1000) (h1 : ∀ z ∈ c.l, 0 ≤ z ∧ z ≤ sy) (h2 : ∀ z ∈ c.r, 0 ≤ z ∧ z ≤ sy) (hs : 0 ≤ sy) (hs9 : sy ≤ 9) (hk : (decP sy p c).2 = 0) : CDig (decP sy p c).1 := by
  obtain ⟨_, _, q0, q1, _⟩ := hp
  have hD : ∀ z ∈ backD c, 0 ≤ z ∧ z ≤ sy := fun z hz => (back_mem.1 hz).elim (fun h => h1 z (List.dropLast_subset _ h)) (h2 z)
  have key : ∀ q D k, (0 ≤ q ∧ q < st) → (∀ z ∈ D, 0 ≤ z ∧ z ≤ sy) → (unfD q D k).2 = 0 → CDig (unfD q D k).1 := by
    intro q D k hq hD h
    have hln := unfD_len q D k
    unfold unfD at h hln ⊢
    split at h
    · rename_i h0
      rw [if_pos h0] at hln ⊢
      have a := fnL_in (p := 0) hs hD (fun i : Nat => plZ k - 1 - i) (D.length + 2)
      have b := fnL_in (p := 0) hs hD (fun i : Nat => plZ k + i) (D.length + 2)
      exact ⟨hq.1, by show q ≤ 999; omega, hln.1, fun z hz => by have := a z hz; omega, hln.2, fun z hz => by have := b z hz; omega⟩
    · simp at h
  rw [decP_alt] at hk ⊢
  split at hk
  · rename_i hf
    rw [if_pos hf]
    split at hk
    · rename_i hg
      rw [if_pos hg]
      refine key _ _ _ ?_ hD hk
      unfold stF at hf ⊢
      split
      · exact ⟨q0, q1⟩
      · split
        · exact ⟨q0, q1⟩
        · rename_i h3 h4; rw [if_neg h3, if_neg h4] at hf; simp at hf
    · simp at hk
  · simp at hk
theorem decAll_at {m : MachD} (hm : machOk m = true) {s : List FP × List RuleD} (hs : foldOf m = some s) {c : ConfD} (hc : confB (foldM m s) c = true) : decAll m c = decP m.sy (s.1.getD c.q.toNat ⟨0, 0, 0⟩) c := by
  unfold decAll
  rw [if_pos hm, hs]
  show (if confB (foldM m s) c then _ else _) = _
  rw [if_pos hc]
end Go.Proofs.YtkbpchdncljlbaaGreatDoor
end
