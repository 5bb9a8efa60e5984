/- Plain words: the machine with one tape for two exists, its run begins well, and it comes to all configurations in order.
Plain words: the run of the machine with one tape comes to all configurations of the run of the machine with two tapes, in order.
Contracts of the program's search of a simulation, where there is one. -/
import Derived.Test.YtgeckhjkahnonaaGreatDoorO33
import Derived.Test.YtgeckhjkahnonaaGreatDoorO34
import Derived.Test.YtgeckhjkahnonaaGreatDoorO04
import Derived.Test.YtgeckhjkahnonaaGreatDoorO11
section
set_option linter.unusedSimpArgs false
set_option linter.unusedVariables false
namespace Go.Proofs.YtgeckhjkahnonaaGreatDoor
open Go Go.RowKit Go.Proofs
section
variable {α : Type} [DecidableEq α]
theorem bldF_prefix {act : α → Int → ActG α} {d : α} {sy : Nat} : ∀ f k s t, bldF act d sy f k s = some t → s.1 <+: t.1 := by
  intro f
  induction f with
  | zero => intro k s t h; simp [bldF] at h
  | succ f ih =>
    intro k s t h
    simp only [bldF] at h
    split at h
    · split at h
      · cases h
      · exact (rowTo_prefix _ _ _ _).trans (ih _ _ _ h)
    · cases h
      exact List.prefix_refl _
/-- All places that may come up lie in a short list: the machine exists. -/
theorem bldF_some {Q : α → Prop} {act : α → Int → ActG α} {d : α} {sy : Nat} {U : List α} (hU : U.length ≤ 1000) (hQU : ∀ p, Q p → p ∈ U)
    (ha : ∀ p, Q p → ∀ v : Nat, v < sy → (act p v).no = false → Q (act p v).p) :
    ∀ f k s, 1002 ≤ f + k → k ≤ s.1.length → s.1.Nodup → (∀ p ∈ s.1, Q p) → ∃ t, bldF act d sy f k s = some t := by
  have small : ∀ xs : List α, xs.Nodup → (∀ p ∈ xs, Q p) → xs.length ≤ 1000 := fun xs hn hq =>
    Nat.le_trans (hn.length_le_of_subset fun p hp => hQU p (hq p hp)) hU
  have nd : ∀ (p : α) (s : List α × List RuleD), s.1.Nodup → ∀ n, (rowTo act p s n).1.Nodup := fun p s hs n => by
    induction n with
    | zero => exact hs
    | succ n ih =>
      show (symStep act p (rowTo act p s n) n).1.Nodup
      cases e : (act p (n : Int)).no with
      | true => rw [symStep_no e]; exact ih
      | false =>
        rw [symStep_yes e]
        show (addP _ _).Nodup
        unfold addP
        split
        · exact ih
        · rename_i hx
          exact List.nodup_append.2 ⟨ih, by simp, fun a ha b hb => by rw [List.mem_singleton.1 hb]; intro e; exact hx (e ▸ ha)⟩
  intro f
  induction f with
  | zero =>
    intro k s hf hk hn hq
    have := small s.1 hn hq
    omega
  | succ f ih =>
    intro k s hf hk hn hq
    have hl := small s.1 hn hq
    simp only [bldF]
    by_cases hlt : k < s.1.length
    · rw [if_pos hlt]
      have hp : s.1.getD k d ∈ s.1 := by
        rw [List.getD_eq_getElem?_getD, List.getElem?_eq_getElem hlt]
        exact List.getElem_mem hlt
      have hq2 := rowTo_all (act := act) (p := s.1.getD k d) (N := sy) hq (fun v hv hno => ha _ (hq _ hp) v hv hno) sy (Nat.le_refl _)
      have hn2 := nd (s.1.getD k d) s hn sy
      rw [if_neg (by have := small _ hn2 hq2; omega)]
      exact ih (k + 1) _ (by omega) (by have := rowTo_length act (s.1.getD k d) s sy; omega) hn2 hq2
    · rw [if_neg hlt]
      exact ⟨s, rfl⟩
end
/-- All places of a machine for two tapes with at most eight rules and two states. -/
def rngI (n : Nat) : List Int := (List.range n).map fun (i : Nat) => (i : Int)
theorem mem_rng {n : Nat} {x : Int} (h0 : 0 ≤ x) (h1 : x < n) : x ∈ rngI n := List.mem_map.2 ⟨x.toNat, List.mem_range.2 (by omega), by omega⟩
def placesU : List MP :=
  (rngI 2).flatMap (fun a => (rngI 2).flatMap fun t => (rngI 3).flatMap fun x => (rngI 3).map fun y => ⟨0, a, t, 0, x, y, 0, 0⟩) ++
  (rngI 2).flatMap (fun k => (rngI 8).flatMap fun a => (rngI 2).flatMap fun t => (rngI 2).flatMap fun c => (rngI 4).map fun d => ⟨k + 1, a, t, c, 0, 0, 0, d⟩) ++
  (rngI 8).flatMap (fun a => (rngI 2).flatMap fun t => (rngI 4).map fun d => ⟨3, a, t, 0, 0, 0, 0, d⟩) ++
  (rngI 2).flatMap (fun a => (rngI 3).map fun c => ⟨4, a, 0, c, 0, 0, 0, 0⟩)
theorem placesU_len : placesU.length ≤ 1000 := by decide +kernel
/-- A place that comes up. -/
def PlU (p : MP) : Prop :=
  (p.k = 0 ∧ (0 ≤ p.a ∧ p.a < 2) ∧ (0 ≤ p.t ∧ p.t < 2) ∧ p.c = 0 ∧ (0 ≤ p.f0 ∧ p.f0 < 3) ∧ (0 ≤ p.f1 ∧ p.f1 < 3) ∧ p.f2 = 0 ∧ p.d = 0) ∨
  ((p.k = 1 ∨ p.k = 2) ∧ (0 ≤ p.a ∧ p.a < 8) ∧ (0 ≤ p.t ∧ p.t < 2) ∧ (0 ≤ p.c ∧ p.c < 2) ∧ p.f0 = 0 ∧ p.f1 = 0 ∧ p.f2 = 0 ∧ (0 ≤ p.d ∧ p.d < 4)) ∨
  (p.k = 3 ∧ (0 ≤ p.a ∧ p.a < 8) ∧ (0 ≤ p.t ∧ p.t < 2) ∧ p.c = 0 ∧ p.f0 = 0 ∧ p.f1 = 0 ∧ p.f2 = 0 ∧ (0 ≤ p.d ∧ p.d < 4)) ∨
  (p.k = 4 ∧ (0 ≤ p.a ∧ p.a < 2) ∧ p.t = 0 ∧ (0 ≤ p.c ∧ p.c < 3) ∧ p.f0 = 0 ∧ p.f1 = 0 ∧ p.f2 = 0 ∧ p.d = 0)
theorem PlU.mem {p : MP} (h : PlU p) : p ∈ placesU := by
  obtain ⟨k, a, t, c, f0, f1, f2, d⟩ := p
  unfold placesU
  rcases h with ⟨rfl, ha, ht, rfl, h0, h1, rfl, rfl⟩ | ⟨hk, ha, ht, hc, rfl, rfl, rfl, hd⟩ | ⟨rfl, ha, ht, rfl, rfl, rfl, rfl, hd⟩ | ⟨rfl, ha, rfl, hc, rfl, rfl, rfl, rfl⟩
  · refine List.mem_append_left _ (List.mem_append_left _ (List.mem_append_left _ ?_))
    exact List.mem_flatMap.2 ⟨a, mem_rng ha.1 ha.2, List.mem_flatMap.2 ⟨t, mem_rng ht.1 ht.2, List.mem_flatMap.2 ⟨f0, mem_rng h0.1 h0.2, List.mem_map.2 ⟨f1, mem_rng h1.1 h1.2, rfl⟩⟩⟩⟩
  · refine List.mem_append_left _ (List.mem_append_left _ (List.mem_append_right _ ?_))
    refine List.mem_flatMap.2 ⟨k - 1, mem_rng (by simp only at hk; omega) (by simp only at hk; omega), List.mem_flatMap.2 ⟨a, mem_rng ha.1 ha.2, List.mem_flatMap.2 ⟨t, mem_rng ht.1 ht.2, List.mem_flatMap.2 ⟨c, mem_rng hc.1 hc.2, List.mem_map.2 ⟨d, mem_rng hd.1 hd.2, ?_⟩⟩⟩⟩⟩
    rw [show k - 1 + 1 = k by omega]
  · refine List.mem_append_left _ (List.mem_append_right _ ?_)
    exact List.mem_flatMap.2 ⟨a, mem_rng ha.1 ha.2, List.mem_flatMap.2 ⟨t, mem_rng ht.1 ht.2, List.mem_map.2 ⟨d, mem_rng hd.1 hd.2, rfl⟩⟩⟩
  · refine List.mem_append_right _ ?_
    exact List.mem_flatMap.2 ⟨a, mem_rng ha.1 ha.2, List.mem_map.2 ⟨c, mem_rng hc.1 hc.2, rfl⟩⟩
theorem aftP_pl {m : MultiD} (hm : multiOk m = true) (hp : m.tp = 2) (hst : m.st ≤ 2) (hr : m.rules.length ≤ 8) {i t d : Int} (i0 : 0 ≤ i) (i1 : i < m.rules.length) (ht : 0 ≤ t ∧ t < 2) (hd : 0 ≤ d ∧ d < 4) : PlU (aftP m i t d) := by
  obtain ⟨j, rfl, hj, e, hok⟩ := mrAt_ok hm i0 i1
  obtain ⟨_, ⟨n0, n1⟩, _⟩ := mrule_all hok
  unfold aftP
  split
  · unfold leaveP
    rw [e]
    split
    · exact .inl ⟨rfl, ⟨n0, by show m.rules[j].nx < 2; omega⟩, by show (0 : Int) ≤ 0 ∧ (0 : Int) < 2; omega, rfl, by show (0 : Int) ≤ 0 ∧ (0 : Int) < 3; omega, by show (0 : Int) ≤ 0 ∧ (0 : Int) < 3; omega, rfl, rfl⟩
    · exact .inr (.inr (.inr ⟨rfl, ⟨n0, by show m.rules[j].nx < 2; omega⟩, rfl, by show 0 ≤ t + m.tp - 1 ∧ t + m.tp - 1 < 3; omega, rfl, rfl, rfl, rfl⟩))
  · refine .inr (.inr (.inl ⟨rfl, by show (0 : Int) ≤ j ∧ (j : Int) < 8; omega, ?_, rfl, rfl, rfl, rfl, hd⟩))
    show 0 ≤ befT m.tp t ∧ befT m.tp t < 2
    unfold befT
    rw [hp]
    omega
theorem orB_pl {d t : Int} (ht : 0 ≤ t ∧ t < 2) (hd : 0 ≤ d ∧ d < 4) : 0 ≤ orB d t ∧ orB d t < 4 := by
  unfold orB
  repeat' split
  all_goals omega
theorem putP_pl {m : MultiD} (hm : multiOk m = true) (hp : m.tp = 2) (hst : m.st ≤ 2) (hr : m.rules.length ≤ 8) {i t d : Int} (i0 : 0 ≤ i) (i1 : i < m.rules.length) (ht : 0 ≤ t ∧ t < 2) (hd : 0 ≤ d ∧ d < 4) : PlU (putP m i t d).p := by
  have ho := orB_pl ht hd
  unfold putP
  split
  · exact aftP_pl hm hp hst hr i0 i1 ht ho
  · exact .inr (.inl ⟨.inl rfl, by show 0 ≤ i ∧ i < 8; omega, ht, by show 0 ≤ m.tp - 1 ∧ m.tp - 1 < 2; omega, rfl, rfl, rfl, ho⟩)
theorem withF_pl {p : MP} {t x : Int} (h : p.k = 0 ∧ (0 ≤ p.a ∧ p.a < 2) ∧ (0 ≤ p.t ∧ p.t < 2) ∧ p.c = 0 ∧ (0 ≤ p.f0 ∧ p.f0 < 3) ∧ (0 ≤ p.f1 ∧ p.f1 < 3) ∧ p.f2 = 0 ∧ p.d = 0) (ht : 0 ≤ t ∧ t < 2) (hx : 0 ≤ x ∧ x < 3) : PlU (withF p t x) := by
  obtain ⟨a, b, c, d, e, f, g, k⟩ := h
  refine .inl ⟨a, b, c, d, ?_, ?_, ?_, k⟩
  · show 0 ≤ (if t = 0 then x else p.f0) ∧ (if t = 0 then x else p.f0) < 3
    split <;> omega
  · show 0 ≤ (if t = 1 then x else p.f1) ∧ (if t = 1 then x else p.f1) < 3
    split <;> omega
  · show (if t = 2 then x else p.f2) = 0
    rw [if_neg (by omega)]
    exact g
theorem actW_pl {m : MultiD} (hm : multiOk m = true) (hp : m.tp = 2) (hy : m.sy = 2) (hst : m.st ≤ 2) (hr : m.rules.length ≤ 8) {p : MP} {v : Int} (h : PlU p ∧ WOk m p) (v0 : 0 ≤ v) (v1 : v < 4) (hn : (actW m p v).no = false) : PlU (actW m p v).p := by
  obtain ⟨h, hw⟩ := h
  have ha : p.k ≠ 0 → p.k ≠ 4 → 0 ≤ p.a ∧ p.a < m.rules.length := fun h1 h2 => by
    rcases hw.kd with ⟨k, _⟩ | ⟨k, a, b, _⟩ | ⟨k, a, b, _⟩ | ⟨k, _⟩
    · exact absurd k h1
    · exact ⟨a, b⟩
    · exact ⟨a, b⟩
    · exact absurd k h2
  unfold actW at hn ⊢
  rcases h with ⟨k, h⟩ | ⟨k, h⟩ | ⟨k, h⟩ | ⟨k, h⟩
  · rw [if_pos k] at hn ⊢
    have hnx : (nxtT m p).k = 0 ∧ (0 ≤ (nxtT m p).a ∧ (nxtT m p).a < 2) ∧ (0 ≤ (nxtT m p).t ∧ (nxtT m p).t < 2) ∧ (nxtT m p).c = 0 ∧ (0 ≤ (nxtT m p).f0 ∧ (nxtT m p).f0 < 3) ∧ (0 ≤ (nxtT m p).f1 ∧ (nxtT m p).f1 < 3) ∧ (nxtT m p).f2 = 0 ∧ (nxtT m p).d = 0 := by
      refine ⟨k, h.1, ?_, h.2.2.1, h.2.2.2.1, h.2.2.2.2.1, h.2.2.2.2.2.1, h.2.2.2.2.2.2⟩
      show 0 ≤ (p.t + 1) % m.tp ∧ (p.t + 1) % m.tp < 2
      rw [hp]
      omega
    unfold lkP at hn ⊢
    split
    · rename_i hc
      rw [if_pos hc] at hn
      split
      · exact withF_pl hnx h.2.1 (by rw [hy] at hc ⊢; omega)
      · rename_i hl
        rw [if_neg hl] at hn
        cases hf : findM m.rules (symsP m (seenP m p v)) m.rules.length with
        | none => rw [hf] at hn; simp [ruleP, noW] at hn
        | some i =>
          have hi := findM_lt hf
          exact putP_pl hm hp hst hr (i := (i : Int)) (by omega) (by omega) h.2.1 (by omega)
    · exact .inl hnx
  · have h1 := ha (by omega) (by omega)
    rw [if_neg (by omega), if_neg (by omega), if_neg (by omega)] at hn ⊢
    rcases k with k | k
    · rw [if_pos k] at hn ⊢
      split
      · exact .inr (.inl ⟨.inl rfl, h.1, h.2.1, by show 0 ≤ p.c - 1 ∧ p.c - 1 < 2; omega, rfl, rfl, rfl, h.2.2.2.2.2.2⟩)
      · exact .inr (.inl ⟨.inr rfl, h.1, h.2.1, by show 0 ≤ m.tp - 1 ∧ m.tp - 1 < 2; omega, rfl, rfl, rfl, h.2.2.2.2.2.2⟩)
    · rw [if_neg (by omega)] at hn ⊢
      split
      · exact .inr (.inl ⟨.inr rfl, h.1, h.2.1, by show 0 ≤ p.c - 1 ∧ p.c - 1 < 2; omega, rfl, rfl, rfl, h.2.2.2.2.2.2⟩)
      · exact aftP_pl hm hp hst hr h1.1 h1.2 h.2.1 h.2.2.2.2.2.2
  · have h1 := ha (by omega) (by omega)
    rw [if_neg (by omega), if_neg (by omega), if_pos k] at hn ⊢
    split
    · exact putP_pl hm hp hst hr h1.1 h1.2 h.2.1 h.2.2.2.2.2.2
    · refine .inr (.inr (.inl ⟨rfl, h.1, ?_, rfl, rfl, rfl, rfl, h.2.2.2.2.2.2⟩))
      show 0 ≤ befT m.tp p.t ∧ befT m.tp p.t < 2
      unfold befT
      rw [hp]
      omega
  · rw [if_neg (by omega), if_pos k] at hn ⊢
    have hc : 1 ≤ p.c := by
      rcases hw.kd with ⟨k', _⟩ | ⟨k', _⟩ | ⟨k', _⟩ | ⟨_, _, _, c, _⟩
      · omega
      · omega
      · omega
      · exact c
    show PlU (leaveP p.a (p.c - 1))
    unfold leaveP
    split
    · exact .inl ⟨rfl, h.1, by show (0 : Int) ≤ 0 ∧ (0 : Int) < 2; omega, rfl, by show (0 : Int) ≤ 0 ∧ (0 : Int) < 3; omega, by show (0 : Int) ≤ 0 ∧ (0 : Int) < 3; omega, rfl, rfl⟩
    · exact .inr (.inr (.inr ⟨rfl, h.1, rfl, by show 0 ≤ p.c - 1 ∧ p.c - 1 < 3; omega, rfl, rfl, rfl, rfl⟩))
theorem weave_some {m : MultiD} (hm : multiOk m = true) (hp : m.tp = 2) (hy : m.sy = 2) (hst : m.st ≤ 2) (hr : m.rules.length ≤ 8) : ∃ s, weaveB m = some s := by
  obtain ⟨_, _, ⟨s1, _⟩, _⟩ := multi_all hm
  have hsy : (2 * m.sy).toNat = 4 := by rw [hy]; rfl
  unfold weaveB bld
  rw [hsy]
  refine bldF_some (Q := fun p => PlU p ∧ WOk m p) placesU_len (fun p h => h.1.mem) (fun p h v hv hno => ⟨actW_pl hm hp hy hst hr h (by omega) (by omega) hno, actW_ok hm h.2 (by omega) (by omega) hno⟩) 1002 0 _ (by omega) (by simp) (by simp) (fun p hh => ?_)
  rw [List.mem_singleton.1 hh]
  exact ⟨.inl ⟨rfl, by show (0 : Int) ≤ 0 ∧ (0 : Int) < 2; omega, by show (0 : Int) ≤ 0 ∧ (0 : Int) < 2; omega, rfl, by show (0 : Int) ≤ 0 ∧ (0 : Int) < 3; omega, by show (0 : Int) ≤ 0 ∧ (0 : Int) < 3; omega, rfl, rfl⟩, lookP_ok hm (Int.le_refl 0) (by omega)⟩
theorem weave_first {m : MultiD} {s : List MP × List RuleD} (hs : weaveB m = some s) : ∃ t, s.1 = mp0 :: t := by
  obtain ⟨t, ht⟩ := bldF_prefix _ _ _ _ hs
  exact ⟨t, by rw [← ht]; rfl⟩
end Go.Proofs.YtgeckhjkahnonaaGreatDoor
end
section
set_option linter.unusedSimpArgs false
set_option linter.unusedVariables false
namespace Go.Proofs.YtgeckhjkahnonaaGreatDoor
open Go Go.RowKit Go.Proofs
theorem flat_get (u0 u1 : List Int) (n : Nat) : ∀ i, (flatW 2 [u0, u1] n).getD (2 * i) 0 = (if i < n then cellW 2 i u0 else 0) ∧ (flatW 2 [u0, u1] n).getD (2 * i + 1) 0 = (if i < n then cellW 2 i u1 else 0) := by
  induction n with
  | zero => intro i; simp [flatW]
  | succ n ih =>
    intro i
    have hl : (flatW 2 [u0, u1] n).length = n * 2 := flatW_length 2 [u0, u1] n
    have hr : rowW 2 [u0, u1] n = [cellW 2 n u0, cellW 2 n u1] := rfl
    rw [flatW_succ, hr]
    rcases Nat.lt_trichotomy i n with c | c | c
    · rw [List.getD_eq_getElem?_getD, List.getD_eq_getElem?_getD, List.getElem?_append_left (by omega), List.getElem?_append_left (by omega), ← List.getD_eq_getElem?_getD, ← List.getD_eq_getElem?_getD, (ih i).1, (ih i).2, if_pos c, if_pos c, if_pos (by omega), if_pos (by omega)]
      exact ⟨rfl, rfl⟩
    · subst c
      rw [List.getD_eq_getElem?_getD, List.getD_eq_getElem?_getD, List.getElem?_append_right (by omega), List.getElem?_append_right (by omega), hl, show 2 * i - i * 2 = 0 by omega, show 2 * i + 1 - i * 2 = 1 by omega, if_pos (by omega), if_pos (by omega)]
      exact ⟨rfl, rfl⟩
    · rw [List.getD_eq_getElem?_getD, List.getD_eq_getElem?_getD, List.getElem?_eq_none (by simp [hl]; omega), List.getElem?_eq_none (by simp [hl]; omega), if_neg (by omega), if_neg (by omega)]
      exact ⟨rfl, rfl⟩
def natF (xs : List Int) : Int → Int := fun i => if i < 0 then 0 else xs.getD i.toNat 0
theorem natF_nat (xs : List Int) (i : Nat) : natF xs i = xs.getD i 0 := by unfold natF; rw [if_neg (by omega), Int.toNat_natCast]
theorem natF_neg (xs : List Int) {i : Int} (h : i < 0) : natF xs i = 0 := if_pos h
theorem start_good {m : MultiD} (hm : multiOk m = true) (hp : m.tp = 2) (hy : m.sy = 2) {s : List MP × List RuleD} (hs : weaveB m = some s) {u0 u1 : List Int} (h0 : u0.length ≤ 3 ∧ ∀ z ∈ u0, 0 ≤ z ∧ z ≤ 1) (h1 : u1.length ≤ 3 ∧ ∀ z ∈ u1, 0 ≤ z ∧ z ≤ 1) :
    (rightO m [u0, u1]).length ≤ 6 ∧ Good m s (startO m [u0, u1]) 0 (startM [u0, u1]) 0 0 := by
  obtain ⟨n, hn⟩ : ∃ n, longL [u0, u1] = n := ⟨_, rfl⟩
  have hn3 : n ≤ 3 := by
    rw [← hn]
    refine longL_le (by omega) fun t ht => ?_
    simp only [List.mem_cons, List.not_mem_nil, or_false] at ht
    rcases ht with rfl | rfl <;> omega
  have hn1 : 1 ≤ n := by rw [← hn]; exact longL_one _
  have hu0 : u0.length ≤ n := by rw [← hn]; exact longL_mem (by simp)
  have hu1 : u1.length ≤ n := by rw [← hn]; exact longL_mem (by simp)
  have hR : rightO m [u0, u1] = trim (flatW 2 [u0, u1] n) := by unfold rightO; rw [hy, hn]
  have hfl : (flatW 2 [u0, u1] n).length = n * 2 := flatW_length 2 [u0, u1] n
  have hlen : (rightO m [u0, u1]).length ≤ 6 := by rw [hR]; have := trim_len (flatW 2 [u0, u1] n); omega
  have hz : ∀ zs : List Int, ∀ i, zs.length ≤ i → zs.getD i 0 = 0 := fun zs i hi => by
    rw [List.getD_eq_getElem?_getD, List.getElem?_eq_none hi]; rfl
  have hbin : ∀ {u : List Int}, (∀ z ∈ u, 0 ≤ z ∧ z ≤ 1) → ∀ i : Nat, 0 ≤ u.getD i 0 ∧ u.getD i 0 ≤ 1 := fun {u} hu i => getD_all (P := fun z => 0 ≤ z ∧ z ≤ 1) hu (by omega) i
  have wv : ∀ (t : Nat) (u : List Int), t < 2 → u.length ≤ n → (∀ i, (flatW 2 [u0, u1] n).getD (2 * i + t) 0 = (if i < n then cellW 2 i u else 0)) → WvT (natF (flatW 2 [u0, u1] n)) t (natF u) 0 := fun t u ht hu hg i => by
    by_cases hi : i < 0
    · rw [natF_neg _ (by omega), natF_neg _ hi, if_neg (by omega)]
      rfl
    · obtain ⟨j, rfl⟩ := Int.eq_ofNat_of_zero_le (by omega : 0 ≤ i)
      rw [show 2 * (j : Int) + (t : Int) = ((2 * j + t : Nat) : Int) by omega, natF_nat, natF_nat, hg j]
      unfold cellW
      by_cases hj : j < n
      · rw [if_pos hj]
        by_cases e : j = 0
        · subst e; rw [if_pos rfl, if_pos (show ((0 : Nat) : Int) = 0 from rfl)]
        · rw [if_neg e, if_neg (by omega)]; omega
      · rw [if_neg hj, hz u j (by omega), if_neg (by omega)]; rfl
  have W0 : WvT (natF (flatW 2 [u0, u1] n)) 0 (natF u0) 0 := wv 0 u0 (by omega) hu0 (fun i => (flat_get u0 u1 n i).1)
  have W1 : WvT (natF (flatW 2 [u0, u1] n)) 1 (natF u1) 0 := wv 1 u1 (by omega) hu1 (fun i => (flat_get u0 u1 n i).2)
  have bin : ∀ {u : List Int}, (∀ z ∈ u, 0 ≤ z ∧ z ≤ 1) → Bin (natF u) := fun {u} hu i => by
    unfold natF
    split
    · omega
    · exact hbin hu _
  have tl : ∀ u : List Int, TLn (startT u) (natF u) 0 := fun u =>
    ⟨fun i => by show (trim u).getD i 0 = _; rw [trim_get, Int.zero_add, natF_nat], fun i => by show ([] : List Int).getD i 0 = _; rw [natF_neg _ (by omega)]; rfl, tidy_trim _, .inl rfl⟩
  refine ⟨hlen, ⟨natF (flatW 2 [u0, u1] n), natF u0, natF u1, 0, 0, startT u0, startT u1, rfl, ?_, W0, W1, bin h0.2, bin h1.2, tl u0, tl u1, ?_, ?_, ?_⟩, ?_, ?_, ?_⟩
  rotate_left
  · exact ⟨Int.le_refl _, Int.le_refl _⟩
  · exact ⟨Int.le_refl _, Int.le_refl _⟩
  · exact ⟨Int.le_refl _, Int.le_refl _⟩
  · decide
  · exact Int.le_refl _
  · exact Int.le_refl _
  obtain ⟨tt, ht⟩ := weave_first hs
  have hln : Ln (startO m [u0, u1]) (natF (flatW 2 [u0, u1] n)) 0 := ⟨fun i => by show (rightO m [u0, u1]).getD i 0 = _; rw [hR, trim_get, Int.zero_add, natF_nat], fun i => by show ([] : List Int).getD i 0 = _; rw [natF_neg _ (by omega)]; rfl⟩
  refine ⟨⟨?_, ?_, hln⟩, RunsTo.zero ?_, fun i hi => ?_, fun i => ?_, .inl rfl, by show tidyL (rightO m [u0, u1]); rw [hR]; exact tidy_trim _⟩
  · show (0 : Int) = ((s.1.idxOf mp0 : Nat) : Int)
    rw [ht, List.idxOf_cons_self]
    rfl
  · show mp0 ∈ s.1
    rw [ht]; exact List.mem_cons_self
  · have hl2 : (startO m [u0, u1]).r.length ≤ 200 := by show (rightO m [u0, u1]).length ≤ 200; omega
    simp only [fitI, Bool.and_eq_true, decide_eq_true_eq]
    exact ⟨by show ([] : List Int).length ≤ 200; simp, hl2⟩
  · by_cases c : i < 0
    · exact absurd (natF_neg _ c) hi
    · obtain ⟨j, rfl⟩ := Int.eq_ofNat_of_zero_le (by omega : 0 ≤ i)
      rw [natF_nat] at hi
      have : j < n * 2 := by
        rcases Nat.lt_or_ge j (n * 2) with c | c
        · exact c
        · exact absurd (hz _ j (by omega)) hi
      omega
  · rw [hy]
    rcases (show i % 2 = 0 ∨ i % 2 = 1 by omega) with e | e
    · have := W0 (i / 2)
      rw [show 2 * (i / 2) + 0 = i by omega] at this
      have hb := bin h0.2 (i / 2)
      rw [this]
      split <;> omega
    · have := W1 (i / 2)
      rw [show 2 * (i / 2) + 1 = i by omega] at this
      have hb := bin h1.2 (i / 2)
      rw [this]
      split <;> omega
/-- The tapes of a configuration at the beginning of a step are short. -/
theorem Good.room {m : MultiD} {s : List MP × List RuleD} {x0 : ConfD} {t : Nat} {c : MConfD} {w b : Int} (h : Good m s x0 t c w b) (ht : t ≤ 300) : roomM c = true := by
  obtain ⟨⟨f, g0, g1, h0, h1, t0, t1, hc, R, W0, W1, B0, B1, T0, T1, ⟨hb0, hb1⟩, ⟨a1, a2⟩, a3, a4⟩, hbw, hw0, hw8⟩ := h
  have key : ∀ {y : TapeD} {g : Int → Int} {h k : Int}, (k = 0 ∨ k = 1) → TLn y g h → WvT f k g h → (-w ≤ h ∧ h ≤ w) → Bin g → roomT y = true := fun {y g h k} hk T W hw B => by
    have z : ∀ i : Int, (2 * i + k < -2 * w - 8 ∨ 2 * w + 9 < 2 * i + k) → g i = 0 := fun i hi => by
      have hf : f (2 * i + k) = 0 := by
        by_cases c : f (2 * i + k) = 0
        · exact c
        · have := R.box _ c; omega
      have := W i
      have hB := B i
      rw [hf] at this
      split at this <;> omega
    have e1 := tidy_len T.tl (n := 200) (fun i hi => by rw [T.l]; exact z _ (by omega))
    have e2 := tidy_len T.tr (n := 200) (fun i hi => by rw [T.r]; exact z _ (by omega))
    simp only [roomT, Bool.and_eq_true, decide_eq_true_eq]
    exact ⟨e1, e2⟩
  unfold roomM
  rw [hc]
  simp only [List.all_cons, List.all_nil, Bool.and_true, Bool.and_eq_true]
  exact ⟨key (.inl rfl) T0 W0 ⟨a1, a2⟩ B0, key (.inr rfl) T1 W1 ⟨a3, a4⟩ B1⟩
/-- The run of the machine with two tapes is followed for i steps. -/
structure Chain (m : MultiD) (s : List MP × List RuleD) (x0 : ConfD) (c0 : MConfD) (i : Nat) (τ : Nat → Nat) : Prop where
  zero : τ 0 = 0
  up : ∀ j, j < i → τ j < τ (j + 1)
  good : ∀ j, j ≤ i → ∃ w b, w ≤ (j : Int) ∧ τ j ≤ 40 * j ∧ Good m s x0 (τ j) (cfgM m.rules c0 j) w b
  no : ∀ j, j < i → lookM m.rules (cfgM m.rules c0 j) ≠ none
theorem Chain.next {m : MultiD} (hm : multiOk m = true) (hp : m.tp = 2) (hy : m.sy = 2) {s : List MP × List RuleD} (hs : weaveB m = some s) {x0 : ConfD} {c0 : MConfD} {i : Nat} {τ : Nat → Nat} (h : Chain m s x0 c0 i τ) (hi : i < 3) (hl : lookM m.rules (cfgM m.rules c0 i) ≠ none) :
    ∃ τ', Chain m s x0 c0 (i + 1) τ' := by
  obtain ⟨w, b, hw, ht, G⟩ := h.good i (Nat.le_refl _)
  rcases G.next hm hp hy hs (by omega) with ⟨e, _⟩ | ⟨_, T, w', b', h1, h2, h3, G'⟩
  · exact absurd e hl
  · refine ⟨fun j => if j ≤ i then τ j else T, by rw [if_pos (Nat.zero_le _)]; exact h.zero, fun j hj => ?_, fun j hj => ?_, fun j hj => ?_⟩
    · by_cases c : j < i
      · rw [if_pos (by omega), if_pos (by omega)]; exact h.up j c
      · have : j = i := by omega
        subst this
        rw [if_pos (by omega), if_neg (by omega)]
        exact h1
    · by_cases c : j ≤ i
      · rw [if_pos c]; exact h.good j c
      · have : j = i + 1 := by omega
        subst this
        rw [if_neg c]
        exact ⟨w', b', by omega, by omega, G'⟩
    · by_cases c : j < i
      · exact h.no j c
      · have : j = i := by omega
        subst this
        exact hl
/-- A list is found within another one, in order, its first one at the beginning. -/
structure InOrder (src tgt : List (List UInt8)) (τ : Nat → Nat) : Prop where
  zero : τ 0 = 0
  up : ∀ j, j + 1 < src.length → τ j < τ (j + 1)
  eq : ∀ j, (h : j < src.length) → tgt[τ j]? = some src[j]
  pos : 0 < src.length
theorem one_sim {m : MultiD} (hm : multiOk m = true) (hp : m.tp = 2) (hy : m.sy = 2) (hst : m.st ≤ 2) (hr : m.rules.length ≤ 8) {ws : List (List Int)} (hw : ws.length = 2 ∧ ∀ x ∈ ws, x.length ≤ 3 ∧ ∀ z ∈ x, 0 ≤ z ∧ z ≤ 1) {n : Int} (hn : 0 ≤ n ∧ n < 4)
    {L L' : List (List UInt8)} {k k' : Int} (hL : MTR m ws n L k) (hL' : OTxt m ws 300 L' k') : k = 0 ∧ k' = 0 ∧ (∃ τ, InOrder L L' τ) ∧ L.length ≤ 600 ∧ L'.length ≤ 600 ∧ ∀ x ∈ L, x ≠ [] := by
  obtain ⟨s, hs⟩ := weave_some hm hp hy hst hr
  obtain ⟨u0, u1, rfl⟩ : ∃ u0 u1, ws = [u0, u1] := by
    match ws, hw.1 with
    | [a, b], _ => exact ⟨a, b, rfl⟩
  have h0 := hw.2 u0 (by simp)
  have h1 := hw.2 u1 (by simp)
  obtain ⟨hlen, G0⟩ := start_good hm hp hy hs h0 h1
  have hwo : [u0, u1].all (wordOk m) = true := by
    have f : ∀ {u : List Int}, (u.length ≤ 3 ∧ ∀ z ∈ u, 0 ≤ z ∧ z ≤ 1) → wordOk m u = true := fun {u} hu => by
      simp only [wordOk, Bool.and_eq_true, decide_eq_true_eq, List.all_eq_true]
      exact ⟨by omega, fun z hz => inB_iff.2 (by rw [hy]; exact hu.2 z hz)⟩
    simp only [List.all_cons, List.all_nil, Bool.and_true, Bool.and_eq_true]
    exact ⟨f h0, f h1⟩
  have hwl : (([u0, u1] : List (List Int)).length : Int) = m.tp := by rw [hp]; rfl
  -- the source
  have hM : MTx m.rules (startM [u0, u1]) n.toNat mconT L k := by
    rcases hL with ⟨a, _⟩ | ⟨_, a, _⟩ | ⟨_, _, a⟩
    · rw [hm] at a; cases a
    · exact absurd ⟨inB_iff.2 (by omega), hwl, hwo⟩ a
    · exact a
  obtain ⟨N, rfl⟩ := Int.eq_ofNat_of_zero_le hn.1
  rw [Int.toNat_natCast] at hM
  have hN : N ≤ 3 := by omega
  have hc0 : Chain m s (startO m [u0, u1]) (startM [u0, u1]) 0 (fun _ => 0) := ⟨rfl, fun j hj => by omega, fun j hj => by
    have : j = 0 := by omega
    subst this
    exact ⟨0, 0, by omega, by omega, G0⟩, fun j hj => by omega⟩
  have hch : ∀ j, j ≤ N → (∃ i τ, i < j ∧ Chain m s (startO m [u0, u1]) (startM [u0, u1]) i τ ∧ lookM m.rules (cfgM m.rules (startM [u0, u1]) i) = none) ∨ ∃ τ, Chain m s (startO m [u0, u1]) (startM [u0, u1]) j τ := by
    intro j
    induction j with
    | zero => intro _; exact .inr ⟨_, hc0⟩
    | succ j ih =>
      intro hj
      rcases ih (by omega) with ⟨i, τ, a, b, c⟩ | ⟨τ, b⟩
      · exact .inl ⟨i, τ, by omega, b, c⟩
      · by_cases e : lookM m.rules (cfgM m.rules (startM [u0, u1]) j) = none
        · exact .inl ⟨j, τ, by omega, b, e⟩
        · exact .inr (b.next hm hp hy hs (by omega) e)
  obtain ⟨i, τ, hi, hC, hstop⟩ : ∃ i τ, i ≤ N ∧ Chain m s (startO m [u0, u1]) (startM [u0, u1]) i τ ∧ (i = N ∨ lookM m.rules (cfgM m.rules (startM [u0, u1]) i) = none) := by
    rcases hch N (Nat.le_refl _) with ⟨i, τ, a, b, c⟩ | ⟨τ, b⟩
    · exact ⟨i, τ, by omega, b, .inr c⟩
    · exact ⟨N, τ, Nat.le_refl _, b, .inl rfl⟩
  have hE : MEnd m.rules (startM [u0, u1]) N i := ⟨⟨hC.no, fun j hj => by
    obtain ⟨w, b, _, ht, G⟩ := hC.good j hj
    exact G.room (by omega)⟩, hi, hstop⟩
  have hLk : L = (List.range (i + 1)).map (fun j => mconT (cfgM m.rules (startM [u0, u1]) j)) ∧ k = 0 := by
    rcases hM with ⟨i', h, a, b⟩ | ⟨i', h, _⟩
    · rw [h.one hE] at a; exact ⟨a, b⟩
    · exact (hE.notFull h).elim
  -- the target
  obtain ⟨T, hT⟩ := G0.ends hm hp hy hs 301 (by omega)
  have hsO : (startOC m [u0, u1]).2 = 0 := by
    unfold startOC
    rw [if_pos hm, if_pos ⟨hwl, hwo⟩, if_pos (by omega)]
  have hLt : L' = (List.range (T + 1)).map (fun j => txtO m s (cfgI (oneM m s) (startO m [u0, u1]) j)) ∧ k' = 0 := by
    unfold OTxt at hL'
    rw [if_pos hm, if_pos (by decide), hs] at hL'
    simp only at hL'
    rw [if_pos hsO] at hL'
    rcases hL' with ⟨T', h, a, b⟩ | ⟨⟨T', h⟩, _⟩
    · rw [EndAt.unique h hT] at a; exact ⟨a, b⟩
    · exact (EndAt.not_full hT h).elim
  obtain ⟨rfl, rfl⟩ := hLk
  obtain ⟨rfl, rfl⟩ := hLt
  have hTle := hT.le
  refine ⟨rfl, rfl, ⟨τ, hC.zero, fun j hj => hC.up j (by simp at hj; omega), fun j hj => ?_, by simp⟩, by simp; omega, by simp; omega, fun x hx => ?_⟩
  · have hj' : j ≤ i := by simp at hj; omega
    obtain ⟨w, b, _, ht, G⟩ := hC.good j hj'
    have htT : τ j ≤ T := by
      rcases Nat.lt_or_ge T (τ j) with c | c
      · obtain ⟨f, g0, g1, p0, p1, t0, t1, hc, R, _⟩ := G.ex
        rcases hT.stop with e | e
        · omega
        · exact absurd e (R.runs.no T c)
      · exact c
    rw [List.getElem?_map, List.getElem?_range (by omega)]
    simp only [Option.map_some, List.getElem_map, List.getElem_range, G.text hp hy]
  · obtain ⟨j, _, rfl⟩ := List.mem_map.1 hx
    unfold mconT
    simp
end Go.Proofs.YtgeckhjkahnonaaGreatDoor
end
section
set_option linter.unusedSimpArgs false
set_option linter.unusedVariables false
namespace Go.Proofs.YtgeckhjkahnonaaGreatDoor
open Go Go.RowKit Go.Proofs
set_option maxHeartbeats 400000
theorem bs_back (l : List UInt8) : (bsS l).toList = l := by rw [ByteArray.toList_eq]
theorem bs_eq (a b : List UInt8) : ((bsS a).toList == (bsS b).toList) = decide (a = b) := by
  rw [bs_back, bs_back]
  by_cases h : a = b
  · simp [h]
  · rw [decide_eq_false h]; simp [h]
theorem svK_get (L : List (List UInt8)) (k : Nat) (h : k < L.length) : (svB L)[k]? = some (.string (bsS L[k])) := by simp [svB, h]
def StrR (w : World) (v : Value) (L : List (List UInt8)) : Prop := Row w 1 v L.length (svB L)
theorem StrR.at {w : World} {A : Option Addr} {c : Nat} {L : List (List UInt8)} (h : StrR w (.slice A L.length c) L) {k : Nat} (hk : k < L.length) : ∃ b off, A = some ⟨b, off, none⟩ ∧ w.cell? ⟨b, off + k, none⟩ = some (.string (bsS L[k])) := by
  obtain ⟨b, off, e, hc⟩ := Row.at h hk
  exact ⟨b, off, e, (hc k (by omega)).trans (svK_get L k hk)⟩
theorem sizeStr_c (v : Value) (L : List (List UInt8)) (w : World) (h : StrR w v L) : Calls Tryz.prog 29 #[v] w fun e w' => e = .returned (.int .i64 L.length) ∧ w = w' := by
  obtain ⟨A, c, rfl, h1, h2, hzz⟩ := Row.form h
  clear hzz
  go_enter Tryz.func29, Tryz.ntmps29
  go_wp2
  go_ret
  exact ⟨rfl, rfl⟩
set_option maxRecDepth 20000 in
theorem IndexStr_c (v : Value) (L : List (List UInt8)) (w : World) (h : StrR w v L) (hn : ∀ x ∈ L, x ≠ []) :
    Calls Tryz.prog 77 #[v, .string ⟨#[]⟩] w fun e w' => e = .returned (.int .i64 (-1)) ∧ Ext w w' := by
  obtain ⟨A, c, rfl, h1, h2, hzz⟩ := Row.form h
  clear hzz
  go_enter Tryz.func77, Tryz.ntmps77
  go_wp2
  go_loopw [8] (fun i wr => ∃ k : Nat, k ≤ L.length ∧ i = .int .i64 k ∧ Ext w wr) (fun i _ => L.length - (intOf i).toNat)
  case atStart => exact ⟨0, Nat.zero_le _, rfl, Ext.refl _⟩
  case round =>
    obtain ⟨k, hk, rfl, hx⟩ := hrel
    by_cases hlt : k < L.length
    · obtain ⟨b, off, rfl, c0⟩ := StrR.at h hlt
      have c0 := hx.cell c0
      have hem : (bsS L[k]).toList.isEmpty = false := by
        rw [bs_back]
        cases e : L[k] with
        | nil => exact absurd e (hn _ (List.getElem_mem hlt))
        | cons x y => rfl
      clear h
      generalize bsS L[k] = s at *
      go_wp2
      go_roundw
      case rel => exact ⟨k + 1, by omega, by go_num, hx⟩
      case measure => simp [intOf]; omega
    · go_wp2
      go_ret
      exact ⟨rfl, hx⟩
theorem ContainsStr_c (v : Value) (L : List (List UInt8)) (w : World) (h : StrR w v L) (hn : ∀ x ∈ L, x ≠ []) :
    Calls Tryz.prog 55 #[v, .string ⟨#[]⟩] w fun e w' => e = .returned (.bool false) ∧ Ext w w' := by
  obtain ⟨A, c, rfl, h1, h2, hzz⟩ := Row.form h
  clear hzz
  go_enter Tryz.func55, Tryz.ntmps55
  go_wp2_with fail
  refine (IndexStr_c _ L w h hn).mono ?_
  rintro e w' ⟨rfl, hx⟩
  go_wp2
  go_ret
  exact ⟨rfl, hx⟩
theorem simulable_c (v : Value) (L : List (List UInt8)) (w : World) (h : StrR w v L) (hn : ∀ x ∈ L, x ≠ []) (h0 : 0 < L.length) (h1 : L.length ≤ 600) :
    Calls Tryz.prog 26 #[v] w fun e w' => e = .returned (.bool true) ∧ Ext w w' := by
  obtain ⟨A, c, rfl, a1, a2, hzz⟩ := Row.form h
  clear hzz
  have hin : inB (L.length : Int) 1 600 = true := inB_true ⟨by omega, by omega⟩
  go_enter Tryz.func26, Tryz.ntmps26
  go_wp2_with fail
  refine (sizeStr_c _ L w h).mono ?_
  rintro e w' ⟨rfl, rfl⟩
  go_wp2_with fail
  refine (within_c _ _ _ _).mono ?_
  rintro e w' ⟨rfl, rfl⟩
  rw [hin]
  go_wp2_with fail
  refine (ContainsStr_c _ L _ h hn).mono ?_
  rintro e w' ⟨rfl, hx⟩
  go_wp2
  go_ret
  exact ⟨rfl, hx⟩
/-- Numbers that rise strictly. -/
def Rises (zs : List Int) : Prop := ∀ k, (h : k + 1 < zs.length) → zs[k] < zs[k + 1]
set_option maxRecDepth 20000 in
theorem rising_c (v : Value) (zs : List Int) (w : World) (h : Ints w v zs) (hr : Rises zs) : Calls Tryz.prog 56 #[v] w fun e w' => e = .returned (.bool true) ∧ Ext w w' := by
  obtain ⟨A, c, rfl, h2, h2'⟩ := h.form
  go_enter Tryz.func56, Tryz.ntmps56
  go_wp2
  go_loopw [3] (fun i wr => ∃ k : Nat, (k ≤ zs.length ∨ k = 1) ∧ 1 ≤ k ∧ i = .int .i64 k ∧ Ext w wr) (fun i _ => zs.length - (intOf i).toNat)
  case atStart => exact ⟨1, .inr rfl, Nat.le_refl _, rfl, Ext.refl _⟩
  case round =>
    obtain ⟨k, hk, hk1, rfl, hx⟩ := hrel
    by_cases hlt : k < zs.length
    · obtain ⟨k0, rfl⟩ : ∃ j, k = j + 1 := ⟨k - 1, by omega⟩
      have hd : decide (((k0 + 1 : Nat) : Int) < (zs.length : Int)) = true := decide_eq_true (by omega)
      obtain ⟨b, off, rfl, hc⟩ := h.at hlt
      have c1 := hx.cell (hc (k0 + 1) hlt)
      have c0 := hx.cell (hc k0 (by omega))
      have hlt2 := hr k0 hlt
      have hge : decide (zs[k0 + 1] ≤ zs[k0]) = false := decide_eq_false (by omega)
      have hsub : ((k0 + 1 : Nat) : Int) - 1 = (k0 : Int) := by omega
      clear hc
      generalize zs[k0 + 1] = z1 at *
      generalize zs[k0] = z0 at *
      go_wp2
      go_quiet (fail)
      go_wp2
      go_roundw
      case rel => exact ⟨k0 + 2, by omega, by omega, by go_num, hx.trans (Ext.drewN _ _)⟩
      case measure => simp [intOf]; omega
    · have hd : decide ((k : Int) < (zs.length : Int)) = false := decide_eq_false (by omega)
      go_wp2
      go_ret
      exact ⟨rfl, hx⟩
theorem fromZero_c (v : Value) (zs : List Int) (w : World) (h : Ints w v zs) (hr : Rises zs) (h0 : zs[0]? = some 0) : Calls Tryz.prog 27 #[v] w fun e w' => e = .returned (.bool true) ∧ Ext w w' := by
  obtain ⟨A, c, rfl, h2, h2'⟩ := h.form
  have hl : 0 < zs.length := (List.getElem?_eq_some_iff.1 h0).1
  obtain ⟨b, off, rfl, hc⟩ := h.at hl
  have c0 := hc 0 hl
  have e0 : zs[0] = 0 := (List.getElem?_eq_some_iff.1 h0).2
  rw [e0, Nat.add_zero] at c0
  have hd : decide ((0 : Int) < (zs.length : Int)) = true := decide_eq_true (by omega)
  clear hc e0 h0
  go_enter Tryz.func27, Tryz.ntmps27
  go_wp2_with fail
  refine (rising_c _ zs w h hr).mono ?_
  rintro e w' ⟨rfl, hx⟩
  go_wp2
  go_ret
  exact ⟨rfl, hx⟩
/-- Places of the source within the target, so far: the least ones. -/
structure Greedy (src tgt : List (List UInt8)) (τ : Nat → Nat) (p : Nat) (at_ : List Int) : Prop where
  few : at_.length ≤ src.length
  eq : ∀ k, (h : k < at_.length) → ∃ q : Nat, at_[k] = q ∧ q < p ∧ tgt[q]? = src[k]?
  up : Rises at_
  first : 0 < p → at_[0]? = some 0
  all : ∀ j, j < src.length → τ j < p → j < at_.length
theorem Greedy.start (src tgt : List (List UInt8)) (τ : Nat → Nat) : Greedy src tgt τ 0 [] := ⟨Nat.zero_le _, fun k h => by simp at h, fun k h => by simp at h, fun h => by omega, fun j _ h => by omega⟩
theorem InOrder.mono {src tgt : List (List UInt8)} {τ : Nat → Nat} (h : InOrder src tgt τ) : ∀ {i j : Nat}, i < j → j < src.length → τ i < τ j := by
  intro i j hij hj
  induction j with
  | zero => omega
  | succ j ih =>
    have := h.up j hj
    by_cases c : i = j
    · rw [c]; exact this
    · have := ih (by omega) (by omega); omega
theorem Greedy.hit {src tgt : List (List UInt8)} {τ : Nat → Nat} {p : Nat} {at_ : List Int} (h : Greedy src tgt τ p at_) (hO : InOrder src tgt τ) (hl : at_.length < src.length) (e : tgt[p]? = src[at_.length]?) : Greedy src tgt τ (p + 1) (at_ ++ [(p : Int)]) := by
  refine ⟨by simp; omega, fun k hk => ?_, fun k hk => ?_, fun _ => ?_, fun j hj hp => ?_⟩
  · by_cases c : k < at_.length
    · obtain ⟨q, a, b, d⟩ := h.eq k c
      exact ⟨q, by rw [List.getElem_append_left c]; exact a, by omega, d⟩
    · have : k = at_.length := by simp at hk; omega
      subst this
      exact ⟨p, by simp, by omega, e⟩
  · by_cases c : k + 1 < at_.length
    · rw [List.getElem_append_left c, List.getElem_append_left (by omega)]
      exact h.up k c
    · have e2 : k + 1 = at_.length := by simp at hk; omega
      obtain ⟨q, a, b, _⟩ := h.eq k (by omega)
      rw [List.getElem_append_left (by omega), a]
      rw [List.getElem_append_right (by omega)]
      simp
      omega
  · by_cases c : p = 0
    · subst c
      have hz : at_ = [] := by
        cases h2 : at_ with
        | nil => rfl
        | cons x y =>
          obtain ⟨q, _, b, _⟩ := h.eq 0 (by rw [h2]; simp)
          omega
      subst hz
      rfl
    · have := h.first (by omega)
      rw [List.getElem?_append_left (List.getElem?_eq_some_iff.1 this).1]
      exact this
  · rw [List.length_append, List.length_singleton]
    by_cases c : τ j < p
    · have := h.all j hj c; omega
    · rcases Nat.lt_or_ge at_.length j with d | d
      · have := hO.mono d hj
        have := h.all at_.length hl (by omega)
        omega
      · omega
theorem Greedy.miss {src tgt : List (List UInt8)} {τ : Nat → Nat} {p : Nat} {at_ : List Int} (h : Greedy src tgt τ p at_) (hO : InOrder src tgt τ) (hl : at_.length < src.length) (e : ¬ tgt[p]? = src[at_.length]?) : Greedy src tgt τ (p + 1) at_ := by
  have hall : ∀ j, j < src.length → τ j < p + 1 → j < at_.length := fun j hj hp => by
    by_cases c : τ j < p
    · exact h.all j hj c
    · have hp2 : τ j = p := by omega
      rcases Nat.lt_trichotomy j at_.length with d | d | d
      · exact d
      · exfalso
        subst d
        have := hO.eq _ hj
        rw [hp2] at this
        rw [List.getElem?_eq_getElem hl] at e
        exact e this
      · have := hO.mono d hj
        have := h.all at_.length hl (by omega)
        omega
  refine ⟨h.few, fun k hk => ?_, h.up, fun _ => ?_, hall⟩
  · obtain ⟨q, a, b, d⟩ := h.eq k hk
    exact ⟨q, a, by omega, d⟩
  · have h0 := hall 0 hO.pos (by rw [hO.zero]; omega)
    by_cases c : p = 0
    · subst c
      obtain ⟨q, _, b, _⟩ := h.eq 0 h0
      omega
    · exact h.first (by omega)
/-- The places show that the source is simulated by the target. -/
structure SimAt (src tgt : List (List UInt8)) (at_ : List Int) : Prop where
  len : at_.length = src.length
  eq : ∀ k, (h : k < at_.length) → ∃ q : Nat, at_[k] = q ∧ q < tgt.length ∧ tgt[q]? = src[k]?
  up : Rises at_
  first : at_[0]? = some 0
theorem Greedy.done {src tgt : List (List UInt8)} {τ : Nat → Nat} {p : Nat} {at_ : List Int} (h : Greedy src tgt τ p at_) (hO : InOrder src tgt τ) (hp : p ≤ tgt.length) (he : p = tgt.length ∨ at_.length = src.length) : SimAt src tgt at_ := by
  have hτ : ∀ j, j < src.length → τ j < tgt.length := fun j hj => (List.getElem?_eq_some_iff.1 (hO.eq j hj)).1
  have hlen : at_.length = src.length := by
    rcases he with e | e
    · subst e
      rcases Nat.lt_or_ge at_.length src.length with c | c
      · have := h.all at_.length c (hτ _ c); omega
      · have := h.few; omega
    · exact e
  have hp0 : 0 < p := by
    have := hO.pos
    obtain ⟨q, _, b, _⟩ := h.eq 0 (by omega)
    omega
  refine ⟨hlen, fun k hk => ?_, h.up, h.first hp0⟩
  obtain ⟨q, a, b, d⟩ := h.eq k hk
  exact ⟨q, a, by omega, d⟩
end Go.Proofs.YtgeckhjkahnonaaGreatDoor
end
