/- Plain words: the rules of a machine that is built by its places say what is done there.
Contracts of the reference's small parts of a run of a machine: copies, sides of the tape, the index of the rule.
Contracts of the reference's small parts of a run of a machine, continued.
Contracts of the program's small functions on lists of numbers. Lists are short. -/
import Derived.Test.YtgeckhjkahnonaaGreatDoorO10
import Derived.Test.YtgeckhjkahnonaaGreatDoorO04
import Derived.Test.YtgeckhjkahnonaaGreatDoorO03
import Derived.Test.YtgeckhjkahnonaaGreatDoorO07
import Derived.Maps.AppendAt
section
set_option linter.unusedSimpArgs false
set_option linter.unusedVariables false
namespace Go.Proofs.YtgeckhjkahnonaaGreatDoor
open Go Go.RowKit Go.Proofs
section
variable {α : Type} [DecidableEq α]
/-- The rule of a place at a symbol, where ps are all places. -/
def ruleOf (act : α → Int → ActG α) (ps : List α) (p : α) (v : Int) : RuleD := if (act p v).no then noR else ⟨(act p v).w, (act p v).m, (ps.idxOf (act p v).p : Nat)⟩
theorem idx_prefix {ps qs : List α} {x : α} (h : ps <+: qs) (hx : x ∈ ps) : qs.idxOf x = ps.idxOf x := by
  obtain ⟨t, rfl⟩ := h
  rw [List.idxOf_append, if_pos hx]
/-- The rules behind n places say what is done there, for whatever list of places goes on from these. -/
structure RulAt (act : α → Int → ActG α) (sy : Nat) (s : List α × List RuleD) (n : Nat) : Prop where
  rules : ∀ k, (hk : k < s.1.length) → ∀ v, v < sy → k * sy + v < n → s.2[k * sy + v]? = some (ruleOf act s.1 s.1[k] v)
  closed : ∀ k, (hk : k < s.1.length) → ∀ v : Nat, v < sy → k * sy + v < n → (act s.1[k] v).no = false → (act s.1[k] v).p ∈ s.1
theorem pair_eq {sy k k' v v' : Nat} (hv : v < sy) (hv' : v' < sy) (h : k * sy + v = k' * sy + v') : k = k' ∧ v = v' := by
  have h1 : (k * sy + v) / sy = k := by rw [Nat.mul_comm, Nat.mul_add_div (by omega), Nat.div_eq_of_lt hv]; omega
  have h2 : (k' * sy + v') / sy = k' := by rw [Nat.mul_comm, Nat.mul_add_div (by omega), Nat.div_eq_of_lt hv']; omega
  have hk : k = k' := by rw [← h1, h, h2]
  subst hk
  exact ⟨rfl, by omega⟩
theorem RulAt.step {act : α → Int → ActG α} {sy : Nat} {s : List α × List RuleD} {n k0 j : Nat} {p : α} (h : RulAt act sy s n) (hn : s.2.length = n) (hp : s.1[k0]? = some p) (hj : j < sy) (hnn : n = k0 * sy + j) : RulAt act sy (symStep act p s j) (n + 1) := by
  obtain ⟨hk0, hpe⟩ := List.getElem?_eq_some_iff.1 hp
  cases e : (act p j).no with
  | true =>
    rw [symStep_no e]
    refine ⟨fun k hk v hv hlt => ?_, fun k hk v hv hlt hno => ?_⟩
    · by_cases c : k * sy + v < n
      · rw [List.getElem?_append_left (by omega)]
        exact h.rules k hk v hv c
      · obtain ⟨rfl, rfl⟩ := pair_eq hv hj (by omega : k * sy + v = k0 * sy + j)
        rw [List.getElem?_append_right (by omega), show k * sy + v - s.2.length = 0 by omega]
        simp only [List.getElem?_cons_zero, hpe, ruleOf, e, if_true]
    · by_cases c : k * sy + v < n
      · exact h.closed k hk v hv c hno
      · obtain ⟨rfl, rfl⟩ := pair_eq hv hj (by omega : k * sy + v = k0 * sy + j)
        simp only [hpe, e] at hno
        cases hno
  | false =>
    rw [symStep_yes e]
    have hpre := addP_prefix s.1 (act p j).p
    have hold : ∀ k v, v < sy → k * sy + v < n + 1 → k < (addP s.1 (act p j).p).length → k < s.1.length := fun k v hv hlt _ => by
      by_cases c : k < s.1.length
      · exact c
      · have : (k0 + 1) * sy ≤ k * sy := Nat.mul_le_mul_right _ (by omega)
        rw [Nat.add_mul] at this
        omega
    have hget : ∀ k (hk : k < s.1.length) (hk' : k < (addP s.1 (act p j).p).length), (addP s.1 (act p j).p)[k] = s.1[k] := fun k hk hk' => by
      obtain ⟨t, ht⟩ := hpre
      have : (addP s.1 (act p j).p)[k]? = s.1[k]? := by rw [← ht, List.getElem?_append_left hk]
      rw [List.getElem?_eq_getElem hk, List.getElem?_eq_getElem hk'] at this
      exact Option.some.inj this
    refine ⟨fun k hk v hv hlt => ?_, fun k hk v hv hlt hno => ?_⟩
    · have hks := hold k v hv hlt hk
      rw [hget k hks hk]
      by_cases c : k * sy + v < n
      · rw [List.getElem?_append_left (by omega), h.rules k hks v hv c]
        unfold ruleOf
        cases e2 : (act s.1[k] (v : Int)).no with
        | true => rfl
        | false => simp only [Bool.false_eq_true, if_false]; rw [idx_prefix hpre (h.closed k hks v hv c e2)]
      · obtain ⟨rfl, rfl⟩ := pair_eq hv hj (by omega : k * sy + v = k0 * sy + j)
        rw [List.getElem?_append_right (by omega), show k * sy + v - s.2.length = 0 by omega]
        simp [hpe, ruleOf, e]
    · have hks := hold k v hv hlt hk
      rw [hget k hks hk] at hno ⊢
      by_cases c : k * sy + v < n
      · exact List.IsPrefix.subset hpre (h.closed k hks v hv c hno)
      · obtain ⟨rfl, rfl⟩ := pair_eq hv hj (by omega : k * sy + v = k0 * sy + j)
        rw [hpe]
        exact addP_mem _ _
theorem RulAt.row {act : α → Int → ActG α} {sy : Nat} {s : List α × List RuleD} {k0 : Nat} {p : α} (h : RulAt act sy s (k0 * sy)) (hn : s.2.length = k0 * sy) (hp : s.1[k0]? = some p) : ∀ j, j ≤ sy → RulAt act sy (rowTo act p s j) (k0 * sy + j) := by
  intro j
  induction j with
  | zero => intro _; exact h
  | succ j ih =>
    intro hj
    have hl := rowTo_length act p s j
    have hpj : (rowTo act p s j).1[k0]? = some p := by
      obtain ⟨t, ht⟩ := rowTo_prefix act p s j
      rw [← ht, List.getElem?_append_left (List.getElem?_eq_some_iff.1 hp).1]; exact hp
    exact (ih (by omega)).step (by omega) hpj (by omega) rfl
theorem bldF_rules {act : α → Int → ActG α} {d : α} {sy : Nat} : ∀ f k s t, bldF act d sy f k s = some t → RulAt act sy s (k * sy) → s.2.length = k * sy → k ≤ s.1.length → RulAt act sy t (t.1.length * sy) := by
  intro f
  induction f with
  | zero => intro k s t h; simp [bldF] at h
  | succ f ih =>
    intro k s t h hr hl hk
    simp only [bldF] at h
    split at h
    · rename_i hlt
      split at h
      · cases h
      · have hp : s.1[k]? = some (s.1.getD k d) := by rw [List.getD_eq_getElem?_getD, List.getElem?_eq_getElem hlt]; rfl
        have hlen := rowTo_length act (s.1.getD k d) s sy
        refine ih (k + 1) _ t h ?_ (by rw [hlen.2.2, hl, Nat.succ_mul]) (by omega)
        have := hr.row hl hp sy (Nat.le_refl _)
        rwa [Nat.succ_mul]
    · rename_i hge
      cases h
      have : k = s.1.length := by omega
      rw [← this]
      exact hr
/-- The rules of the machine that is built. -/
theorem bld_rules {act : α → Int → ActG α} {d : α} {sy : Nat} {t : List α × List RuleD} (h : bld act d sy = some t) : RulAt act sy t (t.1.length * sy) := by
  refine bldF_rules 1002 0 ([d], []) t h ⟨fun k hk v hv hlt => ?_, fun k hk v hv hlt => ?_⟩ (by simp) (by simp)
  · omega
  · omega
end
end Go.Proofs.YtgeckhjkahnonaaGreatDoor
end
section
namespace Go.Proofs.YtgeckhjkahnonaaGreatDoor
open Go Go.RowKit Go.Proofs
set_option maxHeartbeats 400000
theorem Ints.take {w : World} {A : Option Addr} {c : Nat} {zs : List Int} (h : Ints w (.slice A zs.length c) zs) (k : Nat) (hk : k ≤ zs.length) : Ints w (.slice A k c) (zs.take k) := by
  obtain ⟨A', c', hv, g1, g2, g3, g4⟩ := h
  injection hv with hA _ hc
  subst hA
  subst hc
  have hl : (zs.take k).length = k := by simp; omega
  refine ⟨A, c, by rw [hl], by omega, g2, by simp [ivs], fun hn => ?_⟩
  rw [hl] at hn
  obtain ⟨b, off, hA, hcc⟩ := g4 (by omega)
  refine ⟨b, off, hA, fun j hj => ?_⟩
  have hj' : j < k := by rw [ivs_length, hl] at hj; exact hj
  rw [hcc j (by rw [ivs_length]; omega), ivs_get zs j (by omega), ivs_get (zs.take k) j (by omega)]
  simp
/-- How many cells a side keeps when the blanks at its end go. -/
def trimN (xs : List Int) : Nat → Nat
  | 0 => 0
  | n + 1 => if xs.getD n 0 = 0 then trimN xs n else n + 1
def trim (xs : List Int) : List Int := xs.take (trimN xs xs.length)
theorem trimN_le (xs : List Int) (n : Nat) : trimN xs n ≤ n := by
  induction n with
  | zero => exact Nat.le_refl _
  | succ n ih => unfold trimN; split <;> omega
theorem trim_len (xs : List Int) : (trim xs).length ≤ xs.length := by have := trimN_le xs xs.length; simp [trim]; omega
theorem trimN_zero (xs : List Int) : ∀ n i, trimN xs n ≤ i → i < n → xs.getD i 0 = 0 := by
  intro n
  induction n with
  | zero => intro i _ h; omega
  | succ n ih =>
    intro i h1 h2
    unfold trimN at h1
    split at h1
    · rename_i h
      by_cases c : i = n
      · subst c; exact h
      · exact ih i h1 (by omega)
    · omega
theorem trim_get (xs : List Int) (i : Nat) : (trim xs).getD i 0 = xs.getD i 0 := by
  have h1 := trimN_le xs xs.length
  by_cases c : i < trimN xs xs.length
  · simp only [trim, List.getD_eq_getElem?_getD, List.getElem?_take, if_pos c]
  · have e : (trim xs).getD i 0 = 0 := by
      rw [List.getD_eq_getElem?_getD, List.getElem?_eq_none (by simp [trim]; omega)]
      rfl
    rw [e]
    by_cases d : i < xs.length
    · exact (trimN_zero xs xs.length i (by omega) d).symm
    · rw [List.getD_eq_getElem?_getD, List.getElem?_eq_none (by omega)]
      rfl
theorem trim_mem {xs : List Int} {z : Int} (h : z ∈ trim xs) : z ∈ xs := List.mem_of_mem_take h
end Go.Proofs.YtgeckhjkahnonaaGreatDoor
namespace Go.Proofs.YtgeckhjkahnonaaGreatDoor
open Go Go.RowKit Go.Proofs
set_option maxHeartbeats 400000
structure ConfR where
  q : Int
  l : List Int
  r : List Int
/-- A configuration in memory. -/
def ConfAt (w : World) (b : Nat) (c : ConfR) : Prop := ∃ lv rv, w.cell? ⟨b, 0, none⟩ = some (.int .i64 c.q) ∧ w.cell? ⟨b, 1, none⟩ = some lv ∧ w.cell? ⟨b, 2, none⟩ = some rv ∧ Ints w lv c.l ∧ Ints w rv c.r
theorem ConfAt.ext {w w' : World} {b : Nat} {c : ConfR} (h : ConfAt w b c) (he : Ext w w') : ConfAt w' b c := by
  obtain ⟨lv, rv, h1, h2, h3, h4, h5⟩ := h
  exact ⟨lv, rv, he.cell h1, he.cell h2, he.cell h3, h4.ext he, h5.ext he⟩
/-- The cell at the beginning of a side. -/
def hdR (xs : List Int) : Int := xs.getD 0 0
end Go.Proofs.YtgeckhjkahnonaaGreatDoor
end
section
set_option linter.unusedSimpArgs false
set_option linter.unusedVariables false
namespace Go.Proofs.YtgeckhjkahnonaaGreatDoor
open Go Go.RowKit Go.Proofs
set_option maxHeartbeats 400000
theorem symbolAt_c (v : Value) (zs : List Int) (k : Nat) (w : World) (h : Ints w v zs) :
    Calls Tryz.prog 47 #[v, .int .i64 k] w fun e w' => e = .returned (.int .i64 (zs.getD k 0)) ∧ w = w' := by
  obtain ⟨A, c, rfl, h2, h2'⟩ := h.form
  by_cases hlt : k < zs.length
  · obtain ⟨b, off, rfl, hc⟩ := h.at hlt
    have c0 := hc k hlt
    have HR : Hid (zs.getD k 0 = zs[k]) := by unfold Hid; rw [List.getD_eq_getElem?_getD, List.getElem?_eq_getElem hlt]; rfl
    generalize zs[k] = z at *
    clear hc
    go_enter Tryz.func47, Tryz.ntmps47
    go_wp2
    go_ret
    exact ⟨by rw [HR.out]; rfl, rfl⟩
  · have HR : Hid (zs.getD k 0 = 0) := by unfold Hid; rw [List.getD_eq_getElem?_getD, List.getElem?_eq_none (by omega)]; rfl
    go_enter Tryz.func47, Tryz.ntmps47
    go_wp2
    go_ret
    exact ⟨by rw [HR.out]; rfl, rfl⟩
end Go.Proofs.YtgeckhjkahnonaaGreatDoor
end
