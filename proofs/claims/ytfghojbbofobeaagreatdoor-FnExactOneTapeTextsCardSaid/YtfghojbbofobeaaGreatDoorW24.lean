/- A list without zeros at its end, in the row of the whole one. No condition.
What the program's decoding of a configuration of the machine with one tape gives, in plain words, and in memory.
Plain words: a machine that is built by its places is a valid one. -/
import Derived.Test.YtfghojbbofobeaaGreatDoorW08
import Derived.Test.YtfghojbbofobeaaGreatDoorW23
import Derived.Test.YtfghojbbofobeaaGreatDoorW19
import Derived.Test.YtfghojbbofobeaaGreatDoorW06
section
set_option linter.unusedVariables false
namespace Go.Proofs.YtfghojbbofobeaaGreatDoor
open Go Go.RowKit Go.Proofs
theorem own_trim {base : Nat} {w : World} {A : Option Addr} {c : Nat} {x : List Int} (h : OwnInts base w (.slice A x.length c) x) : OwnInts base w (.slice A (trimN x x.length) c) (trim x) := by
  have hl := trimN_le x x.length
  by_cases hA : A = none
  · subst hA
    rcases h.2 with ⟨e, h0⟩ | ⟨g, cap, cur, e, _⟩
    · injection e with e1 e2 e3
      have hx : x = [] := List.length_eq_zero_iff.1 (by simpa using h0)
      subst hx
      subst e3
      exact h
    · injection e with e1
      cases e1
  · exact h.take _ hl hA
end Go.Proofs.YtfghojbbofobeaaGreatDoor
end
section
set_option linter.unusedSimpArgs false
set_option linter.unusedVariables false
namespace Go.Proofs.YtfghojbbofobeaaGreatDoor
open Go Go.RowKit Go.Proofs Go.Maps
/-- What a configuration in a place stands for, with a code. -/
def decOne (m : MultiD) (p : MP) (c : ConfD) : MConfD × Int :=
  if p.k = 0 then match decTapes m c p.t m.tp.toNat with
    | some ts => (⟨p.a, ts⟩, 0)
    | none => (⟨0, []⟩, 9)
  else (⟨0, []⟩, 6)
theorem decTapes_none {m : MultiD} {c : ConfD} {t0 : Int} {j : Nat} (h : decTapes m c t0 j = none) : ∀ n, decTapes m c t0 (j + n) = none
  | 0 => h
  | n + 1 => by
    have := decTapes_none h n
    show decTapes m c t0 (j + n + 1) = none
    unfold decTapes
    rw [this]
theorem decTapes_fail {m : MultiD} {c : ConfD} {t0 : Int} {j n : Nat} (h : tapeDec m.sy (lineC m c t0 (j : Int)) = none) (hn : j < n) : decTapes m c t0 n = none := by
  have h1 : decTapes m c t0 (j + 1) = none := by
    unfold decTapes
    rw [h]
    cases decTapes m c t0 j <;> rfl
  have := decTapes_none h1 (n - (j + 1))
  rwa [show j + 1 + (n - (j + 1)) = n by omega] at this
theorem decTapes_next {m : MultiD} {c : ConfD} {t0 : Int} {j : Nat} {l : List TapeD} {t : TapeD} (h : decTapes m c t0 j = some l) (ht : tapeDec m.sy (lineC m c t0 (j : Int)) = some t) : decTapes m c t0 (j + 1) = some (l ++ [t]) := by
  unfold decTapes
  rw [h, ht]
theorem decTapes_len {m : MultiD} {c : ConfD} {t0 : Int} : ∀ {j : Nat} {l : List TapeD}, decTapes m c t0 j = some l → l.length = j
  | 0, l, h => by
    simp [decTapes] at h
    simp [← h]
  | j + 1, l, h => by
    unfold decTapes at h
    cases h1 : decTapes m c t0 j with
    | none => rw [h1] at h; cases h
    | some l1 =>
      cases h2 : tapeDec m.sy (lineC m c t0 (j : Int)) with
      | none => rw [h1, h2] at h; cases h
      | some t =>
        rw [h1, h2] at h
        injection h with h
        rw [← h, List.length_append, decTapes_len h1]
        rfl
theorem tapeDec_none {sy : Int} {zs : List Int} (h : zs.findIdx? (markB sy) = none) : tapeDec sy zs = none := by
  unfold tapeDec
  rw [h]
theorem tapeDec_two {sy : Int} {zs : List Int} {k : Nat} (h : zs.findIdx? (markB sy) = some k) (h2 : (zs.drop (k + 1)).any (markB sy) = true) : tapeDec sy zs = none := by
  unfold tapeDec
  rw [h]
  simp only [h2]
  rfl
theorem tapeDec_one {sy : Int} {zs : List Int} {k : Nat} (h : zs.findIdx? (markB sy) = some k) (h2 : (zs.drop (k + 1)).any (markB sy) = false) : tapeDec sy zs = some ⟨trim (zs.take k).reverse, trim ((zs.getD k 0 - sy) :: zs.drop (k + 1))⟩ := by
  unfold tapeDec
  rw [h]
  simp only [h2]
  rfl
theorem set_take (zs : List Int) (k : Nat) (x : Int) : (zs.set k x).take k = zs.take k := by
  apply List.ext_getElem?
  intro i
  rw [List.getElem?_take, List.getElem?_take]
  by_cases h : i < k
  · rw [if_pos h, if_pos h, List.getElem?_set_ne (by omega)]
  · rw [if_neg h, if_neg h]
theorem set_drop (zs : List Int) (k : Nat) (x : Int) (h : k < zs.length) : (zs.set k x).drop k = x :: zs.drop (k + 1) := by
  have h2 : k < (zs.set k x).length := by simpa using h
  rw [List.drop_eq_getElem_cons h2]
  congr 1
  · simp
  · apply List.ext_getElem?
    intro i
    rw [List.getElem?_drop, List.getElem?_drop, List.getElem?_set_ne (by omega)]
theorem lineC_mem {m : MultiD} {c : ConfD} {t0 j : Int} {B : Int} (hB : 0 ≤ B) (hl : ∀ z ∈ c.l, 0 ≤ z ∧ z ≤ B) (hr : ∀ z ∈ c.r, 0 ≤ z ∧ z ≤ B) : ∀ z ∈ lineC m c t0 j, 0 ≤ z ∧ z ≤ B := by
  intro z hz
  unfold lineC lineT at hz
  rw [List.mem_map] at hz
  obtain ⟨i, _, rfl⟩ := hz
  rw [List.getD_eq_getElem?_getD]
  cases h : (cellsC c)[i]? with
  | none => exact ⟨Int.le_refl _, hB⟩
  | some x =>
    have hx := List.mem_of_getElem? h
    unfold cellsC at hx
    rcases List.mem_append.1 hx with h1 | h1
    · exact hl x (List.mem_reverse.1 h1)
    · exact hr x h1
/-- The part behind the first k elements. -/
theorem ints_dropA {w : World} {b off n c : Nat} {zs : List Int} (h : Ints w (.slice (some ⟨b, off, none⟩) n c) zs) (hn : n = zs.length) (k : Nat) (hk : k ≤ n) : Ints w (.slice (some ⟨b, off + k, none⟩) (n - k) (c - k)) (zs.drop k) := by
  subst hn
  obtain ⟨A, c', e, h1, h2, hr⟩ := h
  injection e with e1 e2 e3
  subst e1 e3
  refine ⟨_, _, by rw [List.length_drop], by rw [List.length_drop]; omega, by omega, ?_⟩
  refine ⟨by have := hr.1; simp [ivs], fun h0 => ?_⟩
  rw [List.length_drop] at h0
  obtain ⟨b', off', e, hc⟩ := hr.2 (by omega)
  injection e with e
  injection e with e1 e2
  subst e1 e2
  refine ⟨_, _, rfl, fun i hi => ?_⟩
  have := hc (k + i) (by simp [ivs] at hi ⊢; omega)
  rw [Nat.add_assoc, this]
  simp [ivs]
theorem ints_void {w : World} (A : Option Addr) : Ints w (.slice A 0 0) [] := ⟨A, 0, rfl, by simp, by omega, rfl, fun h => by simp at h⟩
/-- The program's result. -/
def DecRes (w : World) (r : MConfD × Int) (e : Ending) (w' : World) : Prop :=
  ∃ v cl, e = .returned (.tuple #[.agg #[.int .i64 r.1.q, v], .int .i64 r.2]) ∧ CpM w r.1.tapes r.1.tapes.length v cl w' ∧ Ext w w'
theorem CpM.void (w w' : World) : CpM w [] 0 (.slice none 0 0) [] w' := ⟨World.ownsRow_nil .., rfl, fun i _ h => by omega, fun i j u v g _ hu => by simp at hu⟩
theorem CpM.base {w0 w w' : World} {ts : List TapeD} {k : Nat} {v : Value} {cl : List Value} (h : CpM w ts k v cl w') (hb : w0.heap.size ≤ w.heap.size) : CpM w0 ts k v cl w' :=
  ⟨ownsRow_base h.own hb, h.len, fun i hi hk => by
    obtain ⟨lv, rv, e1, e2, o1, o2⟩ := h.side i hi hk
    exact ⟨lv, rv, e1, e2, ownsRow_base o1 hb, ownsRow_base o2 hb⟩, h.ap⟩
theorem CpM.widen {w w' : World} {ts : List TapeD} {v : Value} {cl : List Value} (h : CpM w ts ts.length v cl w') (t : TapeD) : CpM w (ts ++ [t]) ts.length v cl w' :=
  ⟨h.own, h.len, fun i hi hk => by
    obtain ⟨lv, rv, e1, e2, o1, o2⟩ := h.side i hk hk
    exact ⟨lv, rv, e1, e2, by rw [List.getElem_append_left hk]; exact o1, by rw [List.getElem_append_left hk]; exact o2⟩, h.ap⟩
theorem DecRes.fail {w w1 : World} {k : Int} {b : Nat} (hb : w.heap.size ≤ b) (hX : Ext w w1) (x y : Value) :
    DecRes w (⟨0, []⟩, k) (.returned (.tuple #[.agg #[.int .i64 0, .slice none 0 0], .int .i64 k])) ((w1.setCell ⟨b, 0, none⟩ x).setCell ⟨b, 1, none⟩ y) :=
  ⟨_, _, rfl, CpM.void _ _, (hX.setCell hb _).setCell hb _⟩
theorem DecRes.done {w w1 : World} {q k : Int} {ts : List TapeD} {v : Value} {cl : List Value} {b : Nat} {cs : Array Value} (hb : w.heap.size ≤ b) (hX : Ext w w1) (h : CpM w ts ts.length v cl w1) (hB : Blk w1 b 68 cs) (x y : Value) :
    DecRes w (⟨q, ts⟩, k) (.returned (.tuple #[.agg #[.int .i64 q, v], .int .i64 k])) ((w1.setCell ⟨b, 0, none⟩ x).setCell ⟨b, 1, none⟩ y) :=
  ⟨_, _, rfl, (h.set hB 0 x).set (hB.set_ 0 x) 1 y, (hX.setCell hb _).setCell hb _⟩
end Go.Proofs.YtfghojbbofobeaaGreatDoor
end
section
set_option linter.unusedSimpArgs false
set_option linter.unusedVariables false
namespace Go.Proofs.YtfghojbbofobeaaGreatDoor
open Go Go.RowKit Go.Proofs
section
variable {α : Type} [DecidableEq α]
/-- What holds of a machine that is being built. -/
structure BOk (Q : α → Prop) (sy : Nat) (s : List α × List RuleD) : Prop where
  all : ∀ p ∈ s.1, Q p
  rules : ∀ r ∈ s.2, r = noR ∨ ((0 ≤ r.w ∧ r.w < sy) ∧ (r.m = 1 ∨ r.m = -1) ∧ 0 ≤ r.n ∧ r.n < s.1.length)
theorem BOk.sym {Q : α → Prop} {act : α → Int → ActG α} {sy : Nat} {p : α} {s : List α × List RuleD} {v : Int} (h : BOk Q sy s)
    (ha : (act p v).no = false → Q (act p v).p ∧ (0 ≤ (act p v).w ∧ (act p v).w < sy) ∧ ((act p v).m = 1 ∨ (act p v).m = -1)) : BOk Q sy (symStep act p s v) := by
  cases e : (act p v).no with
  | true =>
    rw [symStep_no e]
    refine ⟨h.all, fun r hr => ?_⟩
    rcases List.mem_append.1 hr with hr | hr
    · exact h.rules r hr
    · left; simpa using hr
  | false =>
    obtain ⟨h1, h2, h3⟩ := ha e
    rw [symStep_yes e]
    refine ⟨addP_all h.all h1, fun r hr => ?_⟩
    have hl := addP_length s.1 (act p v).p
    rcases List.mem_append.1 hr with hr | hr
    · rcases h.rules r hr with c | ⟨a, b, c, d⟩
      · exact .inl c
      · exact .inr ⟨a, b, c, by simp only; omega⟩
    · simp only [List.mem_singleton] at hr
      subst hr
      right
      have hi := List.idxOf_lt_length_iff.2 (addP_mem s.1 (act p v).p)
      exact ⟨h2, h3, Int.natCast_nonneg _, by simp only; omega⟩
theorem BOk.row {Q : α → Prop} {act : α → Int → ActG α} {sy : Nat} {p : α} {s : List α × List RuleD} (h : BOk Q sy s)
    (ha : ∀ v : Nat, v < sy → (act p v).no = false → Q (act p v).p ∧ (0 ≤ (act p v).w ∧ (act p v).w < sy) ∧ ((act p v).m = 1 ∨ (act p v).m = -1)) : ∀ n, n ≤ sy → BOk Q sy (rowTo act p s n) := by
  intro n
  induction n with
  | zero => intro _; exact h
  | succ n ih => intro hn; exact (ih (by omega)).sym (ha n (by omega))
theorem bldF_ok {Q : α → Prop} {act : α → Int → ActG α} {d : α} {sy : Nat}
    (ha : ∀ p, Q p → ∀ v : Nat, v < sy → (act p v).no = false → Q (act p v).p ∧ (0 ≤ (act p v).w ∧ (act p v).w < sy) ∧ ((act p v).m = 1 ∨ (act p v).m = -1)) :
    ∀ f k s t, bldF act d sy f k s = some t → BOk Q sy s → s.2.length = k * sy → k ≤ s.1.length → 1 ≤ s.1.length → s.1.length ≤ 1000 → BOk Q sy t ∧ t.2.length = t.1.length * sy ∧ 1 ≤ t.1.length ∧ t.1.length ≤ 1000 := by
  intro f
  induction f with
  | zero => intro k s t h; simp [bldF] at h
  | succ f ih =>
    intro k s t h hb hl hk h1 h2
    simp only [bldF] at h
    split at h
    · rename_i hlt
      split at h
      · cases h
      · rename_i hmost
        have hp : s.1.getD k d ∈ s.1 := by
          rw [List.getD_eq_getElem?_getD, List.getElem?_eq_getElem hlt]
          exact List.getElem_mem hlt
        have hlen := rowTo_length act (s.1.getD k d) s sy
        refine ih (k + 1) _ t h (hb.row (ha _ (hb.all _ hp)) sy (Nat.le_refl _)) ?_ (by omega) (by omega) (by omega)
        rw [hlen.2.2, hl, Nat.succ_mul]
    · rename_i hge
      cases h
      have hkk : k = s.1.length := by omega
      exact ⟨hb, by rw [hl, hkk], h1, h2⟩
end
end Go.Proofs.YtfghojbbofobeaaGreatDoor
end
