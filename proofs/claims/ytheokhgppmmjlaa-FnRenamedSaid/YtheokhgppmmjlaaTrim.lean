/- Contracts of the reference's small parts of a run of a machine: copies, sides of the tape, the index of the rule.
Contracts of the reference's small parts of a run of a machine, continued. -/
import Derived.Test.YtheokhgppmmjlaaRead
import Derived.Test.YtheokhgppmmjlaaValid
import Derived.Test.YtheokhgppmmjlaaHalt
namespace Go.Proofs.Ytheokhgppmmjlaa
open Go Go.RowKit Go.Proofs
set_option maxHeartbeats 400000
theorem l00Own0_c (A : Option Addr) (c : Nat) (w : World) :
    Calls Try.prog 53 #[.slice A 0 c] w fun e w' => ∃ u, e = .returned u ∧ OwnInts w.heap.size w' u [] ∧ Ext w w' := by
  have hown0 : (w.alloc (.cells #[] 2)).ownsRow w.heap.size 2 1 (.slice (some ⟨w.heap.size, 0, none⟩) 0 0) 0 [] :=
    World.ownsRow_made (base := w.heap.size) (e := 2) (size := 1) w #[] 0 (by simp) (by unfold maxLen; omega) (by simp)
  have HO := Lib.hid hown0
  clear hown0
  cases A with
  | none =>
    go_enter Try.func53, Try.ntmps53
    go_wp2
    go_ret
    exact ⟨_, rfl, HO.out, Ext.alloc _ _⟩
  | some a =>
    go_enter Try.func53, Try.ntmps53
    go_wp2
    go_ret
    exact ⟨_, rfl, HO.out, Ext.alloc _ _⟩
theorem l00OwnA_c (v : Value) (zs : List Int) (w : World) (h : Ints w v zs) (h1 : zs.length ≤ 1048576) :
    Calls Try.prog 53 #[v] w fun e w' => ∃ u, e = .returned u ∧ OwnInts w.heap.size w' u zs ∧ Ext w w' := by
  by_cases h0 : 0 < zs.length
  · exact l00Own_c v zs w h h0 h1
  · have hz : zs = [] := by simpa using h0
    subst hz
    obtain ⟨A, c, rfl, _, _⟩ := h.form
    exact l00Own0_c A c w
theorem Ints.take {w : World} {A : Option Addr} {c : Nat} {zs : List Int} (h : Ints w (.slice A zs.length c) zs) (k : Nat) (hk : k ≤ zs.length) : Ints w (.slice A k c) (zs.take k) := by
  obtain ⟨A', c', hv, g1, g2, g3, g4⟩ := h
  injection hv with hA _ hc
  subst hA
  subst hc
  have hl : (zs.take k).length = k := by simp; omega
  refine ⟨A, c, by rw [hl], by omega, g2, by simp [ivs], fun hn => ?_⟩
  rw [hl] at hn
  obtain ⟨b, off, hA, hcc⟩ := g4 (by omega)
  refine ⟨b, off, hA, fun j hj => ?_⟩
  have hj' : j < k := by rw [ivs_length, hl] at hj; exact hj
  rw [hcc j (by rw [ivs_length]; omega), ivs_get zs j (by omega), ivs_get (zs.take k) j (by omega)]
  simp
/-- How many cells a side keeps when the blanks at its end go. -/
def trimN (xs : List Int) : Nat → Nat
  | 0 => 0
  | n + 1 => if xs.getD n 0 = 0 then trimN xs n else n + 1
def trim (xs : List Int) : List Int := xs.take (trimN xs xs.length)
theorem trimN_le (xs : List Int) (n : Nat) : trimN xs n ≤ n := by
  induction n with
  | zero => exact Nat.le_refl _
  | succ n ih => unfold trimN; split <;> omega
theorem trim_len (xs : List Int) : (trim xs).length ≤ xs.length := by have := trimN_le xs xs.length; simp [trim]; omega
theorem trimN_zero (xs : List Int) : ∀ n i, trimN xs n ≤ i → i < n → xs.getD i 0 = 0 := by
  intro n
  induction n with
  | zero => intro i _ h; omega
  | succ n ih =>
    intro i h1 h2
    unfold trimN at h1
    split at h1
    · rename_i h
      by_cases c : i = n
      · subst c; exact h
      · exact ih i h1 (by omega)
    · omega
theorem trim_get (xs : List Int) (i : Nat) : (trim xs).getD i 0 = xs.getD i 0 := by
  have h1 := trimN_le xs xs.length
  by_cases c : i < trimN xs xs.length
  · simp only [trim, List.getD_eq_getElem?_getD, List.getElem?_take, if_pos c]
  · have e : (trim xs).getD i 0 = 0 := by
      rw [List.getD_eq_getElem?_getD, List.getElem?_eq_none (by simp [trim]; omega)]
      rfl
    rw [e]
    by_cases d : i < xs.length
    · exact (trimN_zero xs xs.length i (by omega) d).symm
    · rw [List.getD_eq_getElem?_getD, List.getElem?_eq_none (by omega)]
      rfl
theorem trim_mem {xs : List Int} {z : Int} (h : z ∈ trim xs) : z ∈ xs := List.mem_of_mem_take h
theorem l05Trim_c (v : Value) (xs : List Int) (w : World) (h : Ints w v xs) (h1 : xs.length ≤ 1048576) :
    Calls Try.prog 40 #[v] w fun e w' => ∃ u, e = .returned u ∧ OwnInts w.heap.size w' u (trim xs) ∧ Ext w w' := by
  have hI := h
  obtain ⟨A, c, rfl, h2, h2'⟩ := h.form
  go_enter Try.func40, Try.ntmps40
  go_wp2
  go_loopw [3] (fun i wr => ∃ n : Nat, n ≤ xs.length ∧ i = .int .i64 n ∧ wr = w ∧ trimN xs xs.length = trimN xs n) (fun i _ => (intOf i).toNat)
  case atStart => exact ⟨_, Nat.le_refl _, rfl, rfl, rfl⟩
  case round =>
    obtain ⟨n, hn, rfl, rfl, ht⟩ := hrel
    have HT := Lib.hid ht
    clear ht
    have done : trimN xs n = n → Ints wr (.slice A n c) (trim xs) := fun e => by
      have := hI.take n hn
      unfold trim
      rw [HT.out, e]
      exact this
    have DONE := Lib.hid done
    clear done
    by_cases h0 : n = 0
    · subst h0
      have hD := DONE.out rfl
      have hl : (trim xs).length ≤ 1048576 := by have := trim_len xs; omega
      have i1 : (0 : Int) ≤ (c : Int) := by omega
      go_wp2_with fail
      refine (l00OwnA_c _ _ _ hD hl).mono ?_
      rintro e w2 ⟨u, rfl, ho, hx⟩
      go_wp2
      go_ret
      exact ⟨_, rfl, ho, hx⟩
    · obtain ⟨k, rfl⟩ : ∃ k, n = k + 1 := ⟨n - 1, by omega⟩
      obtain ⟨b, off, rfl, hc⟩ := h.at (k := k) (by omega)
      have c0 := hc k (by omega)
      have eg : xs.getD k 0 = xs[k] := by rw [List.getD_eq_getElem?_getD, List.getElem?_eq_getElem (by omega)]; rfl
      have HEG := Lib.hid eg
      have hk0 : (0 : Int) < (k : Int) + 1 := by omega
      have hk1 : (k : Int) + 1 - 1 = (k : Int) := by omega
      clear hc eg
      by_cases hz : xs[k] = 0
      · have HZ := Lib.hid hz
        rw [hz] at c0
        clear hz
        go_wp2
        go_roundw
        case rel => exact ⟨k, by omega, by go_num, by first | rfl | trivial, by rw [HT.out]; show (if xs.getD k 0 = 0 then _ else _) = _; rw [if_pos (by rw [HEG.out, HZ.out])]⟩
        case measure => simp [intOf]
      · have hD := DONE.out (by show (if xs.getD k 0 = 0 then _ else _) = _; rw [if_neg (by rw [HEG.out]; exact hz)])
        have hl : (trim xs).length ≤ 1048576 := by have := trim_len xs; omega
        have Z : (xs[k] == 0) = false := beq_eq_false_iff_ne.2 hz
        have i1 : (k : Int) + 1 ≤ (c : Int) := by omega
        have i2 : (0 : Int) ≤ (k : Int) + 1 := by omega
        go_wp2_with fail
        refine (l00OwnA_c _ _ _ hD hl).mono ?_
        rintro e w2 ⟨u, rfl, ho, hx⟩
        go_wp2
        go_ret
        exact ⟨_, rfl, ho, hx⟩
end Go.Proofs.Ytheokhgppmmjlaa
namespace Go.Proofs.Ytheokhgppmmjlaa
open Go Go.RowKit Go.Proofs
set_option maxHeartbeats 400000
structure ConfR where
  q : Int
  l : List Int
  r : List Int
/-- A configuration in memory. -/
def ConfAt (w : World) (b : Nat) (c : ConfR) : Prop := ∃ lv rv, w.cell? ⟨b, 0, none⟩ = some (.int .i64 c.q) ∧ w.cell? ⟨b, 1, none⟩ = some lv ∧ w.cell? ⟨b, 2, none⟩ = some rv ∧ Ints w lv c.l ∧ Ints w rv c.r
theorem ConfAt.ext {w w' : World} {b : Nat} {c : ConfR} (h : ConfAt w b c) (he : Ext w w') : ConfAt w' b c := by
  obtain ⟨lv, rv, h1, h2, h3, h4, h5⟩ := h
  exact ⟨lv, rv, he.cell h1, he.cell h2, he.cell h3, h4.ext he, h5.ext he⟩
/-- The cell at the beginning of a side. -/
def hdR (xs : List Int) : Int := xs.getD 0 0
end Go.Proofs.Ytheokhgppmmjlaa
