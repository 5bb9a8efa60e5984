/- Contract of the program's list without zeros at its end. -/
import Derived.Test.YtejgobemlgogiaaListI
set_option linter.unusedSimpArgs false
set_option linter.unusedVariables false
namespace Go.Proofs.Ytejgobemlgogiaa
open Go Go.RowKit Go.Proofs
set_option maxHeartbeats 400000
theorem OwnInts.take {base : Nat} {w : World} {A : Option Addr} {c : Nat} {zs : List Int} (h : OwnInts base w (.slice A zs.length c) zs) (k : Nat) (hk : k ≤ zs.length) (h0 : A ≠ none) : OwnInts base w (.slice A k c) (zs.take k) := by
  obtain ⟨h1, h2⟩ := h
  have hl : (zs.take k).length = k := by simp; omega
  refine ⟨by simp, ?_⟩
  rcases h2 with ⟨e, _⟩ | ⟨g, cap, cur, e, hb, hh, q1, q2, q3, q4⟩
  · injection e with e1 e2 e3
    exact absurd e1 h0
  · injection e with e1 e2 e3
    subst e1 e3
    refine .inr ⟨g, c, cur, by rw [hl], hb, hh, by omega, q2, q3, ?_⟩
    have : ivs (zs.take k) = (ivs zs).take k := by simp [ivs, List.map_take]
    rw [this, ← q4, List.take_take, hl]
    congr 1
    omega
set_option maxRecDepth 20000 in
theorem trimmed_c (v : Value) (zs : List Int) (w : World) (h : Ints w v zs) (hn : zs.length ≤ 1048576) :
    Calls Try.prog 76 #[v] w fun e w' => (∃ A c, v = .slice A zs.length c ∧ e = .returned (.slice A (trimN zs zs.length) c)) ∧ w = w' := by
  obtain ⟨A, c, rfl, h2, h2'⟩ := h.form
  go_enter Try.func76, Try.ntmps76
  go_wp2
  go_loopw [0] (fun u wr => ∃ k : Nat, k ≤ zs.length ∧ u = .slice A k c ∧ wr = w ∧ Hid (trimN zs k = trimN zs zs.length)) (fun u _ => match u with | .slice _ n _ => n | _ => 0)
  case atStart => exact ⟨zs.length, Nat.le_refl _, rfl, rfl, rfl⟩
  case round =>
    obtain ⟨k, hk, rfl, rfl, ht⟩ := hrel
    by_cases h0 : k = 0
    · subst h0
      have HR : Hid (trimN zs zs.length = 0) := by unfold Hid; rw [← ht.out]; rfl
      go_wp2
      go_ret
      exact ⟨⟨A, c, rfl, by rw [HR.out]; rfl⟩, rfl⟩
    · obtain ⟨j, rfl⟩ : ∃ j, k = j + 1 := ⟨k - 1, by omega⟩
      have hj : j < zs.length := by omega
      obtain ⟨b, off, rfl, hc⟩ := h.at hj
      have c0 := hc j hj
      have e0 : zs.getD j 0 = zs[j] := by rw [List.getD_eq_getElem?_getD, List.getElem?_eq_getElem hj]; rfl
      have i3 : ((((j + 1 : Nat) : Int) - 1)).toNat = j := by omega
      by_cases hz : zs[j] = 0
      · have HT : Hid (trimN zs j = trimN zs zs.length) := by unfold Hid; rw [← ht.out]; simp only [trimN]; rw [e0, if_pos hz]
        generalize zs[j] = z at *
        subst hz
        clear hc e0
        go_wp2
        go_roundw
        case rel => exact ⟨j, by omega, by first | rfl | go_num, by first | rfl | trivial, HT⟩
        case measure => first | (simp; done) | (simp; omega)
      · have HR : Hid (trimN zs zs.length = j + 1) := by unfold Hid; rw [← ht.out]; simp only [trimN]; rw [e0, if_neg hz]
        have hzb : (zs[j] == 0) = false := by simp [hz]
        generalize zs[j] = z at *
        clear hc e0 hz
        go_wp2
        go_ret
        exact ⟨⟨_, c, rfl, by rw [HR.out]; rfl⟩, rfl⟩
end Go.Proofs.Ytejgobemlgogiaa
