/- What the machine on one half of the tape does in its places, in plain words.
Contract: the reference's code for a machine, a configuration and a number of steps.
Contract of the program's list without zeros at its end. -/
import Derived.Test.YthhjbmlkncdigaaGreatDoorB08
import Derived.Test.YthhjbmlkncdigaaGreatDoorB03
import Derived.Test.YthhjbmlkncdigaaGreatDoorB05
import Derived.Test.YthhjbmlkncdigaaGreatDoorB07
import Derived.Test.YthhjbmlkncdigaaGreatDoorB06
section
namespace Go.Proofs.YthhjbmlkncdigaaGreatDoor
open Go Go.RowKit Go.Proofs
structure FP where
  k : Int
  q : Int
  h : Int
deriving DecidableEq
def FP.v (p : FP) : Value := .agg #[.int .i64 p.k, .int .i64 p.q, .int .i64 p.h]
theorem FP.v_inj (x y : FP) (h : x.v = y.v) : x = y := by
  cases x; cases y
  simp only [FP.v] at h
  injection h with h
  simp at h
  simp [h]
theorem machOk_all {m : MachD} (h : machOk m = true) : 2 ≤ m.sy ∧ m.sy ≤ 6 ∧ 1 ≤ m.st ∧ m.st ≤ 1000 ∧ (m.rules.length : Int) = m.sy * m.st := by
  simp only [machOk, inB, Bool.and_eq_true, decide_eq_true_eq] at h
  omega
theorem ruleIx {m : MachD} {q v : Int} (s1 : 2 ≤ m.sy) (s2 : m.sy ≤ 6) (hl : (m.rules.length : Int) = m.sy * m.st) (q0 : 0 ≤ q) (q1 : q < m.st) (v0 : 0 ≤ v) (v1 : v < m.sy) : ∃ j : Nat, q * m.sy + v = j ∧ j < m.rules.length := by
  have h1 : 0 ≤ q * m.sy := Int.mul_nonneg q0 (by omega)
  have h2 : (q + 1) * m.sy ≤ m.st * m.sy := Int.mul_le_mul_of_nonneg_right (by omega) (by omega)
  have h3 : (q + 1) * m.sy = q * m.sy + m.sy := by rw [Int.add_mul, Int.one_mul]
  have h4 : m.st * m.sy = m.sy * m.st := Int.mul_comm _ _
  refine ⟨(q * m.sy + v).toNat, by omega, by omega⟩
end Go.Proofs.YthhjbmlkncdigaaGreatDoor
end
section
set_option linter.unusedSimpArgs false
set_option linter.unusedVariables false
namespace Go.Proofs.YthhjbmlkncdigaaGreatDoor
open Go Go.RowKit Go.Proofs
set_option maxHeartbeats 400000
set_option maxRecDepth 20000 in
theorem l19Ask_c (b bc : Nat) (m : MachD) (c : ConfD) (n : Int) (w : World) (hM : MachAt w b m) (hC : ConfP w bc c) :
    Calls Tryz.prog 19 #[.pointer (some ⟨b, 0, none⟩), .pointer (some ⟨bc, 0, none⟩), .int .i64 n] w fun e w' => e = .returned (.int .i64 (codeT (machOk m && confB m c) (inB n 0 599))) ∧ Ext w w' := by
  have hIs := l05Is_c b m w hM
  have hS := fun w => l19Steps_c n w
  obtain ⟨d, hd⟩ : ∃ d, inB n 0 599 = d := ⟨_, rfl⟩
  rw [hd] at hS ⊢
  clear hd
  obtain ⟨k, hk⟩ : ∃ k, codeT (machOk m && confB m c) d = k := ⟨_, rfl⟩
  rw [hk]
  have HK := Lib.hid hk
  clear hk
  have HM := Lib.hid hM
  obtain ⟨rv, p0, p1, p2, hr⟩ := hM
  cases hm : machOk m with
  | false =>
    rw [hm] at hIs HK
    rw [show codeT (false && confB m c) d = 1 from rfl] at HK
    rw [← HK.out]
    clear hm HK
    go_enter Tryz.func19, Tryz.ntmps19
    go_wp2_with fail
    refine hIs.mono ?_
    rintro e w1 ⟨rfl, hx1⟩
    go_wp2
    go_ret
    exact ⟨rfl, hx1⟩
  | true =>
    obtain ⟨s1, s2, s3, s4, hrl⟩ := machOk_all hm
    rw [hm] at hIs HK
    clear hm hrl
    have hGd := fun w1 (hx : Ext w w1) => l05Good_c b 0 bc m c w1 (hx.cell p0) (hx.cell p1) (hC.ext hx) (by omega) (by omega) (by omega) (by omega)
    cases hc : confB m c with
    | false =>
      rw [hc] at hGd HK
      rw [show codeT (true && false) d = 1 from rfl] at HK
      rw [← HK.out]
      clear hc HK
      go_enter Tryz.func19, Tryz.ntmps19
      go_wp2_with fail
      refine hIs.mono ?_
      rintro e w1 ⟨rfl, hx1⟩
      go_wp2_with fail
      refine (hGd w1 hx1).mono ?_
      rintro e w2 ⟨rfl, hx2⟩
      go_wp2
      go_ret
      exact ⟨rfl, hx1.trans hx2⟩
    | true =>
      rw [hc] at hGd HK
      clear hc
      cases d with
      | false =>
        rw [show codeT (true && true) false = 2 from rfl] at HK
        rw [← HK.out]
        clear HK
        go_enter Tryz.func19, Tryz.ntmps19
        go_wp2_with fail
        refine hIs.mono ?_
        rintro e w1 ⟨rfl, hx1⟩
        go_wp2_with fail
        refine (hGd w1 hx1).mono ?_
        rintro e w2 ⟨rfl, hx2⟩
        go_wp2_with fail
        refine (hS w2).mono ?_
        rintro e w3 ⟨rfl, rfl⟩
        go_wp2
        go_ret
        exact ⟨rfl, hx1.trans hx2⟩
      | true =>
        rw [show codeT (true && true) true = 0 from rfl] at HK
        rw [← HK.out]
        clear HK
        go_enter Tryz.func19, Tryz.ntmps19
        go_wp2_with fail
        refine hIs.mono ?_
        rintro e w1 ⟨rfl, hx1⟩
        go_wp2_with fail
        refine (hGd w1 hx1).mono ?_
        rintro e w2 ⟨rfl, hx2⟩
        go_wp2_with fail
        refine (hS w2).mono ?_
        rintro e w3 ⟨rfl, rfl⟩
        go_wp2
        go_ret
        exact ⟨rfl, hx1.trans hx2⟩
end Go.Proofs.YthhjbmlkncdigaaGreatDoor
end
section
set_option linter.unusedSimpArgs false
set_option linter.unusedVariables false
namespace Go.Proofs.YthhjbmlkncdigaaGreatDoor
open Go Go.RowKit Go.Proofs
set_option maxHeartbeats 400000
theorem OwnInts.take {base : Nat} {w : World} {A : Option Addr} {c : Nat} {zs : List Int} (h : OwnInts base w (.slice A zs.length c) zs) (k : Nat) (hk : k ≤ zs.length) (h0 : A ≠ none) : OwnInts base w (.slice A k c) (zs.take k) := by
  obtain ⟨h1, h2⟩ := h
  have hl : (zs.take k).length = k := by simp; omega
  refine ⟨by simp, ?_⟩
  rcases h2 with ⟨e, _⟩ | ⟨g, cap, cur, e, hb, hh, q1, q2, q3, q4⟩
  · injection e with e1 e2 e3
    exact absurd e1 h0
  · injection e with e1 e2 e3
    subst e1 e3
    refine .inr ⟨g, c, cur, by rw [hl], hb, hh, by omega, q2, q3, ?_⟩
    have : ivs (zs.take k) = (ivs zs).take k := by simp [ivs, List.map_take]
    rw [this, ← q4, List.take_take, hl]
    congr 1
    omega
set_option maxRecDepth 20000 in
theorem trimmed_c (v : Value) (zs : List Int) (w : World) (h : Ints w v zs) (hn : zs.length ≤ 1048576) :
    Calls Tryz.prog 92 #[v] w fun e w' => (∃ A c, v = .slice A zs.length c ∧ e = .returned (.slice A (trimN zs zs.length) c)) ∧ w = w' := by
  obtain ⟨A, c, rfl, h2, h2'⟩ := h.form
  go_enter Tryz.func92, Tryz.ntmps92
  go_wp2
  go_loopw [0] (fun u wr => ∃ k : Nat, k ≤ zs.length ∧ u = .slice A k c ∧ wr = w ∧ Hid (trimN zs k = trimN zs zs.length)) (fun u _ => match u with | .slice _ n _ => n | _ => 0)
  case atStart => exact ⟨zs.length, Nat.le_refl _, rfl, rfl, rfl⟩
  case round =>
    obtain ⟨k, hk, rfl, rfl, ht⟩ := hrel
    by_cases h0 : k = 0
    · subst h0
      have HR : Hid (trimN zs zs.length = 0) := by unfold Hid; rw [← ht.out]; rfl
      go_wp2
      go_ret
      exact ⟨⟨A, c, rfl, by rw [HR.out]; rfl⟩, rfl⟩
    · obtain ⟨j, rfl⟩ : ∃ j, k = j + 1 := ⟨k - 1, by omega⟩
      have hj : j < zs.length := by omega
      obtain ⟨b, off, rfl, hc⟩ := h.at hj
      have c0 := hc j hj
      have e0 : zs.getD j 0 = zs[j] := by rw [List.getD_eq_getElem?_getD, List.getElem?_eq_getElem hj]; rfl
      have i3 : ((((j + 1 : Nat) : Int) - 1)).toNat = j := by omega
      by_cases hz : zs[j] = 0
      · have HT : Hid (trimN zs j = trimN zs zs.length) := by unfold Hid; rw [← ht.out]; simp only [trimN]; rw [e0, if_pos hz]
        generalize zs[j] = z at *
        subst hz
        clear hc e0
        go_wp2
        go_roundw
        case rel => exact ⟨j, by omega, by first | rfl | go_num, by first | rfl | trivial, HT⟩
        case measure => first | (simp; done) | (simp; omega)
      · have HR : Hid (trimN zs zs.length = j + 1) := by unfold Hid; rw [← ht.out]; simp only [trimN]; rw [e0, if_neg hz]
        have hzb : (zs[j] == 0) = false := by simp [hz]
        generalize zs[j] = z at *
        clear hc e0 hz
        go_wp2
        go_ret
        exact ⟨⟨_, c, rfl, by rw [HR.out]; rfl⟩, rfl⟩
end Go.Proofs.YthhjbmlkncdigaaGreatDoor
end
