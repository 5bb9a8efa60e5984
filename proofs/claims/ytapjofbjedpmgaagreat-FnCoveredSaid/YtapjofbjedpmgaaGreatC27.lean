/- Contract: a formula tape for a machine with counts.
Contracts: growth between two valid formula tapes; a run of a formula tape.
Contracts: contexts with one state in front of each. -/
import Derived.Test.YtapjofbjedpmgaaGreatC26
import Derived.Test.YtapjofbjedpmgaaGreatC22
import Derived.Test.YtapjofbjedpmgaaGreatC23
import Derived.Test.YtapjofbjedpmgaaGreatC20
section
set_option linter.unusedSimpArgs false
set_option linter.unusedVariables false
namespace Go.Proofs.YtapjofbjedpmgaaGreat
open Go Go.RowKit Go.Proofs
set_option maxHeartbeats 400000
theorem OwnLists.src {B : Nat} {w w' : World} {b n : Nat} (h : Src B w b n) (hg : w.grownBy w' (some b)) {base : Nat} {v : Value} {xss : List (List Int)} (ho : OwnLists base w v xss) : OwnLists base w' v xss := by
  obtain ⟨vs, a, c⟩ := ho
  exact ⟨vs, own_src h hg a (by decide), fun i hi => by obtain ⟨u, x, y⟩ := c i hi; exact ⟨u, x, own_src h hg y (by decide)⟩⟩
end Go.Proofs.YtapjofbjedpmgaaGreat
end
section
set_option linter.unusedSimpArgs false
set_option linter.unusedVariables false
namespace Go.Proofs.YtapjofbjedpmgaaGreat
open Go Go.RowKit Go.Proofs
set_option maxHeartbeats 400000
/-- What RunFormula returns. -/
theorem OwnLists.base0 {b b' : Nat} {w : World} {v : Value} {xss : List (List Int)} (h : OwnLists b w v xss) (hb : b' ≤ b) : OwnLists b' w v xss := by
  obtain ⟨vs, x, y⟩ := h
  exact ⟨vs, ownsRow_base x hb, fun i hi => by obtain ⟨u, c, d⟩ := y i hi; exact ⟨u, c, ownsRow_base d hb⟩⟩
end Go.Proofs.YtapjofbjedpmgaaGreat
end
section
set_option linter.unusedSimpArgs false
set_option linter.unusedVariables false
namespace Go.Proofs.YtapjofbjedpmgaaGreat
open Go Go.RowKit Go.Proofs
set_option maxHeartbeats 400000
theorem repL_one (q : Int) : ∀ n, repL [q] n = List.replicate n q
  | 0 => rfl
  | n + 1 => by rw [repL_succ, repL_one q n, List.replicate_succ]; rfl
theorem statedX_rep (q : Int) : ∀ xss : List (List Int), statedX (List.replicate xss.length q) xss = xss.map fun x => q :: x
  | [] => rfl
  | x :: xs => by
    have := statedX_rep q xs
    unfold statedX at this ⊢
    simp only [List.length_cons, List.replicate_succ, List.zipWith_cons_cons, List.map_cons, this]
theorem ints_nil0 (w : World) (A : Option Addr) (c : Nat) (hc : c ≤ 9223372036854775807) : Ints w (.slice A 0 c) [] :=
  ⟨A, c, rfl, Nat.zero_le _, hc, rfl, fun h => absurd h (by simp)⟩
set_option maxRecDepth 100000 in
set_option maxHeartbeats 4000000 in
theorem Repeat0_c (b off c0 n : Nat) (r : List Int) (w : World) (hr : Ints w (.slice (some ⟨b, off, none⟩) r.length c0) r) (hnn : r.length = n) (hn : 1 ≤ n) (hn2 : n ≤ 1000) :
    Calls Tryz.prog 71 #[.slice (some ⟨b, off, none⟩) r.length c0, .int .i64 0] w fun e w' => ∃ u, e = .returned u ∧ Ints w' u [] ∧ Ext w w' := by
  obtain ⟨i0, hi, hz0, hz1, hz2⟩ := info_parts intInfo
  rw [hnn]
  clear hr
  go_enter Tryz.func71, Tryz.ntmps71
  go_wp2_with fail
  refine (Tryz.bits_Mul n 0 (by omega) (by omega) _).mono ?_
  rintro e w' ⟨rfl, rfl⟩
  rw [Nat.mul_zero, Nat.zero_div, Nat.zero_mod]
  go_wp2_with (at_make; refine wpList_make_full _ rfl _ _ 27 rfl w'.heap.size 2 i0 _ 1 Tryz.underlying27 hi hz0 hz1 .i64 .i64 _ _ 0 rfl rfl ?d1 ?d2 ?c1 ?c2 ?c3 ?_)
  case d1 => rfl
  case d2 => rfl
  case c1 => rw [hz2]; omega
  case c2 => unfold maxLen; omega
  case c3 => exact Nat.le_refl _
  intro w1 hown hgr
  have hx1 : Ext w' w1 := (Ext.refl _).grown hgr (by simp)
  obtain ⟨cur, hg, hcl⟩ : ∃ cur : List Value, w1.heap[w'.heap.size]? = some (.cells cur.toArray 2 (0, 0)) ∧ cur.length = 0 := by
    rcases hown.2 with ⟨h', _⟩ | ⟨g', cap, cu, h', _, hg, _, _, hcs, _⟩
    · simp at h'
    · injection h' with e1 e2 e3
      injection e1 with e1
      injection e1 with e1 e4 e5
      subst e1 e3
      exact ⟨cu.toList, by simpa using hg, by simpa using hcs⟩
  clear hown hgr hi hz0 hz1 hz2
  generalize hG : w'.heap.size = g at *
  have HG := Lib.hid hG
  have HCL := Lib.hid hcl
  clear hG hcl
  go_wp2_with (with_reducible refine wpList_copy_splice rfl _ _ 27 27 rfl 2 Tryz.underlying27 intSize' (some ⟨g, 0, none⟩) (some ⟨b, off, none⟩) 0 0 n c0 rfl rfl g 0 cur 2 hg [] ?k1 ?k2 ?k3 ?k4 g w' ?k5 ?k6 ?_)
  case k1 => show 0 = min n 0; omega
  case k3 => simp
  case k4 => intro u hu; simp at hu
  case k5 => rw [← HG.out]; exact hx1
  case k6 => exact Nat.le_refl _
  intro w2 hg2 hbl2
  have HX : Hid (Ext w' w2) := Lib.hid (by unfold Ext; rw [HG.out]; exact hbl2)
  clear hg hg2 hbl2 hx1
  try simp only [List.length_nil, Int.ofNat_zero, Nat.cast_zero]
  go_wp2
  go_loopw [8] (fun i wr => i = .int .i64 0 ∧ Ext w' wr) (fun i _ => 0)
  case atStart => exact ⟨rfl, HX.out⟩
  case round =>
    obtain ⟨rfl, hx⟩ := hrel
    go_wp2
    go_ret
    exact ⟨_, rfl, ints_nil0 _ _ _ (by omega), hx⟩
end Go.Proofs.YtapjofbjedpmgaaGreat
end
