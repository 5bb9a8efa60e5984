/- The contract of the law's order of numbers: it is a permutation of the numbers below n. -/
import Derived.Test.YtheokhgppmmjlaaRenF
set_option linter.unusedSimpArgs false
set_option linter.unusedVariables false
namespace Go.Proofs.Ytheokhgppmmjlaa
open Go Go.RowKit Go.Proofs
set_option maxHeartbeats 400000
structure OrdSt (w : World) (b gu n cu d : Nat) (zs : List Int) (W : World) : Prop where
  ext : Ext w W
  src : Src w.heap.size W b d
  own : W.ownsRow w.heap.size 2 1 (.slice (some ⟨gu, 0, none⟩) n cu) n (ivs zs)
  perm : List.Perm zs (upL n)
theorem OrdSt.len {w : World} {b gu n cu d : Nat} {zs : List Int} {W : World} (h : OrdSt w b gu n cu d zs W) : zs.length = n := by rw [h.perm.length_eq, upL_len]
theorem OrdSt.pick {w : World} {b gu n cu d d' : Nat} {zs : List Int} {W W' : World} (h : OrdSt w b gu n cu d zs W) (hb : w.heap.size ≤ b) (hne : gu ≠ b) (hs : Src w.heap.size W' b d') (hg : W.grownBy W' (some b)) : OrdSt w b gu n cu d' zs W' :=
  ⟨h.ext.grown hg (fun k hk => by injection hk with hk; omega), hs, World.ownsRow.kept h.own hg (.inr (by simpa [Value.ownBlock] using hne)), h.perm⟩
theorem OrdSt.swap {w : World} {b gu n cu d : Nat} {zs : List Int} {W : World} (h : OrdSt w b gu n cu d zs W) (hgu : w.heap.size ≤ gu) (hne : gu ≠ b) (i j : Nat) (hi : i < zs.length) (hj : j < zs.length) :
    OrdSt w b gu n cu d ((zs.set i zs[j]).set j zs[i]) ((W.setCell ⟨gu, i, none⟩ (.int .i64 zs[j])).setCell ⟨gu, j, none⟩ (.int .i64 zs[i])) := by
  refine ⟨(h.ext.setCell hgu _).setCell hgu _, (h.src.kept (set_grownBy _ _ _) (fun k hk => by injection hk with hk; subst hk; exact ⟨hgu, hne⟩)).kept (set_grownBy _ _ _) (fun k hk => by injection hk with hk; subst hk; exact ⟨hgu, hne⟩), ?_, (List.set_set_perm hi hj).trans h.perm⟩
  rw [ivs_set, ivs_set]
  exact (World.ownsRow.stored (World.ownsRow.stored h.own i (.int .i64 zs[j])).1 j (.int .i64 zs[i])).1
set_option maxRecDepth 20000 in
set_option maxHeartbeats 2000000 in
theorem R8Order_c (v : Value) (bs : List Int) (n : Nat) (w : World) (h : Bytes w v bs) (h0 : 1 ≤ n) (h1 : n ≤ 10000) :
    Calls Try.prog 6 #[v, .int .i64 n] w fun e w' => ∃ u zs, e = .returned u ∧ OwnInts w.heap.size w' u zs ∧ List.Perm zs (upL n) ∧ Ext w w' := by
  go_enter Try.func6, Try.ntmps6
  go_wp2_with fail
  refine (from_c v bs w h).mono ?_
  rintro e w1 ⟨⟨b, rfl, hb, hs⟩, hx⟩
  go_wp2_with fail
  refine (l05First_c n w1 (by omega)).mono ?_
  rintro e w2 ⟨u, rfl, ho, hx2⟩
  have hbl := hs.lt
  have hs2 := hs.ext hx2
  rcases ho.2 with ⟨rfl, hn0⟩ | ⟨gu, cu, cur, rfl, hgu, hrest⟩
  · rw [upL_len] at hn0
    omega
  have hXX := hx.trans hx2
  have hz := hx.size
  have st0 : OrdSt w b gu n cu 0 (upL n) w2 := by
    refine ⟨hXX, hs2, ?_, List.Perm.refl _⟩
    have := ownsRow_base ho (show w.heap.size ≤ w1.heap.size from hz)
    rwa [upL_len] at this
  have HU : Hid (w.heap.size ≤ gu) := by unfold Hid; omega
  have HNE : Hid (gu ≠ b) := by unfold Hid; omega
  have HB := Lib.hid hb
  rw [upL_len]
  clear ho hs hs2 hrest hx hx2 hXX hz hgu hbl hb h
  go_wp2
  go_loopw [7] (fun i wr => ∃ (k : Nat) (zs : List Int), 1 ≤ k ∧ k ≤ n ∧ i = .int .i64 (k : Int) ∧ OrdSt w b gu n cu (k * 100) zs wr) (fun i _ => n - (intOf i).toNat)
  case atStart => exact ⟨1, upL n, Nat.le_refl _, h0, rfl, ⟨st0.ext, st0.src.mono (by omega), st0.own, st0.perm⟩⟩
  case round =>
    clear st0
    obtain ⟨k, zs, hk1, hk, rfl, st⟩ := hrel
    by_cases hlt : k < n
    · have hd : decide ((k : Int) < (n : Int)) = true := by simp; omega
      go_wp2_with fail
      refine (pick_c w.heap.size b _ ((k : Int) + 1) wr st.src (by omega)).mono ?_
      rintro e w5 ⟨⟨x, rfl, x0, x1, x2⟩, hs5, hg5⟩
      have st5 := st.pick HB.out HNE.out hs5 hg5
      have hlen := st5.len
      have hx1 : x < (k : Int) + 1 := by omega
      obtain ⟨i, rfl⟩ := Int.eq_ofNat_of_zero_le x0
      have hi : i < zs.length := by omega
      have hkl : k < zs.length := by omega
      have HSW := Lib.hid (st5.swap HU.out HNE.out i k hi hkl)
      have q0 := st5.own.cellAt i (by omega)
      have q1 := st5.own.cellAt k (by omega)
      have f0 := st5.own.frozenAt i
      have f1 := st5.own.frozenAt k
      have q2 := (World.ownsRow.stored st5.own i (.int .i64 zs[k])).1.cellAt k (by omega)
      have f2 := (World.ownsRow.stored st5.own i (.int .i64 zs[k])).1.frozenAt k
      have hkk : k < ((ivs zs).set i (.int .i64 zs[k])).length := by
        have e : ((ivs zs).set i (.int .i64 zs[k])).length = zs.length := by rw [List.length_set, ivs_length]
        omega
      obtain ⟨y, hy⟩ : ∃ y, ((ivs zs).set i (.int .i64 zs[k]))[k]? = some y := ⟨_, List.getElem?_eq_getElem hkk⟩
      clear hkk
      rw [hy] at q2
      clear hy
      rw [ivs_get zs i hi] at q0
      rw [ivs_get zs k hkl] at q1
      generalize zs[i] = zi at *
      generalize zs[k] = zk at *
      have hin : i < n := by omega
      clear st st5 hs5 hg5 x1 x2 hlen hi hkl
      go_wp2
      go_roundw
      case rel => exact ⟨k + 1, _, by omega, by omega, by go_num, ⟨HSW.out.ext, HSW.out.src.mono (by omega), HSW.out.own, HSW.out.perm⟩⟩
      case measure => first | (simp [intOf]; done) | (simp [intOf]; omega)
    · have hke : k = n := by omega
      subst hke
      have hd : decide ((k : Int) < (k : Int)) = false := by simp
      go_wp2
      go_ret
      refine ⟨_, zs, rfl, ?_, st.perm, st.ext⟩
      have := st.own
      unfold OwnInts
      rw [st.len]
      exact this
end Go.Proofs.Ytheokhgppmmjlaa
