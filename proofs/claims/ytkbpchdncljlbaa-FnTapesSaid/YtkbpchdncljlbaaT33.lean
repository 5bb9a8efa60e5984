/- Contracts of the reference's drawing of words: lists of numbers out of the source of choices.
Contract of the reference's drawing of a word with its number of letters. -/
import Derived.Test.YtkbpchdncljlbaaT32
import Derived.Maps.AppendAt
section
set_option linter.unusedSimpArgs false
set_option linter.unusedVariables false
set_option linter.unusedSectionVars false
set_option maxHeartbeats 4000000
namespace Go.Proofs.Ytkbpchdncljlbaa
open Go Go.RowKit Go.Proofs
theorem intInfoW : (Try.prog.info? 2).map (fun i => (i.zero, i.size, i.bytes)) = some (some (.int .i64 0), 1, 8) := by kernel_rfl
/-- A list of numbers that is being drawn. -/
structure WrdSt (B b n d : Nat) (w : World) (u : Value) (xs : List Int) (W : World) : Prop where
  own : OwnInts w.heap.size W u xs
  src : Src B W b (n + d)
  grown : w.grownBy W (some b)
theorem WrdSt.ext {B b n d : Nat} {w : World} {u : Value} {xs : List Int} {W W' : World} (h : WrdSt B b n d w u xs W) (he : Ext W W') : WrdSt B b n d w u xs W' :=
  ⟨ownsRow_ext h.own he, h.src.ext he, grownBy_trans h.grown (ext_grownBy he _)⟩
theorem WrdSt.src' {B b n d d' : Nat} {w : World} {u : Value} {xs : List Int} {W W' : World} (h : WrdSt B b n d w u xs W) (hs : Src B W' b (n + d')) (hg : W.grownBy W' (some b)) : WrdSt B b n d' w u xs W' :=
  ⟨own_src h.src hg h.own (by decide), hs, grownBy_trans h.grown hg⟩
theorem WrdSt.snoc {B b n d : Nat} {w : World} {u v : Value} {xs ys : List Int} {W W' : World} (h : WrdSt B b n d w u xs W) (hB : B ≤ w.heap.size) (hb : b < w.heap.size)
    (ho : OwnInts w.heap.size W' v ys) (hg : W.grownBy W' u.ownBlock) : WrdSt B b n d w v ys W' :=
  ⟨ho, h.src.kept hg (fun k hk => by have := (h.own.lt k hk).1; exact ⟨by omega, by omega⟩), grownBy_step h.grown hg (fun k hk => .inl (h.own.lt k hk).1)⟩
/-- What the drawing of a word gives. -/
def WrdRes (B : Nat) (w : World) (b n c : Nat) (lo hi : Nat) (a : Int) (e : Ending) (w' : World) : Prop :=
  (∃ u xs, e = .returned u ∧ OwnInts w.heap.size w' u xs ∧ lo ≤ xs.length ∧ xs.length ≤ hi ∧ ∀ z ∈ xs, 0 ≤ z ∧ z < a) ∧ Src B w' b (n + c) ∧ w.grownBy w' (some b)
set_option maxRecDepth 20000 in
theorem l10DrawWord_c (B b n lo hi : Nat) (a : Int) (w : World) (h : Src B w b n) (hB : B ≤ w.heap.size) (hlo : lo ≤ hi) (hhi : hi ≤ 1000) (ha : 1 ≤ a) (ha' : a ≤ 100000) (hn : n ≤ 100000000000) :
    Calls Try.prog 21 #[.pointer (some ⟨b, 0, none⟩), .int .i64 lo, .int .i64 hi, .int .i64 a] w (WrdRes B w b n 2010 lo hi a) := by
  obtain ⟨i0, hi0, hz0, hz1, hz2⟩ := info_parts intInfoW
  have hbl := h.lt
  obtain ⟨W, hW⟩ : ∃ W, W = w.alloc (.cells #[] 2) := ⟨_, rfl⟩
  have hX : Ext w W := by rw [hW]; exact Ext.alloc _ _
  have st0 : WrdSt B b n 0 w (.slice (some ⟨w.heap.size, 0, none⟩) 0 0) [] W :=
    ⟨⟨by simp [ivs], .inr ⟨w.heap.size, 0, #[], rfl, Nat.le_refl _, by rw [hW]; exact heap_alloc_new w _, by simp, by unfold maxLen; omega, rfl, by simp [ivs]⟩⟩, h.ext hX, ext_grownBy hX _⟩
  have HB := Lib.hid hB
  have HBL := Lib.hid hbl
  clear h hX
  go_enter Try.func21, Try.ntmps21
  go_wp2_with fail
  rw [← hW]
  clear hW hB hbl
  refine (pick_c B b _ _ W st0.src (by omega)).mono ?_
  rintro e w1 ⟨⟨x, rfl, x0, x1, x2⟩, hs1, hg1⟩
  have x3 : x ≤ (hi : Int) - lo := by
    by_cases c : ((hi : Int) - lo + 1) ≤ 1
    · have := x1 c; omega
    · have := x2 (by omega); omega
  clear x1 x2
  have st1 := st0.src' (d' := 2) hs1 hg1
  obtain ⟨K, hK⟩ : ∃ K : Nat, (lo : Int) + x = (K : Int) := ⟨((lo : Int) + x).toNat, by omega⟩
  have hK1 : lo ≤ K ∧ K ≤ hi := by omega
  clear st0 hs1 hg1
  go_wp2
  go_loopw [9, 10] (fun u i wr => ∃ (xs : List Int), xs.length ≤ K ∧ i = .int .i64 ((K - xs.length : Nat) : Int) ∧ WrdSt B b n (2 + 2 * xs.length) w u xs wr ∧ Hid (∀ z ∈ xs, 0 ≤ z ∧ z < a)) (fun _ i _ => (intOf i).toNat)
  case atStart => exact ⟨[], Nat.zero_le _, rfl, st1, Lib.hid (fun z hz => by simp at hz)⟩
  case round =>
    clear st1
    obtain ⟨xs, hk, rfl, stk, HA⟩ := hrel
    obtain ⟨Au, cu, rfl, _, _⟩ := stk.own.ints.form
    by_cases hlt : xs.length < K
    · have hd : decide ((0 : Int) < ((K - xs.length : Nat) : Int)) = true := by simp; omega
      go_wp2_with fail
      refine (pick_c B b _ a _ stk.src (by omega)).mono ?_
      rintro e w2 ⟨⟨z, rfl, z0, z1, z2⟩, hs2, hg2⟩
      have HZ : Hid (z < a) := Lib.hid (by
        by_cases c : a ≤ 1
        · have := z1 c; omega
        · exact z2 (by omega))
      have st2 := stk.src' (d' := 2 + 2 * xs.length + 2) hs2 hg2
      have HZ0 := Lib.hid z0
      clear stk hs2 hg2 z2 z0 z1
      have ho1 : w2.ownsRow w.heap.size 2 1 (.slice Au xs.length cu) xs.length (ivs xs) := st2.own
      have ho' := ho1.alloc (.cells #[.int .i64 z] 2)
      have st3 := st2.ext (Ext.alloc w2 (.cells #[.int .i64 z] 2))
      have hs := st2.grown.size
      go_wp2_with (at_builtin; refine wpList_append_own_at _ rfl _ _ 24 rfl w.heap.size 2 i0 (.int .i64 0) 1 8 Try.underlying24 hi0 hz0 hz1 hz2 rfl (by decide) _ _ _ rfl ho' ⟨w2.heap.size, 0, none⟩ 1 1 [.int .i64 z] rfl rfl (cell_one_new _ _ _) ?c2 ?c3 ?c4 ?c5 ?_)
      case c2 => intro u hu; simp at hu; subst hu; rfl
      case c3 => unfold maxLen; omega
      case c4 => omega
      case c5 => simp; omega
      intro v' w4 hown4 hg4 _ hloc
      obtain ⟨A', c', rfl, _, _, _⟩ := (ownsRow_row hown4).form
      have st4 := st3.snoc (ys := xs ++ [z]) HB.out HBL.out (by simpa [OwnInts, ivs_append, ivs] using hown4) hg4
      have hKk : ((K - xs.length : Nat) : Int) - 1 = ((K - (xs.length + 1) : Nat) : Int) := by omega
      have HS := Lib.hid st4
      clear st2 st3 st4 ho' ho1 hown4 hg4
      go_wp2
      go_roundw
      case rel => exact ⟨xs ++ [z], by simp; omega, by first | (rw [hKk]; simp; done) | (simp; done) | (simp; omega), by simpa [Nat.mul_add, Nat.add_assoc] using HS.out, Lib.hid (fun y hy => by
        rcases List.mem_append.1 hy with hy | hy
        · exact HA.out y hy
        · rw [List.mem_singleton.1 hy]; exact ⟨HZ0.out, HZ.out⟩)⟩
      case measure => simp [intOf]; omega
    · have hke : xs.length = K := by omega
      have HKE := Lib.hid hke
      clear hke
      have hd : decide ((0 : Int) < ((K - xs.length : Nat) : Int)) = false := by simp; omega
      go_wp2
      go_ret
      exact ⟨⟨_, xs, rfl, stk.own, by have := HKE.out; omega, by have := HKE.out; omega, HA.out⟩, stk.src.mono (by have := HKE.out; omega), stk.grown⟩
end Go.Proofs.Ytkbpchdncljlbaa
end
section
set_option linter.unusedSimpArgs false
set_option linter.unusedVariables false
namespace Go.Proofs.Ytkbpchdncljlbaa
open Go Go.RowKit Go.Proofs
set_option maxHeartbeats 400000
theorem B10Word_c (v : Value) (bs : List Int) (w : World) (h : Bytes w v bs) :
    Calls Try.prog 6 #[v] w fun e w' => (∃ u xs a, e = .returned (.tuple #[u, .int .i64 a]) ∧ OwnInts w.heap.size w' u xs ∧ xs.length ≤ 9 ∧ ∀ z ∈ xs, 0 ≤ z ∧ z < 1000) ∧ Ext w w' := by
  go_enter Try.func6, Try.ntmps6
  go_wp2_with fail
  refine (from_c v bs w h).mono ?_
  rintro e w1 ⟨⟨b, rfl, hb, hs⟩, hx1⟩
  go_wp2_with fail
  refine (pick_c w.heap.size b 0 4 w1 hs (by omega)).mono ?_
  rintro e w2 ⟨⟨x, rfl, x0, x1, x2⟩, hs2, hg2⟩
  have x3 := x2 (by omega)
  have hw : IntKind.i64.wrap (1 + x) = 1 + x := IntWalk.i64_in _ (by omega)
  have hX2 : Ext w w2 := hx1.grown hg2 (fun k hk => by injection hk with hk; omega)
  clear x1 x2
  go_wp2_with fail
  refine (l10DrawWord_c w.heap.size b 2 0 9 (1 + x) w2 (hs2.mono (by omega)) hX2.size (by omega) (by omega) (by omega) (by omega) (by omega)).mono ?_
  rintro e w3 ⟨⟨u, xs, rfl, ho, _, h9, hall⟩, hs3, hg3⟩
  obtain ⟨Au, cu, rfl, _, _⟩ := ho.ints.form
  have HALL := Lib.hid hall
  have hX3 : Ext w w3 := hX2.grown hg3 (fun k hk => by injection hk with hk; omega)
  clear hall
  go_wp2
  exact bodyPost_ret (v := .tuple #[.slice Au xs.length cu, .int .i64 (1 + x)]) (by simp [results, Try.results6, go_sem]) rfl ⟨⟨_, xs, _, rfl, ownsRow_base ho hX2.size, h9, fun z hz => by have := HALL.out z hz; omega⟩, hX3⟩
end Go.Proofs.Ytkbpchdncljlbaa
end
