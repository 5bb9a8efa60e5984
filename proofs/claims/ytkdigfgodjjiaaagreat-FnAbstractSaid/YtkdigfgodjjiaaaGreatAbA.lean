/- Contracts on automata: a number of symbols, the state to which a symbol leads, the state behind a word. -/
import Derived.Test.YtkdigfgodjjiaaaGreatAbQ
import Derived.Test.YtkdigfgodjjiaaaGreatRead
set_option linter.unusedSimpArgs false
set_option linter.unusedVariables false
set_option linter.unusedSectionVars false
set_option maxHeartbeats 4000000
namespace Go.Proofs.YtkdigfgodjjiaaaGreat
open Go Go.RowKit Go.Proofs
/-- A value that holds an automaton. -/
def Dfas (w : World) (v : Value) (d : DfaD) : Prop := ∃ rv, v = .agg #[.int .i64 d.st, rv] ∧ Ints w rv d.nx
theorem Dfas.ext {w w' : World} {v : Value} {d : DfaD} (h : Dfas w v d) (he : Ext w w') : Dfas w' v d := by
  obtain ⟨rv, e, hr⟩ := h
  exact ⟨rv, e, hr.ext he⟩
theorem box2 (w : World) (x y : Value) (t : TypeId) : ∃ w1 b, w.alloc (.cells #[x, y] t) = w1 ∧ w.heap.size = b ∧ Ext w w1 ∧ w1.cell? ⟨b, 0, none⟩ = some x ∧ w1.cell? ⟨b, 1, none⟩ = some y ∧ Blk w1 b t #[x, y] ∧ w1.heap.size = b + 1 :=
  ⟨_, _, rfl, rfl, Ext.alloc _ _, by simp, by simp, Blk.new _ _ _ _ rfl, by simp⟩
theorem symbolsOk_c (n : Int) (w : World) : Calls Tryz.prog 60 #[.int .i64 n] w fun e w' => e = .returned (.bool (inB n 2 6)) ∧ w = w' := by
  go_enter Tryz.func60, Tryz.ntmps60
  go_wp2_with (go_at_call 51; refine (within_c _ _ _ _).mono ?_; rintro e w' ⟨rfl, rfl⟩)
  go_ret
  exact ⟨rfl, rfl⟩
theorem to_c (v : Value) (d : DfaD) (sy s x : Int) (w : World) (h : Dfas w v d) (hd : dfaOk d sy = true) (s0 : 0 ≤ s) (s1 : s < d.st) (x0 : 0 ≤ x) (x1 : x < sy) :
    Calls Tryz.prog 34 #[v, .int .i64 s, .int .i64 x, .int .i64 sy] w fun e w' => e = .returned (.int .i64 (toD d s x sy)) ∧ Ext w w' := by
  obtain ⟨rv, rfl, hr⟩ := h
  obtain ⟨h1, h2, hlen, _, _⟩ := dfaOk_parts hd
  obtain ⟨k, hk, e, _, _⟩ := dfa_idx hd s0 s1 x0 x1
  obtain ⟨A, c, rfl, g1, g2⟩ := hr.form
  obtain ⟨b, off, rfl, hc⟩ := hr.at hk
  have c0 := hc k hk
  clear hc
  have hv : toD d s x sy = d.nx[k] := by
    unfold toD
    rw [e, Int.toNat_natCast, List.getD_eq_getElem?_getD, List.getElem?_eq_getElem hk, Option.getD_some]
  have hp0 : 0 ≤ s * sy := Int.mul_nonneg s0 (by omega)
  have hp1 : s * sy ≤ 120 := by
    have := Int.mul_le_mul (show s ≤ 20 by omega) (show sy ≤ 6 by omega) (by omega) (by omega)
    omega
  have hw1 : IntKind.i64.wrap (s * sy) = s * sy := IntWalk.i64_in _ (by omega)
  have hw2 : IntKind.i64.wrap (s * sy + x) = (k : Int) := by rw [IntWalk.i64_in _ (by omega), e]
  rw [hv]
  clear hlen
  obtain ⟨w1, bk, e1, e2, hx, p0, p1, bB, hz⟩ := box2 w (.int .i64 d.st) (.slice (some ⟨b, off, none⟩) d.nx.length c) 30
  have c1 := hx.cell c0
  subst e1 e2
  go_enter Tryz.func34, Tryz.ntmps34
  go_wp2
  go_ret
  exact ⟨rfl, hx⟩
theorem runD_lim {d : DfaD} {sy : Int} (hd : dfaOk d sy = true) {w : List Int} (hw : ∀ z ∈ w, 0 ≤ z ∧ z < sy) : 0 ≤ runD d sy w ∧ runD d sy w < d.st := by
  have := runD_range hd (w := w.reverse) (fun z hz => hw z (List.mem_reverse.1 hz))
  rwa [List.reverse_reverse] at this
theorem runD_take {d : DfaD} {sy : Int} (hd : dfaOk d sy = true) {w : List Int} {k : Nat} (hk : k < w.length) : runD d sy (w.take (k + 1)) = toD d (runD d sy (w.take k)) w[k] sy := by
  rw [List.take_succ_eq_append_getElem hk, runD_snoc hd]
theorem run_word_c (v u : Value) (d : DfaD) (zs : List Int) (sy : Int) (w : World) (h : Dfas w v d) (hz : Ints w u zs) (hd : dfaOk d sy = true) (hw : ∀ z ∈ zs, 0 ≤ z ∧ z < sy) :
    Calls Tryz.prog 37 #[v, .int .i64 sy, u] w fun e w' => e = .returned (.int .i64 (runD d sy zs)) ∧ Ext w w' := by
  obtain ⟨rv, rfl, hr⟩ := h
  obtain ⟨A, c, rfl, g1, g2⟩ := hz.form
  obtain ⟨w1, bk, e1, e2, hx, p0, p1, bB, hsz⟩ := box2 w (.int .i64 d.st) rv 30
  have E1 := Lib.hid e1
  have E2 := Lib.hid e2
  clear e1 e2
  have HW := Lib.hid hw
  clear hw
  go_enter Tryz.func37, Tryz.ntmps37
  go_wp2_with fail
  rw [E1.out, E2.out]
  go_loopw [7, 12] (fun s i wr => ∃ k : Nat, k ≤ zs.length ∧ i = .int .i64 k ∧ Ext w1 wr ∧ s = .int .i64 (runD d sy (zs.take k))) (fun _ i _ => zs.length - (intOf i).toNat)
  case atStart => exact ⟨0, Nat.zero_le _, rfl, .refl _, rfl⟩
  case round =>
    obtain ⟨k, hk, rfl, hX, rfl⟩ := hrel
    have q0 := hX.cell p0
    have q1 := hX.cell p1
    by_cases hlt : k < zs.length
    · obtain ⟨b, off, rfl, hc⟩ := hz.at hlt
      have c0 := (hx.trans hX).cell (hc k hlt)
      clear hc
      have hl := runD_lim hd (w := zs.take k) (fun z hz => HW.out z (List.mem_of_mem_take hz))
      have hs := HW.out _ (List.getElem_mem hlt)
      go_wp2_with fail
      refine (to_c _ d sy _ _ _ ⟨_, rfl, (hr.ext hx).ext hX⟩ hd hl.1 hl.2 hs.1 hs.2).mono ?_
      rintro e w2 ⟨rfl, hx2⟩
      rw [← runD_take hd hlt]
      go_wp2
      go_roundw
      case rel => exact ⟨k + 1, by omega, by go_num, hX.trans hx2, rfl⟩
      case measure => simp [intOf]; omega
    · have ht : zs.take k = zs := List.take_of_length_le (by omega)
      rw [ht]
      go_wp2
      go_ret
      exact ⟨rfl, hx.trans hX⟩
theorem ValidDfa_c (v : Value) (d : DfaD) (sy : Int) (w : World) (h : Dfas w v d) (hd : dfaOk d sy = true) :
    Calls Tryz.prog 33 #[v, .int .i64 sy] w fun e w' => e = .returned (.bool true) ∧ Ext w w' := by
  obtain ⟨rv, rfl, hr⟩ := h
  obtain ⟨⟨h1, h1'⟩, ⟨h2, h2'⟩, hlen, hall, h0⟩ := dfaOk_parts hd
  obtain ⟨k, hk, e, _, _⟩ := dfa_idx hd (s := 0) (x := 0) (Int.le_refl _) (by omega) (Int.le_refl _) (by omega)
  obtain rfl : k = 0 := by omega
  obtain ⟨A, c, rfl, g1, g2⟩ := hr.form
  obtain ⟨b, off, rfl, hc⟩ := hr.at hk
  have hz : d.nx[0] = 0 := by
    rw [List.getD_eq_getElem?_getD, List.getElem?_eq_getElem hk, Option.getD_some] at h0
    exact h0
  have c0 := hc 0 hk
  rw [hz] at c0
  clear hc hz h0
  simp only [Nat.add_zero] at c0
  have hw1 : IntKind.i64.wrap (d.st * sy) = d.st * sy := IntWalk.i64_in _ (by
    have := Int.mul_le_mul h2' h1' (by omega) (by omega)
    have := Int.mul_nonneg (show 0 ≤ d.st by omega) (show 0 ≤ sy by omega)
    omega)
  have hB1 : inB sy 2 6 = true := inB_iff.2 ⟨h1, h1'⟩
  have hB2 : inB d.st 1 20 = true := inB_iff.2 ⟨h2, h2'⟩
  have hB3 : (d.nx.all fun z => inB z 0 (d.st - 1)) = true := by
    rw [List.all_eq_true]
    intro z hz
    have := hall z hz
    exact inB_iff.2 (by omega)
  have hl1 : ((d.nx.length : Int) == d.st * sy) = true := by simp [hlen]
  clear hlen hall
  obtain ⟨w1, bk, e1, e2, hx, p0, p1, bB, hsz⟩ := box2 w (.int .i64 d.st) (.slice (some ⟨b, off, none⟩) d.nx.length c) 30
  have E1 := Lib.hid e1
  have E2 := Lib.hid e2
  clear e1 e2
  have d0 := cellR p0
  have d1 := cellR p1
  have d2 := cellR (hx.cell c0)
  have hr1 := hr.ext hx
  have hS1 := fun W => symbolsOk_c sy W
  have hS2 := fun W => within_c d.st 1 20 W
  have hS3 := fun D os => allWithin_c _ _ 0 (d.st - 1) _ (hr1.ext (below_regrown w1 D os))
  simp only [hB1] at hS1
  simp only [hB2] at hS2
  simp only [hB3] at hS3
  go_enter Tryz.func33, Tryz.ntmps33
  go_wp2
  rw [E1.out, E2.out]
  refine wp_region_ext (by kernel_rfl) (by kernel_rfl) ?_
  repeat (go_big_quiet_step ((first | (go_at_call 60; exact Calls.sameR (hS1 _)) | (go_at_call 51; exact Calls.sameR (hS2 _)) | (go_at_call 61; exact Calls.sameR (sizeInt_c _ _ _ (hr1.ext (below_regrown _ _ _)))) | (go_at_call 36; exact Calls.sameR (hS3 _ _)))))
  refine wpQuiet_nil ?_
  intro w2 hx2
  go_wp2
  go_ret
  exact ⟨rfl, hx.trans hx2⟩
end Go.Proofs.YtkdigfgodjjiaaaGreat
