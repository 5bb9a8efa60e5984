/- Contracts on the program's automata, whatever they are.
Contracts of the reference's reading of machines, as far as the known machines want it: cells of three signs, numbers of one digit.
Contract of the reference's reading of a machine from a text that stands for one.
Contracts of the reference's draws of machines. The sizes are small.
Contracts of the reference's draws of machines, continued: the known machines, a machine that is valid.
Contracts of the reference's draws of machines, continued: a machine that is valid, one that may be bent.
Contracts of the reference's draws of machines, continued: a machine is bent.
Contracts of the reference's draws of machines, continued: any machine, a small machine, a machine that is decided.
Contract of the reference's draw of a machine that is decided. -/
import Derived.Test.YtacpchapgklcgaaGreatDoorR14
import Derived.Test.YtacpchapgklcgaaGreatDoorR02
import Derived.Maps.AppendAt
import Derived.Test.YtacpchapgklcgaaGreatDoorR03
import Derived.Deep.AppendLies
import Derived.Test.YtacpchapgklcgaaGreatDoorR06
import Derived.Deep.RegionLaw
import Derived.Deep.RegionHeld3
section
set_option linter.unusedSimpArgs false
set_option linter.unusedVariables false
set_option linter.unusedSectionVars false
set_option maxHeartbeats 4000000
namespace Go.Proofs.YtacpchapgklcgaaGreatDoor
open Go Go.RowKit Go.Proofs
theorem dfa_ok_of {d : DfaD} {sy : Int} (s1 : 2 ≤ sy) (s2 : sy ≤ 6) (h1 : inB d.st 1 20 = true) (h2 : (d.nx.length : Int) = d.st * sy) (h3 : (d.nx.all fun z => inB z 0 (d.st - 1)) = true) : dfaOk d sy = (d.nx.getD 0 0 == 0) := by
  simp only [dfaOk, h1, inB_iff.2 ⟨s1, s2⟩, h2, h3, decide_true, Bool.true_and]
theorem ValidDfa_g (v : Value) (d : DfaD) (sy : Int) (w : World) (h : Dfas w v d) (s1 : 2 ≤ sy) (s2 : sy ≤ 6) :
    Calls Tryz.prog 58 #[v, .int .i64 sy] w fun e w' => e = .returned (.bool (dfaOk d sy)) ∧ Ext w w' := by
  obtain ⟨rv, rfl, hr⟩ := h
  obtain ⟨A, c, rfl, g1, g2⟩ := hr.form
  have hB1 : inB sy 2 6 = true := inB_iff.2 ⟨s1, s2⟩
  obtain ⟨w1, bk, e1, e2, hx, p0, p1, bB, hsz⟩ := box2 w (.int .i64 d.st) (.slice A d.nx.length c) 40
  have E1 := Lib.hid e1
  have E2 := Lib.hid e2
  clear e1 e2
  have d0 := cellR p0
  have d1 := cellR p1
  have hr1 := hr.ext hx
  have hS1 := fun W => symbolsOk_c sy W
  have hS2 := fun W => within_c d.st 1 20 W
  have hS3 := fun D os => allWithin_c _ _ 0 (d.st - 1) _ (hr1.ext (below_regrown w1 D os))
  simp only [hB1] at hS1
  cases hB2 : inB d.st 1 20 with
  | false =>
    have HE : Hid (dfaOk d sy = false) := Lib.hid (dfa_no_st hB2)
    simp only [hB2] at hS2
    go_enter Tryz.func58, Tryz.ntmps58
    go_wp2
    rw [E1.out, E2.out]
    refine wp_region_ext (by kernel_rfl) (by kernel_rfl) ?_
    repeat (go_big_quiet_step ((first | (go_at_call 92; exact Calls.sameR (hS1 _)) | (go_at_call 24; exact Calls.sameR (hS2 _)) | (go_at_call 40; exact Calls.sameR (sizeInt_c _ _ _ (hr1.ext (below_regrown _ _ _)))) | (go_at_call 84; exact Calls.sameR (hS3 _ _)))))
    refine wpQuiet_nil ?_
    intro w2 hx2
    go_wp2
    go_ret
    exact ⟨by rw [HE.out]; rfl, hx.trans hx2⟩
  | true =>
    obtain ⟨h2, h2'⟩ := inB_iff.1 hB2
    have hmul : 0 ≤ d.st * sy ∧ d.st * sy ≤ 120 := by
      have := Int.mul_le_mul h2' s2 (by omega) (by omega)
      have := Int.mul_nonneg (show 0 ≤ d.st by omega) (show 0 ≤ sy by omega)
      omega
    have hmul2 : 1 ≤ d.st * sy := by
      have := Int.mul_le_mul h2 s1 (by omega) (by omega)
      omega
    have hw1 : IntKind.i64.wrap (d.st * sy) = d.st * sy := IntWalk.i64_in _ (by omega)
    simp only [hB2] at hS2
    have HB2 := Lib.hid hB2
    by_cases hl : (d.nx.length : Int) = d.st * sy
    · have hl1 : ((d.nx.length : Int) == d.st * sy) = true := by simp [hl]
      cases hB3 : (d.nx.all fun z => inB z 0 (d.st - 1)) with
      | false =>
        have HE : Hid (dfaOk d sy = false) := Lib.hid (by simp only [dfaOk, hB3, Bool.and_false, Bool.false_and])
        simp only [hB3] at hS3
        clear hl
        go_enter Tryz.func58, Tryz.ntmps58
        go_wp2
        rw [E1.out, E2.out]
        refine wp_region_ext (by kernel_rfl) (by kernel_rfl) ?_
        repeat (go_big_quiet_step ((first | (go_at_call 92; exact Calls.sameR (hS1 _)) | (go_at_call 24; exact Calls.sameR (hS2 _)) | (go_at_call 40; exact Calls.sameR (sizeInt_c _ _ _ (hr1.ext (below_regrown _ _ _)))) | (go_at_call 84; exact Calls.sameR (hS3 _ _)))))
        refine wpQuiet_nil ?_
        intro w2 hx2
        go_wp2
        go_ret
        exact ⟨by rw [HE.out]; rfl, hx.trans hx2⟩
      | true =>
        have HE0 := Lib.hid (dfa_ok_of s1 s2 HB2.out hl hB3)
        simp only [hB3] at hS3
        have hk : 0 < d.nx.length := by omega
        obtain ⟨b, off, rfl, hc⟩ := hr.at hk
        have c0 := hc 0 hk
        simp only [Nat.add_zero] at c0
        have HE : Hid (dfaOk d sy = (d.nx[0] == 0)) := by
          have := HE0.out
          rw [List.getD_eq_getElem?_getD, List.getElem?_eq_getElem hk] at this
          exact this
        have dd2 := cellR (hx.cell c0)
        have hk0 : (0 : Int) < (d.nx.length : Int) := by omega
        clear hc hl hB3 c0
        generalize d.nx[0] = z at *
        by_cases hz : z = 0
        · subst hz
          go_enter Tryz.func58, Tryz.ntmps58
          go_wp2
          rw [E1.out, E2.out]
          refine wp_region_ext (by kernel_rfl) (by kernel_rfl) ?_
          repeat (go_big_quiet_step ((first | (go_at_call 92; exact Calls.sameR (hS1 _)) | (go_at_call 24; exact Calls.sameR (hS2 _)) | (go_at_call 40; exact Calls.sameR (sizeInt_c _ _ _ (hr1.ext (below_regrown _ _ _)))) | (go_at_call 84; exact Calls.sameR (hS3 _ _)))))
          refine wpQuiet_nil ?_
          intro w2 hx2
          go_wp2
          go_ret
          exact ⟨by rw [HE.out]; rfl, hx.trans hx2⟩
        · have hz1 : (z == 0) = false := by simp [hz]
          have hz2 : decide (z = 0) = false := by simp [hz]
          rw [hz1] at HE
          go_enter Tryz.func58, Tryz.ntmps58
          go_wp2
          rw [E1.out, E2.out]
          refine wp_region_ext (by kernel_rfl) (by kernel_rfl) ?_
          repeat (go_big_quiet_step ((first | (go_at_call 92; exact Calls.sameR (hS1 _)) | (go_at_call 24; exact Calls.sameR (hS2 _)) | (go_at_call 40; exact Calls.sameR (sizeInt_c _ _ _ (hr1.ext (below_regrown _ _ _)))) | (go_at_call 84; exact Calls.sameR (hS3 _ _)))))
          refine wpQuiet_nil ?_
          intro w2 hx2
          go_wp2
          go_ret
          exact ⟨by rw [HE.out]; rfl, hx.trans hx2⟩
    · have hl1 : ((d.nx.length : Int) == d.st * sy) = false := by simp [hl]
      have HE : Hid (dfaOk d sy = false) := Lib.hid (dfa_no_len hl)
      clear hl
      go_enter Tryz.func58, Tryz.ntmps58
      go_wp2
      rw [E1.out, E2.out]
      refine wp_region_ext (by kernel_rfl) (by kernel_rfl) ?_
      repeat (go_big_quiet_step ((first | (go_at_call 92; exact Calls.sameR (hS1 _)) | (go_at_call 24; exact Calls.sameR (hS2 _)) | (go_at_call 40; exact Calls.sameR (sizeInt_c _ _ _ (hr1.ext (below_regrown _ _ _)))) | (go_at_call 84; exact Calls.sameR (hS3 _ _)))))
      refine wpQuiet_nil ?_
      intro w2 hx2
      go_wp2
      go_ret
      exact ⟨by rw [HE.out]; rfl, hx.trans hx2⟩
end Go.Proofs.YtacpchapgklcgaaGreatDoor
end
section
namespace Go.Proofs.YtacpchapgklcgaaGreatDoor
open Go Go.RowKit Go.Proofs
set_option maxHeartbeats 400000
theorem l01Digit_c (c : Int) (w : World) : Calls Tryz.prog 156 #[.int .u8 c] w fun e w' => e = .returned (.bool (decide (48 ≤ c) && decide (c ≤ 57))) ∧ w = w' := by
  by_cases h : 48 ≤ c
  · have hd : decide (48 ≤ c) = true := by simp [h]
    go_enter Tryz.func156, Tryz.ntmps156
    go_wp2
    go_ret
    exact ⟨by simp [h], rfl⟩
  · have hd : decide (48 ≤ c) = false := by simp [h]
    go_enter Tryz.func156, Tryz.ntmps156
    go_wp2
    go_ret
    exact ⟨by simp, rfl⟩
theorem num1_c (s : ByteArray) (w : World) (s1 : 1 ≤ s.size) (s2 : s.size ≤ 1) (d : Nat) (hd : (s[0]'(by omega)).toNat = d) (h1 : 48 ≤ d) (h2 : d ≤ 57) :
    Calls Tryz.prog 157 #[.string s] w fun e w' => e = .returned (.tuple #[.int .i64 ((d : Int) - 48), .bool true]) ∧ w = w' := by
  have z0 : ((s.size : Int) == 0) = false := by rw [beq_eq_false_iff_ne]; omega
  have hne : ((d : Int) == 45) = false := by rw [beq_eq_false_iff_ne]; omega
  have hpos : decide (0 < s.size) = true := by simp; omega
  have hbig : decide (18 < s.size) = false := by simp; omega
  have hone : decide (1 < s.size) = false := by simp; omega
  cases h48 : ((d : Int) == 48)
  all_goals
    go_enter Tryz.func157, Tryz.ntmps157
    go_wp2
    go_loop [5, 6] (fun n i => ∃ k : Nat, k ≤ 1 ∧ i = .int .i64 k ∧ n = .int .i64 (if k = 0 then 0 else (d : Int) - 48)) (fun _ i => 1 - (intOf i).toNat)
    case atStart => exact ⟨0, by omega, rfl, rfl⟩
    case round =>
      obtain ⟨k, hk, rfl, rfl⟩ := hrel
      by_cases hk0 : k = 0
      · subst hk0
        rw [if_pos rfl]
        have hdig : (decide (48 ≤ (d : Int)) && decide ((d : Int) ≤ 57)) = true := by simp; omega
        have hlt0 : decide (0 < s.size) = true := hpos
        go_wp2_with fail
        refine (l01Digit_c _ _).mono ?_
        rintro e w' ⟨rfl, rfl⟩
        rw [hdig]
        go_wp2
        go_round
        case rel => exact ⟨1, by omega, rfl, by rw [if_neg (by omega)]⟩
        case measure => simp [intOf]
      · have hk1 : k = 1 := by omega
        subst hk1
        rw [if_neg (by omega)]
        go_wp2
        go_ret2
        exact ⟨rfl, rfl⟩
/-- A cell of a known machine. -/
def ruleOfB (s : ByteArray) : Option RuleD :=
  match s.data.toList with
  | [a, b, c] => if a = 45 ∧ b = 45 ∧ c = 45 then some noR else if 48 ≤ a.toNat ∧ a.toNat ≤ 57 ∧ (b = 76 ∨ b = 82) ∧ 48 ≤ c.toNat ∧ c.toNat ≤ 57 then some ⟨(a.toNat : Int) - 48, if b = 76 then -1 else 1, (c.toNat : Int) - 48⟩ else none
  | _ => none
theorem toList3 (a b c : UInt8) : (⟨#[a, b, c]⟩ : ByteArray).toList = [a, b, c] := by
  unfold ByteArray.toList
  unfold ByteArray.toList.loop
  unfold ByteArray.toList.loop
  unfold ByteArray.toList.loop
  unfold ByteArray.toList.loop
  rfl
theorem ruleOfB_ways {s : ByteArray} {r : RuleD} (h : ruleOfB s = some r) : (s = ⟨#[45, 45, 45]⟩ ∧ r = noR) ∨
    (∃ (g1 : 3 ≤ s.size) (d0 d1 d2 : Nat), (s.toList == [45, 45, 45]) = false ∧ s.size ≤ 3 ∧ (s[0]'(by omega)).toNat = d0 ∧ (s[1]'(by omega)).toNat = d1 ∧ (s[2]'(by omega)).toNat = d2 ∧ 48 ≤ d0 ∧ d0 ≤ 57 ∧ 48 ≤ d2 ∧ d2 ≤ 57 ∧
      ((d1 = 76 ∧ r = ⟨(d0 : Int) - 48, -1, (d2 : Int) - 48⟩) ∨ (d1 = 82 ∧ r = ⟨(d0 : Int) - 48, 1, (d2 : Int) - 48⟩))) := by
  obtain ⟨⟨l⟩⟩ := s
  unfold ruleOfB at h
  match l, h with
  | [a, b, c], h =>
    simp only at h
    split at h
    · rename_i hh
      obtain ⟨rfl, rfl, rfl⟩ := hh
      injection h with h
      exact .inl ⟨rfl, h.symm⟩
    · rename_i hno
      split at h
      · rename_i hh
        obtain ⟨k1, k2, k3, k4, k5⟩ := hh
        injection h with h
        refine .inr ⟨Nat.le_refl 3, a.toNat, b.toNat, c.toNat, by rw [toList3, beq_eq_false_iff_ne]; intro e; injection e with e1 e; injection e with e2 e; injection e with e3 _; exact hno ⟨e1, e2, e3⟩, Nat.le_refl 3, rfl, rfl, rfl, k1, k2, k4, k5, ?_⟩
        rcases k3 with rfl | rfl
        · exact .inl ⟨rfl, by rw [← h, if_pos rfl]⟩
        · exact .inr ⟨rfl, by rw [← h, if_neg (by decide)]⟩
      · cases h
theorem storeR {w : World} {g : Nat} {t : TypeId} {a b c : Value} (h : Blk w g t #[a, b, c]) (x y z : Value) : Blk (((w.setCell ⟨g, 0, none⟩ x).setCell ⟨g, 1, none⟩ y).setCell ⟨g, 2, none⟩ z) g t #[x, y, z] := ((h.set_ 0 x).set_ 1 y).set_ 2 z
set_option maxHeartbeats 1000000 in
theorem l05ReadRule_c (s : ByteArray) (r : RuleD) (w : World) (h : ruleOfB s = some r) :
    Calls Tryz.prog 147 #[.string s] w fun e w' => e = .returned (.tuple #[.agg #[.int .i64 r.w, .int .i64 r.m, .int .i64 r.n], .bool true]) ∧ Ext w w' := by
  have hx0 := Ext.alloc w (.cells #[.int .i64 0, .int .i64 0, .int .i64 0] 38)
  have b0 := Blk.new w w.heap.size 38 #[.int .i64 0, .int .i64 0, .int .i64 0] rfl
  rcases ruleOfB_ways h with ⟨rfl, rfl⟩ | ⟨g1, d0, d1, d2, hns, g2, hd0, hd1, hd2, k1, k2, k4, k5, hr⟩
  · clear h
    go_enter Tryz.func147, Tryz.ntmps147
    go_wp2_with fail
    refine (l05None_c _).mono ?_
    rintro e w1 ⟨rfl, hx1⟩
    have d := (b0.ext hx1).cell
    have f := (b0.ext hx1).frozen
    go_wp2
    refine bodyPost_ret (v := .tuple #[.agg #[.int .i64 0, .int .i64 0, .int .i64 (-1)], .bool true]) (by simp [results, Tryz.results147, go_sem, d]) rfl ⟨rfl, ?_⟩
    exact ((((hx0.trans hx1).setCell (Nat.le_refl _) _).setCell (Nat.le_refl _) _).setCell (Nat.le_refl _) _)
  · have hd3 : decide (s.size < 3) = false := by simp; omega
    have hd3' : decide ((s.size : Int) < 3) = false := by simp; omega
    have hdig : (decide (48 ≤ (d0 : Int)) && decide ((d0 : Int) ≤ 57)) = true := by simp; omega
    have i0 : (0 : Int) < (s.size : Int) := by omega
    have i1 : (1 : Int) < (s.size : Int) := by omega
    have i2 : (2 : Int) ≤ (s.size : Int) := by omega
    obtain ⟨sub, hsub⟩ : ∃ t, t = s.extract 2 s.size := ⟨_, rfl⟩
    have u1 : 1 ≤ sub.size := by rw [hsub]; simp; omega
    have u2 : sub.size ≤ 1 := by rw [hsub]; simp; omega
    have u3 : (sub[0]'(by omega)).toNat = d2 := by
      subst hsub
      rw [← hd2]
      congr 1
      rw [ByteArray.getElem_extract]
    have hpos : decide (0 ≤ (d2 : Int) - 48) = true := by simp; omega
    have e1 : IntKind.u8.wrap ((d0 : Int) - 48) = (d0 : Int) - 48 := by rw [IntKind.wrap_u8]; omega
    clear h
    rcases hr with ⟨rfl, rfl⟩ | ⟨rfl, rfl⟩
    all_goals
      go_enter Tryz.func147, Tryz.ntmps147
      go_wp2_with fail
      refine (l01Digit_c _ _).mono ?_
      rintro e w' ⟨rfl, rfl⟩
      rw [hdig]
      go_wp2_with fail
      (try rw [← hsub])
      refine (num1_c sub _ u1 u2 d2 u3 k4 k5).mono ?_
      rintro e w' ⟨rfl, rfl⟩
      have hk48 : decide (48 ≤ (d2 : Int)) = true := by simp; omega
      go_wp2
      first
        | refine bodyPost_ret (v := .tuple #[.agg #[.int .i64 ((d0 : Int) - 48), .int .i64 (-1), .int .i64 ((d2 : Int) - 48)], .bool true]) (by simp [results, Tryz.results147, go_sem] <;> omega) rfl ⟨rfl, (Ext.alloc _ _).trans (Ext.alloc _ _)⟩
        | refine bodyPost_ret (v := .tuple #[.agg #[.int .i64 ((d0 : Int) - 48), .int .i64 1, .int .i64 ((d2 : Int) - 48)], .bool true]) (by simp [results, Tryz.results147, go_sem] <;> omega) rfl ⟨rfl, (Ext.alloc _ _).trans (Ext.alloc _ _)⟩
/-- A slice of texts in memory of the call's own. -/
def OwnStrs (base : Nat) (w : World) (v : Value) (xs : List ByteArray) : Prop := w.ownsRow base 9 1 v xs.length (xs.map Value.string)
theorem OwnStrs.ext {base : Nat} {w w' : World} {v : Value} {xs : List ByteArray} (h : OwnStrs base w v xs) (he : Ext w w') : OwnStrs base w' v xs := ownsRow_ext h he
theorem OwnStrs.cell {base : Nat} {w : World} {A : Option Addr} {c : Nat} {xs : List ByteArray} (h : OwnStrs base w (.slice A xs.length c) xs) {k : Nat} (hk : k < xs.length) : ∃ g, A = some ⟨g, 0, none⟩ ∧ w.cell? ⟨g, k, none⟩ = some (.string xs[k]) := by
  obtain ⟨g, rfl, _, _⟩ := own_at h (by omega)
  refine ⟨g, rfl, ?_⟩
  have := World.ownsRow.cellAt h k (by omega)
  rw [this]
  simp [hk]
theorem strInfoD : (Tryz.prog.info? 9).map (fun i => (i.zero, i.size, i.bytes)) = some (some (.string ⟨#[]⟩), 1, 16) := by kernel_rfl
/-- The pieces of a text between separators, after i bytes, and where the next one begins. -/
def splitTo (s : ByteArray) (d : Nat) : Nat → List ByteArray × Nat
  | 0 => ([], 0)
  | i + 1 => if (s.data.getD i 0).toNat = d then ((splitTo s d i).1 ++ [s.extract (splitTo s d i).2 i], i + 1) else splitTo s d i
def splitS (s : ByteArray) (d : Nat) : List ByteArray := (splitTo s d s.size).1 ++ [s.extract (splitTo s d s.size).2 s.size]
theorem splitTo_le (s : ByteArray) (d i : Nat) : (splitTo s d i).2 ≤ i ∧ (splitTo s d i).1.length ≤ i := by
  induction i with
  | zero => simp [splitTo]
  | succ i ih =>
    unfold splitTo
    split
    · simp; omega
    · omega
set_option maxHeartbeats 1000000 in
theorem l01Split_c (s : ByteArray) (d : Nat) (w : World) (hs : s.size ≤ 1000) :
    Calls Tryz.prog 146 #[.string s, .int .u8 d] w fun e w' => (∃ u, e = .returned u ∧ OwnStrs w.heap.size w' u (splitS s d)) ∧ Ext w w' := by
  obtain ⟨i0, hi, hz0, hz1, hz2⟩ := info_parts strInfoD
  have hown0 : (w.alloc (.cells #[] 9)).ownsRow w.heap.size 9 1 (.slice (some ⟨w.heap.size, 0, none⟩) 0 0) 0 [] :=
    World.ownsRow_made (base := w.heap.size) (e := 9) (size := 1) w #[] 0 (by simp) (by unfold maxLen; omega) (by simp)
  go_enter Tryz.func146, Tryz.ntmps146
  go_wp2
  go_loopw [5, 6, 7] (fun o f i wr => ∃ k : Nat, k ≤ s.size ∧ i = .int .i64 k ∧ f = .int .i64 (splitTo s d k).2 ∧ OwnStrs w.heap.size wr o (splitTo s d k).1 ∧ Ext w wr) (fun _ _ i _ => s.size - (intOf i).toNat)
  case atStart => exact ⟨0, Nat.zero_le _, rfl, rfl, hown0, Ext.alloc _ _⟩
  case round =>
    clear hown0
    obtain ⟨k, hk, rfl, rfl, ho, hX⟩ := hrel
    obtain ⟨q1, q2⟩ := splitTo_le s d k
    by_cases hlt : k < s.size
    · have HN : Hid (splitTo s d (k + 1) = if s[k].toNat = d then ((splitTo s d k).1 ++ [s.extract (splitTo s d k).2 k], k + 1) else splitTo s d k) := by
        unfold Hid
        have e : (s.data.getD k 0) = s[k] := by
          rw [Array.getD_eq_getD_getElem?, Array.getElem?_eq_getElem (by simpa using hlt)]
          rfl
        show (if (s.data.getD k 0).toNat = d then _ else _) = _
        rw [e]
      obtain ⟨p, hp⟩ : ∃ p, splitTo s d k = p := ⟨_, rfl⟩
      rw [hp] at ho q1 q2 HN ⊢
      obtain ⟨A, c, hv, k1, k2, _⟩ := (ownsRow_row ho).form
      subst hv
      clear hp
      by_cases he : s[k].toNat = d
      · have heq : ((s[k].toNat : Int) == (d : Int)) = true := by simp [he]
        have HN2 := Lib.hid (HN.out.trans (if_pos he))
        clear HN he
        have b1 : (p.2 : Int) ≤ (k : Int) := by omega
        have b2 : (k : Int) ≤ (s.size : Int) := by omega
        go_wp2_with (at_builtin; refine wpList_append_own_at _ rfl _ _ 154 rfl w.heap.size 9 i0 _ 1 16 Tryz.underlying154 hi hz0 hz1 hz2 rfl (by decide) _ _ _ rfl (World.ownsRow.alloc ho _) ⟨wr.heap.size, 0, none⟩ 1 1 [.string (s.extract p.2 k)] rfl rfl (cell_one_new _ _ _) ?c2 ?c3 ?c4 ?c5 ?_)
        case c2 => intro u hu; simp at hu; subst hu; rfl
        case c3 => unfold maxLen; omega
        case c4 => omega
        case c5 => have := hX.size; simp; omega
        intro v' w7 hown7 hg7 _ _
        obtain ⟨A', c', rfl, _, _, _⟩ := (ownsRow_row hown7).form
        have hX7 : Ext w w7 := (hX.trans (Ext.alloc _ _)).grown hg7 (fun b hb => (World.ownsRow.lt ho b hb).1)
        go_wp2
        go_roundw
        case rel => exact ⟨k + 1, by omega, by go_num, by rw [HN2.out]; go_num, by rw [HN2.out]; simpa [OwnStrs] using hown7, hX7⟩
        case measure => simp [intOf]; omega
      · have heq : ((s[k].toNat : Int) == (d : Int)) = false := by rw [beq_eq_false_iff_ne]; omega
        have HN2 := Lib.hid (HN.out.trans (if_neg he))
        clear HN he
        go_wp2
        go_roundw
        case rel => exact ⟨k + 1, by omega, by go_num, by rw [HN2.out], by rw [HN2.out]; exact ho, hX⟩
        case measure => simp [intOf]; omega
    · have hke : k = s.size := by omega
      subst hke
      obtain ⟨p, hp⟩ : ∃ p, splitTo s d s.size = p := ⟨_, rfl⟩
      have HP : Hid (splitS s d = p.1 ++ [s.extract p.2 s.size]) := by unfold Hid splitS; rw [hp]
      rw [hp] at ho q1 q2 ⊢
      clear hp
      obtain ⟨A, c, hv, k1, k2, _⟩ := (ownsRow_row ho).form
      subst hv
      have b1 : (p.2 : Int) ≤ (s.size : Int) := by omega
      go_wp2_with (at_builtin; refine wpList_append_own_at _ rfl _ _ 154 rfl w.heap.size 9 i0 _ 1 16 Tryz.underlying154 hi hz0 hz1 hz2 rfl (by decide) _ _ _ rfl (World.ownsRow.alloc ho _) ⟨wr.heap.size, 0, none⟩ 1 1 [.string (s.extract p.2 s.size)] rfl rfl (cell_one_new _ _ _) ?c2 ?c3 ?c4 ?c5 ?_)
      case c2 => intro u hu; simp at hu; subst hu; rfl
      case c3 => unfold maxLen; omega
      case c4 => omega
      case c5 => have := hX.size; simp; omega
      intro v' w7 hown7 hg7 _ _
      have hX7 : Ext w w7 := (hX.trans (Ext.alloc _ _)).grown hg7 (fun b hb => (World.ownsRow.lt ho b hb).1)
      go_wp2
      go_ret
      exact ⟨⟨_, rfl, by rw [HP.out]; simpa [OwnStrs] using hown7⟩, hX7⟩
end Go.Proofs.YtacpchapgklcgaaGreatDoor
namespace Go.Proofs.YtacpchapgklcgaaGreatDoor
open Go Go.RowKit Go.Proofs
set_option maxHeartbeats 400000
def cellsR (x : ByteArray) : List RuleD := (splitS x 44).map fun c => (ruleOfB c).getD noR
/-- The machine of a text. -/
def parseM (s : ByteArray) : MachD := ⟨(splitS ((splitS s 59).getD 0 ⟨#[]⟩) 44).length, (splitS s 59).length, (splitS s 59).flatMap cellsR⟩
def parseOk (s : ByteArray) : Bool := decide (s.size ≤ 1000) && decide ((splitS s 59).length ≤ 100) && decide ((splitS ((splitS s 59).getD 0 ⟨#[]⟩) 44).length ≤ 6) &&
  ((splitS s 59).all fun x => decide (x.size ≤ 1000) && decide ((splitS x 44).length = (splitS ((splitS s 59).getD 0 ⟨#[]⟩) 44).length) && (splitS x 44).all fun c => (ruleOfB c).isSome) && machOk (parseM s)
theorem splitS_pos (s : ByteArray) (d : Nat) : 0 < (splitS s d).length := by simp [splitS]
/-- The machine under way, in memory. -/
structure RdSt (g go : Nat) (w0 : World) (sy st : Int) (rs : List RuleD) (rv : Value) (w : World) : Prop where
  res : Blk w g 26 #[.int .i64 0, .int .i64 0, .slice none 0 0]
  mac : Blk w go 26 #[.int .i64 sy, .int .i64 st, rv]
  own : w.ownsRow g 38 3 rv rs.length (rvs rs)
  ex : Ext w0 w
  low : g < go
theorem RdSt.ext {g go : Nat} {w0 : World} {sy st : Int} {rs : List RuleD} {rv : Value} {w w' : World} (h : RdSt g go w0 sy st rs rv w) (he : Ext w w') : RdSt g go w0 sy st rs rv w' :=
  ⟨h.res.ext he, h.mac.ext he, ownsRow_ext h.own he, h.ex.trans he, h.low⟩
theorem RdSt.snoc {g go : Nat} {w0 : World} {sy st : Int} {rs : List RuleD} {rv : Value} {w w2 : World} {v' : Value} {r : RuleD} (h : RdSt g go w0 sy st rs rv w) (hg0 : w0.heap.size = g)
    (hown : w2.ownsRow g 38 3 v' (rs.length + 1) (rvs rs ++ [.int .i64 r.w, .int .i64 r.m, .int .i64 r.n])) (hg : w.grownBy w2 rv.ownBlock) :
    RdSt g go w0 sy st (rs ++ [r]) v' (w2.setCell ⟨go, 2, none⟩ v') := by
  have hro : ∀ k, rv.ownBlock = some k → g ≤ k := fun k hk => (h.own.lt k hk).1
  have m2 := Blk.apart h.mac h.own (by decide) hg
  have r2 := Blk.apart h.res h.own (by decide) hg
  have g2 : Ext w0 w2 := h.ex.grown hg (fun k hk => by have := hro k hk; omega)
  have hlow := h.low
  have far : ∀ k, v'.ownBlock = some k → k ≠ go := by
    intro k hk he
    subst he
    rcases hown.2 with ⟨rfl, _⟩ | ⟨g', cap, cur, rfl, _, hh, _⟩
    · simp [Value.ownBlock] at hk
    · have : g' = k := by simpa [Value.ownBlock] using hk
      subst this
      unfold Blk at m2
      rw [m2] at hh
      injection hh with hh
      injection hh with _ ht
      exact absurd ht (by decide)
  refine ⟨r2.far (by simp; omega) _, m2.set_ 2 _, ?_, g2.setCell (by simp; omega) _, hlow⟩
  have := ownsRow_far (p := ⟨go, 2, none⟩) hown far v'
  rw [List.length_append, List.length_cons, List.length_nil, rvs_append]
  exact this
theorem news3' (w : World) (a b c : Value) (t : TypeId) (g : Nat) (hg : w.heap.size = g) : ∀ j u, [a, b, c][j]? = some u → (w.alloc (.cells #[a, b, c] t)).cell? ((⟨g, 0, none⟩ : Addr).add j) = some u :=
  World.news_of_block (cs := #[a, b, c]) (Blk.new w g t #[a, b, c] hg)
theorem ruleInfo3 : (Tryz.prog.info? 38).map (fun i => (i.zero, i.size, i.bytes)) = some (some (.agg #[.int .i64 0, .int .i64 0, .int .i64 0]), 3, 24) := by kernel_rfl
theorem flat_take {rows : List ByteArray} {i : Nat} (h : i < rows.length) : (rows.take (i + 1)).flatMap cellsR = (rows.take i).flatMap cellsR ++ cellsR rows[i] := by
  rw [List.take_succ_eq_append_getElem h, List.flatMap_append]; simp
theorem cells_take {x : ByteArray} {k : Nat} (h : k < (splitS x 44).length) : (cellsR x).take (k + 1) = (cellsR x).take k ++ [(ruleOfB (splitS x 44)[k]).getD noR] := by
  have hl : k < (cellsR x).length := by simpa [cellsR] using h
  rw [List.take_succ_eq_append_getElem hl]
  simp [cellsR]
theorem flat_len {rows : List ByteArray} {K : Nat} (h : ∀ x ∈ rows, (splitS x 44).length = K) : (rows.flatMap cellsR).length = rows.length * K := by
  induction rows with
  | nil => simp
  | cons a l ih =>
    have h1 := h a List.mem_cons_self
    have h2 := ih fun x hx => h x (List.mem_cons_of_mem _ hx)
    simp only [List.flatMap_cons, List.length_append, List.length_cons, h2, Nat.succ_mul]
    simp [cellsR, h1]; omega
theorem own_far_blk {w : World} {base : Nat} {e : TypeId} {size : Nat} {v : Value} {n : Nat} {xs : List Value} (ho : w.ownsRow base e size v n xs) {g : Nat} {t : TypeId} {cs : Array Value} (hb : Blk w g t cs) (hne : t ≠ e) : ∀ k, v.ownBlock = some k → k ≠ g := by
  intro k hk he
  subst he
  rcases ho.2 with ⟨rfl, _⟩ | ⟨g', cap, cur, rfl, _, hh, _⟩
  · simp [Value.ownBlock] at hk
  · have : g' = k := by simpa [Value.ownBlock] using hk
    subst this
    unfold Blk at hb
    rw [hb] at hh
    injection hh with hh
    injection hh with _ ht
    exact hne ht
theorem OwnStrs.keptR {b b' : Nat} {w w2 : World} {v rv : Value} {xs : List ByteArray} {n : Nat} {ys : List Value} {go : Nat} {cs : Array Value} (h : OwnStrs b w v xs) (ho : w.ownsRow b' 38 3 rv n ys) (hb : Blk w go 26 cs) (hg : w.grownBy w2 rv.ownBlock) (u : Value) : OwnStrs b (w2.setCell ⟨go, 2, none⟩ u) v xs := by
  have h2 : w2.ownsRow b 9 1 v xs.length (xs.map Value.string) := World.ownsRow.kept h hg (own_ne h ho (by decide))
  exact ownsRow_far (p := ⟨go, 2, none⟩) h2 (own_far_blk h2 (Blk.apart hb ho (by decide) hg) (by decide)) u
set_option maxRecDepth 20000 in
set_option maxHeartbeats 4000000 in
theorem l05Read_c (s : ByteArray) (w : World) (h : parseOk s = true) :
    Calls Tryz.prog 131 #[.string s] w fun e w' => (∃ rv, e = .returned (.tuple #[.agg #[.int .i64 (parseM s).sy, .int .i64 (parseM s).st, rv], .bool true]) ∧ OwnRules w.heap.size w' rv (parseM s).rules) ∧ Ext w w' := by
  obtain ⟨i0, hi, hz0, hz1, hz2⟩ := info_parts ruleInfo3
  simp only [parseOk, Bool.and_eq_true, decide_eq_true_eq, List.all_eq_true] at h
  obtain ⟨⟨⟨⟨h1, h2⟩, h3⟩, h4⟩, h5⟩ := h
  have hpos := splitS_pos s 59
  have HM : Hid (parseM s = ⟨(splitS ((splitS s 59).getD 0 ⟨#[]⟩) 44).length, (splitS s 59).length, (splitS s 59).flatMap cellsR⟩) := rfl
  generalize hrows : splitS s 59 = rows at *
  have HR := Lib.hid hrows
  clear hrows
  have h0 : rows.getD 0 ⟨#[]⟩ = rows[0] := by rw [List.getD_eq_getElem?_getD, List.getElem?_eq_getElem hpos]; rfl
  rw [h0] at HM h3 h4
  generalize hK : (splitS rows[0] 44).length = K at *
  have HK := Lib.hid hK
  have HX := Lib.hid h4
  have HFL := Lib.hid (flat_len (rows := rows) (K := K) fun x hx => (h4 x hx).1.2)
  have HOK := Lib.hid h5
  obtain ⟨W, hW⟩ : ∃ W, W = w.alloc (.cells #[.int .i64 0, .int .i64 0, .slice none 0 0] 26) := ⟨_, rfl⟩
  have hX0 : Ext w W := by rw [hW]; exact Ext.alloc _ _
  have bR : Blk W w.heap.size 26 #[.int .i64 0, .int .i64 0, .slice none 0 0] := by rw [hW]; exact Blk.new _ _ _ _ rfl
  have hb0 := bR.lt
  clear hK h4 h5
  go_enter Tryz.func131, Tryz.ntmps131
  go_wp2_with fail
  rw [← hW]
  clear hW
  refine (l01Split_c s 59 W h1).mono ?_
  rintro e w1 ⟨⟨u1, rfl, ho1⟩, hx1⟩
  rw [HR.out] at ho1
  obtain ⟨A1, c1, rfl, k1, k2, _⟩ := (ownsRow_row ho1).form
  obtain ⟨g1, rfl, q0⟩ := ho1.cell hpos
  have hp0 : (0 : Int) < (rows.length : Int) := by omega
  have hle : decide (1000 < rows.length) = false := by simp; omega
  have hle' : decide ((1000 : Int) < (rows.length : Int)) = false := by simp; omega
  have hx0s : rows[0].size ≤ 1000 := (HX.out rows[0] (List.getElem_mem hpos)).1.1
  generalize rows[0] = r0 at *
  go_wp2_with fail
  refine (l01Split_c r0 44 w1 hx0s).mono ?_
  rintro e w2 ⟨⟨u2, rfl, ho2⟩, hx2⟩
  obtain ⟨A2, c2, rfl, _, _, _⟩ := (ownsRow_row ho2).form
  rw [HK.out]
  have hb2 : w.heap.size < w2.heap.size := (bR.ext (hx1.trans hx2)).lt
  obtain ⟨W2, hW2⟩ : ∃ V, V = w2.alloc (.cells #[.int .i64 K, .int .i64 rows.length, .slice none 0 0] 26) := ⟨_, rfl⟩
  have hXW2 : Ext w2 W2 := by rw [hW2]; exact Ext.alloc _ _
  have st0 : RdSt w.heap.size w2.heap.size w K rows.length [] (.slice none 0 0) W2 :=
    ⟨bR.ext ((hx1.trans hx2).trans hXW2), by rw [hW2]; exact Blk.new _ _ _ _ rfl, ⟨by simp [rvs], .inl ⟨rfl, rfl⟩⟩, ((hX0.trans hx1).trans hx2).trans hXW2, hb2⟩
  have os0 : OwnStrs w.heap.size W2 (.slice (some ⟨g1, 0, none⟩) rows.length c1) rows := ((show OwnStrs w.heap.size w1 _ rows from ownsRow_base ho1 hX0.size).ext hx2).ext hXW2
  clear ho1 q0 ho2
  go_wp2
  rw [← hW2]
  clear hW2
  generalize hgo : w2.heap.size = go at *
  generalize hg : w.heap.size = g at *
  have HG := Lib.hid hg
  clear hgo hg
  go_loopw [6] (fun i wr => ∃ (j : Nat) (rv : Value), j ≤ rows.length ∧ i = .int .i64 j ∧ RdSt g go w K rows.length ((rows.take j).flatMap cellsR) rv wr ∧ OwnStrs g wr (.slice (some ⟨g1, 0, none⟩) rows.length c1) rows) (fun i _ => rows.length - (intOf i).toNat)
  case atStart => exact ⟨0, .slice none 0 0, Nat.zero_le _, rfl, by simpa using st0, os0⟩
  case round =>
    clear st0 os0
    obtain ⟨j, rv, hj, rfl, hst, hos⟩ := hrel
    by_cases hlt : j < rows.length
    · obtain ⟨g1', hg1', q0⟩ := hos.cell hlt
      obtain rfl : g1 = g1' := by simpa using hg1'
      obtain ⟨⟨x1, x2⟩, x3⟩ := HX.out rows[j] (List.getElem_mem hlt)
      have HFT := Lib.hid (flat_take hlt)
      have HFL2 : Hid (((rows.take j).flatMap cellsR).length + K ≤ 600) := by
        unfold Hid
        have e : ((rows.take j).flatMap cellsR).length = (rows.take j).length * K := flat_len fun x hx => (HX.out x (List.mem_of_mem_take hx)).1.2
        rw [e]
        have e2 : (rows.take j).length = j := by simp; omega
        rw [e2]
        have : j * K + K ≤ 100 * 6 := by
          rw [← Nat.succ_mul]
          exact Nat.mul_le_mul (by omega) h3
        omega
      generalize rows[j] = row at *
      generalize (rows.take j).flatMap cellsR = pre at *
      have X2 := Lib.hid x2
      have X3 := Lib.hid x3
      clear x2 x3 hg1'
      generalize wr = W3 at *
      go_wp2_with fail
      refine (l01Split_c row 44 W3 x1).mono ?_
      rintro e w4 ⟨⟨u4, rfl, ho4⟩, hx4⟩
      obtain ⟨A4, c4, rfl, _, _, _⟩ := (ownsRow_row ho4).form
      have st4 := hst.ext hx4
      have os4 := hos.ext hx4
      have oc4 : OwnStrs g w4 (.slice A4 (splitS row 44).length c4) (splitS row 44) := ownsRow_base ho4 (by have := hst.ex.size; have := HG.out; omega)
      have HCL : Hid (cellsR row = (splitS row 44).map fun c => (ruleOfB c).getD noR) := rfl
      have HCT := Lib.hid (fun k (h : k < (splitS row 44).length) => cells_take h)
      have HC3 := Lib.hid (fun k (h : k < (splitS row 44).length) => X3.out (splitS row 44)[k] (List.getElem_mem h))
      have X2' : Hid ((splitS row 44).length = K) := X2.out
      clear X3 X2
      obtain ⟨cr, hcr⟩ : ∃ cr, cellsR row = cr := ⟨_, rfl⟩
      have HCR : Hid (cr.length = K) := by unfold Hid; rw [← hcr]; simp [cellsR]; exact X2'.out
      rw [hcr] at HFT HCT
      clear hcr HCL
      generalize splitS row 44 = cs at *
      have hcl : cs.length ≤ 6 := by rw [X2'.out]; exact h3
      have hneq : ((cs.length : Int) != (K : Int)) = false := by rw [X2'.out]; simp
      have hk6 : decide ((6 : Int) < (K : Int)) = false := by simp; omega
      have hk6' : decide (6 < K) = false := by simp; omega
      have m0 := st4.mac.cell 0
      simp only [List.getElem?_toArray, List.getElem?_cons_zero] at m0
      have HPL : Hid (pre.length + cs.length ≤ 600) := by unfold Hid; rw [X2'.out]; exact HFL2.out
      clear HFL2 ho4 hst hos q0
      go_wp2
      clear m0
      go_loopw [8] (fun i wr => ∃ (k : Nat) (rv : Value), k ≤ cs.length ∧ i = .int .i64 k ∧ RdSt g go w K rows.length (pre ++ cr.take k) rv wr ∧ OwnStrs g wr (.slice (some ⟨g1, 0, none⟩) rows.length c1) rows ∧ OwnStrs g wr (.slice A4 cs.length c4) cs) (fun i _ => cs.length - (intOf i).toNat)
      case atStart => exact ⟨0, rv, Nat.zero_le _, rfl, by simpa using st4, os4, oc4⟩
      case round =>
        clear st4 os4 oc4
        obtain ⟨k, rv, hk, rfl, hst, hos, hoc⟩ := hrel
        by_cases hlt2 : k < cs.length
        · obtain ⟨g4, rfl, q4⟩ := hoc.cell hlt2
          have HS := HC3.out k hlt2
          obtain ⟨r, hr⟩ := Option.isSome_iff_exists.1 HS
          have HCK : Hid (cr.take (k + 1) = cr.take k ++ [r]) := by unfold Hid; rw [HCT.out k hlt2, hr]; rfl
          have hlen : (pre ++ cr.take k).length ≤ 600 := by
            have := HPL.out
            simp only [List.length_append, List.length_take]
            omega
          have HR2 := Lib.hid hr
          clear hr HS
          generalize cs[k] = cell at *
          obtain ⟨acc, hacc⟩ : ∃ acc, pre ++ cr.take k = acc := ⟨_, rfl⟩
          have HAC : Hid (pre ++ cr.take (k + 1) = acc ++ [r]) := by unfold Hid; rw [HCK.out, ← hacc, List.append_assoc]
          rw [hacc] at hst hlen
          clear hacc
          go_wp2_with fail
          refine (l05ReadRule_c cell r wr HR2.out).mono ?_
          rintro e w5 ⟨rfl, hx5⟩
          have st5 := hst.ext hx5
          have os5 := hos.ext hx5
          have oc5 := hoc.ext hx5
          obtain ⟨A, c, rfl, k3, k4, _⟩ := (ownsRow_row st5.own).form
          obtain ⟨V, hV⟩ : ∃ V, V = w5.alloc (.cells #[.int .i64 r.w, .int .i64 r.m, .int .i64 r.n] 38) := ⟨_, rfl⟩
          have hXV : Ext w5 V := by rw [hV]; exact Ext.alloc _ _
          have stV := st5.ext hXV
          have c6 := stV.mac.cell 2
          simp only [List.getElem?_toArray, List.getElem?_cons_zero, List.getElem?_cons_succ] at c6
          have bV : Blk V w5.heap.size 38 #[.int .i64 r.w, .int .i64 r.m, .int .i64 r.n] := by rw [hV]; exact Blk.new _ _ _ _ rfl
          have sz6 : g ≤ w5.heap.size := by have := st5.mac.lt; have := st5.low; omega
          rw [hV] at c6
          clear q4
          go_wp2_with (at_builtin; refine wpList_append_own_at _ rfl _ _ 24 rfl g 38 i0 _ 3 24 Tryz.underlying24 hi hz0 hz1 hz2 rfl (by decide) _ _ _ rfl (World.ownsRow.alloc (World.ownsRow.alloc st5.own _) _) ⟨w5.heap.size + 1, 0, none⟩ 1 1 [.int .i64 r.w, .int .i64 r.m, .int .i64 r.n] rfl rfl (news3' _ _ _ _ _ _ (by simp)) ?c2 ?c3 ?c4 ?c5 ?_)
          case c2 => intro u hu; simp at hu; rcases hu with rfl | rfl | rfl <;> rfl
          case c3 => unfold maxLen; omega
          case c4 => omega
          case c5 => simp; omega
          intro v' w7 hown7 hg7 _ _
          have hXa : Ext w5 ((w5.alloc (.cells #[.int .i64 r.w, .int .i64 r.m, .int .i64 r.n] 38)).alloc (.cells #[.int .i64 r.w, .int .i64 r.m, .int .i64 r.n] 38)) := (Ext.alloc _ _).trans (Ext.alloc _ _)
          have st7 := (st5.ext hXa).snoc HG.out hown7 hg7
          have os7 := (os5.ext hXa).keptR (st5.ext hXa).own (st5.ext hXa).mac hg7 v'
          have oc7 := (oc5.ext hXa).keptR (st5.ext hXa).own (st5.ext hXa).mac hg7 v'
          have m7 := Blk.apart (st5.ext hXa).mac (st5.ext hXa).own (by decide) hg7
          obtain ⟨A', c', rfl, _, _, _⟩ := (ownsRow_row hown7).form
          have cz := m7.cell 2
          have fz := m7.frozen 2
          simp only [List.getElem?_toArray, List.getElem?_cons_zero, List.getElem?_cons_succ] at cz
          have ST := Lib.hid st7
          clear st7 st5 stV hst hos hoc os5 oc5 bV c6 hV
          go_wp2
          go_roundw
          case rel => exact ⟨k + 1, _, by omega, by go_num, by rw [HAC.out]; exact ST.out, os7, oc7⟩
          case measure => simp [intOf]; omega
        · have HE : Hid (pre ++ cr.take k = pre ++ cr) := by unfold Hid; rw [List.take_of_length_le (by rw [HCR.out, ← X2'.out]; omega)]
          rw [HE.out] at hst
          go_wp2
          go_roundw
          case rel => exact ⟨j + 1, rv, by omega, by go_num, by rw [HFT.out]; exact hst, hos⟩
          case measure => simp [intOf]; omega
    · have HE : Hid ((rows.take j).flatMap cellsR = rows.flatMap cellsR) := by unfold Hid; rw [List.take_of_length_le (by omega)]
      rw [HE.out] at hst
      obtain ⟨A, c, rfl, k3, k4, _⟩ := (ownsRow_row hst.own).form
      have m0 := hst.mac.cell 0
      have m1 := hst.mac.cell 1
      have m2 := hst.mac.cell 2
      simp only [List.getElem?_toArray, List.getElem?_cons_zero, List.getElem?_cons_succ] at m0 m1 m2
      have HMA := Lib.hid (show MachAt wr go ⟨K, rows.length, rows.flatMap cellsR⟩ from ⟨_, m0, m1, m2, ownsRow_row hst.own⟩)
      clear m0 m1 m2
      go_wp2_with fail
      refine (l05Is_c _ _ _ HMA.out).mono ?_
      rintro e w6 ⟨rfl, hx6⟩
      have hok : machOk ⟨K, rows.length, rows.flatMap cellsR⟩ = true := by rw [← HM.out]; exact HOK.out
      rw [hok]
      have st6 := hst.ext hx6
      have m0 := st6.mac.cell 0
      have m1 := st6.mac.cell 1
      have m2 := st6.mac.cell 2
      simp only [List.getElem?_toArray, List.getElem?_cons_zero, List.getElem?_cons_succ] at m0 m1 m2
      have d := st6.res.cell
      have f := st6.res.frozen
      have hne : g ≠ go := by have := st6.low; omega
      have hgl : w.heap.size ≤ g := Nat.le_of_eq HG.out
      go_wp2
      refine bodyPost_ret (v := .tuple #[.agg #[.int .i64 K, .int .i64 rows.length, .slice A (rows.flatMap cellsR).length c], .bool true]) (by simp [results, Tryz.results131, go_sem, d]) rfl ⟨⟨.slice A (rows.flatMap cellsR).length c, by rw [HM.out], ?_⟩, ?_⟩
      · rw [HM.out, HG.out]
        have hfar := own_far_blk st6.own st6.res (by decide)
        exact ownsRow_far (ownsRow_far (ownsRow_far st6.own hfar _) hfar _) hfar _
      · exact ((st6.ex.setCell hgl _).setCell hgl _).setCell hgl _
end Go.Proofs.YtacpchapgklcgaaGreatDoor
namespace Go.Proofs.YtacpchapgklcgaaGreatDoor
open Go Go.RowKit Go.Proofs
set_option maxHeartbeats 400000
theorem grownBy_step {w a c : World} {r r' : Option Nat} (h : w.grownBy a r) (k : a.grownBy c r') (hr : ∀ k, r' = some k → w.heap.size ≤ k ∨ r = some k) : w.grownBy c r :=
  ⟨k.os.trans h.os, k.tape.trans h.tape, k.output.trans h.output, Nat.le_trans h.size k.size, fun i hi hne => (k.block i (Nat.lt_of_lt_of_le hi h.size) (fun e => by
    rcases hr i e.symm with c | c
    · omega
    · exact hne c.symm)).trans (h.block i hi hne)⟩
theorem ext_grownBy {a b : World} (h : Ext a b) (row : Option Nat) : a.grownBy b row := ⟨Below.os h, Below.tape h, Below.output h, Below.size h, fun i hi _ => Below.block h i hi⟩
theorem set_grownBy (w : World) (p : Addr) (u : Value) : w.grownBy (w.setCell p u) (some p.block) :=
  ⟨rfl, rfl, rfl, by simp [World.setCell], fun k _ hk => Below.heap_setCell w p u k (fun e => hk (by rw [e]))⟩
theorem ruleInfo2 : (Tryz.prog.info? 38).map (fun i => (i.zero, i.size, i.bytes)) = some (some (.agg #[.int .i64 0, .int .i64 0, .int .i64 0]), 3, 24) := by kernel_rfl
/-- What a machine that is drawn is, in memory: its rules lie in blocks of the call's own. -/
structure DrawSt (B g b : Nat) (w0 : World) (sy st : Int) (n : Nat) (rs : List RuleD) (rv : Value) (w : World) : Prop where
  res : Blk w g 26 #[.int .i64 0, .int .i64 0, .slice none 0 0]
  mac : Blk w (g + 1) 26 #[.int .i64 sy, .int .i64 st, rv]
  own : w.ownsRow g 38 3 rv rs.length (rvs rs)
  src : Src B w b n
  grown : w0.grownBy w (some b)
theorem DrawSt.src' {B g b : Nat} {w0 : World} {sy st : Int} {n n' : Nat} {rs : List RuleD} {rv : Value} {w w' : World} (h : DrawSt B g b w0 sy st n rs rv w) (hs : Src B w' b n') (hg : w.grownBy w' (some b)) : DrawSt B g b w0 sy st n' rs rv w' :=
  ⟨blk_src h.src hg h.res (by decide), blk_src h.src hg h.mac (by decide), own_src h.src hg h.own (by decide), hs, grownBy_trans h.grown hg⟩
theorem DrawSt.ext {B g b : Nat} {w0 : World} {sy st : Int} {n : Nat} {rs : List RuleD} {rv : Value} {w w' : World} (h : DrawSt B g b w0 sy st n rs rv w) (he : Ext w w') : DrawSt B g b w0 sy st n rs rv w' :=
  ⟨h.res.ext he, h.mac.ext he, ownsRow_ext h.own he, h.src.ext he, grownBy_trans h.grown (ext_grownBy he _)⟩
/-- A further rule is appended. -/
theorem DrawSt.snoc {B g b : Nat} {w0 : World} {sy st : Int} {n : Nat} {rs : List RuleD} {rv : Value} {w w2 : World} {v' : Value} {r : RuleD} (h : DrawSt B g b w0 sy st n rs rv w) (hg0 : w0.heap.size = g) (hB : B ≤ g) (hb : b < g)
    (hown : w2.ownsRow g 38 3 v' (rs.length + 1) (rvs rs ++ [.int .i64 r.w, .int .i64 r.m, .int .i64 r.n])) (hg : w.grownBy w2 rv.ownBlock) :
    DrawSt B g b w0 sy st n (rs ++ [r]) v' (w2.setCell ⟨g + 1, 2, none⟩ v') := by
  have hro : ∀ k, rv.ownBlock = some k → g ≤ k := fun k hk => (h.own.lt k hk).1
  have m2 := Blk.apart h.mac h.own (by decide) hg
  have r2 := Blk.apart h.res h.own (by decide) hg
  have s2 := h.src.kept hg (fun k hk => ⟨by have := hro k hk; omega, by have := hro k hk; omega⟩)
  have g2 := grownBy_step h.grown hg (fun k hk => .inl (by have := hro k hk; omega))
  have far : ∀ k, v'.ownBlock = some k → k ≠ g + 1 := by
    intro k hk he
    subst he
    rcases hown.2 with ⟨rfl, _⟩ | ⟨g', cap, cur, rfl, _, hh, _⟩
    · simp [Value.ownBlock] at hk
    · have : g' = g + 1 := by simpa [Value.ownBlock] using hk
      subst this
      unfold Blk at m2
      rw [m2] at hh
      injection hh with hh
      injection hh with _ ht
      exact absurd ht (by decide)
  refine ⟨r2.far (by simp) _, m2.set_ 2 _, ?_, s2.kept (set_grownBy _ _ _) (fun k hk => ?_), grownBy_step g2 (set_grownBy _ _ _) (fun k hk => ?_)⟩
  · have := ownsRow_far (p := ⟨g + 1, 2, none⟩) hown far v'
    rw [List.length_append, List.length_cons, List.length_nil, rvs_append]
    exact this
  · injection hk with hk
    subst hk
    exact ⟨by simp; omega, by simp; omega⟩
  · injection hk with hk
    subst hk
    exact .inl (by simp; omega)
theorem DrawSt.set {B g b : Nat} {w0 : World} {sy st : Int} {n : Nat} {rs : List RuleD} {rv : Value} {w : World} (h : DrawSt B g b w0 sy st n rs rv w) (hg0 : w0.heap.size = g) (hB : B ≤ g) (hb : b < g) {p : Addr} (hp : g + 1 < p.block) (hr : ∀ k, rv.ownBlock = some k → k ≠ p.block) (u : Value) : DrawSt B g b w0 sy st n rs rv (w.setCell p u) :=
  ⟨h.res.far (by omega) _, h.mac.far (by omega) _, ownsRow_far h.own hr _, h.src.kept (set_grownBy _ _ _) (fun k hk => by injection hk with hk; subst hk; exact ⟨by omega, by omega⟩),
   grownBy_step h.grown (set_grownBy _ _ _) (fun k hk => by injection hk with hk; subst hk; exact .inl (by omega))⟩
theorem news3 (w : World) (a b c : Value) (t : TypeId) (g : Nat) (hg : w.heap.size = g) : ∀ j u, [a, b, c][j]? = some u → (w.alloc (.cells #[a, b, c] t)).cell? ((⟨g, 0, none⟩ : Addr).add j) = some u :=
  World.news_of_block (cs := #[a, b, c]) (Blk.new w g t #[a, b, c] hg)
def DrawRes (B : Nat) (w : World) (b n : Nat) (sy st : Int) (e : Ending) (w' : World) : Prop :=
  (∃ rv rs, e = .returned (.agg #[.int .i64 sy, .int .i64 st, rv]) ∧ OwnRules w.heap.size w' rv rs ∧ (rs.length : Int) = sy * st ∧ ∀ r ∈ rs, ruleOk sy st r = true) ∧ Src B w' b (n + 500) ∧ w.grownBy w' (some b)
theorem mul36 {a b : Int} (h1 : 1 ≤ a) (h2 : a ≤ 6) (h3 : 1 ≤ b) (h4 : b ≤ 6) : 1 ≤ a * b ∧ a * b ≤ 36 := by
  obtain rfl | rfl | rfl | rfl | rfl | rfl : a = 1 ∨ a = 2 ∨ a = 3 ∨ a = 4 ∨ a = 5 ∨ a = 6 := by omega
  all_goals omega
set_option maxRecDepth 20000 in
set_option maxHeartbeats 2000000 in
theorem l05DrawSize_c (B b n : Nat) (sy st : Int) (w : World) (h : Src B w b n) (hB : B ≤ w.heap.size) (hn : n ≤ 100000000000) (h1 : 1 ≤ sy) (h2 : sy ≤ 6) (h3 : 1 ≤ st) (h4 : st ≤ 6) :
    Calls Tryz.prog 19 #[.pointer (some ⟨b, 0, none⟩), .int .i64 sy, .int .i64 st] w (DrawRes B w b n sy st) := by
  obtain ⟨i0, hi, hz0, hz1, hz2⟩ := info_parts ruleInfo2
  obtain ⟨m1, m2⟩ := mul36 h1 h2 h3 h4
  obtain ⟨N, hN⟩ : ∃ N : Nat, sy * st = (N : Int) := ⟨(sy * st).toNat, by omega⟩
  have hN1 : N ≤ 36 := by omega
  have HN := Lib.hid hN
  have hbl := h.lt
  obtain ⟨W, hW⟩ : ∃ W, W = (w.alloc (.cells #[.int .i64 0, .int .i64 0, .slice none 0 0] 26)).alloc (.cells #[.int .i64 sy, .int .i64 st, .slice none 0 0] 26) := ⟨_, rfl⟩
  have hX : Ext w W := by rw [hW]; exact (Ext.alloc _ _).trans (Ext.alloc _ _)
  have st0 : DrawSt B w.heap.size b w sy st n [] (.slice none 0 0) W :=
    ⟨by rw [hW]; exact (Blk.new _ _ _ _ rfl).alloc _, by rw [hW]; exact Blk.new _ _ _ _ (by simp), ⟨by simp [rvs], .inl ⟨rfl, rfl⟩⟩, h.ext hX, ext_grownBy hX _⟩
  generalize hg : w.heap.size = g at *
  have HG := Lib.hid hg
  have hmul : IntKind.i64.wrap (sy * st) = (N : Int) := by rw [IntWalk.i64_in _ (by omega)]; exact hN
  go_enter Tryz.func19, Tryz.ntmps19
  go_wp2
  rw [← hW]
  clear hW hg hmul hN m1 m2
  go_loopw [8] (fun i wr => ∃ (j : Nat) (rs : List RuleD) (rv : Value), j ≤ N ∧ i = .int .i64 ((N : Int) - j) ∧ rs.length = j ∧ DrawSt B g b w sy st (n + 8 * j) rs rv wr ∧ Hid (∀ r ∈ rs, ruleOk sy st r = true)) (fun i _ => (intOf i).toNat)
  case atStart => exact ⟨0, [], .slice none 0 0, Nat.zero_le _, by simp, rfl, st0, Lib.hid (fun r hr => by simp at hr)⟩
  case round =>
    clear st0 h
    obtain ⟨j, rs, rv, hj, rfl, rfl, hst, HOK⟩ := hrel
    by_cases hlt : rs.length < N
    · have hgt : decide ((0 : Int) < (N : Int) - rs.length) = true := by simp; omega
      go_wp2_with fail
      refine (pick_c B b _ sy _ hst.src (by omega)).mono ?_
      rintro e w1 ⟨⟨x0, rfl, p0, p1, p2⟩, hs1, hg1⟩
      have hp : 0 ≤ x0 ∧ x0 ≤ sy - 1 := by
        by_cases hq : sy ≤ 1
        · have := p1 hq; omega
        · have := p2 (by omega); omega
      have HP := Lib.hid hp
      clear p0 p1 p2 hp
      have st1 := hst.src' hs1 hg1
      go_wp2_with fail
      refine (pick_c B b _ 2 _ hs1 (by omega)).mono ?_
      rintro e w2 ⟨⟨x1, rfl, y0, y1, y2⟩, hs2, hg2⟩
      have st2 := st1.src' hs2 hg2
      have y3 := y2 (by omega)
      go_wp2_with fail
      refine (pick_c B b _ st _ hs2 (by omega)).mono ?_
      rintro e w3 ⟨⟨x2, rfl, p0, p1, p2⟩, hs3, hg3⟩
      have hp : 0 ≤ x2 ∧ x2 ≤ st - 1 := by
        by_cases hq : st ≤ 1
        · have := p1 hq; omega
        · have := p2 (by omega); omega
      have HR : Hid (ruleOk sy st ⟨x0, 2 * x1 - 1, x2⟩ = true) := Lib.hid (by
        have := HP.out
        simp only [ruleOk, inB, Bool.or_eq_true, Bool.and_eq_true, decide_eq_true_eq, beq_iff_eq]
        right
        refine ⟨⟨by omega, by omega⟩, by omega⟩)
      clear p0 p1 p2 hp HP
      have st3 := st2.src' hs3 hg3
      obtain ⟨x1', hx1'⟩ : ∃ x, 2 * x1 - 1 = x := ⟨_, rfl⟩
      have e1 : IntKind.i64.wrap (2 * x1) = 2 * x1 := IntWalk.i64_in _ (by omega)
      have e2 : IntKind.i64.wrap (2 * x1 - 1) = 2 * x1 - 1 := IntWalk.i64_in _ (by omega)
      obtain ⟨V, hV⟩ : ∃ V, V = w3.alloc (.cells #[.int .i64 x0, .int .i64 (2 * x1 - 1), .int .i64 x2] 38) := ⟨_, rfl⟩
      have hXV : Ext w3 V := by rw [hV]; exact Ext.alloc _ _
      have bV : Blk V w3.heap.size 38 #[.int .i64 x0, .int .i64 (2 * x1 - 1), .int .i64 x2] := by rw [hV]; exact Blk.new _ _ _ _ rfl
      have stV := st3.ext hXV
      clear hx1'
      go_wp2_with fail
      rw [← hV]
      clear hV e1 e2
      refine (one_c B b _ 7 V stV.src (by omega)).mono ?_
      rintro e w4 ⟨⟨q, rfl⟩, hs4, hg4⟩
      have st4 := stV.src' hs4 hg4
      have b4 := blk_src stV.src hg4 bV (by decide)
      have hbr := b4.lt
      have hbig : g + 1 < w3.heap.size := st3.mac.lt
      have hfar : ∀ k, rv.ownBlock = some k → k ≠ w3.heap.size := fun k hk => by have := (st3.own.lt k hk).2; omega
      have hsz4 : w3.heap.size < w4.heap.size := hbr
      cases q with
      | true =>
        go_wp2_with fail
        refine (l05None_c _).mono ?_
        rintro e w5 ⟨rfl, hx5⟩
        have st5 := ((((st4.ext hx5).set HG.out hB hbl (p := ⟨w3.heap.size, 0, none⟩) hbig hfar (.int .i64 0)).set HG.out hB hbl (p := ⟨w3.heap.size, 1, none⟩) hbig hfar (.int .i64 0)).set HG.out hB hbl (p := ⟨w3.heap.size, 2, none⟩) hbig hfar (.int .i64 (-1)))
        have b5 : Blk (((w5.setCell ⟨w3.heap.size, 0, none⟩ (.int .i64 0)).setCell ⟨w3.heap.size, 1, none⟩ (.int .i64 0)).setCell ⟨w3.heap.size, 2, none⟩ (.int .i64 (-1))) w3.heap.size 38 #[.int .i64 0, .int .i64 0, .int .i64 (-1)] := (((b4.ext hx5).set_ 0 _).set_ 1 _).set_ 2 _
        have c5 := (b4.ext hx5).cell
        have f5 := (b4.ext hx5).frozen
        obtain ⟨A, c, rfl, k1, k2, _⟩ := (ownsRow_row st5.own).form
        have c6 := st5.mac.cell 2
        simp only [List.getElem?_toArray, List.getElem?_cons_zero, List.getElem?_cons_succ] at c6
        have hl5 : rs.length ≤ 36 := by omega
        have z0 := b5.cell 0
        have z1 := b5.cell 1
        have z2 := b5.cell 2
        simp only [List.getElem?_toArray, List.getElem?_cons_zero, List.getElem?_cons_succ] at z0 z1 z2
        have sz6 : g ≤ w5.heap.size := by have := hx5.size; omega
        go_wp2_with (at_builtin; refine wpList_append_own_at _ rfl _ _ 24 rfl g 38 i0 _ 3 24 Tryz.underlying24 hi hz0 hz1 hz2 rfl (by decide) _ _ _ rfl (st5.own.alloc _) ⟨w5.heap.size, 0, none⟩ 1 1 [.int .i64 0, .int .i64 0, .int .i64 (-1)] rfl rfl (news3 _ _ _ _ _ _ (by simp [World.setCell])) ?c2 ?c3 ?c4 ?c5 ?_)
        case c2 => intro u hu; simp at hu; rcases hu with rfl | rfl <;> rfl
        case c3 => unfold maxLen; omega
        case c4 => omega
        case c5 => simp [World.setCell]; omega
        intro v' w7 hown7 hg7 _ _
        obtain ⟨A', c', rfl, _, _, _⟩ := (ownsRow_row hown7).form
        have st7 := (st5.ext (Ext.alloc _ (.cells #[.int .i64 0, .int .i64 0, .int .i64 (-1)] 38))).snoc (r := ⟨0, 0, -1⟩) HG.out hB hbl hown7 hg7
        have m7 := Blk.apart (st5.mac.alloc (.cells #[.int .i64 0, .int .i64 0, .int .i64 (-1)] 38)) (st5.own.alloc (.cells #[.int .i64 0, .int .i64 0, .int .i64 (-1)] 38)) (by decide) hg7
        have cz := m7.cell 2
        have fz := m7.frozen 2
        simp only [List.getElem?_toArray, List.getElem?_cons_zero, List.getElem?_cons_succ] at cz
        have ST := Lib.hid st7
        clear st7 st5 st4 st3 st2 st1 stV hst b5 b4 bV c6 z0 z1 z2 c5 f5
        go_wp2
        go_roundw
        case rel => exact ⟨rs.length + 1, rs ++ [⟨0, 0, -1⟩], _, by omega, by congr 1; omega, by simp, by
          have e : n + 8 * (rs.length + 1) = n + 8 * rs.length + 2 + 2 + 2 + 2 := by omega
          rw [e]; exact ST.out, Lib.hid (fun r hr => by
          rcases List.mem_append.1 hr with hr | hr
          · exact HOK.out r hr
          · rw [List.mem_singleton.1 hr]; simp [ruleOk, noR])⟩
        case measure => simp [intOf]; omega
      | false =>
        have b5 := b4
        have st5 := st4
        obtain ⟨A, c, rfl, k1, k2, _⟩ := (ownsRow_row st5.own).form
        have c6 := st5.mac.cell 2
        simp only [List.getElem?_toArray, List.getElem?_cons_zero, List.getElem?_cons_succ] at c6
        have hl5 : rs.length ≤ 36 := by omega
        have z0 := b5.cell 0
        have z1 := b5.cell 1
        have z2 := b5.cell 2
        simp only [List.getElem?_toArray, List.getElem?_cons_zero, List.getElem?_cons_succ] at z0 z1 z2
        have sz6 : g ≤ w4.heap.size := by have := st5.mac.lt; omega
        go_wp2_with (at_builtin; refine wpList_append_own_at _ rfl _ _ 24 rfl g 38 i0 _ 3 24 Tryz.underlying24 hi hz0 hz1 hz2 rfl (by decide) _ _ _ rfl (st5.own.alloc _) ⟨w4.heap.size, 0, none⟩ 1 1 [.int .i64 x0, .int .i64 (2 * x1 - 1), .int .i64 x2] rfl rfl (news3 _ _ _ _ _ _ rfl) ?c2 ?c3 ?c4 ?c5 ?_)
        case c2 => intro u hu; simp at hu; rcases hu with rfl | rfl | rfl <;> rfl
        case c3 => unfold maxLen; omega
        case c4 => omega
        case c5 => simp; omega
        intro v' w7 hown7 hg7 _ _
        obtain ⟨A', c', rfl, _, _, _⟩ := (ownsRow_row hown7).form
        have st7 := (st5.ext (Ext.alloc w4 (.cells #[.int .i64 x0, .int .i64 (2 * x1 - 1), .int .i64 x2] 38))).snoc (r := ⟨x0, 2 * x1 - 1, x2⟩) HG.out hB hbl hown7 hg7
        have m7 := Blk.apart (st5.mac.alloc (.cells #[.int .i64 x0, .int .i64 (2 * x1 - 1), .int .i64 x2] 38)) (st5.own.alloc (.cells #[.int .i64 x0, .int .i64 (2 * x1 - 1), .int .i64 x2] 38)) (by decide) hg7
        have cz := m7.cell 2
        have fz := m7.frozen 2
        simp only [List.getElem?_toArray, List.getElem?_cons_zero, List.getElem?_cons_succ] at cz
        have ST := Lib.hid st7
        clear st7 st5 st4 st3 st2 st1 stV hst b5 b4 bV c6 z0 z1 z2
        go_wp2
        go_roundw
        case rel => exact ⟨rs.length + 1, rs ++ [⟨x0, 2 * x1 - 1, x2⟩], _, by omega, by congr 1; omega, by simp, by
          have e : n + 8 * (rs.length + 1) = n + 8 * rs.length + 2 + 2 + 2 + 2 := by omega
          rw [e]; exact ST.out, Lib.hid (fun r hr => by
          rcases List.mem_append.1 hr with hr | hr
          · exact HOK.out r hr
          · rw [List.mem_singleton.1 hr]; exact HR.out)⟩
        case measure => simp [intOf]; omega
    · have hje : rs.length = N := by omega
      have hgt : decide ((0 : Int) < (N : Int) - rs.length) = false := by simp; omega
      obtain ⟨A, c, rfl, k1, k2, _⟩ := (ownsRow_row hst.own).form
      have c0 := hst.mac.cell 0
      have c1 := hst.mac.cell 1
      have c2 := hst.mac.cell 2
      simp only [List.getElem?_toArray, List.getElem?_cons_zero, List.getElem?_cons_succ] at c0 c1 c2
      have d := hst.res.cell
      have f := hst.res.frozen
      have hne : g ≠ g + 1 := by omega
      have HJ := Lib.hid hje
      clear hje
      go_wp2
      refine bodyPost_ret (v := .agg #[.int .i64 sy, .int .i64 st, .slice A rs.length c]) (by simp [results, Tryz.results19, go_sem, d]) rfl ⟨⟨_, rs, rfl, ?_, by rw [HN.out, HJ.out], HOK.out⟩, ?_, ?_⟩
      · have hfar : ∀ k, (Value.slice A rs.length c).ownBlock = some k → k ≠ g := by
          intro k hk he
          subst he
          rcases hst.own.2 with ⟨h0, _⟩ | ⟨g', cap, cur, h0, _, hh, _⟩
          · rw [h0] at hk; simp [Value.ownBlock] at hk
          · rw [h0] at hk
            have : g' = k := by simpa [Value.ownBlock] using hk
            subst this
            have := hst.res
            unfold Blk at this
            rw [this] at hh
            injection hh with hh
            injection hh with _ ht
            exact absurd ht (by decide)
        rw [HG.out]
        exact ownsRow_far (ownsRow_far (ownsRow_far hst.own hfar _) hfar _) hfar _
      · have e : ∀ k, some g = some k → B ≤ k ∧ k ≠ b := fun k hk => by injection hk with hk; subst hk; exact ⟨hB, by omega⟩
        exact (((hst.src.kept (set_grownBy _ _ _) e).kept (set_grownBy _ _ _) e).kept (set_grownBy _ _ _) e).mono (by omega)
      · have e : ∀ k, some g = some k → w.heap.size ≤ k ∨ some b = some k := fun k hk => by injection hk with hk; subst hk; exact .inl (by rw [HG.out]; exact Nat.le_refl _)
        exact grownBy_step (grownBy_step (grownBy_step hst.grown (set_grownBy _ _ _) e) (set_grownBy _ _ _) e) (set_grownBy _ _ _) e
end Go.Proofs.YtacpchapgklcgaaGreatDoor
namespace Go.Proofs.YtacpchapgklcgaaGreatDoor
open Go Go.RowKit Go.Proofs
set_option maxHeartbeats 400000
theorem text_c (B base b n : Nat) (v : Value) (xs : List ByteArray) (w : World) (h : Src B w b n) (ho : OwnStrs base w v xs) (hz : 0 < xs.length) (hn : n ≤ 1000000000000) :
    Calls Tryz.prog 132 #[.pointer (some ⟨b, 0, none⟩), v] w fun e w' => (∃ x, e = .returned (.string x) ∧ x ∈ xs) ∧ Src B w' b (n + 2) ∧ w.grownBy w' (some b) := by
  obtain ⟨A, c, rfl, h1, h2, _⟩ := (ownsRow_row ho).form
  go_enter Tryz.func132, Tryz.ntmps132
  go_wp2_with fail
  refine (pick_c B b n xs.length w h hn).mono ?_
  rintro e w1 ⟨⟨x, rfl, x0, x1, x2⟩, hs1, hg1⟩
  obtain ⟨xn, rfl⟩ : ∃ xn : Nat, x = (xn : Int) := ⟨x.toNat, by omega⟩
  have hlt : xn < xs.length := by
    by_cases c : (xs.length : Int) ≤ 1
    · have := x1 c; omega
    · have := x2 (by omega); omega
  have ho1 : OwnStrs base w1 (.slice A xs.length c) xs := own_src h hg1 ho (by decide)
  obtain ⟨g, rfl, d0⟩ := ho1.cell hlt
  have HM := Lib.hid (List.getElem_mem hlt)
  generalize xs[xn] = z at *
  clear x1 x2
  go_wp2
  go_ret
  exact ⟨⟨z, rfl, HM.out⟩, hs1, hg1⟩
def knownL : List ByteArray := [⟨#[49, 82, 49, 44, 49, 76, 49, 59, 49, 76, 48, 44, 45, 45, 45]⟩, ⟨#[49, 82, 49, 44, 45, 45, 45, 59, 49, 76, 49, 44, 48, 82, 50, 59, 49, 76, 50, 44, 49, 76, 48]⟩,
  ⟨#[49, 82, 49, 44, 49, 76, 49, 59, 49, 76, 48, 44, 48, 76, 50, 59, 45, 45, 45, 44, 49, 76, 51, 59, 49, 82, 51, 44, 48, 82, 48]⟩, ⟨#[49, 82, 48, 44, 45, 45, 45]⟩, ⟨#[49, 82, 49, 44, 48, 82, 48, 59, 49, 76, 48, 44, 49, 82, 49]⟩,
  ⟨#[49, 82, 49, 44, 50, 76, 49, 44, 45, 45, 45, 59, 50, 76, 48, 44, 50, 82, 49, 44, 49, 76, 49]⟩, ⟨#[49, 76, 48, 44, 49, 82, 49, 59, 49, 82, 48, 44, 48, 76, 49]⟩, ⟨#[49, 82, 49, 44, 49, 82, 48, 59, 49, 76, 48, 44, 49, 76, 49]⟩]
theorem known_ok : (knownL.all fun x => parseOk x && !(parseM x).rules.isEmpty && decide ((parseM x).rules.length ≤ 600) && machOk (parseM x)) = true := by decide +kernel
/-- A result of three cells is stored. -/
theorem done3 {B b n g : Nat} {w w2 : World} (hs : Src B w2 b n) (hg : w.grownBy w2 (some b)) (hB : B ≤ g) (hbl : b < g) (hgw : w.heap.size = g) {base : Nat} {rv : Value} {rs : List RuleD} (ho : OwnRules base w2 rv rs) {cs : Array Value} (hb : Blk w2 g 26 cs) (x y z : Value) :
    Src B (((w2.setCell ⟨g, 0, none⟩ x).setCell ⟨g, 1, none⟩ y).setCell ⟨g, 2, none⟩ z) b n ∧ w.grownBy (((w2.setCell ⟨g, 0, none⟩ x).setCell ⟨g, 1, none⟩ y).setCell ⟨g, 2, none⟩ z) (some b) ∧ OwnRules base (((w2.setCell ⟨g, 0, none⟩ x).setCell ⟨g, 1, none⟩ y).setCell ⟨g, 2, none⟩ z) rv rs := by
  have e : ∀ k, some g = some k → B ≤ k ∧ k ≠ b := fun k hk => by injection hk with hk; subst hk; exact ⟨hB, by omega⟩
  have e' : ∀ k, some g = some k → w.heap.size ≤ k ∨ some b = some k := fun k hk => by injection hk with hk; subst hk; exact .inl (by omega)
  have hfar := own_far_blk ho hb (by decide)
  exact ⟨((hs.kept (set_grownBy _ _ _) e).kept (set_grownBy _ _ _) e).kept (set_grownBy _ _ _) e, grownBy_step (grownBy_step (grownBy_step hg (set_grownBy _ _ _) e') (set_grownBy _ _ _) e') (set_grownBy _ _ _) e', ownsRow_far (ownsRow_far (ownsRow_far ho hfar _) hfar _) hfar _⟩
/-- A machine that is drawn. -/
def MRes (B : Nat) (w : World) (b n c : Nat) (e : Ending) (w' : World) : Prop :=
  (∃ (m : MachD) (rv : Value), e = .returned (.agg #[.int .i64 m.sy, .int .i64 m.st, rv]) ∧ OwnRules w.heap.size w' rv m.rules ∧ 0 < m.rules.length ∧ m.rules.length ≤ 600 ∧ machOk m = true) ∧ Src B w' b (n + c) ∧ w.grownBy w' (some b)
set_option maxRecDepth 20000 in
set_option maxHeartbeats 2000000 in
theorem l05Known_c (B b n : Nat) (w : World) (h : Src B w b n) (hB : B ≤ w.heap.size) (hn : n ≤ 1000000000) :
    Calls Tryz.prog 104 #[.pointer (some ⟨b, 0, none⟩)] w (MRes B w b n 2) := by
  have hbl := h.lt
  obtain ⟨W, hW⟩ : ∃ W, W = (w.alloc (.cells #[.int .i64 0, .int .i64 0, .slice none 0 0] 26)).alloc (.cells (knownL.map Value.string).toArray 9) := ⟨_, rfl⟩
  have hX : Ext w W := by rw [hW]; exact (Ext.alloc _ _).trans (Ext.alloc _ _)
  have bR : Blk W w.heap.size 26 #[.int .i64 0, .int .i64 0, .slice none 0 0] := by rw [hW]; exact (Blk.new _ _ _ _ rfl).alloc _
  have oL : OwnStrs w.heap.size W (.slice (some ⟨w.heap.size + 1, 0, none⟩) 8 8) knownL := by
    refine ⟨rfl, .inr ⟨w.heap.size + 1, 8, (knownL.map Value.string).toArray, rfl, by omega, ?_, Nat.le_refl _, by unfold maxLen; omega, rfl, rfl⟩⟩
    rw [hW]
    exact Blk.new _ _ _ _ (by simp)
  simp only [knownL, List.map_cons, List.map_nil] at hW
  have HK := Lib.hid known_ok
  go_enter Tryz.func104, Tryz.ntmps104
  go_wp2_with fail
  rw [← hW]
  clear hW
  refine (text_c B w.heap.size b n _ knownL W (h.ext hX) oL (by decide) (by omega)).mono ?_
  rintro e w1 ⟨⟨x, rfl, hx⟩, hs1, hg1⟩
  have hk := (List.all_eq_true.1 HK.out) x hx
  simp only [Bool.and_eq_true, Bool.not_eq_true', decide_eq_true_eq] at hk
  obtain ⟨⟨⟨hp, hne⟩, hle⟩, hmo⟩ := hk
  have HMO := Lib.hid hmo
  clear hmo
  have HLE := Lib.hid hle
  clear hle
  have bR1 := blk_src (h.ext hX) hg1 bR (by decide)
  have HP := Lib.hid hp
  have HNE : Hid (0 < (parseM x).rules.length) := by
    unfold Hid
    cases hl : (parseM x).rules with
    | nil => rw [hl] at hne; simp at hne
    | cons _ _ => simp
  clear hp hne hx
  go_wp2_with fail
  refine (l05Read_c x w1 HP.out).mono ?_
  rintro e w2 ⟨⟨rv, rfl, ho2⟩, hx2⟩
  generalize parseM x = m at *
  obtain ⟨A, c, rfl, k1, k2, _⟩ := (ownsRow_row ho2).form
  have hW1 : w.grownBy w1 (some b) := grownBy_trans (ext_grownBy hX _) hg1
  have bR2 := bR1.ext hx2
  have hlt := bR2.lt
  have d := bR2.cell
  have f := bR2.frozen
  generalize hg : w.heap.size = g at *
  have HG := Lib.hid hg
  clear hg
  have hs2 := hs1.ext hx2
  go_wp2
  obtain ⟨r1, r2, r3⟩ := done3 hs2 (grownBy_trans hW1 (ext_grownBy hx2 _)) hB hbl HG.out ho2 bR2 (.int .i64 m.sy) (.int .i64 m.st) (.slice A m.rules.length c)
  refine bodyPost_ret (v := .agg #[.int .i64 m.sy, .int .i64 m.st, .slice A m.rules.length c]) ?_ rfl ⟨⟨m, _, rfl, ?_, HNE.out, HLE.out, HMO.out⟩, r1.ext (Ext.alloc _ _), grownBy_trans r2 (ext_grownBy (Ext.alloc _ _) _)⟩
  · have d' := ((((bR2.set_ 0 (.int .i64 m.sy)).set_ 1 (.int .i64 m.st)).set_ 2 (.slice A m.rules.length c)).alloc (.cells #[.int .i64 m.sy, .int .i64 m.st, .slice A m.rules.length c] 26)).cell
    simp [results, Tryz.results104, go_sem, d']
  · have := r3.ext (Ext.alloc _ (.cells #[.int .i64 m.sy, .int .i64 m.st, .slice A m.rules.length c] 26))
    exact ownsRow_base this (by have := hW1.size; exact this)
theorem l05DrawSize_m (B b n : Nat) (sy st : Int) (w : World) (h : Src B w b n) (hB : B ≤ w.heap.size) (hn : n ≤ 100000000000) (h1 : 2 ≤ sy) (h2 : sy ≤ 6) (h3 : 1 ≤ st) (h4 : st ≤ 6) :
    Calls Tryz.prog 19 #[.pointer (some ⟨b, 0, none⟩), .int .i64 sy, .int .i64 st] w (MRes B w b n 500) := by
  refine (l05DrawSize_c B b n sy st w h hB hn (by omega) h2 h3 h4).mono ?_
  rintro e w' ⟨⟨rv, rs, rfl, ho, hl, hok⟩, hs, hg⟩
  exact ⟨⟨⟨sy, st, rs⟩, rv, rfl, ho, by have := (mul36 (show 1 ≤ sy by omega) h2 h3 h4).1; simp only; omega, by have := (mul36 (show 1 ≤ sy by omega) h2 h3 h4).2; simp only; omega, by
    simp only [machOk, inB, Bool.and_eq_true, decide_eq_true_eq, List.all_eq_true]
    exact ⟨⟨⟨by omega, by omega⟩, hl⟩, hok⟩⟩, hs, hg⟩
end Go.Proofs.YtacpchapgklcgaaGreatDoor
end
section
namespace Go.Proofs.YtacpchapgklcgaaGreatDoor
open Go Go.RowKit Go.Proofs
set_option maxHeartbeats 400000
/-- The end of a draw: the machine is stored as the result. -/
theorem MRes.of {B b n n' c g : Nat} {w w2 : World} {m : MachD} {rv : Value} {base : Nat} {cs : Array Value} (hs : Src B w2 b n') (hn : n' ≤ n + c) (hg : w.grownBy w2 (some b)) (hB : B ≤ g) (hbl : b < g) (hgw : w.heap.size = g) (ho : OwnRules base w2 rv m.rules) (hbase : g ≤ base) (hb : Blk w2 g 26 cs) (hl : 0 < m.rules.length ∧ m.rules.length ≤ 600 ∧ machOk m = true) :
    MRes B w b n c (.returned (.agg #[.int .i64 m.sy, .int .i64 m.st, rv])) (((w2.setCell ⟨g, 0, none⟩ (.int .i64 m.sy)).setCell ⟨g, 1, none⟩ (.int .i64 m.st)).setCell ⟨g, 2, none⟩ rv) := by
  obtain ⟨r1, r2, r3⟩ := done3 hs hg hB hbl hgw ho hb (.int .i64 m.sy) (.int .i64 m.st) rv
  exact ⟨⟨m, rv, rfl, ownsRow_base r3 (by omega), hl.1, hl.2.1, hl.2.2⟩, r1.mono hn, r2⟩
set_option maxHeartbeats 2000000 in
theorem l05DrawOk_c (B b n : Nat) (w : World) (h : Src B w b n) (hB : B ≤ w.heap.size) (hn : n ≤ 100000000) :
    Calls Tryz.prog 74 #[.pointer (some ⟨b, 0, none⟩)] w (MRes B w b n 600) := by
  have hbl := h.lt
  obtain ⟨W, hW⟩ : ∃ W, W = w.alloc (.cells #[.int .i64 0, .int .i64 0, .slice none 0 0] 26) := ⟨_, rfl⟩
  have hX : Ext w W := by rw [hW]; exact Ext.alloc _ _
  have bR : Blk W w.heap.size 26 #[.int .i64 0, .int .i64 0, .slice none 0 0] := by rw [hW]; exact Blk.new _ _ _ _ rfl
  have hsW := h.ext hX
  go_enter Tryz.func74, Tryz.ntmps74
  go_wp2_with fail
  rw [← hW]
  clear hW
  refine (one_c B b n 4 W hsW (by omega)).mono ?_
  rintro e w1 ⟨⟨q, rfl⟩, hs1, hg1⟩
  have hW1 : w.grownBy w1 (some b) := grownBy_trans (ext_grownBy hX _) hg1
  have b1 := blk_src hsW hg1 bR (by decide)
  have z1 := hW1.size
  generalize hg : w.heap.size = g at *
  have HG := Lib.hid hg
  clear hg
  cases q with
  | true =>
    go_wp2_with fail
    refine (l05Known_c B b (n + 2) w1 hs1 (by omega) (by omega)).mono ?_
    rintro e w2 ⟨⟨m, rv, rfl, ho, hl⟩, hs2, hg2⟩
    have b2 := blk_src hs1 hg2 b1 (by decide)
    have d := b2.cell
    have f := b2.frozen
    obtain ⟨A, c, rfl, _, _, _⟩ := (ownsRow_row ho).form
    go_wp2
    refine bodyPost_ret (v := .agg #[.int .i64 m.sy, .int .i64 m.st, .slice A m.rules.length c]) ?_ rfl (MRes.of hs2 (by omega) (grownBy_trans hW1 hg2) hB hbl HG.out ho (by omega) b2 hl)
    simp [results, Tryz.results74, go_sem, d]
  | false =>
    go_wp2_with fail
    refine (one_c B b _ 4 w1 hs1 (by omega)).mono ?_
    rintro e w2 ⟨⟨q, rfl⟩, hs2, hg2⟩
    have b2 := blk_src hs1 hg2 b1 (by decide)
    have hW2 := grownBy_trans hW1 hg2
    have z2 := hg2.size
    cases q with
    | true =>
      go_wp2_with fail
      refine (pick_c B b _ 3 w2 hs2 (by omega)).mono ?_
      rintro e w3 ⟨⟨x, rfl, x0, _, x2⟩, hs3, hg3⟩
      have x3 := x2 (by omega)
      have b3 := blk_src hs2 hg3 b2 (by decide)
      have hW3 := grownBy_trans hW2 hg3
      have z3 := hg3.size
      go_wp2_with fail
      refine (pick_c B b _ 4 w3 hs3 (by omega)).mono ?_
      rintro e w4 ⟨⟨y, rfl, y0, _, y2⟩, hs4, hg4⟩
      have y3 := y2 (by omega)
      have b4 := blk_src hs3 hg4 b3 (by decide)
      have hW4 := grownBy_trans hW3 hg4
      have z4 := hg4.size
      go_wp2_with fail
      refine (l05DrawSize_m B b _ (2 + x) (1 + y) w4 hs4 (by omega) (by omega) (by omega) (by omega) (by omega) (by omega)).mono ?_
      rintro e w5 ⟨⟨m, rv, rfl, ho, hl⟩, hs5, hg5⟩
      have b5 := blk_src hs4 hg5 b4 (by decide)
      have d := b5.cell
      have f := b5.frozen
      obtain ⟨A, c, rfl, _, _, _⟩ := (ownsRow_row ho).form
      go_wp2
      refine bodyPost_ret (v := .agg #[.int .i64 m.sy, .int .i64 m.st, .slice A m.rules.length c]) ?_ rfl (MRes.of hs5 (by omega) (grownBy_trans hW4 hg5) hB hbl HG.out ho (by omega) b5 hl)
      simp [results, Tryz.results74, go_sem, d]
    | false =>
      go_wp2_with fail
      refine (pick_c B b _ 4 w2 hs2 (by omega)).mono ?_
      rintro e w4 ⟨⟨y, rfl, y0, _, y2⟩, hs4, hg4⟩
      have y3 := y2 (by omega)
      have b4 := blk_src hs2 hg4 b2 (by decide)
      have hW4 := grownBy_trans hW2 hg4
      have z4 := hg4.size
      go_wp2_with fail
      refine (l05DrawSize_m B b _ 2 (1 + y) w4 hs4 (by omega) (by omega) (by omega) (by omega) (by omega) (by omega)).mono ?_
      rintro e w5 ⟨⟨m, rv, rfl, ho, hl⟩, hs5, hg5⟩
      have b5 := blk_src hs4 hg5 b4 (by decide)
      have d := b5.cell
      have f := b5.frozen
      obtain ⟨A, c, rfl, _, _, _⟩ := (ownsRow_row ho).form
      go_wp2
      refine bodyPost_ret (v := .agg #[.int .i64 m.sy, .int .i64 m.st, .slice A m.rules.length c]) ?_ rfl (MRes.of hs5 (by omega) (grownBy_trans hW4 hg5) hB hbl HG.out ho (by omega) b5 hl)
      simp [results, Tryz.results74, go_sem, d]
set_option maxRecDepth 20000 in
set_option maxHeartbeats 2000000 in
theorem l05Own_c (b : Nat) (m : MachD) (rv : Value) (w : World) (hM : MachBlk w b m rv) (hr : Rules w rv m.rules) (h0 : 0 < m.rules.length) (h1 : m.rules.length ≤ 600) :
    Calls Tryz.prog 105 #[.pointer (some ⟨b, 0, none⟩)] w fun e w' => (∃ rv', e = .returned (.agg #[.int .i64 m.sy, .int .i64 m.st, rv']) ∧ OwnRules w.heap.size w' rv' m.rules) ∧ Ext w w' := by
  obtain ⟨i0, hi, hz0, hz1, hz2⟩ := info_parts ruleInfo2
  obtain ⟨A, c, rfl, k1, k2⟩ := hr.form
  obtain ⟨br, off, rfl, hc⟩ := Row.at hr h0
  obtain ⟨W, hW⟩ : ∃ W, W = w.alloc (.cells #[.int .i64 0, .int .i64 0, .slice none 0 0] 26) := ⟨_, rfl⟩
  have hX : Ext w W := by rw [hW]; exact Ext.alloc _ _
  have bR : Blk W w.heap.size 26 #[.int .i64 0, .int .i64 0, .slice none 0 0] := by rw [hW]; exact Blk.new _ _ _ _ rfl
  have bM := Blk.ext hM hX
  have c0 := bM.cell 0
  have c1 := bM.cell 1
  have c2 := bM.cell 2
  simp only [List.getElem?_toArray, List.getElem?_cons_zero, List.getElem?_cons_succ] at c0 c1 c2
  have hcW : ∀ j u, (rvs m.rules)[j]? = some u → W.cell? ((⟨br, off, none⟩ : Addr).add j) = some u := by
    intro j u hj
    have hadd : (⟨br, off, none⟩ : Addr).add j = ⟨br, off + j, none⟩ := by unfold Addr.add; split <;> simp_all
    have hlt := (List.getElem?_eq_some_iff.1 hj).1
    rw [rvs_length] at hlt
    rw [hadd]
    exact hX.cell ((hc j hlt).trans hj)
  have HC := Lib.hid hcW
  have hone : ∀ u ∈ rvs m.rules, u.oneCell' = true := by
    intro u hu
    simp only [rvs, List.mem_flatMap] at hu
    obtain ⟨r, _, hu⟩ := hu
    simp at hu
    rcases hu with rfl | rfl | rfl <;> rfl
  have HO := Lib.hid hone
  have hsz := bR.lt
  have hbl := Blk.lt hM
  have hbg : b ≠ w.heap.size := by omega
  have rl := rvs_length m.rules
  have HRL := Lib.hid rl
  clear hcW hone hc rl
  generalize hg : w.heap.size = g at *
  have HG := Lib.hid hg
  go_enter Tryz.func105, Tryz.ntmps105
  go_wp2_with fail
  rw [← hW]
  clear hW hg
  have hown0 : (W.drew.alloc (.cells #[] 38)).ownsRow g 38 3 (.slice (some ⟨W.heap.size, 0, none⟩) 0 0) 0 [] :=
    World.ownsRow_made (base := g) (e := 38) (size := 3) W.drew #[] 0 (by show g ≤ W.heap.size; omega) (by unfold maxLen; omega) (by simp)
  go_region_held3 (fun w' => w'.cell? ⟨b, 0, none⟩ = some (.int .i64 m.sy) ∧ w'.cell? ⟨b, 1, none⟩ = some (.int .i64 m.st) ∧ w'.cell? ⟨b, 2, none⟩ = some (.slice (some ⟨br, off, none⟩) m.rules.length c))
    (first | go_keep | exact ⟨t0, t1, t2⟩ | exact ⟨u0, u1, u2⟩)
    ((refine step_append_lies _ (by rfl) _ _ _ (by rfl) g 38 i0 _ 3 24 Tryz.underlying24 hi hz0 hz1 hz2 rfl (by omega) _ _ [] (by rfl) hown0 ⟨br, off, none⟩ m.rules.length c (rvs m.rules) (by rfl) HRL.out (fun j u hj => (Ext.alloc _ _).cell (HC.out j u hj)) HO.out (by omega) (by unfold maxLen; omega) (by omega) (by simp; omega) (W.heap.size + 1) (by simp) ?_; intro gg cap w3 hown3 hgrow hat hlt3; have bM3 := Blk.apart (bM.drew.alloc (.cells #[] 38)) hown0 (by decide) hgrow; have bR3 := Blk.apart (bR.drew.alloc (.cells #[] 38)) hown0 (by decide) hgrow; have t0 := bM3.cell 0; have t1 := bM3.cell 1; have t2 := bM3.cell 2; have r0 := bR3.cell 0; have r1 := bR3.cell 1; have r2 := bR3.cell 2; have f0 := bR3.frozen 0; have f1 := bR3.frozen 1; have f2 := bR3.frozen 2; have bM4 := ((bM3.far (p := ⟨g, 0, none⟩) hbg (.int .i64 m.sy)).far (p := ⟨g, 1, none⟩) hbg (.int .i64 m.st)).far (p := ⟨g, 2, none⟩) hbg (.slice (some ⟨gg, 0, none⟩) m.rules.length cap); have u0 := bM4.cell 0; have u1 := bM4.cell 1; have u2 := bM4.cell 2; simp only [List.getElem?_toArray, List.getElem?_cons_zero, List.getElem?_cons_succ] at t0 t1 t2 r0 r1 r2 u0 u1 u2))
  all_goals
    have d := (((bR3.set_ 0 (.int .i64 m.sy)).set_ 1 (.int .i64 m.st)).set_ 2 (.slice (some ⟨gg, 0, none⟩) m.rules.length cap)).cell
    have hgw : w.heap.size ≤ g := Nat.le_of_eq HG.out
    have hX3 : Ext w w3 := ((hX.trans (Ext.drew _)).trans (Ext.alloc _ _)).grown hgrow (fun k hk => by have := (hown0.lt k hk).1; omega)
    have ho3 : OwnRules g w3 (.slice (some ⟨gg, 0, none⟩) m.rules.length cap) m.rules := by simpa [OwnRules] using hown3
    have hfar := own_far_blk ho3 bR3 (by decide)
    go_wp2
    refine bodyPost_ret (v := .agg #[.int .i64 m.sy, .int .i64 m.st, .slice (some ⟨gg, 0, none⟩) m.rules.length cap]) (by simp [results, Tryz.results105, go_sem, d]) rfl ⟨⟨_, rfl, ?_⟩, ?_⟩
    · first | exact ownsRow_far (ownsRow_far (ownsRow_far ho3 hfar _) hfar _) hfar _ | (rw [HG.out]; exact ownsRow_far (ownsRow_far (ownsRow_far ho3 hfar _) hfar _) hfar _)
    · exact ((hX3.setCell hgw _).setCell hgw _).setCell hgw _
end Go.Proofs.YtacpchapgklcgaaGreatDoor
namespace Go.Proofs.YtacpchapgklcgaaGreatDoor
open Go Go.RowKit Go.Proofs
set_option maxHeartbeats 400000
/-- A machine that is drawn, of any length. -/
def MRes0 (B : Nat) (w : World) (b n c : Nat) (e : Ending) (w' : World) : Prop :=
  (∃ (m : MachD) (rv : Value), e = .returned (.agg #[.int .i64 m.sy, .int .i64 m.st, rv]) ∧ OwnRules w.heap.size w' rv m.rules) ∧ Src B w' b (n + c) ∧ w.grownBy w' (some b)
theorem MRes.zero {B : Nat} {w : World} {b n c c' : Nat} {e : Ending} {w' : World} (h : MRes B w b n c e w') (hc : c ≤ c') : MRes0 B w b n c' e w' := by
  obtain ⟨⟨m, rv, he, ho, _, _⟩, hs, hg⟩ := h
  exact ⟨⟨m, rv, he, ho⟩, hs.mono (by omega), hg⟩
theorem MRes0.of {B b n n' c g : Nat} {w w2 : World} {sy st : Int} {rs : List RuleD} {rv : Value} {base : Nat} {cs : Array Value} (hs : Src B w2 b n') (hn : n' ≤ n + c) (hg : w.grownBy w2 (some b)) (hB : B ≤ g) (hbl : b < g) (hgw : w.heap.size ≤ g) (ho : OwnRules base w2 rv rs) (hbase : w.heap.size ≤ base) (hb : Blk w2 g 26 cs) :
    MRes0 B w b n c (.returned (.agg #[.int .i64 sy, .int .i64 st, rv])) (((w2.setCell ⟨g, 0, none⟩ (.int .i64 sy)).setCell ⟨g, 1, none⟩ (.int .i64 st)).setCell ⟨g, 2, none⟩ rv) := by
  have e : ∀ k, some g = some k → B ≤ k ∧ k ≠ b := fun k hk => by injection hk with hk; subst hk; exact ⟨hB, by omega⟩
  have e' : ∀ k, some g = some k → w.heap.size ≤ k ∨ some b = some k := fun k hk => by injection hk with hk; subst hk; exact .inl hgw
  have hfar := own_far_blk ho hb (by decide)
  have r1 := ((hs.kept (set_grownBy w2 ⟨g, 0, none⟩ (.int .i64 sy)) e).kept (set_grownBy _ ⟨g, 1, none⟩ (.int .i64 st)) e).kept (set_grownBy _ ⟨g, 2, none⟩ rv) e
  have r2 := grownBy_step (grownBy_step (grownBy_step hg (set_grownBy w2 ⟨g, 0, none⟩ (.int .i64 sy)) e') (set_grownBy _ ⟨g, 1, none⟩ (.int .i64 st)) e') (set_grownBy _ ⟨g, 2, none⟩ rv) e'
  have r3 := ownsRow_far (p := ⟨g, 2, none⟩) (ownsRow_far (p := ⟨g, 1, none⟩) (ownsRow_far (p := ⟨g, 0, none⟩) ho hfar (.int .i64 sy)) hfar (.int .i64 st)) hfar rv
  exact ⟨⟨⟨sy, st, rs⟩, rv, rfl, ownsRow_base r3 hbase⟩, r1.mono hn, r2⟩
/-- What is known while a machine is bent: the result's block, the machine's block, its rules. -/
structure BendSt (B b g go : Nat) (w0 : World) (n : Nat) (sy st : Int) (rs : List RuleD) (rv : Value) (w : World) : Prop where
  res : Blk w g 26 #[.int .i64 0, .int .i64 0, .slice none 0 0]
  mac : Blk w go 26 #[.int .i64 sy, .int .i64 st, rv]
  own : OwnRules w0.heap.size w rv rs
  src : Src B w b n
  grown : w0.grownBy w (some b)
theorem BendSt.src' {B b g go : Nat} {w0 : World} {n n' : Nat} {sy st : Int} {rs : List RuleD} {rv : Value} {w w' : World} (h : BendSt B b g go w0 n sy st rs rv w) (hs : Src B w' b n') (hg : w.grownBy w' (some b)) : BendSt B b g go w0 n' sy st rs rv w' :=
  ⟨blk_src h.src hg h.res (by decide), blk_src h.src hg h.mac (by decide), own_src h.src hg h.own (by decide), hs, grownBy_trans h.grown hg⟩
theorem BendSt.ext {B b g go : Nat} {w0 : World} {n : Nat} {sy st : Int} {rs : List RuleD} {rv : Value} {w w' : World} (h : BendSt B b g go w0 n sy st rs rv w) (he : Ext w w') : BendSt B b g go w0 n sy st rs rv w' :=
  ⟨h.res.ext he, h.mac.ext he, OwnRules.ext h.own he, h.src.ext he, grownBy_trans h.grown (ext_grownBy he _)⟩
theorem own_lits {w : World} {base : Nat} (zs : List Int) (hb : base ≤ w.heap.size) (hl : zs.length ≤ 100) : OwnInts base (w.alloc (.cells (ivs zs).toArray 2)) (.slice (some ⟨w.heap.size, 0, none⟩) zs.length zs.length) zs :=
  ⟨by simp, .inr ⟨w.heap.size, zs.length, (ivs zs).toArray, rfl, hb, heap_alloc_new w _, Nat.le_refl _, by unfold maxLen; omega, by simp, by simp [List.take_of_length_le]⟩⟩
theorem rvs_set0 : ∀ (rs : List RuleD) (k : Nat) (z : Int) (h : k < rs.length), (rvs rs).set (k * 3) (.int .i64 z) = rvs (rs.set k ⟨z, rs[k].m, rs[k].n⟩)
  | r :: rs, 0, z, _ => by simp [rvs]
  | r :: rs, k + 1, z, h => by
    have ih := rvs_set0 rs k z (by simpa using h)
    simp only [rvs, List.flatMap_cons, List.set_cons_succ, List.getElem_cons_succ] at ih ⊢
    rw [show (k + 1) * 3 = k * 3 + 1 + 1 + 1 by omega]
    simp only [List.cons_append, List.nil_append, List.set_cons_succ]
    rw [ih]
theorem rvs_set1 : ∀ (rs : List RuleD) (k : Nat) (z : Int) (h : k < rs.length), (rvs rs).set (k * 3 + 1) (.int .i64 z) = rvs (rs.set k ⟨rs[k].w, z, rs[k].n⟩)
  | r :: rs, 0, z, _ => by simp [rvs]
  | r :: rs, k + 1, z, h => by
    have ih := rvs_set1 rs k z (by simpa using h)
    simp only [rvs, List.flatMap_cons, List.set_cons_succ, List.getElem_cons_succ] at ih ⊢
    rw [show (k + 1) * 3 + 1 = k * 3 + 1 + 1 + 1 + 1 by omega]
    simp only [List.cons_append, List.nil_append, List.set_cons_succ]
    rw [ih]
theorem rvs_set2 : ∀ (rs : List RuleD) (k : Nat) (z : Int) (h : k < rs.length), (rvs rs).set (k * 3 + 2) (.int .i64 z) = rvs (rs.set k ⟨rs[k].w, rs[k].m, z⟩)
  | r :: rs, 0, z, _ => by simp [rvs]
  | r :: rs, k + 1, z, h => by
    have ih := rvs_set2 rs k z (by simpa using h)
    simp only [rvs, List.flatMap_cons, List.set_cons_succ, List.getElem_cons_succ] at ih ⊢
    rw [show (k + 1) * 3 + 2 = k * 3 + 2 + 1 + 1 + 1 by omega]
    simp only [List.cons_append, List.nil_append, List.set_cons_succ]
    rw [ih]
theorem rvs_take (rs : List RuleD) (k : Nat) : (rvs rs).take (k * 3) = rvs (rs.take k) := by
  induction rs generalizing k with
  | nil => simp [rvs]
  | cons r rs ih =>
    cases k with
    | zero => simp [rvs]
    | succ k =>
      have := ih k
      simp only [rvs, List.flatMap_cons, List.take_succ_cons] at this ⊢
      rw [show (k + 1) * 3 = k * 3 + 1 + 1 + 1 by omega]
      simp only [List.cons_append, List.nil_append, List.take_succ_cons]
      rw [this]
/-- A shorter slice of the same row. -/
theorem OwnRules.cut {base : Nat} {w : World} {A : Option Addr} {c : Nat} {rs : List RuleD} (h : OwnRules base w (.slice A rs.length c) rs) {k : Nat} (hk : k ≤ rs.length) (h0 : 0 < rs.length) : OwnRules base w (.slice A k c) (rs.take k) := by
  have hl : (rs.take k).length = k := by simp; omega
  unfold OwnRules
  rw [hl, ← rvs_take]
  refine ⟨by rw [List.length_take, rvs_length]; omega, ?_⟩
  rcases h.2 with ⟨_, h1⟩ | ⟨g, cap, cur, hv, h1, h2, h3, h4, h5, h6⟩
  · omega
  · injection hv with e1 e2 e3
    subst e1
    subst e3
    refine .inr ⟨g, c, cur, rfl, h1, h2, by omega, h4, h5, ?_⟩
    rw [← h6, List.take_take]
    congr 1
    omega
section
variable {B b g go : Nat} {w0 : World} {n : Nat} {sy st : Int} {rs : List RuleD} {rv : Value} {w : World}
theorem BendSt.putAny (h : BendSt B b g go w0 n sy st rs rv w) (h1 : b ≠ go) (h2 : B ≤ go) (h3 : w0.heap.size ≤ go) (h4 : g ≠ go) (j : Nat) (u : Value) :
    Blk (w.setCell ⟨go, j, none⟩ u) g 26 #[.int .i64 0, .int .i64 0, .slice none 0 0] ∧ Src B (w.setCell ⟨go, j, none⟩ u) b n ∧ w0.grownBy (w.setCell ⟨go, j, none⟩ u) (some b) ∧
      (∀ {base : Nat} {v : Value} {qs : List RuleD}, OwnRules base w v qs → OwnRules base (w.setCell ⟨go, j, none⟩ u) v qs) :=
  ⟨h.res.far (by simpa using h4) _, h.src.kept (set_grownBy _ _ _) (fun k hk => by injection hk with hk; subst hk; exact ⟨h2, fun e => h1 e.symm⟩),
   grownBy_step h.grown (set_grownBy _ _ _) (fun k hk => by injection hk with hk; subst hk; exact .inl h3), fun ho => ownsRow_far (p := ⟨go, j, none⟩) ho (own_far_blk ho h.mac (by decide)) _⟩
theorem BendSt.put0 (h : BendSt B b g go w0 n sy st rs rv w) (h1 : b ≠ go) (h2 : B ≤ go) (h3 : w0.heap.size ≤ go) (h4 : g ≠ go) (z : Int) : BendSt B b g go w0 n z st rs rv (w.setCell ⟨go, 0, none⟩ (.int .i64 z)) := by
  obtain ⟨a1, a2, a3, a4⟩ := h.putAny h1 h2 h3 h4 0 (.int .i64 z)
  exact ⟨a1, h.mac.set_ 0 _, a4 h.own, a2, a3⟩
theorem BendSt.put1 (h : BendSt B b g go w0 n sy st rs rv w) (h1 : b ≠ go) (h2 : B ≤ go) (h3 : w0.heap.size ≤ go) (h4 : g ≠ go) (z : Int) : BendSt B b g go w0 n sy z rs rv (w.setCell ⟨go, 1, none⟩ (.int .i64 z)) := by
  obtain ⟨a1, a2, a3, a4⟩ := h.putAny h1 h2 h3 h4 1 (.int .i64 z)
  exact ⟨a1, h.mac.set_ 1 _, a4 h.own, a2, a3⟩
theorem BendSt.put2 (h : BendSt B b g go w0 n sy st rs rv w) (h1 : b ≠ go) (h2 : B ≤ go) (h3 : w0.heap.size ≤ go) (h4 : g ≠ go) {rv' : Value} {qs : List RuleD} (ho : OwnRules w0.heap.size w rv' qs) : BendSt B b g go w0 n sy st qs rv' (w.setCell ⟨go, 2, none⟩ rv') := by
  obtain ⟨a1, a2, a3, a4⟩ := h.putAny h1 h2 h3 h4 2 rv'
  exact ⟨a1, h.mac.set_ 2 _, a4 ho, a2, a3⟩
/-- A field of a rule is written. -/
theorem BendSt.field {gr c : Nat} {qs : List RuleD} (h : BendSt B b g go w0 n sy st rs (.slice (some ⟨gr, 0, none⟩) rs.length c) w) (hbw : b < w0.heap.size) (hB : B ≤ w0.heap.size) (j : Nat) (u : Value) (hq : (rvs rs).set j u = rvs qs) (hl : qs.length = rs.length) :
    BendSt B b g go w0 n sy st qs (.slice (some ⟨gr, 0, none⟩) rs.length c) (w.setCell ⟨gr, j, none⟩ u) := by
  have hlt := h.own.lt gr rfl
  have n1 := own_far_blk h.own h.res (by decide) gr rfl
  have n2 := own_far_blk h.own h.mac (by decide) gr rfl
  refine ⟨h.res.far (by simpa using fun e => n1 e.symm) _, h.mac.far (by simpa using fun e => n2 e.symm) _, ?_, h.src.kept (set_grownBy _ _ _) (fun k hk => by injection hk with hk; subst hk; exact ⟨by simp; omega, by simp; omega⟩), grownBy_step h.grown (set_grownBy _ _ _) (fun k hk => by injection hk with hk; subst hk; exact .inl (by simp; omega))⟩
  have := (World.ownsRow.stored h.own j u).1
  rw [hq] at this
  unfold OwnRules
  rw [hl]
  exact this
end
set_option maxRecDepth 20000 in
set_option maxHeartbeats 4000000 in
theorem l05Bend_c (B b n : Nat) (m : MachD) (rv : Value) (w : World) (h : Src B w b n) (hB : B ≤ w.heap.size) (hn : n ≤ 100000000) (hr : Rules w rv m.rules) (h0 : 0 < m.rules.length) (h1 : m.rules.length ≤ 600) :
    Calls Tryz.prog 75 #[.pointer (some ⟨b, 0, none⟩), .agg #[.int .i64 m.sy, .int .i64 m.st, rv]] w (MRes0 B w b n 20) := by
  have hbl := h.lt
  obtain ⟨Ar, cr, rfl, k1, k2⟩ := hr.form
  obtain ⟨W, hW⟩ : ∃ W, W = (w.alloc (.cells #[.int .i64 m.sy, .int .i64 m.st, .slice Ar m.rules.length cr] 26)).alloc (.cells #[.int .i64 0, .int .i64 0, .slice none 0 0] 26) := ⟨_, rfl⟩
  have hX : Ext w W := by rw [hW]; exact (Ext.alloc _ _).trans (Ext.alloc _ _)
  have bM : Blk W w.heap.size 26 #[.int .i64 m.sy, .int .i64 m.st, .slice Ar m.rules.length cr] := by rw [hW]; exact (Blk.new _ _ _ _ rfl).alloc _
  have bR : Blk W (w.heap.size + 1) 26 #[.int .i64 0, .int .i64 0, .slice none 0 0] := by rw [hW]; exact Blk.new _ _ _ _ (by simp)
  have hsW := h.ext hX
  go_enter Tryz.func75, Tryz.ntmps75
  go_wp2_with fail
  rw [← hW]
  clear hW
  refine (l05Own_c w.heap.size m _ W bM (hr.ext hX) h0 h1).mono ?_
  rintro e w1 ⟨⟨rv1, rfl, ho1⟩, hx1⟩
  obtain ⟨A1, c1, rfl, _, _, _⟩ := (ownsRow_row ho1).form
  obtain ⟨W1, hW1⟩ : ∃ V, V = w1.alloc (.cells #[.int .i64 m.sy, .int .i64 m.st, .slice A1 m.rules.length c1] 26) := ⟨_, rfl⟩
  have hXW1 : Ext w1 W1 := by rw [hW1]; exact Ext.alloc _ _
  have st1 : BendSt B b (w.heap.size + 1) w1.heap.size w n m.sy m.st m.rules (.slice A1 m.rules.length c1) W1 :=
    ⟨bR.ext (hx1.trans hXW1), by rw [hW1]; exact Blk.new _ _ _ _ rfl, OwnRules.ext (ownsRow_base ho1 hX.size) hXW1, hsW.ext (hx1.trans hXW1), ext_grownBy (hX.trans (hx1.trans hXW1)) _⟩
  have z1 : w.heap.size + 1 < w1.heap.size := (bR.ext hx1).lt
  go_wp2_with fail
  rw [← hW1]
  clear hW1 ho1 bM bR
  refine (one_c B b n 10 W1 st1.src (by omega)).mono ?_
  rintro e w2 ⟨⟨q, rfl⟩, hs2, hg2⟩
  have st2 := st1.src' hs2 hg2
  generalize hgo : w1.heap.size = go at *
  generalize hg : w.heap.size + 1 = g at *
  have hgw : w.heap.size < g := by omega
  have hBg : B ≤ g := by omega
  have hbg : b < g := by omega
  have hne : g ≠ go := by omega
  have hbgo : b ≠ go := by omega
  have hBgo : B ≤ go := by omega
  have hwgo : w.heap.size ≤ go := by omega
  clear hgo hg st1
  cases q with
  | false =>
    have c0 := st2.mac.cell 0
    have cc1 := st2.mac.cell 1
    have c2 := st2.mac.cell 2
    simp only [List.getElem?_toArray, List.getElem?_cons_zero, List.getElem?_cons_succ] at c0 cc1 c2
    have d := st2.res.cell
    have f := st2.res.frozen
    go_wp2
    refine bodyPost_ret (v := .agg #[.int .i64 m.sy, .int .i64 m.st, .slice A1 m.rules.length c1]) ?_ rfl (MRes0.of st2.src (by omega) st2.grown hBg hbg (by omega) st2.own (Nat.le_refl _) st2.res)
    simp [results, Tryz.results75, go_sem, d]
  | true =>
    obtain ⟨gr, rfl, hgr1, hgr2⟩ := own_at st2.own h0
    have c2 := st2.mac.cell 2
    simp only [List.getElem?_toArray, List.getElem?_cons_zero, List.getElem?_cons_succ] at c2
    go_wp2_with fail
    refine (pick_c B b _ m.rules.length w2 st2.src (by omega)).mono ?_
    rintro e w3 ⟨⟨x, rfl, x0, x1, x2⟩, hs3, hg3⟩
    have st3 := st2.src' hs3 hg3
    obtain ⟨k, rfl⟩ : ∃ k : Nat, x = (k : Int) := ⟨x.toNat, by omega⟩
    have hk : k < m.rules.length := by
      by_cases c : (m.rules.length : Int) ≤ 1
      · have := x1 c; omega
      · have := x2 (by omega); omega
    clear c2 x0 x1 x2
    go_wp2_with fail
    refine (pick_c B b _ 6 w3 st3.src (by omega)).mono ?_
    rintro e w4 ⟨⟨y, rfl, y0, _, y2⟩, hs4, hg4⟩
    have st4 := st3.src' hs4 hg4
    have y3 := y2 (by omega)
    clear y2 st3 st2
    have c0 := st4.mac.cell 0
    have cc1 := st4.mac.cell 1
    have c2 := st4.mac.cell 2
    simp only [List.getElem?_toArray, List.getElem?_cons_zero, List.getElem?_cons_succ] at c0 cc1 c2
    have hgw4 : g ≤ w4.heap.size := by have := st4.mac.lt; omega
    have f0 := st4.mac.frozen 0
    have f1 := st4.mac.frozen 1
    have f2 := st4.mac.frozen 2
    obtain rfl | rfl | rfl | rfl | rfl | rfl : y = 0 ∨ y = 1 ∨ y = 2 ∨ y = 3 ∨ y = 4 ∨ y = 5 := by omega
    · have oL : OwnInts g (w4.alloc (.cells #[.int .i64 (1), .int .i64 (7), .int .i64 (0), .int .i64 (wrap64 (m.sy + 1))] 2)) (.slice (some ⟨w4.heap.size, 0, none⟩) 4 4) [1, 7, 0, wrap64 (m.sy + 1)] := own_lits [1, 7, 0, wrap64 (m.sy + 1)] hgw4 (by simp)
      have st4a := st4.ext (Ext.alloc w4 (.cells #[.int .i64 (1), .int .i64 (7), .int .i64 (0), .int .i64 (wrap64 (m.sy + 1))] 2))
      go_wp2_with fail
      refine (among_c B g b _ _ [1, 7, 0, wrap64 (m.sy + 1)] _ st4a.src oL (by simp) (by omega)).mono ?_
      rintro e w5 ⟨⟨z, rfl, _⟩, hs5, hg5⟩
      have st5 := st4a.src' hs5 hg5
      have e0 := st5.mac.cell 0
      have ff := st5.mac.frozen 0
      simp only [List.getElem?_toArray, List.getElem?_cons_zero] at e0
      have st6 := st5.put0 hbgo hBgo hwgo hne z
      clear c0 cc1 c2 f0 f1 f2
      have c0 := st6.mac.cell 0
      have cc1 := st6.mac.cell 1
      have c2 := st6.mac.cell 2
      simp only [List.getElem?_toArray, List.getElem?_cons_zero, List.getElem?_cons_succ] at c0 cc1 c2
      have d := st6.res.cell
      have f := st6.res.frozen
      have c0' := st5.mac.cell 0
      have cc1' := st5.mac.cell 1
      have c2' := st5.mac.cell 2
      have d' := st5.res.cell
      have f' := st5.res.frozen
      simp only [List.getElem?_toArray, List.getElem?_cons_zero, List.getElem?_cons_succ] at c0' cc1' c2'
      go_wp2
      refine bodyPost_ret (v := .agg #[.int .i64 z, .int .i64 m.st, .slice (some ⟨gr, 0, none⟩) m.rules.length c1]) ?_ rfl (MRes0.of st6.src (by omega) st6.grown hBg hbg (by omega) st6.own (Nat.le_refl _) st6.res)
      simp [results, Tryz.results75, go_sem, d]
    · have oL : OwnInts g (w4.alloc (.cells #[.int .i64 (0), .int .i64 (1001), .int .i64 (wrap64 (m.st + 1)), .int .i64 (-1)] 2)) (.slice (some ⟨w4.heap.size, 0, none⟩) 4 4) [0, 1001, wrap64 (m.st + 1), -1] := own_lits [0, 1001, wrap64 (m.st + 1), -1] hgw4 (by simp)
      have st4a := st4.ext (Ext.alloc w4 (.cells #[.int .i64 (0), .int .i64 (1001), .int .i64 (wrap64 (m.st + 1)), .int .i64 (-1)] 2))
      go_wp2_with fail
      refine (among_c B g b _ _ [0, 1001, wrap64 (m.st + 1), -1] _ st4a.src oL (by simp) (by omega)).mono ?_
      rintro e w5 ⟨⟨z, rfl, _⟩, hs5, hg5⟩
      have st5 := st4a.src' hs5 hg5
      have e0 := st5.mac.cell 1
      have ff := st5.mac.frozen 1
      simp only [List.getElem?_toArray, List.getElem?_cons_zero, List.getElem?_cons_succ] at e0
      have st6 := st5.put1 hbgo hBgo hwgo hne z
      clear c0 cc1 c2 f0 f1 f2
      have c0 := st6.mac.cell 0
      have cc1 := st6.mac.cell 1
      have c2 := st6.mac.cell 2
      simp only [List.getElem?_toArray, List.getElem?_cons_zero, List.getElem?_cons_succ] at c0 cc1 c2
      have d := st6.res.cell
      have f := st6.res.frozen
      have c0' := st5.mac.cell 0
      have cc1' := st5.mac.cell 1
      have c2' := st5.mac.cell 2
      have d' := st5.res.cell
      have f' := st5.res.frozen
      simp only [List.getElem?_toArray, List.getElem?_cons_zero, List.getElem?_cons_succ] at c0' cc1' c2'
      go_wp2
      refine bodyPost_ret (v := .agg #[.int .i64 m.sy, .int .i64 z, .slice (some ⟨gr, 0, none⟩) m.rules.length c1]) ?_ rfl (MRes0.of st6.src (by omega) st6.grown hBg hbg (by omega) st6.own (Nat.le_refl _) st6.res)
      simp [results, Tryz.results75, go_sem, d]
    · have oL : OwnInts g (w4.alloc (.cells #[.int .i64 (-1), .int .i64 (m.sy), .int .i64 (1)] 2)).drew (.slice (some ⟨w4.heap.size, 0, none⟩) 3 3) [-1, m.sy, 1] := OwnInts.ext (own_lits (w := w4) [-1, m.sy, 1] hgw4 (by simp)) (Ext.drew _)
      have st4a := (st4.ext (Ext.alloc w4 (.cells #[.int .i64 (-1), .int .i64 (m.sy), .int .i64 (1)] 2))).ext (Ext.drew _)
      have HSET := Lib.hid (fun z => rvs_set0 m.rules k z hk)
      have i1 : (0 : Int) ≤ (k : Int) := by omega
      have i2 : (k : Int) < (m.rules.length : Int) := by omega
      clear f0 f1 f2
      go_wp2_with fail
      go_region_held3 (fun w' => w'.cell? ⟨go, 0, none⟩ = some (.int .i64 m.sy) ∧ w'.cell? ⟨go, 2, none⟩ = some (.slice (some ⟨gr, 0, none⟩) m.rules.length c1))
        (first | go_keep | exact ⟨t0, t2⟩ | exact ⟨u0, u2⟩)
        ((go_at_call 106; ((with_reducible refine (among_c B g b _ _ [-1, m.sy, 1] _ st4a.src oL (by simp) (by omega)).mono ?_)); rintro e w5 ⟨⟨z, rfl, _⟩, hs5, hg5⟩; have st5 := st4a.src' hs5 hg5; have st6 := st5.field hbl hB (k * 3) (.int .i64 z) (HSET.out z) (by simp); have t2 := st5.mac.cell 2; have u2 := st6.mac.cell 2; have t0 := st5.mac.cell 0; have u0 := st6.mac.cell 0; have q0 := st5.own.cellAt (k * 3) (by omega); have qf := st5.own.frozenAt (k * 3); rw [List.getElem?_eq_getElem (by rw [rvs_length]; omega)] at q0; simp only [List.getElem?_toArray, List.getElem?_cons_zero, List.getElem?_cons_succ] at t0 t2 u0 u2))
      all_goals
        clear c0 cc1 c2
        have c0 := st6.mac.cell 0
        have cc1 := st6.mac.cell 1
        have c2 := st6.mac.cell 2
        simp only [List.getElem?_toArray, List.getElem?_cons_zero, List.getElem?_cons_succ] at c0 cc1 c2
        have d := st6.res.cell
        have f := st6.res.frozen
        go_wp2
        refine bodyPost_ret (v := .agg #[.int .i64 m.sy, .int .i64 m.st, .slice (some ⟨gr, 0, none⟩) m.rules.length c1]) ?_ rfl (MRes0.of st6.src (by omega) st6.grown hBg hbg (by omega) st6.own (Nat.le_refl _) st6.res)
        simp [results, Tryz.results75, go_sem, d]
    · have oL : OwnInts g (w4.alloc (.cells #[.int .i64 (0), .int .i64 (2), .int .i64 (-2), .int .i64 (1)] 2)).drew (.slice (some ⟨w4.heap.size, 0, none⟩) 4 4) [0, 2, -2, 1] := OwnInts.ext (own_lits (w := w4) [0, 2, -2, 1] hgw4 (by simp)) (Ext.drew _)
      have st4a := (st4.ext (Ext.alloc w4 (.cells #[.int .i64 (0), .int .i64 (2), .int .i64 (-2), .int .i64 (1)] 2))).ext (Ext.drew _)
      have HSET := Lib.hid (fun z => rvs_set1 m.rules k z hk)
      have i1 : (0 : Int) ≤ (k : Int) := by omega
      have i2 : (k : Int) < (m.rules.length : Int) := by omega
      clear f0 f1 f2
      go_wp2_with fail
      go_region_held3 (fun w' => w'.cell? ⟨go, 2, none⟩ = some (.slice (some ⟨gr, 0, none⟩) m.rules.length c1))
        (first | go_keep | exact t2 | exact u2)
        ((go_at_call 106; ((with_reducible refine (among_c B g b _ _ [0, 2, -2, 1] _ st4a.src oL (by simp) (by omega)).mono ?_)); rintro e w5 ⟨⟨z, rfl, _⟩, hs5, hg5⟩; have st5 := st4a.src' hs5 hg5; have st6 := st5.field hbl hB (k * 3 + 1) (.int .i64 z) (HSET.out z) (by simp); have t2 := st5.mac.cell 2; have u2 := st6.mac.cell 2; have q0 := st5.own.cellAt (k * 3 + 1) (by omega); have qf := st5.own.frozenAt (k * 3 + 1); rw [List.getElem?_eq_getElem (by rw [rvs_length]; omega)] at q0; simp only [List.getElem?_toArray, List.getElem?_cons_zero, List.getElem?_cons_succ] at t2 u2))
      all_goals
        clear c0 cc1 c2
        have c0 := st6.mac.cell 0
        have cc1 := st6.mac.cell 1
        have c2 := st6.mac.cell 2
        simp only [List.getElem?_toArray, List.getElem?_cons_zero, List.getElem?_cons_succ] at c0 cc1 c2
        have d := st6.res.cell
        have f := st6.res.frozen
        go_wp2
        refine bodyPost_ret (v := .agg #[.int .i64 m.sy, .int .i64 m.st, .slice (some ⟨gr, 0, none⟩) m.rules.length c1]) ?_ rfl (MRes0.of st6.src (by omega) st6.grown hBg hbg (by omega) st6.own (Nat.le_refl _) st6.res)
        simp [results, Tryz.results75, go_sem, d]
    · have oL : OwnInts g (w4.alloc (.cells #[.int .i64 (-1), .int .i64 (m.st), .int .i64 (0), .int .i64 (-2)] 2)).drew (.slice (some ⟨w4.heap.size, 0, none⟩) 4 4) [-1, m.st, 0, -2] := OwnInts.ext (own_lits (w := w4) [-1, m.st, 0, -2] hgw4 (by simp)) (Ext.drew _)
      have st4a := (st4.ext (Ext.alloc w4 (.cells #[.int .i64 (-1), .int .i64 (m.st), .int .i64 (0), .int .i64 (-2)] 2))).ext (Ext.drew _)
      have HSET := Lib.hid (fun z => rvs_set2 m.rules k z hk)
      have i1 : (0 : Int) ≤ (k : Int) := by omega
      have i2 : (k : Int) < (m.rules.length : Int) := by omega
      clear f0 f1 f2
      go_wp2_with fail
      go_region_held3 (fun w' => w'.cell? ⟨go, 1, none⟩ = some (.int .i64 m.st) ∧ w'.cell? ⟨go, 2, none⟩ = some (.slice (some ⟨gr, 0, none⟩) m.rules.length c1))
        (first | go_keep | exact ⟨t1, t2⟩ | exact ⟨u1, u2⟩)
        ((go_at_call 106; ((with_reducible refine (among_c B g b _ _ [-1, m.st, 0, -2] _ st4a.src oL (by simp) (by omega)).mono ?_)); rintro e w5 ⟨⟨z, rfl, _⟩, hs5, hg5⟩; have st5 := st4a.src' hs5 hg5; have st6 := st5.field hbl hB (k * 3 + 2) (.int .i64 z) (HSET.out z) (by simp); have t2 := st5.mac.cell 2; have u2 := st6.mac.cell 2; have t1 := st5.mac.cell 1; have u1 := st6.mac.cell 1; have q0 := st5.own.cellAt (k * 3 + 2) (by omega); have qf := st5.own.frozenAt (k * 3 + 2); rw [List.getElem?_eq_getElem (by rw [rvs_length]; omega)] at q0; simp only [List.getElem?_toArray, List.getElem?_cons_zero, List.getElem?_cons_succ] at t1 t2 u1 u2))
      all_goals
        clear c0 cc1 c2
        have c0 := st6.mac.cell 0
        have cc1 := st6.mac.cell 1
        have c2 := st6.mac.cell 2
        simp only [List.getElem?_toArray, List.getElem?_cons_zero, List.getElem?_cons_succ] at c0 cc1 c2
        have d := st6.res.cell
        have f := st6.res.frozen
        go_wp2
        refine bodyPost_ret (v := .agg #[.int .i64 m.sy, .int .i64 m.st, .slice (some ⟨gr, 0, none⟩) m.rules.length c1]) ?_ rfl (MRes0.of st6.src (by omega) st6.grown hBg hbg (by omega) st6.own (Nat.le_refl _) st6.res)
        simp [results, Tryz.results75, go_sem, d]
    · have oc := st4.own.cut (k := k) (by omega) h0
      have st6 := st4.put2 hbgo hBgo hwgo hne oc
      have i1 : (0 : Int) ≤ (k : Int) := by omega
      have i2 : (k : Int) ≤ (m.rules.length : Int) := by omega
      have i3 : (k : Int) ≤ (c1 : Int) := by omega
      have d' := st4.res.cell
      have f' := st4.res.frozen
      have e0 := st6.mac.cell 0
      have ee1 := st6.mac.cell 1
      have e2 := st6.mac.cell 2
      simp only [List.getElem?_toArray, List.getElem?_cons_zero, List.getElem?_cons_succ] at e0 ee1 e2
      have d := st6.res.cell
      have f := st6.res.frozen
      go_wp2
      refine bodyPost_ret (v := .agg #[.int .i64 m.sy, .int .i64 m.st, .slice (some ⟨gr, 0, none⟩) k c1]) ?_ rfl (MRes0.of st6.src (by omega) st6.grown hBg hbg (by omega) st6.own (Nat.le_refl _) st6.res)
      simp [results, Tryz.results75, go_sem, d]
end Go.Proofs.YtacpchapgklcgaaGreatDoor
namespace Go.Proofs.YtacpchapgklcgaaGreatDoor
open Go Go.RowKit Go.Proofs
set_option maxHeartbeats 400000
set_option maxHeartbeats 1000000 in
theorem l05Draw_c (B b n : Nat) (w : World) (h : Src B w b n) (hB : B ≤ w.heap.size) (hn : n ≤ 10000000) :
    Calls Tryz.prog 42 #[.pointer (some ⟨b, 0, none⟩)] w (MRes0 B w b n 620) := by
  have hbl := h.lt
  obtain ⟨W, hW⟩ : ∃ W, W = w.alloc (.cells #[.int .i64 0, .int .i64 0, .slice none 0 0] 26) := ⟨_, rfl⟩
  have hX : Ext w W := by rw [hW]; exact Ext.alloc _ _
  have bR : Blk W w.heap.size 26 #[.int .i64 0, .int .i64 0, .slice none 0 0] := by rw [hW]; exact Blk.new _ _ _ _ rfl
  have hsW := h.ext hX
  have zW := hX.size
  go_enter Tryz.func42, Tryz.ntmps42
  go_wp2_with fail
  rw [← hW]
  clear hW
  refine (l05DrawOk_c B b n W hsW (by omega) (by omega)).mono ?_
  rintro e w1 ⟨⟨m, rv, rfl, ho1, l1, l2, _⟩, hs1, hg1⟩
  have hW1 : w.grownBy w1 (some b) := grownBy_trans (ext_grownBy hX _) hg1
  have b1 := blk_src hsW hg1 bR (by decide)
  have z1 := hg1.size
  obtain ⟨A1, c1, rfl, _, _, _⟩ := (ownsRow_row ho1).form
  obtain ⟨V, hV⟩ : ∃ V, V = w1.alloc (.cells #[.int .i64 m.sy, .int .i64 m.st, .slice A1 m.rules.length c1] 26) := ⟨_, rfl⟩
  have hXV : Ext w1 V := by rw [hV]; exact Ext.alloc _ _
  have bV := b1.ext hXV
  have zV := hXV.size
  go_wp2_with fail
  rw [← hV]
  clear hV
  refine (l05Bend_c B b (n + 600) m _ V (hs1.ext hXV) (by omega) (by omega) (OwnRules.rules (ho1.ext hXV)) l1 l2).mono ?_
  rintro e w2 ⟨⟨m2, rv2, rfl, ho2⟩, hs2, hg2⟩
  have hW2 := grownBy_trans (grownBy_trans hW1 (ext_grownBy hXV _)) hg2
  have b2 := blk_src (hs1.ext hXV) hg2 bV (by decide)
  have d := b2.cell
  have f := b2.frozen
  obtain ⟨A2, c2, rfl, _, _, _⟩ := (ownsRow_row ho2).form
  go_wp2
  refine bodyPost_ret (v := .agg #[.int .i64 m2.sy, .int .i64 m2.st, .slice A2 m2.rules.length c2]) ?_ rfl (MRes0.of hs2 (by omega) hW2 hB hbl (Nat.le_refl _) ho2 (by omega) b2)
  simp [results, Tryz.results42, go_sem, d]
theorem BendSt.fieldN {B b g go : Nat} {w0 : World} {n : Nat} {sy st : Int} {rs : List RuleD} {w : World} {gr c N : Nat} {qs : List RuleD} (hN : rs.length = N) (h : BendSt B b g go w0 n sy st rs (.slice (some ⟨gr, 0, none⟩) N c) w) (hbw : b < w0.heap.size) (hB : B ≤ w0.heap.size) (j : Nat) (u : Value) (hq : (rvs rs).set j u = rvs qs) (hl : qs.length = N) :
    BendSt B b g go w0 n sy st qs (.slice (some ⟨gr, 0, none⟩) N c) (w.setCell ⟨gr, j, none⟩ u) := by
  subst hN
  exact h.field hbw hB j u hq hl
/-- A rule is written whole. -/
theorem BendSt.rule {B b g go : Nat} {w0 : World} {n : Nat} {sy st : Int} {rs : List RuleD} {w : World} {gr c N : Nat} (hN : rs.length = N) (h : BendSt B b g go w0 n sy st rs (.slice (some ⟨gr, 0, none⟩) N c) w) (hbw : b < w0.heap.size) (hB : B ≤ w0.heap.size) (k : Nat) (hk : k < N) (x y z : Int) :
    BendSt B b g go w0 n sy st (rs.set k ⟨x, y, z⟩) (.slice (some ⟨gr, 0, none⟩) N c) (((w.setCell ⟨gr, k * 3, none⟩ (.int .i64 x)).setCell ⟨gr, k * 3 + 1, none⟩ (.int .i64 y)).setCell ⟨gr, k * 3 + 2, none⟩ (.int .i64 z)) := by
  have s1 := BendSt.fieldN hN h hbw hB (k * 3) (.int .i64 x) (rvs_set0 rs k x (by omega)) (by simpa using hN)
  have l1 : (rs.set k ⟨x, rs[k].m, rs[k].n⟩).length = N := by simpa using hN
  have s2 := BendSt.fieldN l1 s1 hbw hB (k * 3 + 1) (.int .i64 y) (rvs_set1 _ k y (by omega)) (by simpa using hN)
  have l2 : ((rs.set k ⟨x, rs[k].m, rs[k].n⟩).set k ⟨((rs.set k ⟨x, rs[k].m, rs[k].n⟩)[k]'(by omega)).w, y, ((rs.set k ⟨x, rs[k].m, rs[k].n⟩)[k]'(by omega)).n⟩).length = N := by simpa using hN
  have s3 := BendSt.fieldN l2 s2 hbw hB (k * 3 + 2) (.int .i64 z) (rvs_set2 _ k z (by omega)) (by simpa using hN)
  simpa [List.set_set] using s3
set_option maxRecDepth 20000 in
set_option maxHeartbeats 4000000 in
theorem l26DrawMachine_c (B b n : Nat) (w : World) (h : Src B w b n) (hB : B ≤ w.heap.size) (hn : n ≤ 1000000) :
    Calls Tryz.prog 17 #[.pointer (some ⟨b, 0, none⟩)] w (MRes0 B w b n 3000) := by
  have hbl := h.lt
  obtain ⟨W, hW⟩ : ∃ W, W = w.alloc (.cells #[.int .i64 0, .int .i64 0, .slice none 0 0] 26) := ⟨_, rfl⟩
  have hX : Ext w W := by rw [hW]; exact Ext.alloc _ _
  have bR : Blk W w.heap.size 26 #[.int .i64 0, .int .i64 0, .slice none 0 0] := by rw [hW]; exact Blk.new _ _ _ _ rfl
  have hsW := h.ext hX
  have zW := hX.size
  go_enter Tryz.func17, Tryz.ntmps17
  go_wp2_with fail
  rw [← hW]
  clear hW
  refine (one_c B b n 8 W hsW (by omega)).mono ?_
  rintro e w1 ⟨⟨q, rfl⟩, hs1, hg1⟩
  have hW1 : w.grownBy w1 (some b) := grownBy_trans (ext_grownBy hX _) hg1
  have b1 := blk_src hsW hg1 bR (by decide)
  have z1 := hg1.size
  cases q with
  | true =>
    go_wp2_with fail
    refine (l05Draw_c B b _ w1 hs1 (by omega) (by omega)).mono ?_
    rintro e w2 ⟨⟨m2, rv2, rfl, ho2⟩, hs2, hg2⟩
    have b2 := blk_src hs1 hg2 b1 (by decide)
    have d := b2.cell
    have f := b2.frozen
    obtain ⟨A2, c2, rfl, _, _, _⟩ := (ownsRow_row ho2).form
    go_wp2
    refine bodyPost_ret (v := .agg #[.int .i64 m2.sy, .int .i64 m2.st, .slice A2 m2.rules.length c2]) ?_ rfl (MRes0.of hs2 (by omega) (grownBy_trans hW1 hg2) hB hbl (Nat.le_refl _) ho2 (by omega) b2)
    simp [results, Tryz.results17, go_sem, d]
  | false =>
    go_wp2_with fail
    refine (pick_c B b _ 3 w1 hs1 (by omega)).mono ?_
    rintro e w2 ⟨⟨x, rfl, x0, _, x2⟩, hs2, hg2⟩
    have x3 := x2 (by omega)
    have b2 := blk_src hs1 hg2 b1 (by decide)
    have z2 := hg2.size
    go_wp2_with fail
    refine (l05DrawSize_m B b _ 2 (1 + x) w2 hs2 (by omega) (by omega) (by omega) (by omega) (by omega) (by omega)).mono ?_
    rintro e w3 ⟨⟨m, rv, rfl, ho3, l1, l2, _⟩, hs3, hg3⟩
    have b3 := blk_src hs2 hg3 b2 (by decide)
    have z3 := hg3.size
    have hW3 := grownBy_trans (grownBy_trans hW1 hg2) hg3
    obtain ⟨A1, c1, rfl, _, _, _⟩ := (ownsRow_row ho3).form
    obtain ⟨gr, rfl, hgr1, hgr2⟩ := own_at ho3 l1
    obtain ⟨V, hV⟩ : ∃ V, V = w3.alloc (.cells #[.int .i64 m.sy, .int .i64 m.st, .slice (some ⟨gr, 0, none⟩) m.rules.length c1] 26) := ⟨_, rfl⟩
    have hXV : Ext w3 V := by rw [hV]; exact Ext.alloc _ _
    have st0 : BendSt B b w.heap.size w3.heap.size w (n + 504) m.sy m.st m.rules (.slice (some ⟨gr, 0, none⟩) m.rules.length c1) V :=
      ⟨b3.ext hXV, by rw [hV]; exact Blk.new _ _ _ _ rfl, OwnRules.ext (ownsRow_base ho3 (by omega)) hXV, (hs3.ext hXV).mono (by omega), grownBy_trans hW3 (ext_grownBy hXV _)⟩
    have hgo : w.heap.size < w3.heap.size := b3.lt
    go_wp2
    rw [← hV]
    clear hV
    generalize w3.heap.size = go at *
    generalize hN : m.rules.length = N at *
    have HN := Lib.hid hN
    clear hN
    go_loopw [4, 5] (fun fr i wr => ∃ (j f : Nat) (rs : List RuleD), j ≤ N ∧ f ≤ j ∧ i = .int .i64 j ∧ fr = .int .i64 f ∧ rs.length = N ∧ BendSt B b w.heap.size go w (n + 504 + 4 * j) m.sy m.st rs (.slice (some ⟨gr, 0, none⟩) N c1) wr) (fun _ i _ => N - (intOf i).toNat)
    case atStart => exact ⟨0, 0, m.rules, Nat.zero_le _, Nat.le_refl _, rfl, rfl, HN.out, st0⟩
    case round =>
      clear st0
      obtain ⟨j, fr, rs, hj, hf, rfl, rfl, hl, hst⟩ := hrel
      have c2 := hst.mac.cell 2
      simp only [List.getElem?_toArray, List.getElem?_cons_zero, List.getElem?_cons_succ] at c2
      by_cases hlt : j < N
      · obtain ⟨ru, hru⟩ : ∃ ru, rs[j]? = some ru := ⟨_, List.getElem?_eq_getElem (by omega)⟩
        have hjr : j < rs.length := by omega
        have hget : rs[j] = ru := by rw [List.getElem?_eq_getElem hjr] at hru; injection hru
        have hgg := rvs_get rs j hjr
        rw [hget] at hgg
        have ow : wr.ownsRow w.heap.size 38 3 (.slice (some ⟨gr, 0, none⟩) N c1) N (rvs rs) := by
          have := hst.own
          unfold OwnRules at this
          rwa [hl] at this
        have c0 := (ow.cellAt (j * 3) (by omega)).trans hgg.1
        have c1' := (ow.cellAt (j * 3 + 1) (by omega)).trans hgg.2.1
        have c2' := (ow.cellAt (j * 3 + 2) (by omega)).trans hgg.2.2
        have d0 := cellR c0
        have d1 := cellR c1'
        have d2 := cellR c2'
        have dM := cellR c2
        have rn := ruleNeq_run
        have HGET := Lib.hid hget
        clear hgg hget hru c0 c1' c2' ow
        have heb : ∀ q, rEq ru noR = q → rEq ⟨ru.w, ru.m, ru.n⟩ ⟨0, 0, -1⟩ = q := fun _ h => h
        have i1 : (0 : Int) ≤ (j : Int) := by omega
        have i2 : (j : Int) < (N : Int) := by omega
        by_cases he : ru = noR
        · have H := heb true (by simp [rEq, he])
          clear heb he
          go_wp2
          refine wp_region_ext (by kernel_rfl) (by kernel_rfl) ?_
          repeat (go_big_quiet_step ((go_at_call 43; exact Calls.extR (l05None_c _))))
          refine wpQuiet_nil ?_
          intro w4 hx4
          clear d0 d1 d2 dM rn H
          have st4 := hst.ext hx4
          have hs4n := st4.src
          by_cases hf1 : fr = 0
          · subst hf1
            go_wp2
            go_roundw
            case rel => exact ⟨j + 1, 1, rs, by omega, by omega, by go_num, by go_num, hl, ⟨st4.res, st4.mac, st4.own, st4.src.mono (by omega), st4.grown⟩⟩
            case measure => simp [intOf]; omega
          · have hgt : decide ((1 : Int) < (fr : Int) + 1) = true := by simp; omega
            have m1 := st4.mac.cell 1
            have m2 := st4.mac.cell 2
            simp only [List.getElem?_toArray, List.getElem?_cons_zero, List.getElem?_cons_succ] at m1 m2
            have st4d := st4.ext (Ext.drew w4)
            go_wp2_with fail
            go_region_held3 (fun w' => w'.cell? ⟨go, 1, none⟩ = some (.int .i64 m.st) ∧ w'.cell? ⟨go, 2, none⟩ = some (.slice (some ⟨gr, 0, none⟩) N c1))
              (first | go_keep | exact ⟨t1, t2⟩ | exact ⟨u1, u2⟩ | exact ⟨v1, v2⟩)
              (first
                | (go_at_call 30; ((with_reducible refine (pick_c B b _ 2 _ st4d.src (by omega)).mono ?_)); rintro e w5 ⟨⟨x5, rfl, _, _, _⟩, hs5, hg5⟩; have st5 := st4d.src' hs5 hg5; have t1 := st5.mac.cell 1; have t2 := st5.mac.cell 2; simp only [List.getElem?_toArray, List.getElem?_cons_zero, List.getElem?_cons_succ] at t1 t2)
                | (go_at_call 30; ((with_reducible refine (pick_c B b _ m.st _ st5.src (by omega)).mono ?_)); rintro e w6 ⟨⟨x6, rfl, _, _, _⟩, hs6, hg6⟩; have st6 := st5.src' hs6 hg6; have u1 := st6.mac.cell 1; have u2 := st6.mac.cell 2; have st7 := BendSt.rule hl st6 hbl hB j hlt x5 1 x6; have v1 := st7.mac.cell 1; have v2 := st7.mac.cell 2; have ow6 : w6.ownsRow w.heap.size 38 3 (.slice (some ⟨gr, 0, none⟩) N c1) N (rvs rs) := (by have := st6.own; unfold OwnRules at this; rwa [hl] at this); have q0 := ow6.cellAt (j * 3) (by omega); have q1 := ow6.cellAt (j * 3 + 1) (by omega); have q2 := ow6.cellAt (j * 3 + 2) (by omega); have qf0 := ow6.frozenAt (j * 3); have qf1 := ow6.frozenAt (j * 3 + 1); have qf2 := ow6.frozenAt (j * 3 + 2); rw [List.getElem?_eq_getElem (by rw [rvs_length]; omega)] at q0 q1 q2; simp only [List.getElem?_toArray, List.getElem?_cons_zero, List.getElem?_cons_succ] at u1 u2 v1 v2))
            all_goals
              have ST := Lib.hid st7
              clear q0 q1 q2 qf0 qf1 qf2 u1 u2 v1 v2 t1 t2 m1 m2 st7 st6 st5 ow6
              try go_wp2
              go_roundw
              · exact ⟨j + 1, fr + 1, rs.set j ⟨x5, 1, x6⟩, by omega, by omega, by go_num, by go_num, by simpa using hl, ⟨ST.out.res, ST.out.mac, ST.out.own, ST.out.src.mono (by omega), ST.out.grown⟩⟩
              · simp [intOf]; omega
        · have H := heb false (by simp [rEq, he])
          clear heb he
          go_wp2
          refine wp_region_ext (by kernel_rfl) (by kernel_rfl) ?_
          repeat (go_big_quiet_step ((go_at_call 43; exact Calls.extR (l05None_c _))))
          refine wpQuiet_nil ?_
          intro w4 hx4
          clear d0 d1 d2 dM rn H
          have st4 := hst.ext hx4
          go_wp2
          go_roundw
          case rel => exact ⟨j + 1, fr, rs, by omega, by omega, by go_num, rfl, hl, ⟨st4.res, st4.mac, st4.own, st4.src.mono (by omega), st4.grown⟩⟩
          case measure => simp [intOf]; omega
      · have hge : decide (j < N) = false := by simp [hlt]
        have c0 := hst.mac.cell 0
        have cc1 := hst.mac.cell 1
        simp only [List.getElem?_toArray, List.getElem?_cons_zero, List.getElem?_cons_succ] at c0 cc1
        have d := hst.res.cell
        have f := hst.res.frozen
        have hne : w.heap.size ≠ go := by omega
        have hw : w.grownBy wr (some b) := hst.grown
        have hjN : j ≤ 600 := by omega
        go_wp2
        refine bodyPost_ret (v := .agg #[.int .i64 m.sy, .int .i64 m.st, .slice (some ⟨gr, 0, none⟩) N c1]) ?_ rfl (MRes0.of hst.src (by omega) hw hB hbl (Nat.le_refl _) hst.own (Nat.le_refl _) hst.res)
        simp [results, Tryz.results17, go_sem, d]
end Go.Proofs.YtacpchapgklcgaaGreatDoor
namespace Go.Proofs.YtacpchapgklcgaaGreatDoor
open Go Go.RowKit Go.Proofs
set_option maxHeartbeats 400000
structure DecSt (w : World) (b n : Nat) (wr : World) : Prop where
  res : Blk wr w.heap.size 26 #[.int .i64 0, .int .i64 0, .slice none 0 0]
  src : Src (w.heap.size + 1) wr b n
  ext : Ext w wr
theorem DecSt.done {w : World} {b n base : Nat} {wr : World} {m : MachD} {rv : Value} (h : DecSt w b n wr) (ho : OwnRules base wr rv m.rules) (hbase : w.heap.size ≤ base) :
    OwnRules w.heap.size (((wr.setCell ⟨w.heap.size, 0, none⟩ (.int .i64 m.sy)).setCell ⟨w.heap.size, 1, none⟩ (.int .i64 m.st)).setCell ⟨w.heap.size, 2, none⟩ rv) rv m.rules ∧
    Ext w (((wr.setCell ⟨w.heap.size, 0, none⟩ (.int .i64 m.sy)).setCell ⟨w.heap.size, 1, none⟩ (.int .i64 m.st)).setCell ⟨w.heap.size, 2, none⟩ rv) := by
  have hfar := own_far_blk ho h.res (by decide)
  refine ⟨ownsRow_base (ownsRow_far (ownsRow_far (ownsRow_far ho hfar _) hfar _) hfar _) hbase, ?_⟩
  exact ((h.ext.setCell (Nat.le_refl _) _).setCell (Nat.le_refl _) _).setCell (Nat.le_refl _) _
set_option maxRecDepth 20000 in
set_option maxHeartbeats 4000000 in
theorem B10Decided_v (v : Value) (bs : List Int) (w : World) (h : Bytes w v bs) :
    Calls Tryz.prog 6 #[v] w fun e w' => (∃ (m : MachD) (rv : Value), e = .returned (.agg #[.int .i64 m.sy, .int .i64 m.st, rv]) ∧ OwnRules w.heap.size w' rv m.rules ∧ machOk m = true ∧ m.sy = 2 ∧ m.st < 4) ∧ Ext w w' := by
  obtain ⟨W, hW⟩ : ∃ W, W = w.alloc (.cells #[.int .i64 0, .int .i64 0, .slice none 0 0] 26) := ⟨_, rfl⟩
  have hX : Ext w W := by rw [hW]; exact Ext.alloc _ _
  have bR : Blk W w.heap.size 26 #[.int .i64 0, .int .i64 0, .slice none 0 0] := by rw [hW]; exact Blk.new _ _ _ _ rfl
  have zW : W.heap.size = w.heap.size + 1 := by rw [hW]; simp
  go_enter Tryz.func6, Tryz.ntmps6
  go_wp2_with fail
  rw [← hW]
  clear hW
  refine (from_c v bs W (h.ext hX)).mono ?_
  rintro e w1 ⟨⟨b, rfl, hb, hs1⟩, hx1⟩
  rw [zW] at hs1 hb
  have st1 : DecSt w b 0 w1 := ⟨bR.ext hx1, hs1, hX.trans hx1⟩
  go_wp2
  go_loopw [4] (fun i wr => ∃ k : Nat, k ≤ 4 ∧ i = .int .i64 k ∧ DecSt w b (3000 * k) wr) (fun i _ => 4 - (intOf i).toNat)
  case atStart => exact ⟨0, by omega, rfl, st1⟩
  case round =>
    clear st1
    obtain ⟨k, hk, rfl, hst⟩ := hrel
    have hbl := hst.src.lt
    have hgl := hst.res.lt
    by_cases hlt : k < 4
    · have i1 : (k : Int) < 4 := by omega
      go_wp2_with fail
      refine (l26DrawMachine_c (w.heap.size + 1) b _ wr hst.src (by omega) (by omega)).mono ?_
      rintro e w2 ⟨⟨m, rv, rfl, ho2⟩, hs2, hg2⟩
      have b2 := blk_src hst.src hg2 hst.res (by decide)
      have hx2 : Ext w w2 := hst.ext.grown hg2 (fun k hk => by injection hk with hk; omega)
      obtain ⟨Ar, cr, rfl, _, _, _⟩ := (ownsRow_row ho2).form
      obtain ⟨V, hV⟩ : ∃ V, V = w2.alloc (.cells #[.int .i64 m.sy, .int .i64 m.st, .slice Ar m.rules.length cr] 26) := ⟨_, rfl⟩
      have hXV : Ext w2 V := by rw [hV]; exact Ext.alloc _ _
      have bV : Blk V w2.heap.size 26 #[.int .i64 m.sy, .int .i64 m.st, .slice Ar m.rules.length cr] := by rw [hV]; exact Blk.new _ _ _ _ rfl
      have c0 := bV.cell 0
      have c1 := bV.cell 1
      have c2 := bV.cell 2
      simp only [List.getElem?_toArray, List.getElem?_cons_zero, List.getElem?_cons_succ] at c0 c1 c2
      have hMA : MachAt V w2.heap.size m := ⟨_, c0, c1, c2, OwnRules.rules (ho2.ext hXV)⟩
      go_wp2_with fail
      rw [← hV]
      clear hV c0 c1 c2
      refine (l05Is_c _ m V hMA).mono ?_
      rintro e w3 ⟨rfl, hx3⟩
      have b3 := bV.ext hx3
      have c0 := b3.cell 0
      have c1 := b3.cell 1
      have c2 := b3.cell 2
      simp only [List.getElem?_toArray, List.getElem?_cons_zero, List.getElem?_cons_succ] at c0 c1 c2
      have st3 : DecSt w b (3000 * k + 3000) w3 := ⟨(b2.ext hXV).ext hx3, (hs2.ext hXV).ext hx3, (hx2.trans hXV).trans hx3⟩
      have o3 : OwnRules wr.heap.size w3 (.slice Ar m.rules.length cr) m.rules := (ho2.ext hXV).ext hx3
      have hne : w.heap.size ≠ w2.heap.size := by have := b2.lt; omega
      by_cases q1 : machOk m = true
      · have HQ1 := Lib.hid q1
        rw [q1]
        by_cases q2 : m.sy = 2
        · have Q2 : decide (m.sy = 2) = true := by simp [q2]
          have HQ2 := Lib.hid q2
          by_cases q3 : m.st < 4
          · have HQ3 := Lib.hid q3
            have d := st3.res.cell
            have f := st3.res.frozen
            obtain ⟨r1, r2⟩ := st3.done (m := m) o3 (by have := hst.ext.size; omega)
            rw [q2] at r1 r2 c0
            clear Q2
            go_wp2
            refine bodyPost_ret (v := .agg #[.int .i64 2, .int .i64 m.st, .slice Ar m.rules.length cr]) ?_ rfl ⟨⟨m, _, by rw [q2], r1, HQ1.out, HQ2.out, HQ3.out⟩, r2⟩
            simp [results, Tryz.results6, go_sem, d]
          · have Q3 : decide (m.st < 4) = false := by simp [q3]
            rw [q2] at c0
            clear Q2
            go_wp2
            go_roundw
            case rel => exact ⟨k + 1, by omega, by go_num, st3.res, st3.src.mono (by omega), st3.ext⟩
            case measure => simp [intOf]; omega
        · have Q2 : decide (m.sy = 2) = false := by simp [q2]
          go_wp2
          go_roundw
          case rel => exact ⟨k + 1, by omega, by go_num, st3.res, st3.src.mono (by omega), st3.ext⟩
          case measure => simp [intOf]; omega
      · have q1' : machOk m = false := by simpa using q1
        rw [q1']
        go_wp2
        go_roundw
        case rel => exact ⟨k + 1, by omega, by go_num, st3.res, st3.src.mono (by omega), st3.ext⟩
        case measure => simp [intOf]; omega
    · obtain rfl : k = 4 := by omega
      go_wp2_with fail
      refine (l05DrawSize_c (w.heap.size + 1) b _ 2 2 wr hst.src (by omega) (by omega) (by omega) (by omega) (by omega) (by omega)).mono ?_
      rintro e w2 ⟨⟨rv, rs, rfl, ho2, hrl, hok⟩, hs2, hg2⟩
      have HMO : Hid (machOk ⟨2, 2, rs⟩ = true) := Lib.hid (by
        simp only [machOk, inB, Bool.and_eq_true, decide_eq_true_eq, List.all_eq_true]
        exact ⟨⟨⟨by decide, by decide⟩, hrl⟩, hok⟩)
      clear hrl hok
      have b2 := blk_src hst.src hg2 hst.res (by decide)
      have st2 : DecSt w b _ w2 := ⟨b2, hs2, hst.ext.grown hg2 (fun k hk => by injection hk with hk; omega)⟩
      have d := st2.res.cell
      have f := st2.res.frozen
      obtain ⟨r1, r2⟩ := st2.done (m := ⟨2, 2, rs⟩) ho2 (by have := hst.ext.size; omega)
      obtain ⟨Ar, cr, rfl, _, _, _⟩ := (ownsRow_row ho2).form
      go_wp2
      refine bodyPost_ret (v := .agg #[.int .i64 2, .int .i64 2, .slice Ar rs.length cr]) ?_ rfl ⟨⟨⟨2, 2, rs⟩, _, rfl, r1, HMO.out, rfl, (by decide : (2 : Int) < 4)⟩, r2⟩
      simp [results, Tryz.results6, go_sem, d]
theorem B10Decided_c (v : Value) (bs : List Int) (w : World) (h : Bytes w v bs) :
    Calls Tryz.prog 6 #[v] w fun e w' => (∃ (m : MachD) (rv : Value), e = .returned (.agg #[.int .i64 m.sy, .int .i64 m.st, rv]) ∧ OwnRules w.heap.size w' rv m.rules) ∧ Ext w w' :=
  (B10Decided_v v bs w h).mono fun _ _ ⟨⟨m, rv, he, ho, _⟩, hx⟩ => ⟨⟨m, rv, he, ho⟩, hx⟩
end Go.Proofs.YtacpchapgklcgaaGreatDoor
end
