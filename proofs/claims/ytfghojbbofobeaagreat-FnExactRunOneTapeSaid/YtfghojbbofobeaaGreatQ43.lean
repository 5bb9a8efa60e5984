/- Contracts of the laws' marks in configurations with several tapes, and of their reading.
Contracts on configurations that calls have made.
Words for the walk of the law on the decoding of a configuration of the machine with one tape for several: bounds, and results in a block that has been made. -/
import Derived.Test.YtfghojbbofobeaaGreatQ42
import Derived.Test.YtfghojbbofobeaaGreatQ02
import Derived.Test.YtfghojbbofobeaaGreatQ19
import Derived.Test.YtfghojbbofobeaaGreatQ37
import Derived.Test.YtfghojbbofobeaaGreatQ25
import Derived.Test.YtfghojbbofobeaaGreatQ33
import Derived.Test.YtfghojbbofobeaaGreatQ40
section
set_option linter.unusedVariables false
set_option linter.unusedSimpArgs false
namespace Go.Proofs.YtfghojbbofobeaaGreat
open Go Go.RowKit Go.Proofs
set_option maxHeartbeats 400000
def totT (ts : List TapeD) : Nat := (ts.map fun t => t.l.length + t.r.length).sum
theorem totT_take (ts : List TapeD) (i : Nat) (h : i < ts.length) : totT (ts.take (i + 1)) = totT (ts.take i) + (ts[i].l.length + ts[i].r.length) := by
  unfold totT
  rw [List.take_succ_eq_append_getElem h, List.map_append, List.sum_append]
  simp
theorem totT_le (ts : List TapeD) : ∀ i, totT (ts.take i) ≤ totT ts := by
  intro i
  have h : totT ts = totT (ts.take i) + totT (ts.drop i) := by
    unfold totT
    rw [← List.sum_append, ← List.map_append, List.take_append_drop]
  omega
/-- The tape that marks from k on make of the i-th one. -/
def mkT (k : Int) (ts : List TapeD) (i : Nat) (t : TapeD) : TapeD := ⟨nums (k + totT (ts.take i)) t.l.length, nums (k + totT (ts.take i) + t.l.length) t.r.length⟩
/-- The first j tapes are marked. -/
structure MkdT (k : Int) (ts : List TapeD) (j : Nat) (ts' : List TapeD) : Prop where
  len : ts'.length = ts.length
  lo : ∀ i, i < j → (h : i < ts.length) → (h' : i < ts'.length) → ts'[i] = mkT k ts i ts[i]
  hi : ∀ i, j ≤ i → (h : i < ts.length) → (h' : i < ts'.length) → ts'[i] = ts[i]
theorem MkdT.zero (k : Int) (ts : List TapeD) : MkdT k ts 0 ts := ⟨rfl, fun i h => by omega, fun _ _ _ _ => rfl⟩
theorem MkdT.next {k : Int} {ts ts' : List TapeD} {j : Nat} (h : MkdT k ts j ts') (hj : j < ts.length) : MkdT k ts (j + 1) (ts'.set j (mkT k ts j ts[j])) := by
  refine ⟨by simp [h.len], fun i hi h1 h2 => ?_, fun i hi h1 h2 => ?_⟩
  · by_cases e : i = j
    · subst e; simp
    · rw [List.getElem_set_ne (Ne.symm e)]
      exact h.lo i (by omega) h1 (by have := h.len; omega)
  · rw [List.getElem_set_ne (by omega)]
    exact h.hi i (by omega) h1 (by have := h.len; omega)
section
variable {w wr w' : World} {ts : List TapeD} {n : Nat} {v : Value} {cl : List Value}
/-- A list of a tape is written. -/
theorem CpM.write (h : CpM w ts n v cl wr) {q : Nat} {u : Value} {zs zs' : List Int} (hu : cl[q]? = some u) (ho : OwnInts w.heap.size wr u zs) (ho' : OwnInts w.heap.size w' u zs') (hg : wr.grownBy w' u.ownBlock) (t : TapeD)
    (ht : ∀ i, (hi : i < ts.length) → i = q / 2 → (q = i * 2 → t = ⟨zs', ts[i].r⟩) ∧ (q = i * 2 + 1 → t = ⟨ts[i].l, zs'⟩)) : CpM w (ts.set (q / 2) t) n v cl w' := by
  have keep : ∀ (j : Nat) (x : Value) (a : List Int), j ≠ q → cl[j]? = some x → OwnInts w.heap.size wr x a → OwnInts w.heap.size w' x a := fun j x a hj hx hxo =>
    World.ownsRow.kept hxo hg (by
      cases hb : x.ownBlock with
      | none => exact .inl rfl
      | some g => exact .inr fun he => h.ap j q x u g hj hx hu hb he.symm)
  refine ⟨World.ownsRow.kept h.own hg ?_, h.len, fun i hi hn => ?_, h.ap⟩
  · rcases own_ne h.own ho (by decide) with e | e
    · exact .inl e
    · exact .inr e
  · obtain ⟨lv, rv, e1, e2, o1, o2⟩ := h.side i (by simpa using hi) hn
    by_cases hq : i = q / 2
    · subst hq
      have hi' : q / 2 < ts.length := by simpa using hi
      obtain ⟨h1, h2⟩ := ht _ hi' rfl
      rw [List.getElem_set_self]
      by_cases hp : q = q / 2 * 2
      · rw [h1 hp]
        rw [← hp, hu] at e1
        injection e1 with e1
        subst e1
        exact ⟨u, rv, by rw [← hp]; exact hu, e2, ho', keep _ _ _ (by omega) e2 o2⟩
      · have hp2 : q = q / 2 * 2 + 1 := by omega
        rw [h2 hp2]
        rw [← hp2, hu] at e2
        injection e2 with e2
        subst e2
        exact ⟨lv, u, e1, by rw [← hp2]; exact hu, keep _ _ _ (by omega) e1 o1, ho'⟩
    · rw [List.getElem_set_ne (Ne.symm hq)]
      exact ⟨lv, rv, e1, e2, keep _ _ _ (by omega) e1 o1, keep _ _ _ (by omega) e2 o2⟩
theorem CpM.keepB (h : CpM w ts n v cl wr) (hk : KeepB w.heap.size wr w') : CpM w ts n v cl w' :=
  ⟨ownsRow_keepB h.own hk, h.len, fun i hi hn => by
    obtain ⟨lv, rv, e1, e2, o1, o2⟩ := h.side i hi hn
    exact ⟨lv, rv, e1, e2, ownsRow_keepB o1 hk, ownsRow_keepB o2 hk⟩, h.ap⟩
theorem CpM.tapes (h : CpM w ts ts.length v cl wr) : Tapes wr v ts := by
  obtain ⟨A, c, rfl, a, b, hr⟩ := ownsRow_row h.own
  refine ⟨A, c, rfl, a, b, fun hn => ?_⟩
  obtain ⟨g, off, rfl, hc⟩ := hr.2 hn
  refine ⟨g, off, rfl, fun i hi => ?_⟩
  obtain ⟨x, y, c0, c1, o1, o2⟩ := h.side i hi hi
  have hl := h.len
  exact ⟨x, y, (hc _ (by omega)).trans c0, by rw [Nat.add_assoc]; exact (hc _ (by omega)).trans c1, o1.ints, o2.ints⟩
end
/-- Variables of the type of configurations with several tapes are as they were. -/
def NI (w w' : World) : Prop := ∀ g cs, Blk w g 30 cs → Blk w' g 30 cs
theorem NI.refl (w : World) : NI w w := fun _ _ h => h
theorem NI.grown {w a b : World} (h : NI w a) {base : Nat} {v : Value} {zs : List Int} (ho : OwnInts base a v zs) (hg : a.grownBy b v.ownBlock) : NI w b := fun g cs hb => Blk.apart (h g cs hb) ho (by decide) hg
set_option maxRecDepth 20000 in
set_option maxHeartbeats 4000000 in
theorem markTapeS_c (W0 : World) (v : Value) (cl : List Value) (ts : List TapeD) (k : Int) (w : World) (h : CpM W0 ts ts.length v cl w) (hb : W0.heap.size ≤ w.heap.size) (h0 : 0 ≤ k) (h1 : k + (totT ts : Nat) ≤ 4611686018427387904) :
    Calls Tryz.prog 40 #[v, .int .i64 k] w fun e w' => e = .returned (.int .i64 (k + (totT ts : Nat))) ∧ (∃ ts', MkdT k ts ts.length ts' ∧ CpM W0 ts' ts'.length v cl w') ∧ Below W0.heap.size w w' ∧ NI w w' := by
  obtain ⟨A, c, rfl, _, _, _⟩ := (ownsRow_row h.own).form
  go_enter Tryz.func40, Tryz.ntmps40
  go_wp2
  go_loopw [1, 5] (fun q i wr => ∃ (j : Nat) (ts' : List TapeD), j ≤ ts.length ∧ i = .int .i64 j ∧ q = .int .i64 (k + (totT (ts.take j) : Nat)) ∧ MkdT k ts j ts' ∧ CpM W0 ts' ts.length (.slice A ts.length c) cl wr ∧ Below W0.heap.size w wr ∧ NI w wr) (fun _ i _ => ts.length - (intOf i).toNat)
  case atStart => exact ⟨0, ts, Nat.zero_le _, rfl, by simp [totT], MkdT.zero _ _, h, Below.refl _ _, NI.refl _⟩
  case round =>
    clear h
    obtain ⟨j, ts', hj, rfl, rfl, hK, h, hB, hNI⟩ := hrel
    have HNI := Lib.hid hNI
    clear hNI
    by_cases hlt : j < ts.length
    · obtain ⟨g, rfl, hbg, hgl⟩ := own_at h.own (by omega)
      obtain ⟨lv, rv, e1, e2, o1, o2⟩ := h.side j (by rw [hK.len]; exact hlt) hlt
      have hj' : j < ts'.length := by rw [hK.len]; exact hlt
      have hsame := hK.hi j (Nat.le_refl _) hlt hj'
      rw [hsame] at o1 o2
      have HK := Lib.hid hK
      have HTS := Lib.hid (totT_take ts j hlt)
      have hle := totT_le ts (j + 1)
      rw [HTS.out] at hle
      obtain ⟨t, ht⟩ : ∃ t, ts[j] = t := ⟨_, rfl⟩
      rw [ht] at o1 o2 hle
      have HT := Lib.hid ht
      have HSA : Hid (ts'[j] = t) := Lib.hid (hsame.trans ht)
      have hl := h.len
      obtain ⟨z, hz⟩ : ∃ z, k + ((totT (ts.take j) : Nat) : Int) = z := ⟨_, rfl⟩
      have HZ := Lib.hid hz
      have hz0 : 0 ≤ z := by omega
      have hz1 : z + t.l.length + t.r.length ≤ 4611686018427387904 := by omega
      rw [hz]
      obtain ⟨B1, d1, rfl, _, _⟩ := id o1.ints.form
      obtain ⟨B2, d2, rfl, _, _⟩ := id o2.ints.form
      have q1 := (h.own.cellAt (j * 2) (by omega)).trans e1
      have M1 := markInt64S_c W0.heap.size _ t.l z wr o1 hz0 (by omega)
      have HH := Lib.hid h
      have HE1 := Lib.hid e1
      have HE2 := Lib.hid e2
      have HO1 := Lib.hid o1
      have HO2 := Lib.hid o2
      have hbw : W0.heap.size ≤ wr.heap.size := Nat.le_trans hb hB.size
      clear ht hz hsame hK hle h e1 e2 o1 o2
      go_wp2_with fail
      refine M1.mono ?_
      rintro e w1 ⟨rfl, r1, g1⟩
      clear M1
      have hd1 : j * 2 / 2 = j := by omega
      have h1' : CpM W0 (ts'.set (j * 2 / 2) ⟨nums z t.l.length, t.r⟩) ts.length (.slice (some ⟨g, 0, none⟩) ts.length c) cl w1 := HH.out.write HE1.out HO1.out r1 g1 _ (fun i hi hq => by
        have hij : i = j := by omega
        subst hij
        refine ⟨fun _ => ?_, fun e => by omega⟩
        rw [HSA.out])
      rw [hd1] at h1'
      have hB1 := hB.grown g1 hbw (fun q hq => (HO1.out.lt q hq).1)
      have hbw1 : W0.heap.size ≤ w1.heap.size := Nat.le_trans hb hB1.size
      obtain ⟨lv', rv', f1, f2, p1, p2⟩ := h1'.side j (by simpa using hj') hlt
      rw [HE2.out] at f2
      injection f2 with f2
      subst f2
      rw [List.getElem_set_self] at p2
      have q2 := (h1'.own.cellAt (j * 2 + 1) (by omega)).trans HE2.out
      have M2 := markInt64S_c W0.heap.size _ t.r (z + t.l.length) w1 p2 (by omega) (by omega)
      have HP2 := Lib.hid p2
      have HNI1 := Lib.hid (HNI.out.grown HO1.out g1)
      clear HNI
      have HH1 := Lib.hid h1'
      clear p1 p2 f1 h1' r1 g1 HO2 q1
      go_wp2_with fail
      refine M2.mono ?_
      rintro e w2 ⟨rfl, r2, g2⟩
      clear M2
      have hd2 : (j * 2 + 1) / 2 = j := by omega
      have h2' : CpM W0 ((ts'.set j ⟨nums z t.l.length, t.r⟩).set ((j * 2 + 1) / 2) ⟨nums z t.l.length, nums (z + t.l.length) t.r.length⟩) ts.length (.slice (some ⟨g, 0, none⟩) ts.length c) cl w2 := HH1.out.write HE2.out HP2.out r2 g2 _ (fun i hi hq => by
        have hij : i = j := by omega
        subst hij
        refine ⟨fun e => by omega, fun _ => ?_⟩
        rw [List.getElem_set_self])
      rw [hd2, List.set_set] at h2'
      have HB2 := Lib.hid (hB1.grown g2 hbw1 (fun q hq => (HP2.out.lt q hq).1))
      have HNI2 := Lib.hid (HNI1.out.grown HP2.out g2)
      clear HNI1
      have HN : Hid (MkdT k ts (j + 1) (ts'.set j ⟨nums z t.l.length, nums (z + t.l.length) t.r.length⟩)) := Lib.hid (by
        have := HK.out.next hlt
        unfold mkT at this
        rw [HT.out, HZ.out] at this
        exact this)
      have HEND : Hid (z + t.l.length + t.r.length = k + ((totT (ts.take (j + 1)) : Nat) : Int)) := Lib.hid (by
        have a1 := HZ.out
        have a2 := HTS.out
        rw [HT.out] at a2
        omega)
      have HH2 := Lib.hid h2'
      clear h2' r2 g2 hB1 HH1 HP2 q2 hd1 hd2
      go_wp2_with fail
      go_roundw
      case rel => exact ⟨j + 1, _, by omega, by go_num, by rw [← HEND.out], HN.out, HH2.out, HB2.out, HNI2.out⟩
      case measure => simp [intOf]; omega
    · go_wp2
      go_ret
      obtain rfl : j = ts.length := by omega
      rw [List.take_of_length_le (Nat.le_refl _)]
      exact ⟨rfl, ⟨ts', hK, by rw [hK.len]; exact h⟩, hB, HNI.out⟩
theorem markMultiConfig_c (W0 : World) (z : Int) (v : Value) (cl : List Value) (ts : List TapeD) (k : Int) (w : World) (h : CpM W0 ts ts.length v cl w) (hb : W0.heap.size ≤ w.heap.size) (h0 : 0 ≤ k) (h1 : k + (totT ts : Nat) ≤ 4611686018427387904) :
    Calls Tryz.prog 15 #[.agg #[.int .i64 z, v], .int .i64 k] w fun e w' => e = .returned (.int .i64 (k + (totT ts : Nat))) ∧ (∃ ts', MkdT k ts ts.length ts' ∧ CpM W0 ts' ts'.length v cl w') ∧ Below W0.heap.size w w' ∧ NI w w' := by
  obtain ⟨A, c, rfl, _, _, _⟩ := (ownsRow_row h.own).form
  have hA := Ext.alloc w (.cells #[.int .i64 z, .slice A ts.length c] 30)
  have MS := markTapeS_c W0 _ cl ts k _ (h.ext hA) (Nat.le_trans hb hA.size) h0 h1
  have hbB : Below W0.heap.size w (w.alloc (.cells #[.int .i64 z, .slice A ts.length c] 30)) := (Below.refl _ w).alloc hb _
  obtain ⟨n, hn⟩ : ∃ n, (k + ((totT ts : Nat) : Int)) = n := ⟨_, rfl⟩
  rw [hn] at MS ⊢
  clear hn
  go_enter Tryz.func15, Tryz.ntmps15
  go_wp2_with fail
  refine MS.mono ?_
  rintro e w1 ⟨rfl, hm, hB, hNI⟩
  have H1 := Lib.hid (Below.trans hbB hB)
  have H2 := Lib.hid hm
  have H3 : Hid (NI w w1) := Lib.hid fun g cs hb => hNI g cs (hb.alloc _)
  clear MS hB hm hNI
  go_wp2
  go_ret
  exact ⟨rfl, H2.out, H1.out, H3.out⟩
set_option maxRecDepth 20000 in
theorem heldTapeS_c (v : Value) (ts ts' : List TapeD) (k : Int) (w : World) (h : Tapes w v ts') (hK : MkdT k ts ts.length ts') (h0 : 0 ≤ k) (h1 : k + (totT ts : Nat) ≤ 4611686018427387904) :
    Calls Tryz.prog 41 #[v, .int .i64 k] w fun e w' => e = .returned (.int .i64 (k + (totT ts : Nat))) ∧ w = w' := by
  obtain ⟨A, c, rfl, _, _⟩ := h.form
  have HL := Lib.hid hK.len
  have HH := Lib.hid h
  rw [hK.len]
  clear h
  go_enter Tryz.func41, Tryz.ntmps41
  go_wp2
  go_loopw [1, 5] (fun q i wr => ∃ j : Nat, j ≤ ts.length ∧ i = .int .i64 j ∧ q = .int .i64 (k + (totT (ts.take j) : Nat)) ∧ w = wr) (fun _ i _ => ts.length - (intOf i).toNat)
  case atStart => exact ⟨0, Nat.zero_le _, rfl, by simp [totT], rfl⟩
  case round =>
    obtain ⟨j, hj, rfl, rfl, rfl⟩ := hrel
    by_cases hlt : j < ts.length
    · have hj' : j < ts'.length := by rw [HL.out]; exact hlt
      obtain ⟨b, off, vl, vr, rfl, c0, c1, i1, i2⟩ := HH.out.at hj'
      have hlo := hK.lo j hlt hlt hj'
      rw [hlo] at i1 i2
      have HTS := Lib.hid (totT_take ts j hlt)
      have hle := totT_le ts (j + 1)
      rw [HTS.out] at hle
      obtain ⟨t, ht⟩ : ∃ t, ts[j] = t := ⟨_, rfl⟩
      rw [ht] at hle
      unfold mkT at i1 i2
      rw [ht] at i1 i2
      have HT := Lib.hid ht
      obtain ⟨z, hz⟩ : ∃ z, k + ((totT (ts.take j) : Nat) : Int) = z := ⟨_, rfl⟩
      have HZ := Lib.hid hz
      have hz0 : 0 ≤ z := by omega
      have hz1 : z + t.l.length + t.r.length ≤ 4611686018427387904 := by omega
      rw [hz] at i1 i2 ⊢
      simp only at i1 i2
      have N1 := heldInt64S_c _ _ z w i1 hz0 (by simp; omega) (by simp)
      have N2 := heldInt64S_c _ _ (z + t.l.length) w i2 (by omega) (by simp; omega) (by simp)
      rw [nums_length] at N1 N2
      have p1 : decide (z + (t.l.length : Int) < 0) = false := by simp; omega
      have p2 : decide (z + (t.l.length : Int) + (t.r.length : Int) < 0) = false := by simp; omega
      have HEND : Hid (z + t.l.length + t.r.length = k + ((totT (ts.take (j + 1)) : Nat) : Int)) := Lib.hid (by
        have a1 := HZ.out
        have a2 := HTS.out
        rw [HT.out] at a2
        omega)
      obtain ⟨B1, d1, hv1, _, _⟩ := i1.form
      obtain ⟨B2, d2, hv2, _, _⟩ := i2.form
      rw [nums_length] at hv1 hv2
      subst hv1 hv2
      clear hle hlo ht hz i1 i2
      go_wp2_with fail
      refine N1.mono ?_
      rintro e w' ⟨rfl, rfl⟩
      clear N1
      go_wp2_with fail
      refine N2.mono ?_
      rintro e w' ⟨rfl, rfl⟩
      clear N2
      go_wp2_with fail
      go_roundw
      case rel => exact ⟨j + 1, by omega, by go_num, by rw [← HEND.out], by first | trivial | rfl⟩
      case measure => simp [intOf]; omega
    · go_wp2
      go_ret
      obtain rfl : j = ts.length := by omega
      rw [List.take_of_length_le (Nat.le_refl _)]
      exact ⟨rfl, rfl⟩
theorem heldMultiConfig_c (z : Int) (v : Value) (ts ts' : List TapeD) (k : Int) (w : World) (h : Tapes w v ts') (hK : MkdT k ts ts.length ts') (h0 : 0 ≤ k) (h1 : k + (totT ts : Nat) ≤ 4611686018427387904) :
    Calls Tryz.prog 16 #[.agg #[.int .i64 z, v], .int .i64 k] w fun e w' => e = .returned (.int .i64 (k + (totT ts : Nat))) ∧ Ext w w' := by
  obtain ⟨A, c, rfl, _, _⟩ := h.form
  have hA := Ext.alloc w (.cells #[.int .i64 z, .slice A ts'.length c] 30)
  have MS := heldTapeS_c _ ts ts' k _ (h.ext hA) hK h0 h1
  obtain ⟨n, hn⟩ : ∃ n, (k + ((totT ts : Nat) : Int)) = n := ⟨_, rfl⟩
  have hn0 : decide (n < 0) = false := by simp; omega
  rw [hn] at MS ⊢
  clear hn
  go_enter Tryz.func16, Tryz.ntmps16
  go_wp2_with fail
  refine MS.mono ?_
  rintro e w1 ⟨rfl, rfl⟩
  clear MS
  go_wp2
  go_ret
  exact ⟨rfl, hA⟩
end Go.Proofs.YtfghojbbofobeaaGreat
end
section
set_option linter.unusedSimpArgs false
set_option linter.unusedVariables false
namespace Go.Proofs.YtfghojbbofobeaaGreat
open Go Go.RowKit Go.Proofs
set_option maxHeartbeats 400000
theorem ToConf (w : World) (q : Int) (lv rv : Value) (c : ConfD) (h1 : Ints w lv c.l) (h2 : Ints w rv c.r) : Conf w (.agg #[.int .i64 c.q, lv, rv]) c := ⟨_, _, rfl, h1, h2⟩
/-- A configuration that a call has made. -/
def MadeConf (base : Nat) (w : World) (v : Value) (c : ConfD) : Prop := ∃ lv rv, v = .agg #[.int .i64 c.q, lv, rv] ∧ OwnInts base w lv c.l ∧ OwnInts base w rv c.r ∧ (∀ g, lv.ownBlock = some g → rv.ownBlock ≠ some g)
theorem MadeConf.ext {base : Nat} {w w' : World} {u : Value} {c : ConfD} (h : MadeConf base w u c) (he : Ext w w') : MadeConf base w' u c := by
  obtain ⟨lv, rv, e, h1, h2, h3⟩ := h
  exact ⟨lv, rv, e, h1.ext he, h2.ext he, h3⟩
theorem MadeConf.conf {base : Nat} {w : World} {u : Value} {c : ConfD} (h : MadeConf base w u c) : Conf w u c := by
  obtain ⟨lv, rv, e, h1, h2, h3⟩ := h
  exact ⟨lv, rv, e, h1.ints, h2.ints⟩
theorem Ext.set3 {w0 wC : World} {g : Nat} (hx : Ext w0 wC) (hg : w0.heap.size ≤ g) (x y z : Value) : Ext w0 (((wC.setCell ⟨g, 0, none⟩ x).setCell ⟨g, 1, none⟩ y).setCell ⟨g, 2, none⟩ z) :=
  ((hx.setCell hg _).setCell hg _).setCell hg _
end Go.Proofs.YtfghojbbofobeaaGreat
end
section
set_option linter.unusedSimpArgs false
set_option linter.unusedVariables false
namespace Go.Proofs.YtfghojbbofobeaaGreat
open Go Go.RowKit Go.Proofs
set_option maxHeartbeats 400000
theorem totT_append (a b : List TapeD) : totT (a ++ b) = totT a + totT b := by
  unfold totT
  rw [List.map_append, List.sum_append]
theorem lineC_len (m : MultiD) (c : ConfD) (t0 j : Int) : (lineC m c t0 j).length ≤ c.l.length + c.r.length := by
  unfold lineC lineT ixT
  rw [List.length_map]
  refine Nat.le_trans (List.length_filter_le _ _) ?_
  simp [cellsC]
theorem tapeDec_len {sy : Int} {zs : List Int} {t : TapeD} (h : tapeDec sy zs = some t) : t.l.length + t.r.length ≤ zs.length + 1 := by
  unfold tapeDec at h
  cases hf : zs.findIdx? (markB sy) with
  | none => rw [hf] at h; cases h
  | some k =>
    rw [hf] at h
    simp only at h
    have hk : k < zs.length := by
      have := List.findIdx?_eq_some_iff_getElem.1 hf
      exact this.1
    split at h
    · cases h
    · injection h with h
      rw [← h]
      have a := trim_len (zs.take k).reverse
      have b := trim_len ((zs.getD k 0 - sy) :: zs.drop (k + 1))
      rw [List.length_reverse, List.length_take] at a
      rw [List.length_cons, List.length_drop] at b
      simp only
      omega
theorem decTapes_tot {m : MultiD} {c : ConfD} {t0 : Int} : ∀ {j : Nat} {l : List TapeD}, decTapes m c t0 j = some l → totT l ≤ j * (c.l.length + c.r.length + 1)
  | 0, l, h => by
    simp [decTapes] at h
    simp [h, totT]
  | j + 1, l, h => by
    unfold decTapes at h
    cases h1 : decTapes m c t0 j with
    | none => rw [h1] at h; cases h
    | some l1 =>
      cases h2 : tapeDec m.sy (lineC m c t0 (j : Int)) with
      | none => rw [h1, h2] at h; cases h
      | some t =>
        rw [h1, h2] at h
        injection h with h
        have a := decTapes_tot h1
        have b := tapeDec_len h2
        have d := lineC_len m c t0 (j : Int)
        rw [← h, totT_append, Nat.add_mul]
        have e : totT [t] = t.l.length + t.r.length := by simp [totT]
        omega
theorem decAllM_tot (m : MultiD) (c : ConfD) : totT (decAllM m c).1.tapes ≤ 3 * (c.l.length + c.r.length + 1) := by
  have h0 : ∀ (a k : Int), totT ((⟨a, []⟩, k) : MConfD × Int).1.tapes ≤ 3 * (c.l.length + c.r.length + 1) := fun a k => by simp [totT]
  unfold decAllM
  cases hm : multiOk m with
  | false => exact h0 _ _
  | true =>
    obtain ⟨⟨tp1, tp2⟩, _, _⟩ := multi_all hm
    simp only [if_true]
    split
    · exact h0 _ _
    · split
      · unfold decOne
        split
        · split
          · rename_i ts hts
            have := decTapes_tot hts
            have h3 : m.tp.toNat ≤ 3 := by omega
            exact Nat.le_trans this (Nat.mul_le_mul_right _ h3)
          · exact h0 _ _
        · exact h0 _ _
      · exact h0 _ _
/-- A configuration with several tapes in a block that has been made, and its code. -/
def CutMC (w0 : World) (R : MConfD × Int) (s6 s7 : Value) (w : World) : Prop := ∃ g v, s6 = .pointer (some ⟨g, 0, none⟩) ∧ s7 = .int .i64 R.2 ∧ Blk w g 30 #[.int .i64 R.1.q, v] ∧ Ext w0 w ∧ w0.heap.size ≤ g ∧ Tapes w v R.1.tapes
abbrev zeroM : Obj := .cells #[.int .i64 0, .slice none 0 0] 30
theorem CutMC.late {w0 wC : World} {R : MConfD × Int} {v : Value} {base : Nat} (hx : Ext w0 wC) (h1 : OwnT base wC v R.1.tapes) :
    CutMC w0 R (.pointer (some ⟨wC.heap.size, 0, none⟩)) (.int .i64 R.2) (wC.alloc (.cells #[.int .i64 R.1.q, v] 30)) :=
  ⟨_, v, rfl, rfl, Blk.new _ _ _ _ rfl, hx.trans (Ext.alloc _ _), hx.size, (h1.ext (Ext.alloc _ _)).tapes⟩
theorem CutMC.early {w0 wC : World} {R : MConfD × Int} {v : Value} {base g : Nat} (hx : Ext w0 wC) (h1 : OwnT base wC v R.1.tapes) (hb : Blk wC g 30 #[.int .i64 0, .slice none 0 0]) (hg : w0.heap.size ≤ g) :
    CutMC w0 R (.pointer (some ⟨g, 0, none⟩)) (.int .i64 R.2) ((wC.setCell ⟨g, 0, none⟩ (.int .i64 R.1.q)).setCell ⟨g, 1, none⟩ v) :=
  ⟨g, v, rfl, rfl, (hb.set_ 0 _).set_ 1 _, (hx.setCell hg _).setCell hg _, hg, ((h1.far hb (by decide) (by decide) 0 _).far (hb.set_ 0 _) (by decide) (by decide) 1 _).tapes⟩
theorem Ext.set2 {w0 wC : World} {g : Nat} (hx : Ext w0 wC) (hg : w0.heap.size ≤ g) (x y : Value) : Ext w0 ((wC.setCell ⟨g, 0, none⟩ x).setCell ⟨g, 1, none⟩ y) :=
  (hx.setCell hg _).setCell hg _
theorem CpM.ownT {w wr : World} {ts : List TapeD} {v : Value} {cl : List Value} (h : CpM w ts ts.length v cl wr) : OwnT w.heap.size wr v ts :=
  ⟨cl, h.own, h.len, fun i hi => h.side i hi hi⟩
theorem TopF.keepB {T base : Nat} {w w' : World} (h : TopF T w w') (hT : T ≤ base) (hs : w.heap.size ≤ w'.heap.size) : KeepB base w w' := ⟨hs, fun k h1 h2 => h k (Nat.le_trans hT h1) h2⟩
theorem TwoOnly.keepB {base : Nat} {w w' : World} {u v : Value} (h : TwoOnly w w' u v) (h1 : ∀ g, u.ownBlock = some g → g < base) (h2 : ∀ g, v.ownBlock = some g → g < base) : KeepB base w w' :=
  ⟨h.1, fun k hk hl => h.2 k hl (fun e => by have := h1 k e; omega) (fun e => by have := h2 k e; omega)⟩
end Go.Proofs.YtfghojbbofobeaaGreat
end
