/- Contracts: the reference's machine with two symbols, and the codes of cells. The machine is valid.
Words for what the reference's calls on configurations come to, and for a configuration in a block that has been made.
Contract: the reference's beginning of the run of the machine with two symbols. The machine is valid and the configuration is one of its. -/
import Derived.Test.YthhjbmlkncdigaaGreatDoorB30
import Derived.Test.YthhjbmlkncdigaaGreatDoorB26
import Derived.Test.YthhjbmlkncdigaaGreatDoorB06
import Derived.Test.YthhjbmlkncdigaaGreatDoorB10
import Derived.Test.YthhjbmlkncdigaaGreatDoorB02
import Derived.Test.YthhjbmlkncdigaaGreatDoorB27
import Derived.Test.YthhjbmlkncdigaaGreatDoorB07
import Derived.Test.YthhjbmlkncdigaaGreatDoorB17
import Derived.Deep.DeepCutAuto
section
set_option linter.unusedSimpArgs false
set_option linter.unusedVariables false
namespace Go.Proofs.YthhjbmlkncdigaaGreatDoor
open Go Go.RowKit Go.Proofs Go.Maps
set_option maxHeartbeats 400000
def MakeBi (w : World) (m : MachD) (b : Nat) (e : Ending) (w' : World) : Prop :=
  ((binB m = none ∧ ∃ bk, e = .returned (.tuple #[.pointer (some ⟨bk, 0, none⟩), .bool false])) ∨
    ∃ s bk rv pv vs, binB m = some s ∧ e = .returned (.tuple #[.pointer (some ⟨bk, 0, none⟩), .bool true]) ∧ MkBi w.heap.size w' bk b 2 s.1.length s.2 s.1 rv pv vs ∧ (∀ p ∈ s.1, BiOk m p) ∧ 1 ≤ s.1.length ∧ s.1.length ≤ 1000) ∧ Ext w w'
set_option maxHeartbeats 1000000 in
set_option maxRecDepth 20000 in
theorem l13MakeBinary_c (b : Nat) (m : MachD) (w : World) (hM : MachAt w b m) (hm : machOk m = true) :
    Calls Tryz.prog 21 #[.pointer (some ⟨b, 0, none⟩)] w (MakeBi w m b) := by
  obtain ⟨s1, s2, s3, s4, hl⟩ := machOk_all hm
  have hM0 := hM
  obtain ⟨rv, p0, p1, p2, hr⟩ := hM
  obtain ⟨W, hW⟩ : ∃ W, W = w.alloc (.cells #[.pointer (some ⟨b, 0, none⟩), .pointer none, .int .i64 0, .slice none 0 0, .int .i64 0, .int .i64 0, .slice none 0 0] 62) := ⟨_, rfl⟩
  have hXW : Ext w W := by rw [hW]; exact Ext.alloc _ _
  have bK : Blk W w.heap.size 62 #[.pointer (some ⟨b, 0, none⟩), .pointer none, .int .i64 0, .slice none 0 0, .int .i64 0, .int .i64 0, .slice none 0 0] := by rw [hW]; exact Blk.new _ _ _ _ rfl
  obtain ⟨V, hV⟩ : ∃ V, V = W.alloc (.cells #[.int .i64 0, .int .i64 0, .int .i64 0, .int .i64 0] 2) := ⟨_, rfl⟩
  have hXV : Ext W V := by rw [hV]; exact Ext.alloc _ _
  have hsz : W.heap.size = w.heap.size + 1 := by rw [hW]; simp
  have bL : Blk V (w.heap.size + 1) 2 (ivs [0, 0, 0, 0]).toArray := by rw [hV]; exact Blk.new _ _ _ _ hsz
  have oL := own_of_blk (base := w.heap.size) bL (by omega) (by simp)
  go_enter Tryz.func21, Tryz.ntmps21
  go_wp2_with fail
  rw [← hW, ← hV]
  clear hV hW
  refine (buildSB_c w V w.heap.size b m _ hM0 (hXW.trans hXV) (Nat.le_refl _) (bK.ext hXV) oL hm).mono ?_
  rintro e w1 ⟨hres, hx1⟩
  rcases hres with ⟨hn, rfl⟩ | ⟨s, rv1, pv1, vs1, hs, rfl, hst, hok, l1, l2⟩
  · go_wp2
    go_ret2
    exact ⟨.inl ⟨hn, _, rfl⟩, hx1⟩
  · go_wp2
    go_ret2
    exact ⟨.inr ⟨s, _, rv1, pv1, vs1, hs, rfl, hst, hok, l1, l2⟩, hx1⟩
theorem codesB_snoc2 (B : Nat) (xs : List Int) (x : Int) : codesB (B : Int) (xs ++ [x]) = codesB (B : Int) xs ++ codeTo (B : Int) x B := by simp [codesB, codeB, codeTo]
/-- The last bits of the code of a symbol, turned round. -/
def codeRo (b x : Int) (j : Nat) : List Int := (List.range j).map fun k : Nat => bitD x b (b - 1 - (k : Int))
theorem codeRo_succ (b x : Int) (j : Nat) : codeRo b x (j + 1) = codeRo b x j ++ [bitD x b (b - 1 - j)] := by simp [codeRo, List.range_succ]
theorem codeRo_length (b x : Int) (j : Nat) : (codeRo b x j).length = j := by simp [codeRo]
theorem codeRo_all (B : Nat) (x : Int) : codeRo (B : Int) x B = (codeB (B : Int) x).reverse := by
  refine List.ext_getElem (by simp [codeRo, codeB]) fun i h1 h2 => ?_
  simp only [codeRo, List.length_map, List.length_range] at h1
  simp only [codeRo, codeB, List.getElem_reverse, List.getElem_map, List.getElem_range, List.length_map, List.length_range, Int.toNat_natCast]
  congr 1
  omega
theorem codesR_snoc2 (B : Nat) (xs : List Int) (x : Int) : codesR (B : Int) (xs ++ [x]) = codesR (B : Int) xs ++ codeRo (B : Int) x B := by
  rw [codeRo_all]
  simp [codesR]
set_option maxRecDepth 20000 in
set_option maxHeartbeats 4000000 in
theorem l13CodesB_c (v : Value) (zs : List Int) (b : Int) (w : World) (h : Ints w v zs) (hz : ∀ z ∈ zs, 0 ≤ z ∧ z ≤ 7) (b1 : 1 ≤ b) (b3 : b ≤ 3) (hn : zs.length ≤ 1000) :
    Calls Tryz.prog 47 #[v, .int .i64 b, .bool false] w fun e w' => ∃ u, e = .returned u ∧ OwnInts w.heap.size w' u (codesB b zs) ∧ Ext w w' := by
  obtain ⟨i0, hi, hz0, hz1, hz2⟩ := info_parts intInfo
  obtain ⟨A, c, rfl, _, _⟩ := h.form
  obtain ⟨B, rfl⟩ : ∃ B : Nat, b = (B : Int) := ⟨b.toNat, by omega⟩
  obtain ⟨W, hW⟩ : ∃ W, W = w.alloc (.cells #[] 2) := ⟨_, rfl⟩
  have hXW : Ext w W := by rw [hW]; exact Ext.alloc _ _
  have ho : OwnInts w.heap.size W (.slice (some ⟨w.heap.size, 0, none⟩) 0 0) (codesB (B : Int) (zs.take 0)) := by
    rw [hW]
    exact World.ownsRow_made (base := w.heap.size) (e := 2) (size := 1) w #[] 0 (by simp) (by unfold maxLen; omega) (by simp [codesB, ivs])
  obtain ⟨g, hg⟩ : ∃ g, w.heap.size = g := ⟨_, rfl⟩
  have HZ := Lib.hid hz
  clear hz
  rw [hg] at ho ⊢
  go_enter Tryz.func47, Tryz.ntmps47
  go_wp2_with fail
  try rw [← hW]
  try rw [hg]
  clear hW
  go_loopw [7, 8] (fun tv iv wr => ∃ i : Nat, i ≤ zs.length ∧ iv = .int .i64 (i : Int) ∧ OwnInts g wr tv (codesB (B : Int) (zs.take i)) ∧ Ext w wr) (fun _ iv _ => zs.length - (intOf iv).toNat)
  case atStart => exact ⟨0, Nat.zero_le _, rfl, ho, hXW⟩
  case round =>
    clear ho
    obtain ⟨i, hiN, rfl, ho, hXr⟩ := hrel
    by_cases hlt : i < zs.length
    · obtain ⟨bp, op, rfl, hc⟩ := h.at hlt
      have HB := Lib.hid (HZ.out zs[i] (List.getElem_mem hlt))
      have HT : Hid (codesB (B : Int) (zs.take (i + 1)) = codesB (B : Int) (zs.take i) ++ codeTo (B : Int) zs[i] B) := by
        unfold Hid
        rw [List.take_succ_eq_append_getElem hlt]
        exact codesB_snoc2 _ _ _
      have HL : Hid ((codesB (B : Int) (zs.take i)).length ≤ 3000) := by
        unfold Hid
        rw [codesB_length, List.length_take]
        have : min i zs.length * (B : Int).toNat ≤ 1000 * 3 := Nat.mul_le_mul (by omega) (by omega)
        omega
      have hci := hc i hlt
      generalize codesB (B : Int) (zs.take i) = cs at *
      generalize zs[i] = z at *
      go_wp2
      go_loopw [7, 9] (fun tv jv wi => ∃ j : Nat, j ≤ B ∧ jv = .int .i64 (j : Int) ∧ OwnInts g wi tv (cs ++ codeTo (B : Int) z j) ∧ Ext w wi) (fun _ jv _ => B - (intOf jv).toNat)
      case atStart => exact ⟨0, Nat.zero_le _, rfl, by simpa [codeTo] using ho, hXr⟩
      case round =>
        clear ho
        obtain ⟨j, hj, rfl, ho, hXi⟩ := hrel
        rename World => wx
        by_cases hjl : j < B
        · have BA := fun w => l13Bit_c z B j w b1 b3 (by omega) (by omega) HB.out.1 HB.out.2
          have c0 := hXi.cell hci
          obtain ⟨fs, hfs⟩ : ∃ fs, cs ++ codeTo (B : Int) z j = fs := ⟨_, rfl⟩
          have HS : Hid (cs ++ codeTo (B : Int) z (j + 1) = fs ++ [bitD z B j]) := Lib.hid (by rw [codeTo_succ, ← List.append_assoc, hfs])
          have hlen : fs.length ≤ 3003 := by rw [← hfs, List.length_append, codeTo_length]; have := HL.out; omega
          rw [hfs] at ho
          clear hfs
          generalize bitD z B j = bb at *
          obtain ⟨At, ct, rfl, _, _⟩ := ho.ints.form
          go_wp2_with fail
          refine (BA _).mono ?_
          rintro e w' ⟨rfl, rfl⟩
          clear BA
          have ho' := ownsRow_ext ho (Ext.alloc wx (.cells #[.int .i64 bb] 2))
          have hgs := (hXi.size)
          go_wp2_with (at_builtin; refine wpList_append_own_at _ rfl _ _ 25 rfl g 2 i0 (.int .i64 0) 1 8 Tryz.underlying25 hi hz0 hz1 hz2 rfl (by decide) _ _ _ rfl ho' ⟨wx.heap.size, 0, none⟩ 1 1 [.int .i64 bb] rfl rfl ?c1 ?c2 ?c3 ?c4 ?c5 ?_)
          case c1 =>
            intro j u hj
            match j, hj with
            | 0, hj => simp at hj; subst hj; simp [Addr.add]
          case c2 => intro u hu; simp at hu; rcases hu with rfl; rfl
          case c3 => unfold maxLen; omega
          case c4 => omega
          case c5 => simp; omega
          intro v' w5 hown' hgrow _ _
          have HO : Hid (OwnInts g w5 v' (cs ++ codeTo (B : Int) z (j + 1))) := by
            unfold Hid OwnInts
            rw [HS.out, ivs_append, List.length_append]
            exact hown'
          have HX5 : Hid (Ext w w5) := Lib.hid ((hXi.trans (Ext.alloc wx _)).grown hgrow (fun b hb => by have := (ho'.lt b hb).1; omega))
          clear hown' hgrow ho'
          go_wp2
          go_roundw
          case rel => exact ⟨j + 1, by omega, by go_num, HO.out, HX5.out⟩
          case measure => simp [intOf]; omega
        · obtain rfl : j = B := by omega
          obtain ⟨At, ct, rfl, _, _⟩ := ho.ints.form
          go_wp2
          go_roundw
          case rel => exact ⟨i + 1, by omega, by go_num, by rw [HT.out]; exact ho, hXi⟩
          case measure => simp [intOf]; omega
    · obtain rfl : i = zs.length := by omega
      rw [List.take_length] at ho
      obtain ⟨At, ct, rfl, _, _⟩ := ho.ints.form
      go_wp2
      go_ret
      exact ⟨_, rfl, ho, hXr⟩
set_option maxRecDepth 20000 in
set_option maxHeartbeats 4000000 in
theorem l13CodesR_c (v : Value) (zs : List Int) (b : Int) (w : World) (h : Ints w v zs) (hz : ∀ z ∈ zs, 0 ≤ z ∧ z ≤ 7) (b1 : 1 ≤ b) (b3 : b ≤ 3) (hn : zs.length ≤ 1000) :
    Calls Tryz.prog 47 #[v, .int .i64 b, .bool true] w fun e w' => ∃ u, e = .returned u ∧ OwnInts w.heap.size w' u (codesR b zs) ∧ Ext w w' := by
  obtain ⟨i0, hi, hz0, hz1, hz2⟩ := info_parts intInfo
  obtain ⟨A, c, rfl, _, _⟩ := h.form
  obtain ⟨B, rfl⟩ : ∃ B : Nat, b = (B : Int) := ⟨b.toNat, by omega⟩
  obtain ⟨W, hW⟩ : ∃ W, W = w.alloc (.cells #[] 2) := ⟨_, rfl⟩
  have hXW : Ext w W := by rw [hW]; exact Ext.alloc _ _
  have ho : OwnInts w.heap.size W (.slice (some ⟨w.heap.size, 0, none⟩) 0 0) (codesR (B : Int) (zs.take 0)) := by
    rw [hW]
    exact World.ownsRow_made (base := w.heap.size) (e := 2) (size := 1) w #[] 0 (by simp) (by unfold maxLen; omega) (by simp [codesR, ivs])
  obtain ⟨g, hg⟩ : ∃ g, w.heap.size = g := ⟨_, rfl⟩
  have HZ := Lib.hid hz
  clear hz
  rw [hg] at ho ⊢
  go_enter Tryz.func47, Tryz.ntmps47
  go_wp2_with fail
  try rw [← hW]
  try rw [hg]
  clear hW
  go_loopw [7, 8] (fun tv iv wr => ∃ i : Nat, i ≤ zs.length ∧ iv = .int .i64 (i : Int) ∧ OwnInts g wr tv (codesR (B : Int) (zs.take i)) ∧ Ext w wr) (fun _ iv _ => zs.length - (intOf iv).toNat)
  case atStart => exact ⟨0, Nat.zero_le _, rfl, ho, hXW⟩
  case round =>
    clear ho
    obtain ⟨i, hiN, rfl, ho, hXr⟩ := hrel
    by_cases hlt : i < zs.length
    · obtain ⟨bp, op, rfl, hc⟩ := h.at hlt
      have HB := Lib.hid (HZ.out zs[i] (List.getElem_mem hlt))
      have HT : Hid (codesR (B : Int) (zs.take (i + 1)) = codesR (B : Int) (zs.take i) ++ codeRo (B : Int) zs[i] B) := by
        unfold Hid
        rw [List.take_succ_eq_append_getElem hlt]
        exact codesR_snoc2 _ _ _
      have HL : Hid ((codesR (B : Int) (zs.take i)).length ≤ 3000) := by
        unfold Hid
        rw [codesR_length, List.length_take]
        have : min i zs.length * (B : Int).toNat ≤ 1000 * 3 := Nat.mul_le_mul (by omega) (by omega)
        omega
      have hci := hc i hlt
      generalize codesR (B : Int) (zs.take i) = cs at *
      generalize zs[i] = z at *
      go_wp2
      go_loopw [7, 9] (fun tv jv wi => ∃ j : Nat, j ≤ B ∧ jv = .int .i64 (j : Int) ∧ OwnInts g wi tv (cs ++ codeRo (B : Int) z j) ∧ Ext w wi) (fun _ jv _ => B - (intOf jv).toNat)
      case atStart => exact ⟨0, Nat.zero_le _, rfl, by simpa [codeRo] using ho, hXr⟩
      case round =>
        clear ho
        obtain ⟨j, hj, rfl, ho, hXi⟩ := hrel
        rename World => wx
        by_cases hjl : j < B
        · have BA := fun w => l13Bit_c z B ((B : Int) - 1 - j) w b1 b3 (by omega) (by omega) HB.out.1 HB.out.2
          have c0 := hXi.cell hci
          obtain ⟨fs, hfs⟩ : ∃ fs, cs ++ codeRo (B : Int) z j = fs := ⟨_, rfl⟩
          have HS : Hid (cs ++ codeRo (B : Int) z (j + 1) = fs ++ [bitD z B ((B : Int) - 1 - j)]) := Lib.hid (by rw [codeRo_succ, ← List.append_assoc, hfs])
          have hlen : fs.length ≤ 3003 := by rw [← hfs, List.length_append, codeRo_length]; have := HL.out; omega
          rw [hfs] at ho
          clear hfs
          generalize bitD z B ((B : Int) - 1 - j) = bb at *
          obtain ⟨At, ct, rfl, _, _⟩ := ho.ints.form
          go_wp2_with fail
          refine (BA _).mono ?_
          rintro e w' ⟨rfl, rfl⟩
          clear BA
          have ho' := ownsRow_ext ho (Ext.alloc wx (.cells #[.int .i64 bb] 2))
          have hgs := (hXi.size)
          go_wp2_with (at_builtin; refine wpList_append_own_at _ rfl _ _ 25 rfl g 2 i0 (.int .i64 0) 1 8 Tryz.underlying25 hi hz0 hz1 hz2 rfl (by decide) _ _ _ rfl ho' ⟨wx.heap.size, 0, none⟩ 1 1 [.int .i64 bb] rfl rfl ?c1 ?c2 ?c3 ?c4 ?c5 ?_)
          case c1 =>
            intro j u hj
            match j, hj with
            | 0, hj => simp at hj; subst hj; simp [Addr.add]
          case c2 => intro u hu; simp at hu; rcases hu with rfl; rfl
          case c3 => unfold maxLen; omega
          case c4 => omega
          case c5 => simp; omega
          intro v' w5 hown' hgrow _ _
          have HO : Hid (OwnInts g w5 v' (cs ++ codeRo (B : Int) z (j + 1))) := by
            unfold Hid OwnInts
            rw [HS.out, ivs_append, List.length_append]
            exact hown'
          have HX5 : Hid (Ext w w5) := Lib.hid ((hXi.trans (Ext.alloc wx _)).grown hgrow (fun b hb => by have := (ho'.lt b hb).1; omega))
          clear hown' hgrow ho'
          go_wp2
          go_roundw
          case rel => exact ⟨j + 1, by omega, by go_num, HO.out, HX5.out⟩
          case measure => simp [intOf]; omega
        · obtain rfl : j = B := by omega
          obtain ⟨At, ct, rfl, _, _⟩ := ho.ints.form
          go_wp2
          go_roundw
          case rel => exact ⟨i + 1, by omega, by go_num, by rw [HT.out]; exact ho, hXi⟩
          case measure => simp [intOf]; omega
    · obtain rfl : i = zs.length := by omega
      rw [List.take_length] at ho
      obtain ⟨At, ct, rfl, _, _⟩ := ho.ints.form
      go_wp2
      go_ret
      exact ⟨_, rfl, ho, hXr⟩
end Go.Proofs.YthhjbmlkncdigaaGreatDoor
end
section
set_option linter.unusedSimpArgs false
set_option linter.unusedVariables false
namespace Go.Proofs.YthhjbmlkncdigaaGreatDoor
open Go Go.RowKit Go.Proofs
/-- A configuration and a code, as the reference's functions give them. -/
def SpecRes (w : World) (r : ConfD × Int) (e : Ending) (w' : World) : Prop :=
  (∃ lv rv base, e = .returned (.tuple #[.agg #[.int .i64 r.1.q, lv, rv], .int .i64 r.2]) ∧ OwnInts base w' lv r.1.l ∧ OwnInts base w' rv r.1.r) ∧ Ext w w'
theorem ints_far {base : Nat} {w : World} {v : Value} {zs : List Int} (h : OwnInts base w v zs) {p : Addr} (hp : ∀ k, v.ownBlock = some k → k ≠ p.block) (u : Value) : OwnInts base (w.setCell p u) v zs := ownsRow_far h hp u
theorem SpecRes.done {w w1 : World} {r : ConfD × Int} {b base : Nat} {lv rv : Value} (hb : w.heap.size ≤ b) (hX : Ext w w1)
    (hl : OwnInts base w1 lv r.1.l) (hr : OwnInts base w1 rv r.1.r) (n1 : ∀ g, lv.ownBlock = some g → g ≠ b) (n2 : ∀ g, rv.ownBlock = some g → g ≠ b) (x y z : Value) :
    SpecRes w r (.returned (.tuple #[.agg #[.int .i64 r.1.q, lv, rv], .int .i64 r.2])) (((w1.setCell ⟨b, 0, none⟩ x).setCell ⟨b, 1, none⟩ y).setCell ⟨b, 2, none⟩ z) :=
  ⟨⟨_, _, base, rfl, ints_far (ints_far (ints_far hl n1 _) n1 _) n1 _, ints_far (ints_far (ints_far hr n2 _) n2 _) n2 _⟩, ((hX.setCell hb _).setCell hb _).setCell hb _⟩
theorem SpecRes.none {w w1 : World} {k : Int} {b : Nat} (hb : w.heap.size ≤ b) (hX : Ext w w1) (x y z : Value) :
    SpecRes w (blankC, k) (.returned (.tuple #[.agg #[.int .i64 0, .slice none 0 0, .slice none 0 0], .int .i64 k])) (((w1.setCell ⟨b, 0, none⟩ x).setCell ⟨b, 1, none⟩ y).setCell ⟨b, 2, none⟩ z) :=
  SpecRes.done (r := (blankC, k)) (base := 0) hb hX (World.ownsRow_nil ..) (World.ownsRow_nil ..) (fun g hg => by simp [Value.ownBlock] at hg) (fun g hg => by simp [Value.ownBlock] at hg) x y z
/-- A configuration in a block that has been made: its state and its sides. -/
def CutK (w0 : World) (q : Int) (l r : List Int) (s : Value) (w : World) : Prop := ∃ g lv rv bl br, s = .pointer (some ⟨g, 0, none⟩) ∧ Blk w g 37 #[.int .i64 q, lv, rv] ∧ Ext w0 w ∧ w0.heap.size ≤ g ∧ OwnInts bl w lv l ∧ OwnInts br w rv r ∧ w0.heap.size ≤ bl ∧ w0.heap.size ≤ br
theorem CutK.late {w0 wC : World} {q : Int} {l r : List Int} {lv rv : Value} {bl br : Nat} (hx : Ext w0 wC) (h1 : OwnInts bl wC lv l) (h2 : OwnInts br wC rv r) (b1 : w0.heap.size ≤ bl) (b2 : w0.heap.size ≤ br) :
    CutK w0 q l r (.pointer (some ⟨wC.heap.size, 0, none⟩)) (wC.alloc (.cells #[.int .i64 q, lv, rv] 37)) :=
  ⟨_, lv, rv, bl, br, rfl, Blk.new _ _ _ _ rfl, hx.trans (Ext.alloc _ _), hx.size, h1.ext (Ext.alloc _ _), h2.ext (Ext.alloc _ _), b1, b2⟩
theorem CutK.early {w0 wC : World} {q : Int} {l r : List Int} {lv rv : Value} {bl br g : Nat} (hx : Ext w0 wC) (h1 : OwnInts bl wC lv l) (h2 : OwnInts br wC rv r) (b1 : w0.heap.size ≤ bl) (b2 : w0.heap.size ≤ br) (hb : Blk wC g 37 #[.int .i64 0, .slice none 0 0, .slice none 0 0]) (hg : w0.heap.size ≤ g) :
    CutK w0 q l r (.pointer (some ⟨g, 0, none⟩)) (((wC.setCell ⟨g, 0, none⟩ (.int .i64 q)).setCell ⟨g, 1, none⟩ lv).setCell ⟨g, 2, none⟩ rv) := by
  have n1 : ∀ k, lv.ownBlock = some k → k ≠ g := fun k hk e => by
    subst e
    exact blk_ne_row hb h1 (by decide) hk.symm
  have n2 : ∀ k, rv.ownBlock = some k → k ≠ g := fun k hk e => by
    subst e
    exact blk_ne_row hb h2 (by decide) hk.symm
  exact ⟨g, lv, rv, bl, br, rfl, ((hb.set_ 0 _).set_ 1 _).set_ 2 _, ((hx.setCell hg _).setCell hg _).setCell hg _, hg, ints_far (ints_far (ints_far h1 n1 _) n1 _) n1 _, ints_far (ints_far (ints_far h2 n2 _) n2 _) n2 _, b1, b2⟩
end Go.Proofs.YthhjbmlkncdigaaGreatDoor
end
section
set_option linter.unusedSimpArgs false
set_option linter.unusedVariables false
namespace Go.Proofs.YthhjbmlkncdigaaGreatDoor
open Go Go.RowKit Go.Proofs
set_option maxHeartbeats 400000
set_option maxRecDepth 20000 in
set_option maxHeartbeats 4000000 in
theorem specBinaryConfig_c (m : MachD) (c : ConfD) (mv lv rv : Value) (w : World) (hm : machOk m = true) (hc : confB m c = true) (hr : Rules w mv m.rules) (hl : Ints w lv c.l) (hq : Ints w rv c.r) :
    Calls Tryz.prog 20 #[.agg #[.int .i64 m.sy, .int .i64 m.st, mv], .agg #[.int .i64 c.q, lv, rv]] w (SpecRes w (startBi m c)) := by
  obtain ⟨i0, hi, hz0, hz1, hz2⟩ := info_parts intInfo
  obtain ⟨s1, s2, s3, s4, hrl⟩ := machOk_all hm
  obtain ⟨⟨q0, q1⟩, ⟨b1, b2⟩, ⟨b3, b4⟩⟩ := confB_all hc
  have HB2 : Hid (∀ z ∈ c.l, 0 ≤ z ∧ z ≤ 7) := Lib.hid (fun z hz => by have := b2 z hz; omega)
  have HB4 : Hid (∀ z ∈ c.r, 0 ≤ z ∧ z ≤ 7) := Lib.hid (fun z hz => by have := b4 z hz; omega)
  clear b2 b4 hrl
  obtain ⟨Am, cm, rfl, _, _⟩ := hr.form
  obtain ⟨Al, cl, rfl, _, _⟩ := hl.form
  obtain ⟨Aq, cq, rfl, _, _⟩ := hq.form
  obtain ⟨k, hk⟩ : ∃ k, w.heap.size = k := ⟨_, rfl⟩
  obtain ⟨W, hW⟩ : ∃ W, ((w.alloc (.cells #[.int .i64 m.sy, .int .i64 m.st, .slice Am m.rules.length cm] 35)).alloc (.cells #[.int .i64 c.q, .slice Al c.l.length cl, .slice Aq c.r.length cq] 37)).alloc (.cells #[.int .i64 0, .slice none 0 0, .slice none 0 0] 37) = W := ⟨_, rfl⟩
  have hX : Ext w W := by rw [← hW]; exact ((Ext.alloc _ _).trans (Ext.alloc _ _)).trans (Ext.alloc _ _)
  have bM : Blk W k 35 #[.int .i64 m.sy, .int .i64 m.st, .slice Am m.rules.length cm] := by rw [← hW]; exact ((Blk.new _ _ _ _ hk).alloc _).alloc _
  have bC : Blk W (k + 1) 37 #[.int .i64 c.q, .slice Al c.l.length cl, .slice Aq c.r.length cq] := by rw [← hW]; exact (Blk.new _ _ _ _ (by simp [hk])).alloc _
  have bO : Blk W (k + 1 + 1) 37 #[.int .i64 0, .slice none 0 0, .slice none 0 0] := by rw [← hW]; exact Blk.new _ _ _ _ (by simp [hk])
  have m0 := bM.cell 0
  have m1 := bM.cell 1
  have m2 := bM.cell 2
  have c0 := bC.cell 0
  have c1 := bC.cell 1
  have c2 := bC.cell 2
  simp only [List.getElem?_toArray, List.getElem?_cons_zero, List.getElem?_cons_succ] at m0 m1 m2 c0 c1 c2
  have hMW : MachAt W k m := ⟨_, m0, m1, m2, hr.ext hX⟩
  have hCW : ConfP W (k + 1) c := ⟨_, _, c0, c1, c2, hl.ext hX, hq.ext hX⟩
  have HM := Lib.hid hm
  have HC := Lib.hid hc
  have HST := Lib.hid (show startBi m c = startBi m c from rfl)
  clear hm hc
  go_enter Tryz.func20, Tryz.ntmps20
  go_wp2_with fail
  try rw [hW]
  try rw [hk]
  clear hW
  refine (l05Is_c _ m _ hMW).mono ?_
  rintro e w1 ⟨rfl, hx1⟩
  rw [HM.out]
  have m0 := hx1.cell m0
  have m1 := hx1.cell m1
  go_wp2_with fail
  refine (l05Good_c k 0 (k + 1) m c w1 m0 m1 (hCW.ext hx1) (by omega) (by omega) (by omega) (by omega)).mono ?_
  rintro e w2 ⟨rfl, hx2⟩
  rw [HC.out]
  have hE2 := hx1.trans hx2
  go_wp2_with fail
  refine (l13MakeBinary_c _ m w2 (hMW.ext hE2) HM.out).mono ?_
  rintro e w3 ⟨hres, hx3⟩
  have hE3 := hE2.trans hx3
  have hX3 := hX.trans hE3
  have bO3 := bO.ext hE3
  have hb2 : w.heap.size ≤ k + 1 + 1 := by omega
  clear m0 m1 m2 c0 c1 c2
  rcases hres with ⟨hn, bk, rfl⟩ | ⟨s, bk, rvk, pvk, vsk, hs, rfl, hst, hok, l1, l2⟩
  · have HE : Hid (startBi m c = (blankC, 5)) := by unfold Hid startBi; rw [hn]
    have ob := bO3.cell
    have of_ := bO3.frozen
    clear hn
    go_wp2
    rw [HE.out]
    exact bodyPost_ret (v := .tuple #[.agg #[.int .i64 0, .slice none 0 0, .slice none 0 0], .int .i64 5]) (by simp [results, Tryz.results20, go_sem, ob]) rfl (SpecRes.none hb2 hX3 _ _ _)
  · have HE : Hid (startBi m c = if (⟨0, c.q, 0, 0⟩ : BP) ∈ s.1 then (if confB (binM s) (startY m c s) then (startY m c s, 0) else (blankC, 5)) else (blankC, 6)) := by unfold Hid startBi; rw [hs]
    have c0 := (bC.ext hE3).cell 0
    have c1 := (bC.ext hE3).cell 1
    have c2 := (bC.ext hE3).cell 2
    have m0 := (bM.ext hE3).cell 0
    simp only [List.getElem?_toArray, List.getElem?_cons_zero, List.getElem?_cons_succ] at c0 c1 c2 m0
    obtain ⟨V, hV⟩ : ∃ V, w3.alloc (.cells #[.int .i64 0, .int .i64 c.q, .int .i64 0, .int .i64 0] 2) = V := ⟨_, rfl⟩
    have hXV : Ext w3 V := by rw [← hV]; exact Ext.alloc _ _
    have bL : Blk V w3.heap.size 2 (ivs [0, c.q, 0, 0]).toArray := by rw [← hV]; exact Blk.new _ _ _ _ rfl
    have oL := own_of_blk (base := w3.heap.size) bL (by omega) (by simp)
    have hx0 : BiOk m ⟨0, c.q, 0, 0⟩ := .inl ⟨rfl, q0, q1, Int.le_refl _, by show (0 : Int) < bitsD m.sy; have := bitsD_range m.sy; omega, Int.le_refl _, by show (0 : Int) ≤ 3; decide, fun _ => rfl, fun _ => by show (0 : Int) ≤ 1; decide⟩
    have hF := findBi_c (hst.ext hXV) hok ⟨0, c.q, 0, 0⟩ hx0 _ oL.ints (by omega)
    have HS := Lib.hid hs
    have HOK := Lib.hid hok
    clear hs hok bL
    go_wp2_with fail
    try rw [hV]
    clear hV
    refine hF.mono ?_
    rintro e w4 ⟨rfl, hx4⟩
    have hx4' := hXV.trans hx4
    have bO4 := bO3.ext hx4'
    have hE4 := hE3.trans hx4'
    have hX4 := hX.trans hE4
    by_cases hin : (⟨0, c.q, 0, 0⟩ : BP) ∈ s.1
    · have hfn : findBi s.1 ⟨0, c.q, 0, 0⟩ = ((s.1.idxOf ⟨0, c.q, 0, 0⟩ : Nat) : Int) := if_pos hin
      have HE2 : Hid (startBi m c = if confB (binM s) (startY m c s) then (startY m c s, 0) else (blankC, 5)) := by unfold Hid; rw [HE.out, if_pos hin]
      have hix : s.1.idxOf ⟨0, c.q, 0, 0⟩ < s.1.length := List.idxOf_lt_length_iff.2 hin
      rw [hfn]
      obtain ⟨ix, hix0⟩ : ∃ ix, s.1.idxOf ⟨0, c.q, 0, 0⟩ = ix := ⟨_, rfl⟩
      have HIX := Lib.hid hix0
      rw [hix0] at hix ⊢
      have hnn : ¬ (ix : Int) < 0 := by omega
      clear hfn hin hix0
      have c0 := hx4'.cell c0
      have c1 := hx4'.cell c1
      have c2 := hx4'.cell c2
      have m0 := hx4'.cell m0
      have LB := l13Bits_c m.sy w4 s2
      have HYS : Hid (startY m c s = ⟨(ix : Int), trim (codesR (bitsD m.sy) c.l), trim (codesB (bitsD m.sy) c.r)⟩) := by
        unfold Hid startY
        rw [HIX.out]
      obtain ⟨hB1, hB3⟩ := bitsD_range m.sy
      have HLL := Lib.hid (codesR_length (bitsD m.sy) c.l)
      have HLR := Lib.hid (codesB_length (bitsD m.sy) c.r)
      generalize bitsD m.sy = B at *
      have hMul : ∀ n : Nat, n ≤ 200 → n * B.toNat ≤ 600 := fun n hn => by
        have := Nat.mul_le_mul hn (by omega : B.toNat ≤ 3); omega
      have hl1 : (codesR B c.l).length ≤ 1048576 := by rw [HLL.out]; have := hMul _ b1; omega
      have hl2 : (codesB B c.r).length ≤ 1048576 := by rw [HLR.out]; have := hMul _ b3; omega
      have E0 : Ext w4 w4.drew := Ext.drew _
      have d1 := E0.cell c1
      have d2 := E0.cell c2
      have hl4 := (hl.ext hX4).ext E0
      have hq4 := (hq.ext hX4).ext E0
      go_wp2_with fail
      refine LB.mono ?_
      rintro e w' ⟨rfl, rfl⟩
      clear LB hMul
      go_upto_region 10 with fail
      go_cut [10] (fun s10 wx => CutK w4 (ix : Int) (trim (codesR B c.l)) (trim (codesB B c.r)) s10 wx)
      case first =>
        refine wp_region_ordT 13 (readsT [0, 1, 2, 3, 6, 7, 8] (.fork 4 (.fork 5 (.fork 9 (.fork 10 (readsT [11] (.stir 12 .done)) 12 (.stir 10 (readsT [11] .done))) 12 (.stir 9 (.stir 10 (readsT [11] .done)))) 12 (.stir 5 (.stir 9 (.stir 10 (readsT [11] .done))))) 12 (.stir 4 (.stir 5 (.stir 9 (.stir 10 (readsT [11] .done))))))) (by kernel_rfl) (by kernel_rfl) (fun _ _ _ _ _ h => h) ?_
        simp only [readsT]
        have hs0 := E0.size
        generalize w4.drew = X at *
        have hE : Ext X X := Ext.refl _
        iterate 7 (refine wpOrdT_read (v := ?_) (by rfl) (Or.inl ⟨by rfl, fun x hx => ?_⟩) ?_; rotate_left; (· have a1 := hx.cell d1; have a2 := hx.cell d2; go_simp; try with_reducible rfl); try simp only [Act.put, List.setIfInBounds_toArray, List.set_cons_zero, List.set_cons_succ])
        refine wpOrdT_forks (by rfl) (by rfl) (fun K hK => ?_) (fun K hK => ?_)
        · go_simp
          go_at_call 47
          refine (l13CodesR_c _ c.l B X (hl4.ext hE) HB2.out hB1 hB3 (by omega)).mono ?_
          rintro e w5 ⟨u5, rfl, o5, hxw5⟩
          replace hE := hE.trans hxw5
          have hsw5 := hxw5.size
          refine hK (Ext X) _ _ (fun _ h => h) hE ?_
          clear hK K
          refine wpOrdT_forks (by rfl) (by rfl) (fun K hK => ?_) (fun K hK => ?_)
          · go_simp
            go_at_call 46
            refine (l05Trim_c u5 _ w5 o5.ints hl1).mono ?_
            rintro e w6 ⟨u6, rfl, o6, hxw6⟩
            replace hE := hE.trans hxw6
            replace o5 := OwnInts.ext o5 hxw6
            have hsw6 := hxw6.size
            refine hK (Ext X) _ _ (fun _ h => h) hE ?_
            clear hK K
            refine wpOrdT_forks (by rfl) (by rfl) (fun K hK => ?_) (fun K hK => ?_)
            · go_simp
              go_at_call 47
              refine (l13CodesB_c _ c.r B w6 (hq4.ext hE) HB4.out hB1 hB3 (by omega)).mono ?_
              rintro e w7 ⟨u7, rfl, o7, hxw7⟩
              replace hE := hE.trans hxw7
              replace o5 := OwnInts.ext o5 hxw7
              replace o6 := OwnInts.ext o6 hxw7
              have hsw7 := hxw7.size
              refine hK (Ext X) _ _ (fun _ h => h) hE ?_
              clear hK K
              refine wpOrdT_forks (by rfl) (by rfl) (fun K hK => ?_) (fun K hK => ?_)
              · go_simp
                go_at_call 46
                refine (l05Trim_c u7 _ w7 o7.ints hl2).mono ?_
                rintro e w8 ⟨u8, rfl, o8, hxw8⟩
                replace hE := hE.trans hxw8
                replace o5 := OwnInts.ext o5 hxw8
                replace o6 := OwnInts.ext o6 hxw8
                replace o7 := OwnInts.ext o7 hxw8
                have hsw8 := hxw8.size
                refine hK (Ext X) _ _ (fun _ h => h) hE ?_
                clear hK K
                obtain ⟨A6, k6, rfl, _, _⟩ := id o6.ints.form
                obtain ⟨A8, k8, rfl, _, _⟩ := id o8.ints.form
                iterate 1 (refine wpOrdT_read (v := ?_) (by rfl) (Or.inl ⟨by rfl, fun x hx => ?_⟩) ?_; rotate_left; (· go_simp; try with_reducible rfl); try simp only [Act.put, List.setIfInBounds_toArray, List.set_cons_zero, List.set_cons_succ])
                refine wpOrdT_keep (by rfl) (fun K hK => ?_)
                go_simp
                refine hK _ _ (hE.trans (Ext.alloc _ _)) ?_
                clear hK K
                refine wpOrdT_done ?_
                try simp only [List.drop_succ_cons, List.drop_zero]
                go_wp2_with fail
                go_meet
                exact CutK.late (E0.trans hE) o6 o8 (by omega) (by omega)
              · go_simp
                refine hK (Ext X) _ _ (fun _ h => h) (hE.trans (Ext.alloc _ _)) ?_
                clear hK K
                obtain ⟨gA, hgA⟩ : ∃ z, w7.heap.size = z := ⟨_, rfl⟩
                obtain ⟨wA, hwA⟩ : ∃ z, z = w7.alloc (.cells #[.int .i64 0, .slice none 0 0, .slice none 0 0] 37) := ⟨_, rfl⟩
                have hxA : Ext w7 wA := by rw [hwA]; exact Ext.alloc _ _
                have bZ : Blk wA gA 37 #[.int .i64 0, .slice none 0 0, .slice none 0 0] := by rw [hwA]; exact Blk.new _ _ _ _ hgA
                have hsA := hxA.size
                rw [← hwA]
                try rw [hgA]
                clear hwA
                replace hE := hE.trans hxA
                replace o5 := OwnInts.ext o5 hxA
                replace o6 := OwnInts.ext o6 hxA
                replace o7 := OwnInts.ext o7 hxA
                refine wpOrdT_keep (by rfl) (fun K hK => ?_)
                go_simp
                go_at_call 46
                refine (l05Trim_c u7 _ wA o7.ints hl2).mono ?_
                rintro e w8 ⟨u8, rfl, o8, hxw8⟩
                replace hE := hE.trans hxw8
                replace o5 := OwnInts.ext o5 hxw8
                replace o6 := OwnInts.ext o6 hxw8
                replace o7 := OwnInts.ext o7 hxw8
                have hsw8 := hxw8.size
                replace bZ := bZ.ext hxw8
                refine hK _ _ hE ?_
                clear hK K
                obtain ⟨A6, k6, rfl, _, _⟩ := id o6.ints.form
                obtain ⟨A8, k8, rfl, _, _⟩ := id o8.ints.form
                iterate 1 (refine wpOrdT_read (v := ?_) (by rfl) (Or.inl ⟨by rfl, fun x hx => ?_⟩) ?_; rotate_left; (· go_simp; try with_reducible rfl); try simp only [Act.put, List.setIfInBounds_toArray, List.set_cons_zero, List.set_cons_succ])
                refine wpOrdT_done ?_
                try simp only [List.drop_succ_cons, List.drop_zero]
                have z0 := bZ.cell
                have z1 := bZ.frozen
                go_wp2_with fail
                go_meet
                exact CutK.early (E0.trans hE) o6 o8 (by omega) (by omega) bZ (by omega)
            · go_simp
              refine hK (Ext X) _ _ (fun _ h => h) (hE.trans (Ext.alloc _ _)) ?_
              clear hK K
              obtain ⟨gA, hgA⟩ : ∃ z, w6.heap.size = z := ⟨_, rfl⟩
              obtain ⟨wA, hwA⟩ : ∃ z, z = w6.alloc (.cells #[.int .i64 0, .slice none 0 0, .slice none 0 0] 37) := ⟨_, rfl⟩
              have hxA : Ext w6 wA := by rw [hwA]; exact Ext.alloc _ _
              have bZ : Blk wA gA 37 #[.int .i64 0, .slice none 0 0, .slice none 0 0] := by rw [hwA]; exact Blk.new _ _ _ _ hgA
              have hsA := hxA.size
              rw [← hwA]
              try rw [hgA]
              clear hwA
              replace hE := hE.trans hxA
              replace o5 := OwnInts.ext o5 hxA
              replace o6 := OwnInts.ext o6 hxA
              refine wpOrdT_keep (by rfl) (fun K hK => ?_)
              go_simp
              go_at_call 47
              refine (l13CodesB_c _ c.r B wA (hq4.ext hE) HB4.out hB1 hB3 (by omega)).mono ?_
              rintro e w7 ⟨u7, rfl, o7, hxw7⟩
              replace hE := hE.trans hxw7
              replace o5 := OwnInts.ext o5 hxw7
              replace o6 := OwnInts.ext o6 hxw7
              have hsw7 := hxw7.size
              replace bZ := bZ.ext hxw7
              refine hK _ _ hE ?_
              clear hK K
              refine wpOrdT_keep (by rfl) (fun K hK => ?_)
              go_simp
              go_at_call 46
              refine (l05Trim_c u7 _ w7 o7.ints hl2).mono ?_
              rintro e w8 ⟨u8, rfl, o8, hxw8⟩
              replace hE := hE.trans hxw8
              replace o5 := OwnInts.ext o5 hxw8
              replace o6 := OwnInts.ext o6 hxw8
              replace o7 := OwnInts.ext o7 hxw8
              have hsw8 := hxw8.size
              replace bZ := bZ.ext hxw8
              refine hK _ _ hE ?_
              clear hK K
              obtain ⟨A6, k6, rfl, _, _⟩ := id o6.ints.form
              obtain ⟨A8, k8, rfl, _, _⟩ := id o8.ints.form
              iterate 1 (refine wpOrdT_read (v := ?_) (by rfl) (Or.inl ⟨by rfl, fun x hx => ?_⟩) ?_; rotate_left; (· go_simp; try with_reducible rfl); try simp only [Act.put, List.setIfInBounds_toArray, List.set_cons_zero, List.set_cons_succ])
              refine wpOrdT_done ?_
              try simp only [List.drop_succ_cons, List.drop_zero]
              have z0 := bZ.cell
              have z1 := bZ.frozen
              go_wp2_with fail
              go_meet
              exact CutK.early (E0.trans hE) o6 o8 (by omega) (by omega) bZ (by omega)
          · go_simp
            refine hK (Ext X) _ _ (fun _ h => h) (hE.trans (Ext.alloc _ _)) ?_
            clear hK K
            obtain ⟨gA, hgA⟩ : ∃ z, w5.heap.size = z := ⟨_, rfl⟩
            obtain ⟨wA, hwA⟩ : ∃ z, z = w5.alloc (.cells #[.int .i64 0, .slice none 0 0, .slice none 0 0] 37) := ⟨_, rfl⟩
            have hxA : Ext w5 wA := by rw [hwA]; exact Ext.alloc _ _
            have bZ : Blk wA gA 37 #[.int .i64 0, .slice none 0 0, .slice none 0 0] := by rw [hwA]; exact Blk.new _ _ _ _ hgA
            have hsA := hxA.size
            rw [← hwA]
            try rw [hgA]
            clear hwA
            replace hE := hE.trans hxA
            replace o5 := OwnInts.ext o5 hxA
            refine wpOrdT_keep (by rfl) (fun K hK => ?_)
            go_simp
            go_at_call 46
            refine (l05Trim_c u5 _ wA o5.ints hl1).mono ?_
            rintro e w6 ⟨u6, rfl, o6, hxw6⟩
            replace hE := hE.trans hxw6
            replace o5 := OwnInts.ext o5 hxw6
            have hsw6 := hxw6.size
            replace bZ := bZ.ext hxw6
            refine hK _ _ hE ?_
            clear hK K
            refine wpOrdT_keep (by rfl) (fun K hK => ?_)
            go_simp
            go_at_call 47
            refine (l13CodesB_c _ c.r B w6 (hq4.ext hE) HB4.out hB1 hB3 (by omega)).mono ?_
            rintro e w7 ⟨u7, rfl, o7, hxw7⟩
            replace hE := hE.trans hxw7
            replace o5 := OwnInts.ext o5 hxw7
            replace o6 := OwnInts.ext o6 hxw7
            have hsw7 := hxw7.size
            replace bZ := bZ.ext hxw7
            refine hK _ _ hE ?_
            clear hK K
            refine wpOrdT_keep (by rfl) (fun K hK => ?_)
            go_simp
            go_at_call 46
            refine (l05Trim_c u7 _ w7 o7.ints hl2).mono ?_
            rintro e w8 ⟨u8, rfl, o8, hxw8⟩
            replace hE := hE.trans hxw8
            replace o5 := OwnInts.ext o5 hxw8
            replace o6 := OwnInts.ext o6 hxw8
            replace o7 := OwnInts.ext o7 hxw8
            have hsw8 := hxw8.size
            replace bZ := bZ.ext hxw8
            refine hK _ _ hE ?_
            clear hK K
            obtain ⟨A6, k6, rfl, _, _⟩ := id o6.ints.form
            obtain ⟨A8, k8, rfl, _, _⟩ := id o8.ints.form
            iterate 1 (refine wpOrdT_read (v := ?_) (by rfl) (Or.inl ⟨by rfl, fun x hx => ?_⟩) ?_; rotate_left; (· go_simp; try with_reducible rfl); try simp only [Act.put, List.setIfInBounds_toArray, List.set_cons_zero, List.set_cons_succ])
            refine wpOrdT_done ?_
            try simp only [List.drop_succ_cons, List.drop_zero]
            have z0 := bZ.cell
            have z1 := bZ.frozen
            go_wp2_with fail
            go_meet
            exact CutK.early (E0.trans hE) o6 o8 (by omega) (by omega) bZ (by omega)
        · go_simp
          refine hK (Ext X) _ _ (fun _ h => h) (hE.trans (Ext.alloc _ _)) ?_
          clear hK K
          obtain ⟨gA, hgA⟩ : ∃ z, X.heap.size = z := ⟨_, rfl⟩
          obtain ⟨wA, hwA⟩ : ∃ z, z = X.alloc (.cells #[.int .i64 0, .slice none 0 0, .slice none 0 0] 37) := ⟨_, rfl⟩
          have hxA : Ext X wA := by rw [hwA]; exact Ext.alloc _ _
          have bZ : Blk wA gA 37 #[.int .i64 0, .slice none 0 0, .slice none 0 0] := by rw [hwA]; exact Blk.new _ _ _ _ hgA
          have hsA := hxA.size
          rw [← hwA]
          try rw [hgA]
          clear hwA
          replace hE := hE.trans hxA
          refine wpOrdT_keep (by rfl) (fun K hK => ?_)
          go_simp
          go_at_call 47
          refine (l13CodesR_c _ c.l B wA (hl4.ext hE) HB2.out hB1 hB3 (by omega)).mono ?_
          rintro e w5 ⟨u5, rfl, o5, hxw5⟩
          replace hE := hE.trans hxw5
          have hsw5 := hxw5.size
          replace bZ := bZ.ext hxw5
          refine hK _ _ hE ?_
          clear hK K
          refine wpOrdT_keep (by rfl) (fun K hK => ?_)
          go_simp
          go_at_call 46
          refine (l05Trim_c u5 _ w5 o5.ints hl1).mono ?_
          rintro e w6 ⟨u6, rfl, o6, hxw6⟩
          replace hE := hE.trans hxw6
          replace o5 := OwnInts.ext o5 hxw6
          have hsw6 := hxw6.size
          replace bZ := bZ.ext hxw6
          refine hK _ _ hE ?_
          clear hK K
          refine wpOrdT_keep (by rfl) (fun K hK => ?_)
          go_simp
          go_at_call 47
          refine (l13CodesB_c _ c.r B w6 (hq4.ext hE) HB4.out hB1 hB3 (by omega)).mono ?_
          rintro e w7 ⟨u7, rfl, o7, hxw7⟩
          replace hE := hE.trans hxw7
          replace o5 := OwnInts.ext o5 hxw7
          replace o6 := OwnInts.ext o6 hxw7
          have hsw7 := hxw7.size
          replace bZ := bZ.ext hxw7
          refine hK _ _ hE ?_
          clear hK K
          refine wpOrdT_keep (by rfl) (fun K hK => ?_)
          go_simp
          go_at_call 46
          refine (l05Trim_c u7 _ w7 o7.ints hl2).mono ?_
          rintro e w8 ⟨u8, rfl, o8, hxw8⟩
          replace hE := hE.trans hxw8
          replace o5 := OwnInts.ext o5 hxw8
          replace o6 := OwnInts.ext o6 hxw8
          replace o7 := OwnInts.ext o7 hxw8
          have hsw8 := hxw8.size
          replace bZ := bZ.ext hxw8
          refine hK _ _ hE ?_
          clear hK K
          obtain ⟨A6, k6, rfl, _, _⟩ := id o6.ints.form
          obtain ⟨A8, k8, rfl, _, _⟩ := id o8.ints.form
          iterate 1 (refine wpOrdT_read (v := ?_) (by rfl) (Or.inl ⟨by rfl, fun x hx => ?_⟩) ?_; rotate_left; (· go_simp; try with_reducible rfl); try simp only [Act.put, List.setIfInBounds_toArray, List.set_cons_zero, List.set_cons_succ])
          refine wpOrdT_done ?_
          try simp only [List.drop_succ_cons, List.drop_zero]
          have z0 := bZ.cell
          have z1 := bZ.frozen
          go_wp2_with fail
          go_meet
          exact CutK.early (E0.trans hE) o6 o8 (by omega) (by omega) bZ (by omega)
      case rest =>
        rename World => wS
        obtain ⟨LL, hLL⟩ : ∃ z, trim (codesR B c.l) = z := ⟨_, rfl⟩
        obtain ⟨RR, hRR⟩ : ∃ z, trim (codesB B c.r) = z := ⟨_, rfl⟩
        rw [hLL, hRR] at hcut HYS
        clear hLL hRR HLL HLR hl1 hl2 d1 d2 E0 hl4 hq4
        obtain ⟨gS, lvS, rvS, bl, br, rfl, bS, hxS, hgS, oL, oR, hbl, hbr⟩ := hcut
        obtain ⟨AS, cS, rfl, _, _⟩ := oL.ints.form
        obtain ⟨BS, eS, rfl, _, _⟩ := oR.ints.form
        have hE5 := hx4'.trans hxS
        have hstS := hst.ext hE5
        have bOS := bO3.ext hE5
        have hX6 := hX4.trans hxS
        have k4 := hstS.blk.cell 4
        have k5 := hstS.blk.cell 5
        have g0 := bS.cell 0
        have g1 := bS.cell 1
        have g2 := bS.cell 2
        simp only [List.getElem?_toArray, List.getElem?_cons_zero, List.getElem?_cons_succ] at k4 k5 g0 g1 g2
        have hcp : ConfP wS gS ⟨(ix : Int), LL, RR⟩ := ⟨_, _, g0, g1, g2, oL.ints, oR.ints⟩
        have GD := l05Good_c bk 4 gS ⟨2, s.1.length, s.2⟩ ⟨(ix : Int), LL, RR⟩ wS k4 k5 hcp (by show 1 ≤ 2; omega) (by show 2 ≤ 1000000; omega) (by show (1 : Int) ≤ s.1.length; omega) (by show (s.1.length : Int) ≤ 1000; omega)
        have hgb : k + 1 + 1 < w4.heap.size := bO4.lt
        have HE3 : Hid (startBi m c = if confB ⟨2, s.1.length, s.2⟩ ⟨(ix : Int), LL, RR⟩ then (⟨(ix : Int), LL, RR⟩, 0) else (blankC, 5)) := by
          unfold Hid
          rw [HE2.out, HYS.out]
          rfl
        clear HE HE2 HYS k4 k5 hcp
        go_wp2_with fail
        refine GD.mono ?_
        rintro e w7 ⟨rfl, hx7⟩
        have hX7 := hX6.trans hx7
        have bO7 := bOS.ext hx7
        have ob := bO7.cell
        have of_ := bO7.frozen
        have g0 := hx7.cell g0
        have g1 := hx7.cell g1
        have g2 := hx7.cell g2
        cases hcb : confB ⟨2, s.1.length, s.2⟩ ⟨(ix : Int), LL, RR⟩ with
        | false =>
          have HE4 : Hid (startBi m c = (blankC, 5)) := by unfold Hid; rw [HE3.out, hcb]; rfl
          clear hcb
          go_wp2
          rw [HE4.out]
          exact bodyPost_ret (v := .tuple #[.agg #[.int .i64 0, .slice none 0 0, .slice none 0 0], .int .i64 5]) (by simp [results, Tryz.results20, go_sem, ob]) rfl (SpecRes.none hb2 hX7 _ _ _)
        | true =>
          have HE4 : Hid (startBi m c = (⟨(ix : Int), LL, RR⟩, 0)) := by unfold Hid; rw [HE3.out, hcb]; rfl
          clear hcb
          have n1 : ∀ g', (Value.slice AS LL.length cS).ownBlock = some g' → g' ≠ k + 1 + 1 := fun g' h' => by have := (oL.lt g' h').1; omega
          have n2 : ∀ g', (Value.slice BS RR.length eS).ownBlock = some g' → g' ≠ k + 1 + 1 := fun g' h' => by have := (oR.lt g' h').1; omega
          have HDN := Lib.hid (fun x y z => SpecRes.done (r := (⟨(ix : Int), LL, RR⟩, 0)) (base := 0) hb2 hX7 (ownsRow_base (OwnInts.ext oL hx7) (Nat.zero_le _)) (ownsRow_base (OwnInts.ext oR hx7) (Nat.zero_le _)) n1 n2 x y z)
          clear n1 n2
          go_wp2
          rw [HE4.out]
          exact bodyPost_ret (v := .tuple #[.agg #[.int .i64 (ix : Int), .slice AS LL.length cS, .slice BS RR.length eS], .int .i64 0]) (by simp [results, Tryz.results20, go_sem, ob]) rfl (HDN.out _ _ _)
    · have hfn : findBi s.1 ⟨0, c.q, 0, 0⟩ = -1 := if_neg hin
      have HE2 : Hid (startBi m c = (blankC, 6)) := by unfold Hid; rw [HE.out, if_neg hin]
      rw [hfn]
      have ob := bO4.cell
      have of_ := bO4.frozen
      clear hfn hin
      go_wp2
      rw [HE2.out]
      exact bodyPost_ret (v := .tuple #[.agg #[.int .i64 0, .slice none 0 0, .slice none 0 0], .int .i64 6]) (by simp [results, Tryz.results20, go_sem, ob]) rfl (SpecRes.none hb2 hX4 _ _ _)
end Go.Proofs.YthhjbmlkncdigaaGreatDoor
end
