/- Contracts of the two checks of a proof by segments. No condition but the library's table.
Plain words: what the search for a proof by segments finds is accepted.
The program's search for a proof by segments. No condition but the library's table. -/
import Derived.Test.YtacpchapgklcgaaGreatDoorR23
import Derived.Test.YtacpchapgklcgaaGreatDoorR33
import Derived.Deep.RegionLaw
section
namespace Go.Proofs.YtacpchapgklcgaaGreatDoor
open Go Go.RowKit Go.Proofs
set_option maxHeartbeats 400000
/-- What is asked of a proof by segments, ahead of the search. -/
def chkPre (m : MachD) (p : ProofD) : Bool := machOk m && (p.k == 5) && ((p.ns.length : Int) == 1) && ((p.ws.length : Int) == 0) && inB (p.ns.getD 0 0) 1 9
def ChkAns (m : MachD) (p : ProofD) (r : Bool) : Prop :=
  (chkPre m p = false ∧ r = false) ∨ (chkPre m p = true ∧ ∃ k, EndsS m (p.ns.getD 0 0).toNat k ∧ r = (decide ((iterS m (p.ns.getD 0 0).toNat k).1.length ≤ 2000) && !(iterS m (p.ns.getD 0 0).toNat k).2))
theorem ChkAns.unique {m : MachD} {p : ProofD} {r r' : Bool} (h : ChkAns m p r) (h' : ChkAns m p r') : r = r' := by
  rcases h with ⟨h1, rfl⟩ | ⟨h1, k, hk, rfl⟩ <;> rcases h' with ⟨g1, rfl⟩ | ⟨g1, k', hk', rfl⟩
  · rfl
  · rw [h1] at g1; cases g1
  · rw [h1] at g1; cases g1
  · rw [hk.unique hk']
theorem chk_of_no {m : MachD} {p : ProofD} (h : pOfB m p 5 1 = false) : ChkAns m p false := by
  refine .inl ⟨?_, rfl⟩
  cases hc : chkPre m p with
  | false => rfl
  | true =>
    simp only [chkPre, Bool.and_eq_true, beq_iff_eq] at hc
    obtain ⟨⟨⟨⟨h1, h2⟩, h3⟩, h4⟩, h5⟩ := hc
    have hz : p.ws = [] := List.eq_nil_of_length_eq_zero (by omega)
    obtain ⟨z, hz1⟩ : ∃ z, p.ns = [z] := by
      match hn : p.ns with
      | [] => rw [hn] at h3; simp at h3
      | [z] => exact ⟨z, rfl⟩
      | _ :: _ :: _ => rw [hn] at h3; simp at h3; omega
    rw [hz1] at h5
    have hb : 1 ≤ z ∧ z ≤ 9 := by simpa [inB] using h5
    have hp : prfOk p = true := by
      simp [prfOk, h2, hz, hz1, inB]
      omega
    simp [pOfB, h1, hp, h2, h3, h4] at h
theorem chk_of_nodes {m : MachD} {p : ProofD} {xs : List (List Int)} {b : Bool} {c : Int} (h : pOfB m p 5 1 = true) (ha : NodesAns m (p.ns.getD 0 0) xs b c) : ChkAns m p ((c == 0) && b) := by
  simp only [pOfB, Bool.and_eq_true, beq_iff_eq] at h
  obtain ⟨⟨⟨⟨h1, h2⟩, h3⟩, h4⟩, h5⟩ := h
  have hc : chkPre m p = inB (p.ns.getD 0 0) 1 9 := by simp [chkPre, h1, h3, h4, h5]
  rcases ha with ⟨g1, _, rfl, rfl⟩ | ⟨g1, g2, _, rfl, rfl⟩ | ⟨g1, g2, k, hk, ⟨g3, _, rfl, rfl⟩ | ⟨g3, _, rfl, rfl⟩⟩
  · rw [h1] at g1; cases g1
  · exact .inl ⟨by rw [hc, g2], by simp⟩
  · exact .inr ⟨by rw [hc, g2], k, hk, by rw [decide_eq_false (by omega)]; rfl⟩
  · exact .inr ⟨by rw [hc, g2], k, hk, by rw [decide_eq_true g3]; rfl⟩
def ChkRes (w : World) (m : MachD) (p : ProofD) (e : Ending) (w' : World) : Prop := (∃ r, e = .returned (.bool r) ∧ ChkAns m p r) ∧ Ext w w'
set_option maxRecDepth 20000 in
set_option maxHeartbeats 1000000 in
theorem CheckSegment_c (v u : Value) (m : MachD) (p : ProofD) (w : World) (hm : Mach w v m) (hp : Prf w u p) (hT : Tab w) :
    Calls Tryz.prog 9 #[v, u] w (ChkRes w m p) := by
  obtain ⟨rv, rfl, hr⟩ := hm
  obtain ⟨nv, wv, rfl, hn, hw⟩ := hp
  obtain ⟨Ar, cr, rfl, _, _⟩ := hr.form
  obtain ⟨An, cn, rfl, _, _⟩ := hn.form
  obtain ⟨Aw, cw, rfl, _, _⟩ := hw.form
  have hx0 := (Ext.alloc w (.cells #[.int .i64 m.sy, .int .i64 m.st, .slice Ar m.rules.length cr] 26)).trans (Ext.alloc _ (.cells #[.int .i64 p.k, .slice An p.ns.length cn, .slice Aw p.ws.length cw] 36))
  have bM := (Blk.new w w.heap.size 26 #[.int .i64 m.sy, .int .i64 m.st, .slice Ar m.rules.length cr] rfl).alloc (.cells #[.int .i64 p.k, .slice An p.ns.length cn, .slice Aw p.ws.length cw] 36)
  have bP := Blk.new (w.alloc (.cells #[.int .i64 m.sy, .int .i64 m.st, .slice Ar m.rules.length cr] 26)) (w.heap.size + 1) 36 #[.int .i64 p.k, .slice An p.ns.length cn, .slice Aw p.ws.length cw] (by simp)
  go_enter Tryz.func9, Tryz.ntmps9
  go_wp2_with fail
  refine (proofOf_c _ _ m p 5 1 _ ⟨_, rfl, hr.ext hx0⟩ ⟨_, _, rfl, hn.ext hx0, hw.ext hx0⟩).mono ?_
  rintro e w1 ⟨rfl, hx1⟩
  have hX1 := hx0.trans hx1
  cases h1 : pOfB m p 5 1 with
  | false =>
    have HE := Lib.hid (chk_of_no h1)
    clear h1
    go_wp2
    go_ret
    exact ⟨⟨false, rfl, HE.out⟩, hX1⟩
  | true =>
    have H1 := Lib.hid h1
    have hl1 : p.ns.length = 1 := by
      simp only [pOfB, Bool.and_eq_true, beq_iff_eq] at h1
      omega
    have hl0 : 0 < p.ns.length := by omega
    clear h1
    obtain ⟨b', off, rfl, hc⟩ := (hn.ext hX1).at hl0
    have d0 : w1.cell? ⟨b', off, none⟩ = some (.int .i64 p.ns[0]) := hc 0 hl0
    have HZ : Hid (p.ns.getD 0 0 = p.ns[0]) := by unfold Hid; rw [List.getD_eq_getElem?_getD, List.getElem?_eq_getElem hl0]; rfl
    have hM1 : Mach w1.drew (.agg #[.int .i64 m.sy, .int .i64 m.st, .slice Ar m.rules.length cr]) m := ⟨_, rfl, (hr.ext hX1).ext (Ext.drew _)⟩
    have hT1 : Tab w1.drew := (hT.below hT.low hX1).ext (Ext.drew _)
    have bM1 := bM.ext hx1
    have bP1 := bP.ext hx1
    have c0 := bM1.cell 0
    have c1 := bM1.cell 1
    have c2 := bM1.cell 2
    have e1 := bP1.cell 1
    simp only [List.getElem?_toArray, List.getElem?_cons_zero, List.getElem?_cons_succ] at c0 c1 c2 e1
    have hi0 : (0 : Int) < (p.ns.length : Int) := by omega
    clear hc hl1
    generalize p.ns[0] = z at *
    go_wp2_with fail
    go_region_law
      (first
        | (go_simp; go_at_call 27; ((with_reducible refine (SegmentNodes_c _ m z _ hM1 hT1).mono ?_)); rintro e w5 hres; obtain ⟨g0, xs, gb, gc, rfl, hans, hg, hx5⟩ := hres.ans))
    all_goals
      rw [← HZ.out] at hans
      have HE := Lib.hid (chk_of_nodes H1.out hans)
      have hX5 := (hX1.trans (Ext.drew _)).trans hx5
      cases h0 : (gc == 0) with
      | false =>
        rw [h0] at HE
        go_wp2
        go_ret
        exact ⟨⟨false, rfl, HE.out⟩, hX5⟩
      | true =>
        rw [h0] at HE
        go_wp2
        go_ret
        exact ⟨⟨gb, rfl, by simpa using HE.out⟩, hX5⟩
end Go.Proofs.YtacpchapgklcgaaGreatDoor
end
section
set_option linter.unusedSimpArgs false
set_option linter.unusedVariables false
namespace Go.Proofs.YtacpchapgklcgaaGreatDoor
open Go Go.RowKit Go.Proofs
theorem iterS_le (m : MachD) (n : Nat) {j k : Nat} (h : j ≤ k) : (iterS m n j).1.length ≤ (iterS m n k).1.length := by
  induction h with
  | refl => exact Nat.le_refl _
  | step _ ih => exact Nat.le_trans ih (iterS_mono m n _)
theorem seg_found {m : MachD} : ∀ {t n : Nat} {b s : Int}, SizeAns m t n b s 0 → 1 ≤ n → n + 2 * t ≤ 11 → ∃ k, 1 ≤ s ∧ s ≤ 9 ∧ EndsS m s.toNat k ∧ (iterS m s.toNat k).1.length ≤ 2000 ∧ (iterS m s.toNat k).2 = false
  | 0, _, _, _, h, _, _ => by have := h.2; omega
  | t + 1, n, b, s, ⟨k, hk, h⟩, h1, h2 => by
    rcases h with ⟨g1, rfl, _⟩ | ⟨g1, g2, rfl, g3⟩ | ⟨g1, g2, g3⟩
    · simp only [accS, Bool.and_eq_true, Bool.not_eq_true', decide_eq_false_iff_not, decide_eq_true_eq] at g1
      obtain ⟨⟨a1, a2⟩, a3⟩ := g1
      refine ⟨k, by omega, by omega, ?_, ?_, ?_⟩
      · rw [Int.toNat_natCast]
        exact ⟨fun j hj => ⟨(hk.1 j hj).1, Nat.le_trans (iterS_le m n (Nat.le_of_lt hj)) a2⟩, fun hh => a1 hh.1⟩
      · rw [Int.toNat_natCast]; exact a2
      · rw [Int.toNat_natCast]; exact a3
    · omega
    · exact seg_found g3 (by omega) (by omega)
theorem size_codes {m : MachD} : ∀ {t n : Nat} {b s c : Int}, SizeAns m t n b s c → c = 0 ∨ c = 3 ∨ c = 5
  | 0, _, _, _, _, h => .inr (.inl h.2)
  | t + 1, n, b, s, c, ⟨k, hk, h⟩ => by
    rcases h with ⟨_, _, rfl⟩ | ⟨_, _, _, rfl⟩ | ⟨_, _, g3⟩
    · exact .inl rfl
    · exact .inr (.inr rfl)
    · exact size_codes g3
/-- What the search by segments finds passes the check. -/
theorem fs_found {m : MachD} (hm : machOk m = true) {b : Int} {p : ProofD} {c : Int} (hb : 1 ≤ b ∧ b ≤ 20000) (h : FsAns m b p c) : (c = 0 ∧ ChkAns m p true) ∨ c = 3 ∨ c = 5 := by
  have hbo : inB b 1 20000 = true := by simpa [inB] using hb
  have hz : budC m b = 0 := by simp [budC, hm, hbo]
  rcases h with ⟨h1, _, _⟩ | ⟨_, s, hs, hp⟩
  · exact absurd hz h1
  · rcases size_codes hs with rfl | rfl | rfl
    · left
      refine ⟨rfl, ?_⟩
      rw [if_pos rfl] at hp
      subst hp
      obtain ⟨k, s1, s9, he, hl, hf⟩ := seg_found hs (Nat.le_refl _) (by omega)
      refine .inr ⟨by simp [chkPre, hm, inB, s1, s9], k, he, ?_⟩
      show true = (decide ((iterS m s.toNat k).1.length ≤ 2000) && !(iterS m s.toNat k).2)
      rw [decide_eq_true hl, hf]
      rfl
    · exact .inr (.inl rfl)
    · exact .inr (.inr rfl)
end Go.Proofs.YtacpchapgklcgaaGreatDoor
end
section
namespace Go.Proofs.YtacpchapgklcgaaGreatDoor
open Go Go.RowKit Go.Proofs
set_option maxHeartbeats 400000
set_option maxRecDepth 20000 in
set_option maxHeartbeats 4000000 in
theorem FindSegment_c (v : Value) (m : MachD) (b : Int) (w : World) (h : Mach w v m) (hT : Tab w) :
    Calls Tryz.prog 13 #[v, .int .i64 b] w (FsRes w m b) := by
  obtain ⟨rv, rfl, hr⟩ := h
  obtain ⟨Ar, cr, rfl, h3, h3'⟩ := hr.form
  have hx0 := (Ext.alloc w (.cells #[.int .i64 m.sy, .int .i64 m.st, .slice Ar m.rules.length cr] 26)).trans (Ext.alloc _ (.cells #[.int .i64 0, .slice none 0 0, .slice none 0 0] 36))
  have bM := (Blk.new w w.heap.size 26 #[.int .i64 m.sy, .int .i64 m.st, .slice Ar m.rules.length cr] rfl).alloc (.cells #[.int .i64 0, .slice none 0 0, .slice none 0 0] 36)
  have bR := Blk.new (w.alloc (.cells #[.int .i64 m.sy, .int .i64 m.st, .slice Ar m.rules.length cr] 26)) (w.heap.size + 1) 36 #[.int .i64 0, .slice none 0 0, .slice none 0 0] (by simp)
  have hlow : w.heap.size ≤ w.heap.size + 1 := by omega
  go_enter Tryz.func13, Tryz.ntmps13
  go_wp2_with fail
  refine (budgeted_c _ m b _ ⟨_, rfl, hr.ext hx0⟩).mono ?_
  rintro e w1 ⟨rfl, hx1⟩
  have hX1 := hx0.trans hx1
  have bM1 := bM.ext hx1
  have bR1 := bR.ext hx1
  by_cases hbc : budC m b = 0
  · have HB := Lib.hid hbc
    have hmo : machOk m = true := by
      cases hh : machOk m with
      | true => rfl
      | false => simp [budC, hh] at hbc
    have hbo : inB b 1 20000 = true := by
      cases hh : inB b 1 20000 with
      | true => rfl
      | false => simp [budC, hmo, hh] at hbc
    have hnn : 1 ≤ b ∧ b ≤ 20000 := by simpa [inB] using hbo
    have hmk := Lib.hid (MOk.of hmo)
    have hl6 := hmk.out.len2
    rw [hbc]
    clear hbc hmo hbo bM bR hx0 hx1
    go_wp2
    go_loopw [1, 7] (fun l z wr => ∃ (i : Nat) (lf : Int), i ≤ 5 ∧ z = .int .i64 (2 * i + 1) ∧ l = .int .i64 lf ∧ 0 ≤ lf ∧ lf ≤ b ∧ (∀ s c, SizeAns m (5 - i) (2 * i + 1) lf s c → SizeAns m 5 1 b s c) ∧ Ext w1 wr) (fun _ z _ => (11 - intOf z).toNat)
    case atStart => exact ⟨0, b, by omega, rfl, rfl, by omega, by omega, fun s c h => h, Ext.refl _⟩
    case round =>
      obtain ⟨i, lf, hi, rfl, rfl, hl0, hl1, hco, hE0⟩ := hrel
      have HCO := Lib.hid hco
      clear hco
      have hX0 := hX1.trans hE0
      have bM2 := bM1.ext hE0
      have bR2 := bR1.ext hE0
      have hr2 := hr.ext hX0
      by_cases hi5 : i < 5
      · obtain ⟨t, ht⟩ : ∃ t, 5 - i = t + 1 := ⟨4 - i, by omega⟩
        have HCO2 : Hid (∀ s c, SizeAns m (t + 1) (2 * i + 1) lf s c → SizeAns m 5 1 b s c) := by unfold Hid; rw [← ht]; exact HCO.out
        have HTI : Hid (5 - (i + 1) = t) := by unfold Hid; omega
        have hz9 : decide (2 * (i : Int) + 1 ≤ 9) = true := by simp; omega
        have e1 : (2 * (i : Int) + 1) = ((2 * i + 1 : Nat) : Int) := by omega
        clear ht HCO
        rw [e1] at hz9 ⊢
        have n1 : 1 ≤ 2 * i + 1 := by omega
        have n2 : 2 * i + 1 ≤ 9 := by omega
        have HN : Hid (((2 * i + 1 : Nat) : Int) + 2 = 2 * ((i + 1 : Nat) : Int) + 1) := by unfold Hid; omega
        have HN2 : Hid (2 * (i + 1) + 1 = 2 * i + 1 + 2) := by unfold Hid; omega
        clear e1
        generalize 2 * i + 1 = n at *
        have c0 := bM2.cell 0
        have c1 := bM2.cell 1
        have c2 := bM2.cell 2
        simp only [List.getElem?_toArray, List.getElem?_cons_zero, List.getElem?_cons_succ] at c0 c1 c2
        generalize wr = W1 at *
        go_wp2_with fail
        refine (segmentsOf_c _ m n W1 _ rfl hr2 hl6 hmk.out.sy1 hmk.out.sy2 n1 n2 (fun x hx => (starts_ok hmk.out n1 x hx).fits hmk.out n1 n2) (hT.below hT.low hX0)).mono ?_
        rintro e w2 ⟨bs, nv, vs, bm, rfl, hst, hx2⟩
        clear c0 c1 c2
        obtain ⟨s0, hs0⟩ : ∃ s0, s0 = iterS m n 0 := ⟨_, rfl⟩
        have hs1 : addAll ([], false) (startsIn m n) = s0 := hs0.symm
        rw [hs1] at hst ⊢
        have HS0 := Lib.hid hs0
        clear hs0 hs1
        go_wp2
        go_loopw [1, 9, 10] (fun l r ki wr => ∃ (k : Nat) (s : List (List Int) × Bool) (nv : Value) (vs : List Value), s = iterS m n k ∧ ki = .int .i64 k ∧ l = .int .i64 (lf - k) ∧ r = .bool (decide (s.1.length ≤ 2000)) ∧ (k : Int) ≤ lf ∧ (∀ j < k, j < (iterS m n j).1.length ∧ ¬ stopS m n lf true j) ∧ SegSt W1.heap.size wr bs m (.slice Ar m.rules.length cr) s.1 s.2 nv vs bm ∧ Below W1.heap.size w2 wr) (fun _ _ ki _ => 2001 - (intOf ki).toNat)
        case atStart => exact ⟨0, s0, nv, vs, HS0.out, rfl, by simp, rfl, by omega, fun j hj => by omega, hst, Below.refl _ _⟩
        case round =>
          clear hst HS0
          obtain ⟨k, s, nv, vs, hsk, rfl, rfl, rfl, hkl, hgo, hst, hbl⟩ := hrel
          have hE : Ext W1 wr := Below.trans hx2 hbl
          have hX := hX0.trans hE
          have bM3 := bM2.ext hE
          have bR3 := bR2.ext hE
          obtain ⟨An, cn, rfl, q1, q2, _⟩ := (ownsRow_row hst.own).form
          have cb := hst.blk.cell 3
          have cb5 := hst.blk.cell 5
          have c0 := bM3.cell 0
          have c1 := bM3.cell 1
          have c2 := bM3.cell 2
          simp only [List.getElem?_toArray, List.getElem?_cons_zero, List.getElem?_cons_succ] at cb cb5 c0 c1 c2
          have HSK := Lib.hid hsk
          have HGO := Lib.hid hgo
          have d := bR3.cell
          have f := bR3.frozen
          clear hsk hgo
          have HACC := Lib.hid (fun (h : accS m n k = true) (he : FindEnds m n lf true k) => HCO2.out n 0 ⟨k, he, .inl ⟨h, rfl, rfl⟩⟩)
          have HFUL := Lib.hid (fun (h : accS m n k = false) (h' : fullS m n k lf = true) (he : FindEnds m n lf true k) => HCO2.out 0 5 ⟨k, he, .inr (.inl ⟨h, h', rfl, rfl⟩)⟩)
          have HEND := Lib.hid (fun (s' c' : Int) (h : accS m n k = false) (h' : fullS m n k lf = false) (he : FindEnds m n lf true k) (hh : SizeAns m t (n + 2) (lf - k) s' c') => HCO2.out s' c' ⟨k, he, .inr (.inr ⟨h, h', hh⟩)⟩)
          by_cases hroom : s.1.length ≤ 2000
          · have hd : decide (s.1.length ≤ 2000) = true := by simp [hroom]
            cases hbg : s.2 with
            | true =>
              have HEE : Hid (FindEnds m n lf true k) := ⟨HGO.out, .inr (.inl ⟨by rw [← HSK.out]; exact hbg, rfl⟩)⟩
              have HA : Hid (accS m n k = false) := by unfold Hid accS; rw [← HSK.out, hbg]; simp
              have HF : Hid (fullS m n k lf = false) := by unfold Hid fullS; rw [← HSK.out, hbg]; simp
              rw [hbg] at cb5
              clear hbg
              go_wp2
              go_roundw
              case rel => exact ⟨i + 1, lf - k, by omega, by rw [HN.out], rfl, by omega, by omega, fun s' c' h => HEND.out s' c' HA.out HF.out HEE.out (by rw [HTI.out, HN2.out] at h; exact h), hE0.trans hE⟩
              case measure => simp [intOf]; omega
            | false =>
              by_cases hlt : k < s.1.length
              · by_cases hz : lf - (k : Int) = 0
                · have HEE : Hid (FindEnds m n lf true k) := ⟨HGO.out, .inr (.inr (.inr (by omega)))⟩
                  have HA : Hid (accS m n k = false) := by unfold Hid accS; rw [← HSK.out]; simp [hlt]
                  have HF : Hid (fullS m n k lf = true) := by unfold Hid fullS; rw [← HSK.out, hbg, hd]; simp; omega
                  have hz' : ((lf - (k : Int)) == 0) = true := by simp [hz]
                  rw [hbg] at cb5
                  clear hbg hz
                  go_wp2
                  refine bodyPost_ret (v := .tuple #[.agg #[.int .i64 0, .slice none 0 0, .slice none 0 0], .int .i64 5]) (by simp [results, Tryz.results13, go_sem, d]) rfl (FsRes.no ?_ (.inr ⟨HB.out, by simp, 0, HFUL.out HA.out HF.out HEE.out⟩))
                  exact (((hX.setCell hlow _).setCell hlow _).setCell hlow _)
                · have hz' : ((lf - (k : Int)) == 0) = false := by simp [hz]
                  have HNS : Hid (¬ stopS m n lf true k) := by
                    unfold Hid stopS
                    rw [← HSK.out, hbg]
                    simp
                    omega
                  rw [hbg] at cb5
                  obtain ⟨u, hu, hru⟩ := hst.rows k hlt
                  obtain ⟨g, rfl, hgb, hgl⟩ := own_at hst.own (by omega)
                  have q0 := hst.own.cellAt k (by omega)
                  rw [hu] at q0
                  obtain ⟨Au, cu, rfl, _, _⟩ := hru.ints.form
                  have NOK := Lib.hid (iterS_ok hmk.out n1 k (fun j hj => (HGO.out j hj).1) s.1[k] (by rw [← HSK.out]; exact List.getElem_mem hlt))
                  generalize hy : s.1[k] = y at *
                  have HY := Lib.hid hy
                  clear hy
                  have y0 := NOK.out.len
                  have y1 := NOK.out.lo
                  have y2 := NOK.out.hi
                  have hrr := hr.ext hX
                  have HPO := Lib.hid (fun x hx => (predsTo_ok hmk.out n1 NOK.out _ (Nat.le_refl _) x hx).fits hmk.out n1 n2)
                  have HNF := Lib.hid (fun x hx => (iterS_ok hmk.out n1 k (fun j hj => (HGO.out j hj).1) x (by rw [← HSK.out]; exact hx)).fits hmk.out n1 n2)
                  have hMr : Mach wr.drew (.agg #[.int .i64 m.sy, .int .i64 m.st, .slice Ar m.rules.length cr]) m := ⟨_, rfl, hrr.ext (Ext.drew _)⟩
                  have hiy : Ints wr.drew (.slice Au y.length cu) y := hru.ints.ext (Ext.drew _)
                  have hy3 : 3 ≤ y.length := by omega
                  have hy11 : y.length ≤ 11 := by omega
                  have hyx : y.getD 0 0 ≤ (y.length : Int) - 2 := by omega
                  clear y0
                  have hlen5 : s.1.length + (predsTo m y m.rules.length).length ≤ 100000 := by have := predsTo_length m y m.rules.length; omega
                  have HLT : Hid (k < s.1.length) := hlt
                  have HKL : Hid (((k + 1 : Nat) : Int) ≤ lf) := by unfold Hid; omega
                  clear hbg hz d f
                  go_wp2_with fail
                  go_region_law
                    (first
                      | (go_simp; go_at_call 36; ((with_reducible refine (segmentPredecessors_c _ _ m y _ hMr hiy hl6 hmk.out.sy1 hmk.out.sy2 hmk.out.mv hy3 hy11 y1 hyx).mono ?_)); rintro e w5 ⟨u5, rfl, ⟨us, u1, u2, u3⟩, hx5⟩; have hx5' := (Ext.drew wr).trans hx5; have inv5 := FindInv.start (list := predsTo m y m.rules.length) hst hx5' u1 u2; have hT5 := hT.below hT.low (hX.trans hx5'); have hT6 := hT.low.mono hX0.size; have hs5 := hE.size; have hs6 := hx5'.size)
                      | (go_simp; go_at_call 35; ((with_reducible refine (find_c W1.heap.size wr.heap.size w5 bs m _ u5 (predsTo m y m.rules.length) us s.1 s.2 _ vs bm inv5 hs5 hs6 u3 HNF.out HPO.out hlen5 hT5 hT6).mono ?_)); rintro e w6 ⟨rfl, ⟨nv6, vs6, hst6⟩, hb6⟩))
                  all_goals
                    have HNX : Hid (addAll (s.1, s.2) (predsTo m y m.rules.length) = iterS m n (k + 1)) := by
                      show _ = stepS m (iterS m n k) k
                      rw [← HSK.out]
                      unfold stepS
                      rw [List.getD_eq_getElem?_getD, List.getElem?_eq_getElem hlt, HY.out]
                      rfl
                    generalize addAll (s.1, s.2) (predsTo m y m.rules.length) = s' at *
                    have HG : Hid (∀ j < k + 1, j < (iterS m n j).1.length ∧ ¬ stopS m n lf true j) := fun j hj => by
                      by_cases c : j = k
                      · rw [c]; exact ⟨by rw [← HSK.out]; exact HLT.out, HNS.out⟩
                      · exact HGO.out j (by omega)
                    try go_wp2
                    go_roundw
                    · exact ⟨k + 1, s', nv6, vs6, HNX.out, by go_num, by congr 1; omega, rfl, HKL.out, HG.out, hst6, (hbl.trans (Below.mono hx5' hE.size)).trans hb6⟩
                    · simp [intOf]; omega
              · have HEE : Hid (FindEnds m n lf true k) := ⟨HGO.out, .inl (by rw [← HSK.out]; exact hlt)⟩
                have HA : Hid (accS m n k = true) := by unfold Hid accS; rw [← HSK.out, hbg, hd]; simp; omega
                rw [hbg] at cb5
                have hb2 := bR3.lt
                clear hbg
                go_wp2
                refine bodyPost_ret (v := .tuple #[.agg #[.int .i64 5, .slice (some ⟨wr.heap.size, 0, none⟩) 1 1, .slice none 0 0], .int .i64 0]) ?_ rfl ?_
                · have d' := ((store3 bR3 (.int .i64 5) (.slice (some ⟨wr.heap.size, 0, none⟩) 1 1) (.slice none 0 0)).alloc (.cells #[.int .i64 n] 2)).cell
                  simp [results, Tryz.results13, go_sem, d']
                refine FsRes.yes ?_ HB.out (HACC.out HA.out HEE.out) ?_
                · exact (((hX.setCell hlow _).setCell hlow _).setCell hlow _).trans (Ext.alloc _ _)
                · exact own_one _ _ (by have := hX.size; simpa [World.setCell] using this) (by simp [World.setCell])
          · have hd : decide (s.1.length ≤ 2000) = false := by simp [hroom]
            have HEE : Hid (FindEnds m n lf true k) := ⟨HGO.out, .inr (.inr (.inl (by rw [← HSK.out]; omega)))⟩
            have HA : Hid (accS m n k = false) := by unfold Hid accS; rw [← HSK.out, hd]; simp
            have HF : Hid (fullS m n k lf = false) := by unfold Hid fullS; rw [← HSK.out, hd]; simp
            clear hroom
            go_wp2
            go_roundw
            case rel => exact ⟨i + 1, lf - k, by omega, by rw [HN.out], rfl, by omega, by omega, fun s' c' h => HEND.out s' c' HA.out HF.out HEE.out (by rw [HTI.out, HN2.out] at h; exact h), hE0.trans hE⟩
            case measure => simp [intOf]; omega
      · have hie : i = 5 := by omega
        subst hie
        have d := bR2.cell
        have f := bR2.frozen
        go_wp2
        refine bodyPost_ret (v := .tuple #[.agg #[.int .i64 0, .slice none 0 0, .slice none 0 0], .int .i64 3]) (by simp [results, Tryz.results13, go_sem, d]) rfl (FsRes.no ?_ (.inr ⟨HB.out, by simp, 0, HCO.out 0 3 ⟨rfl, rfl⟩⟩))
        exact (((hX0.setCell hlow _).setCell hlow _).setCell hlow _)
  · have hbn : (budC m b != 0) = true := by simp [hbc]
    have HBN := Lib.hid hbc
    have d := bR1.cell
    have f := bR1.frozen
    clear hbc
    generalize hcc : budC m b = cc at *
    have HCC := Lib.hid hcc
    clear hcc
    go_wp2
    refine bodyPost_ret (v := .tuple #[.agg #[.int .i64 0, .slice none 0 0, .slice none 0 0], .int .i64 cc]) (by simp [results, Tryz.results13, go_sem, d]) rfl (FsRes.no ?_ (.inl ⟨by rw [HCC.out]; exact HBN.out, HCC.out.symm⟩))
    exact (((hX1.setCell hlow _).setCell hlow _).setCell hlow _)
end Go.Proofs.YtacpchapgklcgaaGreatDoor
end
