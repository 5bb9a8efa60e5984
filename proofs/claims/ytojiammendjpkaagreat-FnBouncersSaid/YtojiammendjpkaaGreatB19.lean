/- Contract: whether a formula tape is valid.
Contracts: valid formula tapes and their normal forms.
Contract of the library's Repeat, for any short list. -/
import Derived.Test.YtojiammendjpkaaGreatB18
import Derived.Test.YtojiammendjpkaaGreatB03
import Derived.Test.YtojiammendjpkaaGreatB04
import Derived.Test.YtojiammendjpkaaGreatB15
section
set_option linter.unusedSimpArgs false
set_option linter.unusedVariables false
namespace Go.Proofs.YtojiammendjpkaaGreat
open Go Go.RowKit Go.Proofs
set_option maxHeartbeats 400000
set_option maxRecDepth 20000 in
set_option maxHeartbeats 8000000 in
theorem formulaOf_c (m : MachD) (rv0 v wv rv ov : Value) (f : FoD) (w : World) (h : FoV w v f wv rv ov) (hn : f.rs.length ≤ 1000 ∧ f.ws.length ≤ 1000 ∧ f.os.length ≤ 1000) (hm : machOk m = true) :
    Calls Tryz.prog 123 #[.agg #[.int .i64 m.sy, .int .i64 m.st, rv0], v] w fun e w' => e = .returned (.bool (foOk m f)) ∧ Ext w w' := by
  obtain ⟨⟨y1, y2, t1, t2⟩, _, _⟩ := machOk_five hm
  obtain ⟨V, hV⟩ : ∃ V, V = (w.alloc (.cells #[.int .i64 m.sy, .int .i64 m.st, rv0] 26)).alloc (.cells #[.int .i64 f.q, .int .i64 f.hd, .int .i64 f.at_, wv, rv, ov] 49) := ⟨_, rfl⟩
  have hX : Ext w V := by rw [hV]; exact (Ext.alloc _ _).trans (Ext.alloc _ _)
  obtain ⟨g, hg⟩ : ∃ g, w.heap.size = g := ⟨_, rfl⟩
  have bm : Blk V g 26 #[.int .i64 m.sy, .int .i64 m.st, rv0] := by rw [hV]; exact (Blk.new _ _ _ _ hg).ext (Ext.alloc _ _)
  have bf : Blk V (g + 1) 49 #[.int .i64 f.q, .int .i64 f.hd, .int .i64 f.at_, wv, rv, ov] := by rw [hV]; exact Blk.new _ _ _ _ (by simp [hg])
  obtain ⟨rfl, h1, h2, h3, h4⟩ := h
  have h1 := h1.ext hX
  have h2 := h2.ext hX
  have h3 := h3.ext hX
  obtain ⟨A, cA, rfl, _, _⟩ := h1.form
  obtain ⟨B, cB, rfl, _, _⟩ := h2.form
  obtain ⟨C, cC, rfl, _, _⟩ := h3.form
  have m0 := bm.cell 0
  have m1 := bm.cell 1
  have f0 := bf.cell 0
  have f1 := bf.cell 1
  have f2 := bf.cell 2
  have f3 := bf.cell 3
  have f4 := bf.cell 4
  have f5 := bf.cell 5
  simp only [List.getElem?_toArray, List.getElem?_cons_zero, List.getElem?_cons_succ] at m0 m1 f0 f1 f2 f3 f4 f5
  have hw1 : IntKind.i64.wrap (m.st - 1) = m.st - 1 := IntWalk.i64_in _ (by omega)
  have hw2 : IntKind.i64.wrap (m.sy - 1) = m.sy - 1 := IntWalk.i64_in _ (by omega)
  have hw3 : IntKind.i64.wrap ((f.rs.length : Int) + 1) = (f.rs.length : Int) + 1 := IntWalk.i64_in _ (by omega)
  obtain ⟨b1, hb1⟩ : ∃ b, inB f.q 0 (m.st - 1) = b := ⟨_, rfl⟩
  obtain ⟨b2, hb2⟩ : ∃ b, inB (f.rs.length : Int) 1 3 = b := ⟨_, rfl⟩
  have HF : Hid (foOk m f = (b1 && b2 && decide (f.ws.length = f.rs.length + 1) && decide (f.os.length = f.rs.length) && f.ws.all (fun w => wordIn m w 100) && f.rs.all (repIn m) && f.os.all (fun z => inB z (-1000) 1000) && inB f.hd 0 (f.rs.length : Int) && atOk f)) := Lib.hid (by rw [← hb1, ← hb2]; rfl)
  have W1 := fun w' => within_c f.q 0 (m.st - 1) w'
  have W2 := fun w' => within_c (f.rs.length : Int) 1 3 w'
  rw [hb1] at W1
  rw [hb2] at W2
  have HB2 := Lib.hid hb2
  have HX := Lib.hid hX
  have H1 := Lib.hid h1
  have H2 := Lib.hid h2
  have H3 := Lib.hid h3
  clear hb1 hb2 bm bf hX h1 h2 h3
  go_enter Tryz.func123, Tryz.ntmps123
  go_wp2_with fail
  try rw [← hV]
  try rw [hg]
  clear hV hg
  refine (sizeLL_c _ _ _ _).mono ?_
  rintro e w2 ⟨rfl, rfl⟩
  go_wp2_with fail
  refine (W1 V).mono ?_
  rintro e w2 ⟨rfl, rfl⟩
  cases b1 with
  | false =>
    go_wp2
    go_ret
    exact ⟨by rw [HF.out]; rfl, HX.out⟩
  | true =>
    go_wp2_with fail
    refine (W2 V).mono ?_
    rintro e w2 ⟨rfl, rfl⟩
    cases b2 with
    | false =>
      go_wp2
      go_ret
      exact ⟨by rw [HF.out]; rfl, HX.out⟩
    | true =>
      go_wp2_with fail
      refine (sizeLL_c _ _ _ _).mono ?_
      rintro e w2 ⟨rfl, rfl⟩
      by_cases e3 : f.ws.length = f.rs.length + 1
      · have hne3 : ((f.ws.length : Int) != (f.rs.length : Int) + 1) = false := by simp; omega
        have HF3 : Hid (foOk m f = (decide (f.os.length = f.rs.length) && f.ws.all (fun w => wordIn m w 100) && f.rs.all (repIn m) && f.os.all (fun z => inB z (-1000) 1000) && inB f.hd 0 (f.rs.length : Int) && atOk f)) := Lib.hid (by rw [HF.out, decide_eq_true e3]; simp)
        have HE3 := Lib.hid e3
        clear e3 HF
        go_wp2_with fail
        refine (sizeIN_c _ _ _ _).mono ?_
        rintro e w2 ⟨rfl, rfl⟩
        by_cases e4 : f.os.length = f.rs.length
        · have hne4 : ((f.os.length : Int) != (f.rs.length : Int)) = false := by simp; omega
          have HF4 : Hid (foOk m f = (f.ws.all (fun w => wordIn m w 100) && f.rs.all (repIn m) && f.os.all (fun z => inB z (-1000) 1000) && inB f.hd 0 (f.rs.length : Int) && atOk f)) := Lib.hid (by rw [HF3.out, decide_eq_true e4]; simp)
          have HE4 := Lib.hid e4
          clear e4 HF3
          go_wp2_with fail
          go_loopw [44] (fun u wr => ∃ k : Nat, k ≤ f.ws.length ∧ u = .int .i64 (k : Int) ∧ V = wr ∧ Hid (∀ x ∈ f.ws.take k, (fun w => wordIn m w 100) x = true)) (fun u _ => f.ws.length - (intOf u).toNat)
          case atStart => exact ⟨0, Nat.zero_le _, rfl, rfl, Lib.hid (fun x hx => by simp at hx)⟩
          case round =>
            obtain ⟨k, hk, rfl, rfl, HK⟩ := hrel
            by_cases hlt : k < f.ws.length
            · have hdl : decide ((k : Int) < (f.ws.length : Int)) = true := decide_eq_true (by omega)
              obtain ⟨b, off, u, hA, c0, hu, hfl⟩ := Lists.at H1.out hlt
              subst hA
              obtain ⟨x, hx⟩ : ∃ x, f.ws[k] = x := ⟨_, rfl⟩
              rw [hx] at hu
              have HXM : Hid (x ∈ f.ws) := Lib.hid (by rw [← hx]; exact List.getElem_mem hlt)
              have HNX : Hid ((fun w => wordIn m w 100) x = true → ∀ z ∈ f.ws.take (k + 1), (fun w => wordIn m w 100) z = true) := Lib.hid (fun hp z hz => by
                rw [List.take_succ_eq_append_getElem hlt, hx] at hz
                rcases List.mem_append.1 hz with hz | hz
                · exact HK.out z hz
                · rw [List.mem_singleton.1 hz]; exact hp)
              have HNO : Hid ((fun w => wordIn m w 100) x = false → foOk m f = false) := Lib.hid (fun hp => by
                have : f.ws.all ((fun w => wordIn m w 100)) = false := by
                  rw [List.all_eq_false]
                  exact ⟨x, HXM.out, by intro hq; have hq : (fun w => wordIn m w 100) x = true := hq; rw [hp] at hq; cases hq⟩
                rw [HF4.out, this]
                simp)
              obtain ⟨Ax, cX, rfl, _, _⟩ := hu.form
              obtain ⟨ba, hba⟩ : ∃ b, (x.all fun z => inB z 0 (m.sy - 1)) = b := ⟨_, rfl⟩
              have AW := allWithin_c (.slice Ax x.length cX) x 0 (m.sy - 1) V hu
              rw [hba] at AW
              have HBA := Lib.hid hba
              clear hba hx hu hfl HK
              by_cases hl : x.length ≤ 100
              · have HP : Hid ((fun w => wordIn m w 100) x = ba) := Lib.hid (by simp only [wordIn]; rw [decide_eq_true hl, HBA.out]; rfl)
                have hgt : ¬ 100 < x.length := by omega
                cases ba with
                | false =>
                  have HR := Lib.hid (HNO.out HP.out)
                  go_wp2_with fail
                  refine AW.mono ?_
                  rintro e w2 ⟨rfl, rfl⟩
                  go_wp2
                  go_ret
                  exact ⟨by rw [HR.out]; rfl, HX.out⟩
                | true =>
                  have HR := Lib.hid (HNX.out HP.out)
                  go_wp2_with fail
                  refine AW.mono ?_
                  rintro e w2 ⟨rfl, rfl⟩
                  go_wp2
                  go_roundw
                  case rel => exact ⟨k + 1, by omega, by go_num, by first | rfl | trivial, HR⟩
                  case measure => simp [intOf]; omega
              · have HP : Hid ((fun w => wordIn m w 100) x = false) := Lib.hid (by simp only [wordIn]; rw [decide_eq_false hl]; rfl)
                have HR := Lib.hid (HNO.out HP.out)
                have hgt : 100 < x.length := by omega
                go_wp2
                go_ret
                exact ⟨by rw [HR.out]; rfl, HX.out⟩
            · have hdl : decide ((k : Int) < (f.ws.length : Int)) = false := decide_eq_false (by omega)
              have HALLW : Hid (f.ws.all ((fun w => wordIn m w 100)) = true) := Lib.hid (by
                rw [List.all_eq_true]
                intro x hx
                exact HK.out x (by rw [List.take_of_length_le (by omega)]; exact hx))
              clear HK
              go_wp2_with fail
              have HF5 : Hid (foOk m f = (f.rs.all (repIn m) && f.os.all (fun z => inB z (-1000) 1000) && inB f.hd 0 (f.rs.length : Int) && atOk f)) := Lib.hid (by rw [HF4.out, HALLW.out]; simp)
              clear HALLW hk hlt hdl HF4
              go_loopw [63] (fun u wr => ∃ k : Nat, k ≤ f.rs.length ∧ u = .int .i64 (k : Int) ∧ V = wr ∧ Hid (∀ x ∈ f.rs.take k, (repIn m) x = true)) (fun u _ => f.rs.length - (intOf u).toNat)
              case atStart => exact ⟨0, Nat.zero_le _, rfl, rfl, Lib.hid (fun x hx => by simp at hx)⟩
              case round =>
                obtain ⟨k, hk, rfl, rfl, HK⟩ := hrel
                by_cases hlt : k < f.rs.length
                · have hdl : decide ((k : Int) < (f.rs.length : Int)) = true := decide_eq_true (by omega)
                  obtain ⟨b, off, u, hA, c0, hu, hfl⟩ := Lists.at H2.out hlt
                  subst hA
                  obtain ⟨x, hx⟩ : ∃ x, f.rs[k] = x := ⟨_, rfl⟩
                  rw [hx] at hu
                  have HXM : Hid (x ∈ f.rs) := Lib.hid (by rw [← hx]; exact List.getElem_mem hlt)
                  have HNX : Hid ((repIn m) x = true → ∀ z ∈ f.rs.take (k + 1), (repIn m) z = true) := Lib.hid (fun hp z hz => by
                    rw [List.take_succ_eq_append_getElem hlt, hx] at hz
                    rcases List.mem_append.1 hz with hz | hz
                    · exact HK.out z hz
                    · rw [List.mem_singleton.1 hz]; exact hp)
                  have HNO : Hid ((repIn m) x = false → foOk m f = false) := Lib.hid (fun hp => by
                    have : f.rs.all ((repIn m)) = false := by
                      rw [List.all_eq_false]
                      exact ⟨x, HXM.out, by intro hq; have hq : (repIn m) x = true := hq; rw [hp] at hq; cases hq⟩
                    rw [HF5.out, this]
                    simp)
                  obtain ⟨Ax, cX, rfl, _, _⟩ := hu.form
                  obtain ⟨ba, hba⟩ : ∃ b, (x.all fun z => inB z 0 (m.sy - 1)) = b := ⟨_, rfl⟩
                  have AW := allWithin_c (.slice Ax x.length cX) x 0 (m.sy - 1) V hu
                  rw [hba] at AW
                  have HBA := Lib.hid hba
                  clear hba hx hu hfl HK
                  have WX := fun w' => within_c (x.length : Int) 1 20 w'
                  have HP : Hid ((repIn m) x = (inB (x.length : Int) 1 20 && ba)) := Lib.hid (by
                    rw [← HBA.out]
                    simp only [repIn, wordIn, inB]
                    by_cases p1 : 1 ≤ x.length <;> by_cases p2 : x.length ≤ 20
                    · rw [decide_eq_true p1, decide_eq_true p2, decide_eq_true (show (1 : Int) ≤ (x.length : Int) by omega), decide_eq_true (show (x.length : Int) ≤ 20 by omega)]; rfl
                    · rw [decide_eq_true p1, decide_eq_false p2, decide_eq_true (show (1 : Int) ≤ (x.length : Int) by omega), decide_eq_false (show ¬ (x.length : Int) ≤ 20 by omega)]; rfl
                    · rw [decide_eq_false p1, decide_eq_false (show ¬ (1 : Int) ≤ (x.length : Int) by omega)]; rfl
                    · rw [decide_eq_false p1, decide_eq_false (show ¬ (1 : Int) ≤ (x.length : Int) by omega)]; rfl)
                  obtain ⟨bl, hbl⟩ : ∃ b, inB (x.length : Int) 1 20 = b := ⟨_, rfl⟩
                  rw [hbl] at WX HP
                  clear hbl
                  go_wp2_with fail
                  refine (sizeIN_c _ _ _ _).mono ?_
                  rintro e w2 ⟨rfl, rfl⟩
                  go_wp2_with fail
                  refine (WX V).mono ?_
                  rintro e w2 ⟨rfl, rfl⟩
                  cases bl with
                  | false =>
                    have HR := Lib.hid (HNO.out (by rw [HP.out]; rfl))
                    go_wp2
                    go_ret
                    exact ⟨by rw [HR.out]; rfl, HX.out⟩
                  | true =>
                    cases ba with
                    | false =>
                      have HR := Lib.hid (HNO.out (by rw [HP.out]; rfl))
                      go_wp2_with fail
                      refine AW.mono ?_
                      rintro e w2 ⟨rfl, rfl⟩
                      go_wp2
                      go_ret
                      exact ⟨by rw [HR.out]; rfl, HX.out⟩
                    | true =>
                      have HR := Lib.hid (HNX.out (by rw [HP.out]; rfl))
                      go_wp2_with fail
                      refine AW.mono ?_
                      rintro e w2 ⟨rfl, rfl⟩
                      go_wp2
                      go_roundw
                      case rel => exact ⟨k + 1, by omega, by go_num, by first | rfl | trivial, HR⟩
                      case measure => simp [intOf]; omega
                · have hdl : decide ((k : Int) < (f.rs.length : Int)) = false := decide_eq_false (by omega)
                  have HALLR : Hid (f.rs.all ((repIn m)) = true) := Lib.hid (by
                    rw [List.all_eq_true]
                    intro x hx
                    exact HK.out x (by rw [List.take_of_length_le (by omega)]; exact hx))
                  clear HK
                  go_wp2_with fail
                  obtain ⟨b7, hb7⟩ : ∃ b, (f.os.all fun z => inB z (-1000) 1000) = b := ⟨_, rfl⟩
                  obtain ⟨b8, hb8⟩ : ∃ b, inB f.hd 0 (f.rs.length : Int) = b := ⟨_, rfl⟩
                  have HF6 : Hid (foOk m f = (b7 && b8 && atOk f)) := Lib.hid (by rw [HF5.out, HALLR.out, hb7, hb8]; simp)
                  have AWO := allWithin_c (.slice C f.os.length cC) f.os (-1000) 1000 V H3.out
                  rw [hb7] at AWO
                  have WH := fun w' => within_c f.hd 0 (f.rs.length : Int) w'
                  rw [hb8] at WH
                  have HB8 := Lib.hid hb8
                  clear HALLR hk hlt hdl HF5 hb7 hb8
                  refine AWO.mono ?_
                  rintro e w2 ⟨rfl, rfl⟩
                  cases b7 with
                  | false =>
                    go_wp2
                    go_ret
                    exact ⟨by rw [HF6.out]; rfl, HX.out⟩
                  | true =>
                    go_wp2_with fail
                    refine (WH V).mono ?_
                    rintro e w2 ⟨rfl, rfl⟩
                    cases b8 with
                    | false =>
                      go_wp2
                      go_ret
                      exact ⟨by rw [HF6.out]; rfl, HX.out⟩
                    | true =>
                      have hh := inB_iff.1 HB8.out
                      obtain ⟨kh, hkh⟩ := Int.eq_ofNat_of_zero_le hh.1
                      have hkh : f.hd = (kh : Int) := hkh
                      have hkl : kh < f.ws.length := by have := HE3.out; omega
                      obtain ⟨b, off, u, hA, c0, hu, hfl⟩ := Lists.at H1.out hkl
                      subst hA
                      obtain ⟨x, hx⟩ : ∃ x, f.ws[kh] = x := ⟨_, rfl⟩
                      rw [hx] at hu
                      obtain ⟨Ax, cX, rfl, hcx1, hcx2⟩ := hu.form
                      have hgd : f.ws.getD f.hd.toNat [] = x := by rw [hkh, Int.toNat_natCast, getD_get hkl, hx]
                      have HAT : Hid (foOk m f = (inB f.at_ 0 ((x.length : Int) - 1) || (decide (f.at_ = (x.length : Int)) && decide (f.hd < (f.rs.length : Int))) || (decide (f.at_ = -1) && decide (0 < f.hd)))) := Lib.hid (by rw [HF6.out]; unfold atOk; rw [hgd]; simp)
                      have hwx : IntKind.i64.wrap ((x.length : Int) - 1) = (x.length : Int) - 1 := IntWalk.i64_in _ (by omega)
                      obtain ⟨b9, hb9⟩ : ∃ b, inB f.at_ 0 ((x.length : Int) - 1) = b := ⟨_, rfl⟩
                      have WA := fun w' => within_c f.at_ 0 ((x.length : Int) - 1) w'
                      rw [hb9] at WA HAT
                      have HKH := Lib.hid hkh
                      rw [hkh] at f1
                      clear hb9 hu hx hgd hh HB8 hfl hkh
                      generalize hxl : x.length = nx at *
                      clear hxl
                      go_wp2_with fail
                      refine (sizeIN_c _ _ _ _).mono ?_
                      rintro e w2 ⟨rfl, rfl⟩
                      go_wp2_with fail
                      refine (WA V).mono ?_
                      rintro e w2 ⟨rfl, rfl⟩
                      cases b9 with
                      | true =>
                        go_wp2
                        go_ret
                        exact ⟨by rw [HAT.out]; rfl, HX.out⟩
                      | false =>
                        have HKR : Hid (∀ r, foOk m f = r ↔ ((decide (f.at_ = (nx : Int)) && decide ((kh : Int) < (f.rs.length : Int))) || (decide (f.at_ = -1) && decide ((0 : Int) < (kh : Int)))) = r) := Lib.hid (fun r => by rw [HAT.out, HKH.out]; simp)
                        clear HAT WA
                        by_cases e1 : f.at_ = (nx : Int)
                        · have d1 : (f.at_ == (nx : Int)) = true := by simp [e1]
                          by_cases e2 : kh < f.rs.length
                          · have d2 : decide ((kh : Int) < (f.rs.length : Int)) = true := decide_eq_true (by omega)
                            have HR : Hid (foOk m f = true) := Lib.hid ((HKR.out _).2 (by rw [decide_eq_true e1, d2]; rfl))
                            clear HKR e1
                            go_wp2
                            go_ret
                            exact ⟨by rw [HR.out]; first | rfl | simp [e2] | (simp; omega), HX.out⟩
                          · have d2 : decide ((kh : Int) < (f.rs.length : Int)) = false := decide_eq_false (by omega)
                            have d3 : (f.at_ == -1) = false := beq_eq_false_iff_ne.2 (by omega)
                            have HR : Hid (foOk m f = false) := Lib.hid ((HKR.out _).2 (by rw [decide_eq_true e1, d2, decide_eq_false (show ¬ f.at_ = -1 by omega)]; rfl))
                            clear HKR e1
                            go_wp2
                            go_ret
                            exact ⟨by rw [HR.out]; first | rfl | simp [d3] | (simp; omega), HX.out⟩
                        · have d1 : (f.at_ == (nx : Int)) = false := beq_eq_false_iff_ne.2 e1
                          by_cases e3 : f.at_ = -1
                          · have d3 : (f.at_ == -1) = true := by simp [e3]
                            by_cases e4 : 0 < kh
                            · have d4 : decide ((0 : Int) < (kh : Int)) = true := decide_eq_true (by omega)
                              have HR : Hid (foOk m f = true) := Lib.hid ((HKR.out _).2 (by rw [decide_eq_false e1, decide_eq_true e3, d4]; rfl))
                              clear HKR e1 e3
                              go_wp2
                              go_ret
                              exact ⟨by rw [HR.out]; first | rfl | simp [e4] | (simp; omega), HX.out⟩
                            · have d4 : decide ((0 : Int) < (kh : Int)) = false := decide_eq_false (by omega)
                              have HR : Hid (foOk m f = false) := Lib.hid ((HKR.out _).2 (by rw [decide_eq_false e1, decide_eq_true e3, d4]; rfl))
                              clear HKR e1 e3
                              go_wp2
                              go_ret
                              exact ⟨by rw [HR.out]; first | rfl | simp [e4] | (simp; omega), HX.out⟩
                          · have d3 : (f.at_ == -1) = false := beq_eq_false_iff_ne.2 e3
                            have HR : Hid (foOk m f = false) := Lib.hid ((HKR.out _).2 (by rw [decide_eq_false e1, decide_eq_false e3]; rfl))
                            clear HKR e1 e3
                            go_wp2
                            go_ret
                            exact ⟨by rw [HR.out]; first | rfl | simp [d3] | (simp; omega), HX.out⟩
        · have hne4 : ((f.os.length : Int) != (f.rs.length : Int)) = true := by simp; omega
          have HF4 : Hid (foOk m f = false) := Lib.hid (by rw [HF3.out, decide_eq_false e4]; simp)
          clear e4
          go_wp2
          go_ret
          exact ⟨by rw [HF4.out]; rfl, HX.out⟩
      · have hne3 : ((f.ws.length : Int) != (f.rs.length : Int) + 1) = true := by simp; omega
        have HF3 : Hid (foOk m f = false) := Lib.hid (by rw [HF.out, decide_eq_false e3]; simp)
        clear e3
        go_wp2
        go_ret
        exact ⟨by rw [HF3.out]; rfl, HX.out⟩
end Go.Proofs.YtojiammendjpkaaGreat
end
section
set_option linter.unusedSimpArgs false
set_option linter.unusedVariables false
namespace Go.Proofs.YtojiammendjpkaaGreat
open Go Go.RowKit Go.Proofs
set_option maxHeartbeats 400000
theorem ValidFormula_c (m : MachD) (mv v wv rv ov : Value) (f : FoD) (w : World) (hM : Mach w mv m) (h : FoV w v f wv rv ov) (hn : f.rs.length ≤ 1000 ∧ f.ws.length ≤ 1000 ∧ f.os.length ≤ 1000) (hm : machOk m = true) :
    Calls Tryz.prog 69 #[mv, v] w fun e w' => e = .returned (.bool (foOk m f)) ∧ Ext w w' := by
  obtain ⟨rv0, rfl, hR⟩ := id hM
  obtain ⟨V, hV⟩ : ∃ V, V = (w.alloc (.cells #[.int .i64 m.sy, .int .i64 m.st, rv0] 26)).alloc (.cells #[.int .i64 f.q, .int .i64 f.hd, .int .i64 f.at_, wv, rv, ov] 49) := ⟨_, rfl⟩
  have hX : Ext w V := by rw [hV]; exact (Ext.alloc _ _).trans (Ext.alloc _ _)
  obtain ⟨g, hg⟩ : ∃ g, w.heap.size = g := ⟨_, rfl⟩
  have bm : Blk V g 26 #[.int .i64 m.sy, .int .i64 m.st, rv0] := by rw [hV]; exact (Blk.new _ _ _ _ hg).ext (Ext.alloc _ _)
  have bf : Blk V (g + 1) 49 #[.int .i64 f.q, .int .i64 f.hd, .int .i64 f.at_, wv, rv, ov] := by rw [hV]; exact Blk.new _ _ _ _ (by simp [hg])
  have VM := ValidMachine_c (.agg #[.int .i64 m.sy, .int .i64 m.st, rv0]) m V ⟨_, rfl, hR.ext hX⟩
  rw [hm] at VM
  have hV' := h.ext hX
  obtain ⟨rfl, _, _, _, _⟩ := h
  go_enter Tryz.func69, Tryz.ntmps69
  go_wp2_with fail
  try rw [← hV]
  try rw [hg]
  clear hV hg
  have m0 := bm.cell 0
  have m1 := bm.cell 1
  have m2 := bm.cell 2
  simp only [List.getElem?_toArray, List.getElem?_cons_zero, List.getElem?_cons_succ] at m0 m1 m2
  go_wp2_with fail
  refine VM.mono ?_
  rintro e w1 ⟨rfl, hx1⟩
  have bm1 := bm.ext hx1
  have bf1 := bf.ext hx1
  have FO := formulaOf_c m rv0 _ wv rv ov f w1 (hV'.ext hx1) hn hm
  have n0 := bm1.cell 0
  have n1 := bm1.cell 1
  have n2 := bm1.cell 2
  have f0 := bf1.cell 0
  have f1 := bf1.cell 1
  have f2 := bf1.cell 2
  have f3 := bf1.cell 3
  have f4 := bf1.cell 4
  have f5 := bf1.cell 5
  simp only [List.getElem?_toArray, List.getElem?_cons_zero, List.getElem?_cons_succ] at n0 n1 n2 f0 f1 f2 f3 f4 f5
  obtain ⟨bo, hbo⟩ : ∃ bo, foOk m f = bo := ⟨_, rfl⟩
  rw [hbo] at FO
  have HBO := Lib.hid hbo
  clear hbo
  have hxx := hX.trans hx1
  clear VM m0 m1 m2 bm bf bm1 bf1 hX hx1
  go_wp2_with fail
  refine FO.mono ?_
  rintro e w2 ⟨rfl, hx2⟩
  go_wp2
  go_ret
  exact ⟨by rw [HBO.out]; cases bo <;> rfl, hxx.trans hx2⟩
/-- A store into an older block. -/
theorem FoAt.other {base : Nat} {w : World} {g : Nat} {f : FoD} {gw gr go cw cr co : Nat} {vw vr : List Value} (h : FoAt base w g f gw gr go cw cr co vw vr) {q : Nat} {cs : Array Value} (hb : Blk w q 49 cs) (hne : g ≠ q) (i : Nat) (x : Value) : FoAt base (w.setCell ⟨q, i, none⟩ x) g f gw gr go cw cr co vw vr := by
  have ne : ∀ {e : TypeId} {k n c m : Nat} {xs : List Value}, w.ownsRow base e 1 (.slice (some ⟨k, 0, none⟩) n c) m xs → 49 ≠ e → (w.setCell ⟨q, i, none⟩ x).ownsRow base e 1 (.slice (some ⟨k, 0, none⟩) n c) m xs := fun {e k n c m xs} o hne => by
    obtain ⟨⟨cs', hb'⟩, _⟩ := own_blk o
    refine ownsRow_far o (fun j hj => ?_) _
    have e2 : k = j := by simpa [Value.ownBlock] using hj
    subst e2
    exact (blk_ne hb hb' hne).symm
  exact ⟨h.blk.far (p := ⟨q, i, none⟩) hne x, ne h.ow (by decide), ne h.or (by decide), ne h.oo (by decide), fun j hj => by obtain ⟨u, a, b⟩ := h.iw j hj; exact ⟨u, a, b.set hb (by decide) i _⟩, fun j hj => by obtain ⟨u, a, b⟩ := h.ir j hj; exact ⟨u, a, b.set hb (by decide) i _⟩, h.ne, h.bg⟩
end Go.Proofs.YtojiammendjpkaaGreat
end
section
set_option linter.unusedSimpArgs false
set_option linter.unusedVariables false
namespace Go.Proofs.YtojiammendjpkaaGreat
open Go Go.RowKit Go.Proofs
set_option maxHeartbeats 400000
theorem repL_get (r : List Int) : ∀ (c i : Nat), i < c * r.length → (repL r c)[i]? = r[i % r.length]?
  | 0, i, h => by simp at h
  | c + 1, i, h => by
    rw [repL_succ]
    by_cases hi : i < r.length
    · rw [List.getElem?_append_left hi, Nat.mod_eq_of_lt hi]
    · rw [List.getElem?_append_right (by omega), repL_get r c (i - r.length) (by rw [Nat.succ_mul] at h; omega)]
      congr 1
      conv => rhs; rw [show i = i - r.length + r.length by omega, Nat.add_mod_right]
theorem ivs_opt (xs : List Int) (i : Nat) : (ivs xs)[i]? = xs[i]?.map (Value.int .i64) := by simp [ivs]
/-- The cells go on as they began. -/
theorem repL_on (r : List Int) (c j m : Nat) (hj : r.length ∣ j) (hm : j + m ≤ c * r.length) : (ivs (repL r c)).take (j + m) = (ivs (repL r c)).take j ++ (ivs (repL r c)).take m := by
  have hl : (ivs (repL r c)).length = c * r.length := by rw [ivs_length, repL_length]
  apply List.ext_getElem?
  intro i
  by_cases h1 : i < j
  · rw [List.getElem?_take, if_pos (by omega), List.getElem?_append_left (by rw [List.length_take]; omega), List.getElem?_take, if_pos h1]
  · rw [List.getElem?_append_right (by rw [List.length_take]; omega), List.length_take, hl, Nat.min_eq_left (by omega)]
    by_cases h2 : i < j + m
    · rw [List.getElem?_take, if_pos h2, List.getElem?_take, if_pos (by omega), ivs_opt, ivs_opt, repL_get r c i (by omega), repL_get r c (i - j) (by omega)]
      congr 2
      obtain ⟨k, rfl⟩ := hj
      conv => lhs; rw [show i = i - r.length * k + r.length * k by omega, Nat.add_mul_mod_self_left]
    · rw [List.getElem?_take, if_neg h2, List.getElem?_take, if_neg (by omega)]
def RepG (w : World) (g : Nat) (r : List Int) (c : Nat) (j : Nat) (wr : World) : Prop := Ext w wr ∧ ∃ cur : List Value, wr.heap[g]? = some (.cells cur.toArray 2 (0, 0)) ∧ cur.length = c * r.length ∧ cur.take j = (ivs (repL r c)).take j
theorem splice_on {cur T N : List Value} {j : Nat} (h : cur.take j = T.take j) (hj : j ≤ cur.length) (hT : T.take (j + N.length) = T.take j ++ N) : (splice cur j N).take (j + N.length) = T.take (j + N.length) := by
  unfold splice
  rw [h, hT, ← List.append_assoc]
  have hl : (T.take j).length = j := by rw [← h, List.length_take]; omega
  rw [List.take_append_of_le_length (by rw [List.length_append, hl]; omega), List.take_of_length_le (by rw [List.length_append, hl]; omega)]
set_option maxRecDepth 100000 in
set_option maxHeartbeats 4000000 in
theorem RepeatG_c (b off c0 c : Nat) (r : List Int) (w : World) (hr : Ints w (.slice (some ⟨b, off, none⟩) r.length c0) r) (hn : 1 ≤ r.length) (h1 : 1 ≤ c) (h2 : c * r.length ≤ 100000) :
    Calls Tryz.prog 95 #[.slice (some ⟨b, off, none⟩) r.length c0, .int .i64 c] w fun e w' => ∃ u, e = .returned u ∧ OwnInts w.heap.size w' u (repL r c) ∧ Ext w w' := by
  obtain ⟨i0, hi, hz0, hz1, hz2⟩ := info_parts intInfo
  obtain ⟨n, hnn⟩ : ∃ n, r.length = n := ⟨_, rfl⟩
  obtain ⟨L, hL⟩ : ∃ L, c * r.length = L := ⟨_, rfl⟩
  have HN0 := Lib.hid hnn
  have HL := Lib.hid hL
  have hnL : n ≤ L := by rw [← hL, hnn]; exact Nat.le_mul_of_pos_left n h1
  have hcL : c ≤ L := by rw [← hL]; exact Nat.le_mul_of_pos_right c hn
  have hnc : n * c = L := by rw [← hL, hnn, Nat.mul_comm]
  have hf := hr.form
  obtain ⟨Aq, cq, hAq, hq1, hq2⟩ := hf
  injection hAq with e1 e2 e3
  subst e1 e3
  rw [hnn] at hn hr hq1 ⊢
  have hLb : L ≤ 100000 := by rw [← hL]; exact h2
  have HR : Hid (∀ k u, (ivs r)[k]? = some u → w.cell? ((⟨b, off, none⟩ : Addr).add k) = some u) := Lib.hid (fun k u hk => by
    have hk' : k < r.length := by simpa using (List.getElem?_eq_some_iff.1 hk).1
    obtain ⟨b', off', e, hc⟩ := (show Ints w (.slice (some ⟨b, off, none⟩) r.length c0) r by rw [hnn]; exact hr).at hk'
    injection e with e
    injection e with e1 e2
    subst e1 e2
    rw [ivs_get r k hk'] at hk
    have : (⟨b, off, none⟩ : Addr).add k = ⟨b, off + k, none⟩ := by unfold Addr.add; split <;> simp_all
    rw [this, ← hk]
    exact hc k hk')
  have hbw : b < w.heap.size := by
    have := HR.out 0 (.int .i64 r[0]) (ivs_get r 0 (by omega))
    have e : (⟨b, off, none⟩ : Addr).add 0 = ⟨b, off + 0, none⟩ := by unfold Addr.add; split <;> simp_all
    rw [e] at this
    exact World.block_lt_of_cell? w _ this
  have hd0 : decide ((c : Int) < 0) = false := decide_eq_false (by omega)
  clear hL hr h2 hnn
  go_enter Tryz.func95, Tryz.ntmps95
  go_wp2_with fail
  refine (Tryz.bits_Mul n c (by omega) (by omega) _).mono ?_
  rintro e w' ⟨rfl, rfl⟩
  rw [hnc, show L / 18446744073709551616 = 0 by omega, show L % 18446744073709551616 = L by omega]
  go_wp2_with (at_make; refine wpList_make_full _ rfl _ _ 27 rfl w'.heap.size 2 i0 _ 1 Tryz.underlying27 hi hz0 hz1 .i64 .i64 _ _ L rfl rfl ?d1 ?d2 ?c1 ?c2 ?c3 ?_)
  case d1 => rfl
  case d2 => rfl
  case c1 => rw [hz2]; omega
  case c2 => unfold maxLen; omega
  case c3 => exact Nat.le_refl _
  intro w1 hown hgr
  have hx1 : Ext w' w1 := (Ext.refl _).grown hgr (by simp)
  obtain ⟨cur, hg, hcl⟩ : ∃ cur : List Value, w1.heap[w'.heap.size]? = some (.cells cur.toArray 2 (0, 0)) ∧ cur.length = L := by
    rcases hown.2 with ⟨h', _⟩ | ⟨g', cap, cu, h', _, hg, _, _, hcs, _⟩
    · simp at h'
    · injection h' with e1 e2 e3
      injection e1 with e1
      injection e1 with e1 e4 e5
      subst e1 e3
      exact ⟨cu.toList, by simpa using hg, by simpa using hcs⟩
  have hgb : b < w'.heap.size := hbw
  clear hown hgr hi hz0 hz1 hz2 hbw
  generalize hG : w'.heap.size = g at *
  have HG := Lib.hid hG
  have HCL := Lib.hid hcl
  clear hG hcl
  have HIL : Hid ((ivs r).length = n) := Lib.hid (by rw [ivs_length]; exact HN0.out)
  obtain ⟨N0, hN0⟩ : ∃ N0, ivs r = N0 := ⟨_, rfl⟩
  rw [hN0] at HIL HR
  have HNE := Lib.hid hN0
  clear hN0
  go_wp2_with (with_reducible refine wpList_copy_splice rfl _ _ 27 27 rfl 2 Tryz.underlying27 intSize' (some ⟨g, 0, none⟩) (some ⟨b, off, none⟩) L L n c0 rfl rfl g 0 cur 2 hg N0 ?k1 ?k2 ?k3 ?k4 g w' ?k5 ?k6 ?_)
  case k1 => rw [HIL.out]; exact (Nat.min_eq_left hnL).symm
  case k2 =>
    intro _ k u hk
    have h := hx1.cell (HR.out k u hk)
    have e : (⟨b, off, none⟩ : Addr).add k = ⟨b, off + k, none⟩ := by unfold Addr.add; split <;> simp_all
    rw [e] at h
    exact h
  case k3 => have := HCL.out; have := HIL.out; omega
  case k4 =>
    intro u hu
    rw [← HNE.out] at hu
    simp only [ivs, List.mem_map] at hu
    obtain ⟨z, _, rfl⟩ := hu
    rfl
  case k5 => rw [← HG.out]; exact hx1
  case k6 => exact Nat.le_refl _
  intro w2 hg2 hbl2
  have hLeq := HL.out
  have hS : RepG w' g r c n w2 := by
    refine ⟨by unfold Ext; rw [HG.out]; exact hbl2, _, hg2.out, ?_, ?_⟩
    · rw [length_splice _ _ _ (by have := HCL.out; have := HIL.out; omega), HCL.out, hLeq]
    · have hIL := HIL.out
      have hT : (ivs (repL r c)).take n = N0 := by
        have hone := repL_succ r (c - 1)
        rw [show c - 1 + 1 = c by omega] at hone
        rw [hone, ← HNE.out]
        unfold ivs
        rw [List.map_append, List.take_append_of_le_length (by rw [List.length_map, HN0.out]; exact Nat.le_refl _), List.take_of_length_le (by rw [List.length_map, HN0.out]; exact Nat.le_refl _)]
      rw [hT]
      unfold splice
      rw [List.take_zero, List.nil_append, List.take_append_of_le_length (by omega), List.take_of_length_le (by omega)]
  have hIL := HIL.out
  clear hg hg2 hbl2 hx1 hLeq
  try rw [hIL]
  clear hIL
  go_wp2
  go_loopw [8] (fun i wr => ∃ j : Nat, n ≤ j ∧ j ≤ L ∧ i = .int .i64 j ∧ Hid (n ∣ j) ∧ RepG w' g r c j wr) (fun i _ => L - (intOf i).toNat)
  case atStart => exact ⟨n, Nat.le_refl _, hnL, rfl, Lib.hid (Nat.dvd_refl n), hS⟩
  case round =>
    clear hS
    obtain ⟨j, hj1, hj, rfl, HDV, hS⟩ := hrel
    by_cases hlt : j < L
    · obtain ⟨hx, cu, hgu, hcu, htk⟩ := hS
      have hcu : cu.length = L := by rw [hcu]; exact HL.out
      have HCU := Lib.hid hcu
      have HTK := Lib.hid htk
      obtain ⟨mm, hmm⟩ : ∃ mm, min j (L - j) = mm := ⟨_, rfl⟩
      have hm1 : 1 ≤ mm := by omega
      have hm2 : j + mm ≤ L := by omega
      have hm3 : mm ≤ j := by omega
      have HTL : Hid ((ivs (repL r c)).length = L) := Lib.hid (by rw [ivs_length, repL_length]; exact HL.out)
      obtain ⟨N, hN⟩ : ∃ N, (ivs (repL r c)).take mm = N := ⟨_, rfl⟩
      have hNl : N.length = mm := by rw [← hN, List.length_take, HTL.out]; omega
      have hcs : N.length = Nat.min j (L - j) := by rw [hNl, ← hmm]
      have hn0 : ¬ L = j := by omega
      have hj0 : (0 : Int) ≤ (j : Int) := by omega
      have hj2 : (j : Int) ≤ (L : Int) := by omega
      have hfit : j + N.length ≤ cu.length := by rw [hNl]; have := HCU.out; omega
      have h1c : ∀ u ∈ N, u.oneCell' = true := fun u hu => by
        rw [← hN] at hu
        have := List.mem_of_mem_take hu
        simp only [ivs, List.mem_map] at this
        obtain ⟨z, _, rfl⟩ := this
        rfl
      have hcells : ∀ k u, N[k]? = some u → wr.cell? ((⟨g, 0, none⟩ : Addr).add k) = some u := by
        intro k u hk
        have hk' : k < mm := by have := (List.getElem?_eq_some_iff.1 hk).1; omega
        have hadd : (⟨g, 0, none⟩ : Addr).add k = ⟨g, k, none⟩ := by unfold Addr.add; split <;> simp_all
        rw [hadd, cell_of_row wr g k _ _ (0, 0) hgu]
        have e : (cu.take j)[k]? = some u := by
          rw [HTK.out, List.getElem?_take, if_pos (by omega)]
          rw [← hN, List.getElem?_take, if_pos hk'] at hk
          exact hk
        rw [List.getElem?_take, if_pos (by omega)] at e
        simp only [List.getElem?_toArray, e]
      have hbl : Below g w' wr := by have := hx; unfold Ext at this; rwa [HG.out] at this
      have HN := Lib.hid hcs
      have HF := Lib.hid hfit
      have H1 := Lib.hid h1c
      have HC := Lib.hid hcells
      have HNN := Lib.hid hN
      have HNL := Lib.hid hNl
      clear hcs hfit h1c hcells hN hNl hcu htk
      go_wp2_with fail
      go_region_held3 (fun w' => True)
        (first | (go_keep; done) | trivial)
        ((refine step_copy_splice (by rfl) _ _ 27 27 (by rfl) 2 Tryz.underlying27 intSize' (some ⟨g, j, none⟩) (some ⟨g, 0, none⟩) (L - j) (L - j) j L (by rfl) (by rfl) g j cu 2 hgu N HN.out (fun _ => ⟨rfl, _, rfl, HC.out⟩) HF.out H1.out g w' hbl.drew (Nat.le_refl _) ?_; intro w3 hg3 hbl3))
      have hdv : n ∣ j + mm := by
        by_cases h : j ≤ L - j
        · have : mm = j := by omega
          rw [this]
          exact Nat.dvd_add HDV.out HDV.out
        · have : j + mm = L := by omega
          rw [this, ← hnc]
          exact Nat.dvd_mul_right n c
      have hS3 : RepG w' g r c (j + mm) w3 := by
        refine ⟨by unfold Ext; rw [HG.out]; exact hbl3, _, hg3.out, ?_, ?_⟩
        · rw [length_splice _ _ _ HF.out, HCU.out, HL.out]
        · rw [← HNL.out]
          refine splice_on HTK.out (by have := HCU.out; omega) ?_
          rw [HNL.out, repL_on r c j mm (by rw [HN0.out]; exact HDV.out) (by rw [HN0.out, Nat.mul_comm, hnc]; exact hm2), HNN.out]
      have HDM := Lib.hid hdv
      have hwr : IntKind.i64.wrap ((j : Int) + (N.length : Int)) = ((j + mm : Nat) : Int) := by
        rw [HNL.out, IntWalk.i64_in _ (by omega)]; omega
      rw [hwr]
      clear hwr hbl3 hg3 hgu hbl HN HF H1 HC HNN HNL hdv HDV HTL
      go_wp2
      go_roundw
      case rel => exact ⟨j + mm, by omega, by omega, rfl, HDM, hS3⟩
      case measure => simp [intOf]; omega
    · have hje : j = L := by omega
      subst hje
      go_wp2
      go_ret
      obtain ⟨hx, cu, hgu, hcu, htk⟩ := hS
      have hLe := HL.out
      refine ⟨.slice (some ⟨g, 0, none⟩) j j, rfl, ⟨by rw [ivs_length, repL_length, Nat.mul_one], .inr ⟨g, j, cu.toArray, by rw [repL_length, hLe], by rw [HG.out]; exact Nat.le_refl _, hgu, by rw [repL_length, hLe]; exact Nat.le_refl _, by unfold maxLen; omega, by simp [hcu, hLe], ?_⟩⟩, hx⟩
      simp only [repL_length, hLe, Nat.mul_one]
      rw [htk, List.take_of_length_le (by rw [ivs_length, repL_length, hLe]; exact Nat.le_refl _)]
end Go.Proofs.YtojiammendjpkaaGreat
end
