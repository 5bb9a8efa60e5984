/- Contracts of the parts of the program's judgement of a configuration with several tapes.
Contract of the program's judgement of a configuration with several tapes, where the machine, the state and the number of tapes are right. -/
import Derived.Test.YtkbpchdncljlbaaU20
section
set_option linter.unusedVariables false
set_option linter.unusedSimpArgs false
namespace Go.Proofs.Ytkbpchdncljlbaa
open Go Go.RowKit Go.Proofs Go.Maps
set_option maxHeartbeats 400000
theorem sizeT_c (A : Option Addr) (n c : Nat) (h1 : n ≤ c) (h2 : c ≤ 9223372036854775807) (w : World) : Calls Try.prog 57 #[.slice A n c] w fun e w' => e = .returned (.int .i64 (n : Int)) ∧ w = w' := by
  go_enter Try.func57, Try.ntmps57
  go_wp2
  go_ret
  exact ⟨rfl, rfl⟩
set_option maxRecDepth 20000 in
/-- The closure of ValidMultiConfig: a tape that is none of the machine's. -/
theorem badTape_c (m : MultiD) (mv lv rv : Value) (A : Option Addr) (cA gM : Nat) (t : TapeD) (w : World) (hb : Blk w gM 29 #[.int .i64 m.tp, .int .i64 m.sy, .int .i64 m.st, .slice A m.rules.length cA]) (hR : MRules w (.slice A m.rules.length cA) m.rules) (hm : multiOk m = true) (hl : Ints w lv t.l) (hr : Ints w rv t.r) :
    Calls Try.prog 59 #[.agg #[lv, rv], .pointer (some ⟨gM, 0, none⟩)] w fun e w' => e = .returned (.bool (!tapeOk m t)) ∧ Ext w w' := by
  obtain ⟨A1, k1, rfl, _, _⟩ := id hl.form
  obtain ⟨A2, k2, rfl, _, _⟩ := id hr.form
  obtain ⟨V, hV⟩ : ∃ V, V = w.alloc (.cells #[.slice A1 t.l.length k1, .slice A2 t.r.length k2] 42) := ⟨_, rfl⟩
  have hX : Ext w V := by rw [hV]; exact Ext.alloc _ _
  have bM := hb.ext hX
  have bT : Blk V w.heap.size 42 #[.slice A1 t.l.length k1, .slice A2 t.r.length k2] := by rw [hV]; exact Blk.new _ _ _ _ rfl
  have m0 := bM.cell 0
  have m1 := bM.cell 1
  have m2 := bM.cell 2
  have m3 := bM.cell 3
  have w0 := hb.cell 0
  have w1 := hb.cell 1
  have w2 := hb.cell 2
  have w3 := hb.cell 3
  have t0 := bT.cell 0
  have t1 := bT.cell 1
  simp only [List.getElem?_toArray, List.getElem?_cons_zero, List.getElem?_cons_succ] at m0 m1 m2 m3 w0 w1 w2 w3 t0 t1
  have hlt := hb.lt
  have VT := validTape_c m (.agg #[.int .i64 m.tp, .int .i64 m.sy, .int .i64 m.st, .slice A m.rules.length cA]) (.slice A1 t.l.length k1) (.slice A2 t.r.length k2) t V ⟨_, rfl, hR.ext hX⟩ hm (hl.ext hX) (hr.ext hX)
  generalize tapeOk m t = ok at *
  go_enter Try.func59, Try.ntmps59
  go_wp2_with fail
  try rw [← hV]
  clear hV
  refine VT.mono ?_
  rintro e w' ⟨rfl, hx⟩
  go_wp2_with fail
  go_ret
  exact ⟨rfl, hX.trans hx⟩
/-- The closure as a value. -/
abbrev fnB (gM : Nat) : Value := .func (.func 59) #[] #[.pointer (some ⟨gM, 0, none⟩)]
set_option maxRecDepth 20000 in
set_option maxHeartbeats 1000000 in
theorem indexT_c (m : MultiD) (A : Option Addr) (cA gM : Nat) (v : Value) (ts : List TapeD) (w : World) (hb : Blk w gM 29 #[.int .i64 m.tp, .int .i64 m.sy, .int .i64 m.st, .slice A m.rules.length cA]) (hR : MRules w (.slice A m.rules.length cA) m.rules) (hm : multiOk m = true) (hT : Tapes w v ts) :
    Calls Try.prog 86 #[v, fnB gM] w fun e w' => ∃ z : Int, e = .returned (.int .i64 z) ∧ decide (z ≥ 0) = (ts.any fun t => !tapeOk m t) ∧ Ext w w' := by
  obtain ⟨At, ct, rfl, h1, h2⟩ := hT.form
  go_enter Try.func86, Try.ntmps86
  go_wp2_with fail
  go_loopw [8] (fun u wr => ∃ k : Nat, k ≤ ts.length ∧ u = .int .i64 (k : Int) ∧ Ext w wr ∧ ∀ i, (h : i < ts.length) → i < k → tapeOk m ts[i] = true) (fun u _ => ts.length - (intOf u).toNat)
  case atStart => exact ⟨0, Nat.zero_le _, rfl, Ext.refl _, fun i _ h => by omega⟩
  case round =>
    obtain ⟨k, hk, rfl, hx, hall⟩ := hrel
    by_cases hlt : k < ts.length
    · obtain ⟨b, off, vl, vr, rfl, c0, c1, i1, i2⟩ := (hT.ext hx).at hlt
      obtain ⟨A1, k1, rfl, _, _⟩ := id i1.form
      obtain ⟨A2, k2, rfl, _, _⟩ := id i2.form
      have BT := badTape_c m (.int .i64 0) _ _ A cA gM ts[k] wr (hb.ext hx) (hR.ext hx) hm i1 i2
      have HALL := Lib.hid hall
      have hkt : Hid (∀ b, tapeOk m ts[k] = b → tapeOk m ts[k] = b) := Lib.hid fun _ h => h
      cases hok : tapeOk m ts[k] with
      | true =>
        rw [hok] at BT
        have HNX : Hid (∀ i, (h : i < ts.length) → i < k + 1 → tapeOk m ts[i] = true) := Lib.hid fun i hi1 hi2 => by
          by_cases e : i = k
          · subst e; exact hok
          · exact hall i hi1 (by omega)
        clear hok hall hkt i1 i2 HALL
        generalize ts[k].l.length = n1 at *
        generalize ts[k].r.length = n2 at *
        go_wp2_with fail
        refine BT.mono ?_
        rintro e w3 ⟨rfl, hx3⟩
        have HX := Lib.hid (hx.trans hx3)
        clear BT hx hx3
        go_wp2_with fail
        go_roundw
        case rel => exact ⟨k + 1, by omega, by go_num, HX.out, HNX.out⟩
        case measure => simp [intOf]; omega
      | false =>
        rw [hok] at BT
        have HA : Hid ((ts.any fun t => !tapeOk m t) = true) := Lib.hid (List.any_eq_true.2 ⟨ts[k], List.getElem_mem hlt, by simp [hok]⟩)
        clear hok hall hkt i1 i2 HALL
        generalize ts[k].l.length = n1 at *
        generalize ts[k].r.length = n2 at *
        go_wp2_with fail
        refine BT.mono ?_
        rintro e w3 ⟨rfl, hx3⟩
        have HX := Lib.hid (hx.trans hx3)
        clear BT hx hx3
        go_wp2_with fail
        go_ret
        exact ⟨_, rfl, by rw [HA.out]; simp, HX.out⟩
    · obtain rfl : k = ts.length := by omega
      have HA : Hid ((ts.any fun t => !tapeOk m t) = false) := Lib.hid (by
        rw [List.any_eq_false]
        intro t ht
        obtain ⟨i, hi, rfl⟩ := List.getElem_of_mem ht
        simp [hall i hi hi])
      clear hall
      go_wp2_with fail
      go_ret
      exact ⟨_, rfl, by rw [HA.out]; rfl, hx⟩
theorem containsT_c (m : MultiD) (A : Option Addr) (cA gM : Nat) (v : Value) (ts : List TapeD) (w : World) (hb : Blk w gM 29 #[.int .i64 m.tp, .int .i64 m.sy, .int .i64 m.st, .slice A m.rules.length cA]) (hR : MRules w (.slice A m.rules.length cA) m.rules) (hm : multiOk m = true) (hT : Tapes w v ts) :
    Calls Try.prog 58 #[v, fnB gM] w fun e w' => e = .returned (.bool (ts.any fun t => !tapeOk m t)) ∧ Ext w w' := by
  have IT := indexT_c m A cA gM v ts w hb hR hm hT
  obtain ⟨At, ct, rfl, h1, h2⟩ := hT.form
  generalize (ts.any fun t => !tapeOk m t) = ok at *
  go_enter Try.func58, Try.ntmps58
  go_wp2_with fail
  refine IT.mono ?_
  rintro e w' ⟨z, rfl, hz, hx⟩
  subst hz
  go_wp2_with fail
  go_ret
  exact ⟨rfl, hx⟩
end Go.Proofs.Ytkbpchdncljlbaa
end
section
set_option linter.unusedVariables false
set_option linter.unusedSimpArgs false
namespace Go.Proofs.Ytkbpchdncljlbaa
open Go Go.RowKit Go.Proofs Go.Maps
set_option maxHeartbeats 400000
set_option maxRecDepth 20000 in
set_option maxHeartbeats 1000000 in
theorem ValidMultiConfig_c (m : MultiD) (mv tv : Value) (c : MConfD) (w : World) (hM : Mult w mv m) (hm : multiOk m = true) (hT : Tapes w tv c.tapes) (hq : inB c.q 0 (m.st - 1) = true) (hn : (c.tapes.length : Int) = m.tp) :
    Calls Try.prog 29 #[mv, .agg #[.int .i64 c.q, tv]] w fun e w' => e = .returned (.bool (c.tapes.all (tapeOk m))) ∧ Ext w w' := by
  obtain ⟨rv, rfl, hR⟩ := id hM
  obtain ⟨A, cA, rfl, _, _⟩ := hR.form
  obtain ⟨At, ct, rfl, ht1, ht2⟩ := hT.form
  obtain ⟨V, hV⟩ : ∃ V, V = (w.alloc (.cells #[.int .i64 m.tp, .int .i64 m.sy, .int .i64 m.st, .slice A m.rules.length cA] 29)).alloc (.cells #[.int .i64 c.q, .slice At c.tapes.length ct] 34) := ⟨_, rfl⟩
  have hX : Ext w V := by rw [hV]; exact (Ext.alloc _ _).trans (Ext.alloc _ _)
  obtain ⟨g, hg⟩ : ∃ g, w.heap.size = g := ⟨_, rfl⟩
  have bM : Blk V g 29 #[.int .i64 m.tp, .int .i64 m.sy, .int .i64 m.st, .slice A m.rules.length cA] := by rw [hV]; exact (Blk.new _ _ _ _ hg).alloc _
  have bC : Blk V (g + 1) 34 #[.int .i64 c.q, .slice At c.tapes.length ct] := by rw [hV]; exact Blk.new _ _ _ _ (by simp [hg])
  have m0 := bM.cell 0
  have m1 := bM.cell 1
  have m2 := bM.cell 2
  have m3 := bM.cell 3
  have c0 := bC.cell 0
  have c1 := bC.cell 1
  simp only [List.getElem?_toArray, List.getElem?_cons_zero, List.getElem?_cons_succ] at m0 m1 m2 m3 c0 c1
  replace m0 := cellR m0
  replace m1 := cellR m1
  replace m2 := cellR m2
  replace m3 := cellR m3
  replace c0 := cellR c0
  replace c1 := cellR c1
  have VM' := fun d os => ValidMulti_c (.agg #[.int .i64 m.tp, .int .i64 m.sy, .int .i64 m.st, .slice A m.rules.length cA]) m (Sort.grow (redrawn V d) os) ((hM.ext hX).ext (below_regrown _ _ _))
  rw [hm] at VM'
  have WI := fun w => within_c c.q 0 (m.st - 1) w
  rw [hq] at WI
  have HALL : Hid ((!(c.tapes.any fun t => !tapeOk m t)) = c.tapes.all (tapeOk m)) := by
    unfold Hid
    rw [Bool.eq_iff_iff]
    simp
  obtain ⟨⟨tp1, tp2⟩, _, ⟨st1, st2⟩, _, _⟩ := multi_all hm
  have HQ : Hid (inB c.q 0 (m.st - 1) = true) := hq
  have HN : Hid ((c.tapes.length : Int) = m.tp) := hn
  have btp : ((c.tapes.length : Int) != m.tp) = false := by simp [hn]
  have hwq : IntKind.i64.wrap (m.st - 1) = m.st - 1 := IntWalk.i64_in _ (by omega)
  clear hq
  rw [← HALL.out]
  obtain ⟨ok, hok⟩ : ∃ ok, (c.tapes.any fun t => !tapeOk m t) = ok := ⟨_, rfl⟩
  rw [hok]
  have HOK := Lib.hid hok
  clear hok HALL
  go_enter Try.func29, Try.ntmps29
  go_wp2_with fail
  try rw [← hV]
  try rw [hg]
  clear hV hn
  refine wp_region_ext (by kernel_rfl) (by kernel_rfl) ?_
  repeat (go_big_quiet_step ((first | (go_at_call 24; exact Calls.extR (VM' _ _)) | (go_at_call 22; exact Calls.sameR (WI _)) | (go_at_call 57; exact Calls.sameR (sizeT_c _ _ _ (by assumption) (by assumption) _)))))
  refine wpQuiet_nil ?_
  intro w2 hx2
  have hX2 := hX.trans hx2
  have bM2 := bM.ext hx2
  have bC2 := bC.ext hx2
  have d1 := bC2.cell 1
  simp only [List.getElem?_toArray, List.getElem?_cons_zero, List.getElem?_cons_succ] at d1
  have CT := containsT_c m A cA g (.slice At c.tapes.length ct) c.tapes w2 bM2 (hR.ext hX2) hm (hT.ext hX2)
  rw [HOK.out] at CT
  clear m0 m1 m2 m3 c0 c1
  go_wp2_with fail
  refine CT.mono ?_
  rintro e w3 ⟨rfl, hx3⟩
  go_wp2_with fail
  go_ret
  exact ⟨rfl, hX2.trans hx3⟩
end Go.Proofs.Ytkbpchdncljlbaa
end
