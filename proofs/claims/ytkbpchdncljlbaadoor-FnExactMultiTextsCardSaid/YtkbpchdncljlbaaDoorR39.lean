/- Contract of the program's run of a machine with several tapes with the closure of MultiTexts.
Contracts: the visitor that keeps the texts of a run of a machine with several tapes, and the run with this visitor. The listed tables of the library hold what they should.
Contract of the program's texts of a run of a machine with several tapes. The listed tables of the library hold what they should. -/
import Derived.Test.YtkbpchdncljlbaaDoorR14
import Derived.Test.YtkbpchdncljlbaaDoorR38
import Derived.Test.YtkbpchdncljlbaaDoorR21
import Derived.Test.YtkbpchdncljlbaaDoorR15
import Derived.Test.YtkbpchdncljlbaaDoorR19
section
set_option linter.unusedVariables false
set_option linter.unusedSimpArgs false
namespace Go.Proofs.YtkbpchdncljlbaaDoor
open Go Go.RowKit Go.Proofs Go.Maps
set_option maxHeartbeats 400000
/-- As VisM, for the first configurations alone. -/
def VisN (N : Nat) (fid : FuncId) (lb : Array Value) (rs : List MRuleD) (c : MConfD) (w0 : World) (bc gT cap lo hi : Nat) (I : Nat → (Nat → Prop) → World → Prop) : Prop :=
  ∀ (i : Nat) (K : Nat → Prop) (wX : World) (cs : Array Value), i ≤ N → MRuns rs c i → MAt w0 K wX bc gT cap cs (cfgM rs c i) → I i K wX → hi ≤ wX.heap.size →
    Calls Tryd.prog fid (#[Value.agg #[.int .i64 (cfgM rs c i).q, .slice (some ⟨gT, 0, none⟩) c.tapes.length cap]] ++ lb) wX fun e w' =>
      e = .returned (.tuple #[]) ∧ ∃ K' : Nat → Prop, (∀ k, K k → K' k) ∧ MAt w0 K' w' bc gT cap cs (cfgM rs c i) ∧ I (i + 1) K' w' ∧ ∀ k, lo ≤ k → k < hi → w'.heap[k]? = wX.heap[k]?
set_option maxRecDepth 20000 in
set_option maxHeartbeats 4000000 in
theorem runMultiT_c (w0 w : World) (K : Nat → Prop) (m : MultiD) (mv : Value) (c : MConfD) (bc gT cap N : Nat) (cs : Array Value) (lb : Array Value) (I : Nat → Nat → (Nat → Prop) → World → Prop)
    (hM : Mult w0 mv m) (hm : multiOk m = true) (hG : GoodM m c) (hroom : roomM c = true) (h : MAt w0 K w bc gT cap cs c) (hN : N ≤ 1000000)
    (h0 : ∀ wA K', Ext w wA → (∀ k, K k → K' k) → (∀ k, K' k → K k ∨ (w.heap.size ≤ k ∧ k < wA.heap.size)) → I wA.heap.size 0 K' wA)
    (hI : ∀ hi i K w1 w2, I hi i K w1 → Kp K w1 w2 → I hi i K w2)
    (hV : ∀ hi, w.heap.size ≤ hi → VisN N 31 lb m.rules c w0 bc gT cap w.heap.size hi (I hi)) :
    Calls Tryd.prog 30 #[mv, .pointer (some ⟨bc, 0, none⟩), .int .i64 (N : Int), .func (.func 31) #[] lb] w fun e w' => ∃ hi, RunOutM m.rules c N w0 bc gT cap (I hi) e w' := by
  obtain ⟨rv, rfl, hR⟩ := hM
  obtain ⟨A, cA, rfl, _, _⟩ := hR.form
  obtain ⟨gB, hgB⟩ : ∃ g, w.heap.size = g := ⟨_, rfl⟩
  obtain ⟨V, hVV⟩ : ∃ V, V = w.alloc (.cells #[.int .i64 m.tp, .int .i64 m.sy, .int .i64 m.st, .slice A m.rules.length cA] 33) := ⟨_, rfl⟩
  have hXV : Ext w V := by rw [hVV]; exact Ext.alloc _ _
  have bB : Blk V gB 33 #[.int .i64 m.tp, .int .i64 m.sy, .int .i64 m.st, .slice A m.rules.length cA] := by rw [hVV]; exact Blk.new _ _ _ _ hgB
  have b0 := bB.cell 0
  have b1 := bB.cell 1
  have b2 := bB.cell 2
  have b3 := bB.cell 3
  simp only [List.getElem?_toArray, List.getElem?_cons_zero, List.getElem?_cons_succ] at b0 b1 b2 b3
  have TM := multiRules_c (.agg #[.int .i64 m.tp, .int .i64 m.sy, .int .i64 m.st, .slice A m.rules.length cA]) m V ⟨_, rfl, hR.ext (h.ext0.trans hXV)⟩ hm
  go_enter Tryd.func30, Tryd.ntmps30
  go_wp2_with fail
  try rw [← hVV]
  try rw [hgB]
  clear hVV b0 b1 b2 b3
  refine TM.mono ?_
  rintro e wA ⟨bm, rfl, hT, hbm, hxA⟩
  have hXA := hXV.trans hxA
  have st0 : MuLoop w0 wA w.heap.size m c bc gT cap gB bm A cA (I wA.heap.size) 0 (fun k => K k ∨ (w.heap.size ≤ k ∧ k < wA.heap.size)) cs wA :=
    ⟨h.more hXA (fun k hk => hk), MRuns.zero hroom, h0 wA _ hXA (fun k hk => .inl hk) (fun k hk => hk), fun k h1 h2 => .inr ⟨h1, h2⟩, bB.ext hxA, hT⟩
  have hgV : V.heap.size ≤ wA.heap.size := hxA.size
  have hBlt : gB < wA.heap.size := (bB.ext hxA).lt
  have hbmlt := hT.lt
  have hgbm : w.heap.size ≤ bm := Nat.le_trans hXV.size hbm
  obtain ⟨hi, hhi⟩ : ∃ k, wA.heap.size = k := ⟨_, rfl⟩
  have HV := hV hi (by rw [← hhi]; exact hXA.size)
  have HI := hI hi
  have hMR := hR
  have HM := Lib.hid hm
  rw [hhi] at st0 hBlt hbmlt
  clear h h0 hV hI hT bB TM hm hgV hroom hXV hR
  go_wp2_with fail
  go_loopw [12] (fun u wr => ∃ (i : Nat) (K : Nat → Prop) (cs : Array Value), i ≤ N ∧ u = .int .i64 (i : Int) ∧ MuLoop w0 wA w.heap.size m c bc gT cap gB bm A cA (I hi) i K cs wr) (fun u _ => N + 1 - (intOf u).toNat)
  case atStart => exact ⟨0, _, _, Nat.zero_le _, rfl, st0⟩
  case round =>
    clear st0
    obtain ⟨i, K, cs, hiN, rfl, st⟩ := hrel
    have VC := HV i K wr cs hiN st.runs st.at_ st.inv (by have := st.at_.kb (hi - 1) (st.own (hi - 1) (by omega) (by omega)); omega)
    have b0 := st.at_.blk.cell 0
    have b1 := st.at_.blk.cell 1
    simp only [List.getElem?_toArray, List.getElem?_cons_zero, List.getElem?_cons_succ] at b0 b1
    rw [cfgM_tapes] at b1
    go_wp2_with fail
    refine VC.mono ?_
    rintro e w1 ⟨rfl, K1, hKK, at1, inv1, hk1⟩
    have bB1 : Blk w1 gB 33 #[.int .i64 m.tp, .int .i64 m.sy, .int .i64 m.st, .slice A m.rules.length cA] := (hk1 gB (by omega) hBlt).trans st.blk
    have tb1 := st.tbl.sameB (hk1 bm hgbm hbmlt)
    have own1 : ∀ k, w.heap.size ≤ k → k < wA.heap.size → K1 k := fun k a b => hKK k (st.own k a b)
    have runs := st.runs
    have hgd := hG.cfg HM.out i
    have hrm := runs.room i (Nat.le_refl _)
    have hsucc : cfgM m.rules c (i + 1) = stepM m.rules (cfgM m.rules c i) := rfl
    have htp := (multi_all HM.out).1
    clear st VC b0 b1
    generalize hci : cfgM m.rules c i = ci at *
    have HCI := Lib.hid hci
    have c0 := at1.blk.cell 0
    have c1 := at1.blk.cell 1
    simp only [List.getElem?_toArray, List.getElem?_cons_zero, List.getElem?_cons_succ] at c0 c1
    have RD := read_c bc ci _ w1 c0 c1 at1.tapes (by have := hgd.n; omega)
    clear hci c0 c1
    go_wp2_with fail
    refine RD.mono ?_
    rintro e w2 ⟨rfl, hx2⟩
    have at2 := at1.ext hx2
    have bB2 := bB1.ext hx2
    have tb2 := tb1.ext hx2
    have inv2 := HI (i + 1) K1 w1 w2 inv1 (fun k hk => Below.block hx2 k (at1.kb k hk))
    have lk := tb2.lookup2 rdTy (readM ci) hgd.key
    have htb : tblM m.rules m.rules.length (readM ci) = Option.map (fun i : Nat => (i : Int)) (lookM m.rules ci) := rfl
    rw [htb] at lk
    have bb3 := bB2.cell 3
    simp only [List.getElem?_toArray, List.getElem?_cons_zero, List.getElem?_cons_succ] at bb3
    simp only [rdE] at lk ⊢
    cases hlk : lookM m.rules ci with
    | none =>
      rw [hlk] at lk
      simp only [Option.map_none, Option.getD_none, Option.isSome_none] at lk
      have HE : Hid (MEnd m.rules c N i) := ⟨runs, hiN, .inr (by rw [HCI.out]; exact hlk)⟩
      have HAT := Lib.hid at2
      have HIN := Lib.hid inv2
      have HL := Lib.hid hlk
      clear runs hsucc at2 at1 inv1 inv2 hlk
      go_wp2_with fail
      refine bodyPost_ret (v := .tuple #[.int .i64 (i : Int), .bool true, .int .i64 0]) (by simp [results, Tryd.results30, go_sem]) rfl ⟨hi, .inl ⟨i, K1, cs, HE.out, ?_, by rw [HCI.out]; exact HAT.out, HIN.out⟩⟩
      rw [HCI.out, HL.out]
      rfl
    | some j =>
      rw [hlk] at lk
      simp only [Option.map_some, Option.getD_some, Option.isSome_some] at lk
      have HNO : Hid (lookM m.rules (cfgM m.rules c i) ≠ none) := by unfold Hid; rw [HCI.out, hlk]; simp
      by_cases hiN' : i = N
      · have HE : Hid (MEnd m.rules c N i) := ⟨runs, hiN, .inl hiN'⟩
        have HAT := Lib.hid at2
        have HIN := Lib.hid inv2
        have HL := Lib.hid hlk
        have bi : ((i : Int) == (N : Int)) = true := by simp [hiN']
        have bi' : (i == N) = true := by simp [hiN']
        clear runs hsucc at2 at1 inv1 inv2 hlk hiN'
        go_wp2_with fail
        refine bodyPost_ret (v := .tuple #[.int .i64 (i : Int), .bool false, .int .i64 0]) (by simp [results, Tryd.results30, go_sem]) rfl ⟨hi, .inl ⟨i, K1, cs, HE.out, ?_, by rw [HCI.out]; exact HAT.out, HIN.out⟩⟩
        rw [HCI.out, HL.out]
        rfl
      · have bi : ((i : Int) == (N : Int)) = false := beq_false_of_ne (by omega)
        have bi' : (i == N) = false := beq_false_of_ne hiN'
        have hjl : j < m.rules.length := findM_lt hlk
        obtain ⟨b, off, vr, vw, vm, hA, c0, c1, c2, c3, c4, j1, j2, j3⟩ := hMR.at hjl
        have hgdj : m.rules.getD j mr0 = m.rules[j] := by rw [List.getD_eq_getElem?_getD, List.getElem?_eq_getElem hjl]; rfl
        have hro := multi_rule HM.out hjl
        have hstep : stepM m.rules ci = applyM ci m.rules[j] := by unfold stepM; rw [hlk]; simp only; rw [hgdj]
        rw [hstep] at hsucc
        have hx0 := at2.ext0
        subst hA
        have d0 := hx0.cell c0
        have d1 := hx0.cell c1
        have d2 := hx0.cell c2
        have d3 := hx0.cell c3
        have d4 := hx0.cell c4
        obtain ⟨r, hrk⟩ : ∃ r, m.rules[j] = r := ⟨_, rfl⟩
        rw [hrk] at d0 d4 j1 j2 j3 hro hsucc
        obtain ⟨_, _, _, hw3, hv3, _⟩ := mrule_all hro
        obtain ⟨A1, k1, rfl, _, _⟩ := j1.form
        obtain ⟨A2, k2, rfl, _, _⟩ := j2.form
        obtain ⟨A3, k3, rfl, _, _⟩ := j3.form
        have hn1 := hgd.n
        have AP := apply_c w0 w2 K1 bc gT cap cs ci r _ _ _ at2 j1 j2 j3 (by omega) (by omega) (by omega) (fun q hq => by
          have := hrm
          unfold roomM at this
          have := List.all_eq_true.1 this _ (List.getElem_mem hq)
          simp only [roomT, Bool.and_eq_true, decide_eq_true_eq] at this
          omega)
        have HSU := Lib.hid hsucc
        have HRN := Lib.hid runs
        have HAT := Lib.hid at2
        have HIN := Lib.hid inv2
        have HJ := Lib.hid hjl
        have hjl2 : j < m.rules.length := hjl
        have HLT := Lib.hid (show i < N by omega)
        clear runs hsucc at2 at1 inv1 inv2 hlk hiN' hstep hgdj hrk c0 c1 c2 c3 c4 hro hw3 hv3 hn1 hrm hgd
        go_wp2_with fail
        refine AP.mono ?_
        rintro e w3 ⟨rfl, cs3, at3, kp3⟩
        have bB3 : Blk w3 gB 33 #[.int .i64 m.tp, .int .i64 m.sy, .int .i64 m.st, .slice (some ⟨b, off, none⟩) m.rules.length cA] := (kp3 gB (own1 gB (by omega) (by omega))).trans bB2
        have tb3 := tb2.sameB (kp3 bm (own1 bm hgbm (by omega)))
        have inv3 := HI (i + 1) K1 w2 w3 HIN.out kp3
        have HA3 : Hid (MAt w0 K1 w3 bc gT cap cs3 (cfgM m.rules c (i + 1))) := by unfold Hid; rw [HSU.out]; exact at3
        have HRM : Hid (roomM (cfgM m.rules c (i + 1)) = roomM (applyM ci r)) := by unfold Hid; rw [HSU.out]
        have HI3 := Lib.hid inv3
        have HE3 := Lib.hid at3.ext0
        have hi1 : i < N := HLT.out
        clear at3 kp3 inv3 AP tb2 bB2 HAT HIN lk bb3
        cases hrr : roomM (applyM ci r) with
        | true =>
          have HRR : Hid (roomM (cfgM m.rules c (i + 1)) = true) := by unfold Hid; rw [HRM.out]; exact hrr
          clear hrr
          go_wp2_with fail
          go_roundw
          case rel => exact ⟨i + 1, K1, cs3, by omega, by go_num, ⟨HA3.out, HRN.out.succ HNO.out HRR.out, HI3.out, own1, bB3, tb3⟩⟩
          case measure => simp [intOf]; omega
        | false =>
          have HRR : Hid (roomM (cfgM m.rules c (i + 1)) = false) := by unfold Hid; rw [HRM.out]; exact hrr
          clear hrr
          have HF : Hid (MFull m.rules c N (i + 1)) := ⟨by omega, HRN.out, hi1, HNO.out, HRR.out⟩
          go_wp2_with fail
          exact bodyPost_ret (v := .tuple #[.int .i64 0, .bool false, .int .i64 5]) (by simp [results, Tryd.results30, go_sem]) rfl ⟨hi, .inr ⟨i + 1, K1, HF.out, rfl, HE3.out, HI3.out⟩⟩
end Go.Proofs.YtkbpchdncljlbaaDoor
end
section
set_option linter.unusedVariables false
set_option linter.unusedSimpArgs false
namespace Go.Proofs.YtkbpchdncljlbaaDoor
open Go Go.RowKit Go.Proofs Go.Maps
set_option maxHeartbeats 400000
theorem strInfoV : (Tryd.prog.info? 9).map (fun i => (i.zero, i.size, i.bytes)) = some (some (.string ⟨#[]⟩), 1, 16) := by kernel_rfl
theorem hsize_setCell (w : World) (p : Addr) (u : Value) : (w.setCell p u).heap.size = w.heap.size := by
  unfold World.setCell
  first | simp | (split <;> simp)
/-- Blocks among K were written, new ones may be kept. -/
theorem MAt.grow {w0 w w' : World} {K K' : Nat → Prop} {bc gT cap : Nat} {cs : Array Value} {c : MConfD} (h : MAt w0 K w bc gT cap cs c) (he : Ext w0 w') (hs : w.heap.size ≤ w'.heap.size) (hk : ∀ k, ¬ K k → k < w.heap.size → w'.heap[k]? = w.heap[k]?) (hK : ∀ k, K' k → K k ∨ (w.heap.size ≤ k ∧ k < w'.heap.size)) : MAt w0 K' w' bc gT cap cs c := by
  have hb := h.blk.lt
  have ht := h.tblk.lt
  refine ⟨he, fun k hk' => ?_, h.blo, fun hk' => ?_, h.tlo, fun hk' => ?_, h.cap1, h.cap2, (hk bc h.bK hb).trans h.blk, (hk gT h.tK ht).trans h.tblk, fun i hi => ?_, fun j v g hjn hj hg hk' => ?_, fun j v g hjn hj hg => ⟨(h.lt j v g hjn hj hg).1, Nat.lt_of_lt_of_le (h.lt j v g hjn hj hg).2 hs⟩, h.ap⟩
  · rcases hK k hk' with e | e
    · have := h.kb k e; omega
    · exact e.2
  · rcases hK bc hk' with e | e
    · exact h.bK e
    · omega
  · rcases hK gT hk' with e | e
    · exact h.tK e
    · omega
  · obtain ⟨lv, rv, e1, e2, s1, s2⟩ := h.side i hi
    exact ⟨lv, rv, e1, e2, s1.same (fun g hg => hk g (h.mid _ _ g (by omega) e1 hg) (s1.lt g hg).2), s2.same (fun g hg => hk g (h.mid _ _ g (by omega) e2 hg) (s2.lt g hg).2)⟩
  · have := (h.lt j v g hjn hj hg).2
    rcases hK g hk' with e | e
    · exact h.mid j v g hjn hj hg e
    · omega
/-- The texts of the first n configurations. -/
def firstM (rs : List MRuleD) (c : MConfD) (n : Nat) : List (List UInt8) := (List.range n).map fun j => mconT (cfgM rs c j)
theorem firstM_svB (rs : List MRuleD) (c : MConfD) (n : Nat) : svB (firstM rs c (n + 1)) = svB (firstM rs c n) ++ [.string (bsS (mconT (cfgM rs c n)))] := by simp [firstM, svB, List.range_succ]
/-- What the visitor holds: the texts so far, in a row of their own. -/
structure TxI (rs : List MRuleD) (c : MConfD) (base bt lo hi : Nat) (i : Nat) (K : Nat → Prop) (w : World) : Prop where
  own : ∃ tv, Blk w bt 28 #[tv] ∧ w.ownsRow base 9 1 tv i (svB (firstM rs c i)) ∧ (∀ g, tv.ownBlock = some g → K g ∧ (g < lo ∨ hi ≤ g))
  bt : K bt
theorem TxI.kp {rs : List MRuleD} {c : MConfD} {base bt lo hi i : Nat} {K : Nat → Prop} {w w' : World} (h : TxI rs c base bt lo hi i K w) (hk : Kp K w w') : TxI rs c base bt lo hi i K w' := by
  obtain ⟨⟨tv, hb, ho, hg⟩, hbt⟩ := h
  exact ⟨⟨tv, (hk bt hbt).trans hb, own_same ho (fun g h => hk g (hg g h).1), hg⟩, hbt⟩
theorem digs_of {m : MultiD} {c : MConfD} (hm : multiOk m = true) (hq : inB c.q 0 (m.st - 1) = true) (hn : (c.tapes.length : Int) = m.tp) (hts : c.tapes.all (tapeOk m) = true) : MDig c := by
  obtain ⟨⟨tp1, tp2⟩, ⟨s1, s2⟩, ⟨q1, q2⟩, _⟩ := multi_all hm
  obtain ⟨q3, q4⟩ := inB_iff.1 hq
  refine ⟨q3, by omega, by omega, fun t ht => ?_⟩
  have h := List.all_eq_true.1 hts t ht
  obtain ⟨hr, a, b⟩ := tape_len h
  simp only [roomT, Bool.and_eq_true, decide_eq_true_eq] at hr
  exact ⟨hr.1, hr.2, fun z hz => by have := a z hz; omega, fun z hz => by have := b z hz; omega⟩
theorem MAt.tapF {w0 w : World} {K : Nat → Prop} {bc gT cap : Nat} {cs : Array Value} {c : MConfD} (h : MAt w0 K w bc gT cap cs c) (hr : roomM c = true) : TapF w gT 0 c.tapes := (h.tapB hr).tapF
set_option maxRecDepth 20000 in
set_option maxHeartbeats 4000000 in
/-- The visitor lays the text of each configuration behind the others. -/
theorem visT_c (N : Nat) (hN : N ≤ 1000000) (m : MultiD) (c : MConfD) (w0 : World) (bc gT cap lo hi base bt : Nat) (hm : multiOk m = true) (hq : inB c.q 0 (m.st - 1) = true) (hn : (c.tapes.length : Int) = m.tp) (hts : c.tapes.all (tapeOk m) = true) (hTb : Tab w0) (hbase : w0.heap.size ≤ base) (hbl : bt < lo) (hb0 : base ≤ bt) (hlh : lo ≤ hi) :
    VisN N 31 #[.pointer (some ⟨bt, 0, none⟩)] m.rules c w0 bc gT cap lo hi (TxI m.rules c base bt lo hi) := by
  intro i K wX cs hiN hrun h hI hhi
  obtain ⟨⟨tv, hb, ho, hg⟩, hbt⟩ := hI
  obtain ⟨cq, ct⟩ := cfg_ok hm hq hn hts i hrun
  have hlen := cfgM_tapes m.rules c i
  have hD := digs_of hm cq (by rw [hlen]; exact hn) ct
  have hTF := h.tapF (hrun.room i (Nat.le_refl _))
  have hc1 := h.cap1
  have hc2 := h.cap2
  have hfm := firstM_svB m.rules c i
  obtain ⟨At, ca, rfl, _, _, _⟩ := (ownsRow_row ho).form
  obtain ⟨i0, hi0, hz0, hz1, hz2⟩ := info_parts strInfoV
  generalize hci : cfgM m.rules c i = ci at *
  have HCI := Lib.hid hci
  clear hci
  obtain ⟨gx, hgx⟩ : ∃ g, wX.heap.size = g := ⟨_, rfl⟩
  obtain ⟨W, hW⟩ : ∃ W, W = wX.alloc (.cells #[.int .i64 ci.q, .slice (some ⟨gT, 0, none⟩) c.tapes.length cap] 50) := ⟨_, rfl⟩
  have hX : Ext wX W := by rw [hW]; exact Ext.alloc _ _
  have bB : Blk W gx 50 #[.int .i64 ci.q, .slice (some ⟨gT, 0, none⟩) c.tapes.length cap] := by rw [hW]; exact Blk.new _ _ _ _ hgx
  have b0 := bB.drew.cell 0
  have b1 := bB.drew.cell 1
  have t0 := (hb.ext (hX.trans (Ext.drew W))).cell 0
  simp only [List.getElem?_toArray, List.getElem?_cons_zero, List.getElem?_cons_succ] at b0 b1 t0
  have hXd := hX.trans (Ext.drew W)
  have CT := multiConfigText_c ci gT 0 cap W.drew (hTF.ext hXd) hc1 hc2 hD (hTb.ext (h.ext0.trans hXd))
  rw [hlen] at CT
  have HLEN := Lib.hid hlen
  clear hlen
  show Calls _ _ #[_, .pointer (some ⟨bt, 0, none⟩)] _ _
  go_enter Tryd.func31, Tryd.ntmps31
  go_wp2_with fail
  try rw [← hW]
  try rw [hgx]
  clear hW
  have HM := Lib.hid h
  clear h hrun cq ct hTF hD
  refine wp_region_ordT 4 (readsT [0, 1] (.stir 2 (.stir 3 .done))) (by kernel_rfl) (by kernel_rfl) (fun _ _ _ _ _ h => h) ?_
  simp only [readsT]
  iterate 2 (refine wpOrdT_read (v := ?_) (by rfl) (Or.inl ⟨by rfl, fun x hx => ?_⟩) ?_; rotate_left; (· have a1 := hx.cell b0; have a2 := hx.cell b1; have a3 := hx.cell t0; go_simp; try with_reducible rfl); try simp only [Act.put, List.setIfInBounds_toArray, List.set_cons_zero, List.set_cons_succ])
  refine wpOrdT_keep (by rfl) (fun K' hK => ?_)
  go_simp
  refine CT.mono ?_
  rintro e w3 ⟨rfl, hx3⟩
  refine hK _ _ hx3 ?_
  clear hK K'
  refine wpOrdT_keep (by rfl) (fun K' hK => ?_)
  go_simp
  refine hK _ _ (hx3.trans (Ext.alloc _ _)) ?_
  clear hK K'
  refine wpOrdT_done ?_
  try simp only [List.drop_succ_cons, List.drop_zero]
  have hX4 := Ext.alloc w3 (.cells #[.string (bsS (mconT ci))] 9)
  have hXX := (hXd.trans hx3).trans hX4
  have ho4 := ownsRow_ext ho hXX
  have hs4 := hXX.size
  clear b0 b1 t0 CT
  have hi1 : i ≤ 1000000 := Nat.le_trans hiN hN
  go_wp2_with (at_builtin; refine wpList_append_own_at _ rfl _ _ 28 rfl base 9 i0 (.string ⟨#[]⟩) 1 16 Tryd.underlying28 hi0 hz0 hz1 hz2 rfl (by decide) _ _ _ rfl ho4 ⟨w3.heap.size, 0, none⟩ 1 1 [.string (bsS (mconT ci))] rfl rfl (World.news_of_block (heap_alloc_new w3 _)) ?c2 ?c3 ?c4 ?c5 ?_)
  case c2 => intro u hu; simp at hu; subst hu; rfl
  case c3 => unfold maxLen; omega
  case c4 => omega
  case c5 => first | omega | (have := hb.lt; omega)
  intro v' w5 hown5 hg5 _ hv5
  obtain ⟨A5, c5, rfl, _, _, _⟩ := (ownsRow_row hown5).form
  have bt5 := Blk.apart (hb.ext hXX) ho4 (by decide) hg5
  have hbtl := hb.lt
  have hX5 : Ext w0 w5 := (HM.out.ext0.trans hXX).grown hg5 (fun q hq => Nat.le_trans hbase (ho4.lt q hq).1)
  have HS5 : Hid (wX.heap.size ≤ w5.heap.size) := Nat.le_trans hs4 hg5.size
  have tf := bt5.frozen 0
  have tc := bt5.cell 0
  simp only [List.getElem?_toArray, List.getElem?_cons_zero, List.getElem?_cons_succ] at tc
  have hsame : ∀ k, k < wX.heap.size → k ≠ bt → (Value.slice At i ca).ownBlock ≠ some k → (w5.setCell ⟨bt, 0, none⟩ (.slice A5 (i + 1) c5)).heap[k]? = wX.heap[k]? := fun k hk hkb hko => by
    rw [Below.heap_setCell w5 ⟨bt, 0, none⟩ (.slice A5 (i + 1) c5) k hkb, hg5.block k (Nat.lt_of_lt_of_le hk hs4) (fun e => hko e.symm)]
    exact Below.block hXX k hk
  have hnb : ∀ g, (Value.slice A5 (i + 1) c5).ownBlock = some g → g ≠ bt := fun g hg e => by
    subst e
    exact blk_ne_row bt5 hown5 (by decide) hg.symm
  rw [← hfm] at hown5
  have HV5 : Hid (∀ g, (Value.slice A5 (i + 1) c5).ownBlock = some g → (Value.slice At i ca).ownBlock = some g ∨ (wX.heap.size ≤ g ∧ g < w5.heap.size)) := Lib.hid fun g hgv => by
    rcases hv5 with e | e
    · rw [e] at hgv; exact .inl hgv
    · rw [e] at hgv
      injection hgv with hgv
      subst hgv
      refine .inr ⟨?_, (hown5.lt _ e).2⟩
      have : (w3.alloc (.cells #[.string (bsS (mconT ci))] 9)).heap.size = w3.heap.size + 1 := by simp
      omega
  have HO5 := Lib.hid (own_same (w' := w5.setCell ⟨bt, 0, none⟩ (.slice A5 (i + 1) c5)) hown5 (fun g hgv => Below.heap_setCell w5 ⟨bt, 0, none⟩ (.slice A5 (i + 1) c5) g (hnb g hgv)))
  have HB5 := Lib.hid (bt5.set_ 0 (.slice A5 (i + 1) c5))
  have HX5 := Lib.hid (hX5.setCell (p := ⟨bt, 0, none⟩) (by show w0.heap.size ≤ bt; omega) (.slice A5 (i + 1) c5))
  have HSA := Lib.hid hsame
  clear hown5 hg5 bt5 hX5 hsame ho4 hnb hv5 hb ho
  go_wp2_with fail
  refine bodyPost_end (results_none rfl _ _ _) rfl ?_
  refine ⟨rfl, fun k => K k ∨ (wX.heap.size ≤ k ∧ k < w5.heap.size), fun k hk => .inl hk, ?_, ⟨⟨(.slice A5 (i + 1) c5), HB5.out, HO5.out, fun g hgv => ?_⟩, .inl hbt⟩, fun k hk1 hk2 => ?_⟩
  · refine HM.out.grow HX5.out (by rw [hsize_setCell]; exact HS5.out) (fun k hk hk2 => HSA.out k hk2 (fun e => hk (by rw [e]; exact hbt)) (fun e => hk (hg k e).1)) (fun k hk => by rw [hsize_setCell]; exact hk)
  · rcases HV5.out g hgv with e | e
    · exact ⟨.inl (hg g e).1, (hg g e).2⟩
    · exact ⟨.inr e, .inr (by omega)⟩
  · exact HSA.out k (by omega) (by omega) (fun e => by have := (hg k e).2; omega)
end Go.Proofs.YtkbpchdncljlbaaDoor
end
section
set_option linter.unusedVariables false
set_option linter.unusedSimpArgs false
namespace Go.Proofs.YtkbpchdncljlbaaDoor
open Go Go.RowKit Go.Proofs Go.Maps
set_option maxHeartbeats 400000
/-- What the texts of a run on words are. -/
def MTR (m : MultiD) (ws : List (List Int)) (n : Int) (L : List (List UInt8)) (k : Int) : Prop :=
  (multiOk m = false ∧ L = [] ∧ k = 1) ∨
  (multiOk m = true ∧ ¬ (inB n 0 599 = true ∧ (ws.length : Int) = m.tp ∧ ws.all (wordOk m) = true) ∧ L = [] ∧ k = 2) ∨
  (multiOk m = true ∧ (inB n 0 599 = true ∧ (ws.length : Int) = m.tp ∧ ws.all (wordOk m) = true) ∧ MTx m.rules (startM ws) n.toNat mconT L k)
theorem MTR.unique {m : MultiD} {ws : List (List Int)} {n : Int} {L L' : List (List UInt8)} {k k' : Int} (h : MTR m ws n L k) (h' : MTR m ws n L' k') : L = L' ∧ k = k' := by
  rcases h with ⟨a, rfl, rfl⟩ | ⟨a, b, rfl, rfl⟩ | ⟨a, b, h⟩ <;> rcases h' with ⟨a', rfl, rfl⟩ | ⟨a', b', rfl, rfl⟩ | ⟨a', b', h'⟩
  all_goals first | exact ⟨rfl, rfl⟩ | exact h.unique h' | exact absurd b b' | exact absurd b' b | (rw [a] at a'; cases a')
/-- The texts and the code of a run on words, in memory. -/
def MTOut (w0 : World) (m : MultiD) (ws : List (List Int)) (n : Int) (e : Ending) (w' : World) : Prop :=
  ∃ L k tv, e = .returned (.tuple #[tv, .int .i64 k]) ∧ MTR m ws n L k ∧ w'.ownsRow w0.heap.size 9 1 tv L.length (svB L)
set_option maxRecDepth 20000 in
set_option maxHeartbeats 4000000 in
theorem MultiTexts_c (m : MultiD) (mv wv : Value) (ws : List (List Int)) (vs : List Value) (n : Int) (w : World) (hM : Mult w mv m) (hW : Row w 1 wv ws.length vs) (hI : ∀ i, (h : i < ws.length) → ∃ u, vs[i]? = some u ∧ Ints w u ws[i] ∧ Flat u) (hTb : Tab w) :
    Calls Tryd.prog 9 #[mv, wv, .int .i64 n] w fun e w' => MTOut w m ws n e w' ∧ Ext w w' := by
  obtain ⟨rv, rfl, hR⟩ := id hM
  obtain ⟨A, cA, rfl, _, _⟩ := hR.form
  obtain ⟨B, cB, rfl, hB1, hB2, hvl⟩ := hW.form
  obtain ⟨g, hg⟩ : ∃ g, w.heap.size = g := ⟨_, rfl⟩
  obtain ⟨V, hV⟩ : ∃ V, V = w.alloc (.cells #[.int .i64 m.tp, .int .i64 m.sy, .int .i64 m.st, .slice A m.rules.length cA] 33) := ⟨_, rfl⟩
  have hX : Ext w V := by rw [hV]; exact Ext.alloc _ _
  have bM : Blk V g 33 #[.int .i64 m.tp, .int .i64 m.sy, .int .i64 m.st, .slice A m.rules.length cA] := by rw [hV]; exact Blk.new _ _ _ _ hg
  have m0 := bM.cell 0
  have m1 := bM.cell 1
  have m2 := bM.cell 2
  have m3 := bM.cell 3
  simp only [List.getElem?_toArray, List.getElem?_cons_zero, List.getElem?_cons_succ] at m0 m1 m2 m3
  have VM := ValidMulti_c (.agg #[.int .i64 m.tp, .int .i64 m.sy, .int .i64 m.st, .slice A m.rules.length cA]) m V (hM.ext hX)
  obtain ⟨vm, hvm⟩ : ∃ vm, multiOk m = vm := ⟨_, rfl⟩
  obtain ⟨bn, hbn⟩ : ∃ b, inB n 0 599 = b := ⟨_, rfl⟩
  have TC := fun w => textsCode_c vm n w
  rw [hbn] at TC
  rw [hvm] at VM
  obtain ⟨cd, hcd⟩ : ∃ k, codeT vm bn = k := ⟨_, rfl⟩
  rw [hcd] at TC
  have HVM := Lib.hid hvm
  have HBN := Lib.hid hbn
  have HCD := Lib.hid hcd
  clear hvm hbn hcd
  go_enter Tryd.func9, Tryd.ntmps9
  go_wp2_with fail
  try rw [← hV]
  try rw [hg]
  clear hV
  refine VM.mono ?_
  rintro e w1 ⟨rfl, hx1⟩
  have bM1 := bM.ext hx1
  have hX1 := hX.trans hx1
  clear m0 m1 m2 m3 VM
  go_wp2_with fail
  refine (TC w1).mono ?_
  rintro e _ ⟨rfl, rfl⟩
  by_cases h0 : cd = 0
  · obtain ⟨rfl, rfl⟩ : vm = true ∧ bn = true := by
      have := HCD.out
      rw [h0] at this
      cases vm <;> cases bn <;> simp [codeT] at this ⊢
    subst h0
    have m0 := bM1.cell 0
    have m1 := bM1.cell 1
    have m2 := bM1.cell 2
    have m3 := bM1.cell 3
    simp only [List.getElem?_toArray, List.getElem?_cons_zero, List.getElem?_cons_succ] at m0 m1 m2 m3
    have SM := StartMultiC_c m (.agg #[.int .i64 m.tp, .int .i64 m.sy, .int .i64 m.st, .slice A m.rules.length cA]) (.slice B ws.length cB) ws vs w1 (hM.ext hX1) (hW.ext hX1) (fun i hi => by
      obtain ⟨u, e, iu, fu⟩ := hI i hi
      exact ⟨u, e, iu.ext hX1, fu⟩)
    clear hI hW TC
    go_wp2_with fail
    refine SM.mono ?_
    rintro e w2 ⟨hS | hS | hS, hx2⟩
    · exact absurd hS.1 (by rw [HVM.out]; simp)
    · obtain ⟨_, hno, rfl⟩ := hS
      have HNO : Hid (MTR m ws n [] 2) := .inr (.inl ⟨HVM.out, fun h => hno h.2, rfl, rfl⟩)
      have HX := Lib.hid ((hX1.trans hx2).trans (Ext.alloc w2 (.cells #[.int .i64 0, .slice none 0 0] 50)))
      clear SM hno
      go_wp2_with fail
      refine bodyPost_ret (v := .tuple #[.slice none 0 0, .int .i64 2]) (by simp [results, Tryd.results9, go_sem]) rfl ⟨⟨[], 2, _, rfl, HNO.out, World.ownsRow_nil ..⟩, HX.out⟩
    · obtain ⟨_, hn, hwo, v, cl, rfl, hC⟩ := hS
      obtain ⟨⟨tp1, tp2⟩, ⟨sy1, sy2⟩, ⟨st1, st2⟩, _⟩ := multi_all HVM.out
      have hml : (ws.map startT).length = ws.length := by simp
      have hts := start_ok sy1 hwo
      have hsq : inB (startM ws).q 0 (m.st - 1) = true := inB_iff.2 ⟨by show (0 : Int) ≤ 0; omega, by show (0 : Int) ≤ m.st - 1; omega⟩
      have hsn : ((startM ws).tapes.length : Int) = m.tp := by show (((ws.map startT).length : Nat) : Int) = m.tp; rw [hml]; exact hn
      obtain ⟨gT, cap, cs, rfl, hAt⟩ := CpM.at (c := startM ws) hC hx2 (by show 0 < (ws.map startT).length; rw [hml]; omega)
      have hG := good_of_ok HVM.out hsq hsn hts
      have hroom := room_of_ok hts
      obtain ⟨bc, hbc⟩ : ∃ bc, w2.heap.size = bc := ⟨_, rfl⟩
      rw [hbc] at hAt
      obtain ⟨W2, hW2⟩ : ∃ W2, W2 = w2.alloc (.cells #[.int .i64 0, .slice (some ⟨gT, 0, none⟩) (startM ws).tapes.length cap] 50) := ⟨_, rfl⟩
      have hs2 : W2.heap.size = bc + 1 := by rw [hW2]; simp [hbc]
      have hXc : Ext w2 W2 := by rw [hW2]; exact Ext.alloc _ _
      have hAt2 : MAt w1 (fun k => k < w1.heap.size) W2 bc gT cap cs (startM ws) := by rw [hW2]; exact hAt
      obtain ⟨W3, hW3⟩ : ∃ W3, W3 = W2.alloc (.cells #[] 9) := ⟨_, rfl⟩
      have hs3 : W3.heap.size = bc + 1 + 1 := by rw [hW3]; simp [hs2]
      obtain ⟨W4, hW4⟩ : ∃ W4, W4 = W3.alloc (.cells #[.slice (some ⟨bc + 1, 0, none⟩) 0 0] 28) := ⟨_, rfl⟩
      have hs4 : W4.heap.size = bc + 1 + 1 + 1 := by rw [hW4]; simp [hs3]
      have hX3 : Ext W2 W3 := by rw [hW3]; exact Ext.alloc _ _
      have hX4 : Ext W3 W4 := by rw [hW4]; exact Ext.alloc _ _
      have bT4 : Blk W4 (bc + 1 + 1) 28 #[.slice (some ⟨bc + 1, 0, none⟩) 0 0] := by rw [hW4]; exact Blk.new _ _ _ _ hs3
      have hw12 := hx2.size
      have ho3 : W3.ownsRow w1.heap.size 9 1 (.slice (some ⟨bc + 1, 0, none⟩) 0 0) 0 [] := by
        rw [hW3, ← hs2]
        exact ownsRow_base (World.ownsRow_made (base := W2.heap.size) (e := 9) (size := 1) W2 #[] 0 (by simp) (by unfold maxLen; omega) (by simp)) (by omega)
      have ho4 := ownsRow_ext ho3 hX4
      have hAt4 := hAt2.more (K' := fun k => k < w1.heap.size ∨ (bc + 1 ≤ k ∧ k < W4.heap.size)) (hX3.trans hX4) (fun k hk => by
        rcases hk with h | h
        · exact .inl h
        · exact .inr ⟨by rw [hs2]; exact h.1, h.2⟩)
      obtain ⟨N, hN⟩ : ∃ N : Nat, n = (N : Int) := ⟨n.toNat, by have := (inB_iff.1 HBN.out).1; omega⟩
      have hN2 : N ≤ 599 := by have := (inB_iff.1 HBN.out).2; omega
      have HNT : Hid (n.toNat = N) := by unfold Hid; rw [hN]; simp
      have HCND : Hid (inB n 0 599 = true ∧ (ws.length : Int) = m.tp ∧ ws.all (wordOk m) = true) := ⟨HBN.out, hn, hwo⟩
      have RM := runMultiT_c w1 W4 _ m (.agg #[.int .i64 m.tp, .int .i64 m.sy, .int .i64 m.st, .slice A m.rules.length cA]) (startM ws) bc gT cap N cs #[.pointer (some ⟨bc + 1 + 1, 0, none⟩)] (fun hi => TxI m.rules (startM ws) w1.heap.size (bc + 1 + 1) W4.heap.size hi) (hM.ext hX1) HVM.out hG hroom hAt4 (by omega)
        (fun wA K' hxA hKK _ => ⟨⟨_, bT4.ext hxA, ownsRow_ext ho4 hxA, fun q hq => by
          simp only [Value.ownBlock, Option.some.injEq] at hq
          subst hq
          exact ⟨hKK _ (.inr ⟨by omega, by omega⟩), .inl (by omega)⟩⟩, hKK _ (.inr ⟨by omega, by omega⟩)⟩)
        (fun _ _ _ _ _ h hk => h.kp hk)
        (fun hi hlh => visT_c N (by omega) m (startM ws) w1 bc gT cap W4.heap.size hi w1.heap.size (bc + 1 + 1) HVM.out hsq hsn hts (hTb.ext hX1) (Nat.le_refl _) (by omega) (by omega) hlh)
      have bM2 := bM1.ext (hx2.trans hXc)
      have m0 := (bM1.ext hx2).cell 0
      have m1 := (bM1.ext hx2).cell 1
      have m2 := (bM1.ext hx2).cell 2
      have m3 := (bM1.ext hx2).cell 3
      simp only [List.getElem?_toArray, List.getElem?_cons_zero, List.getElem?_cons_succ] at m0 m1 m2 m3
      have HB1 := Lib.hid (bM1.ext (hx2.trans hXc))
      have hgl : g < w2.heap.size := (bM1.ext hx2).lt
      have hgl2 : g < bc := by rw [← hbc]; exact hgl
      have hgl3 : g < bc + 1 := by omega
      have hgl4 : g < bc + 1 + 1 := by omega
      subst hN
      rw [hW3, hW2] at hW4
      clear hC hAt hAt2 hAt4 hG hroom SM hs2 hs3 hs4 hml hsq hsn hts bT4 ho3 ho4 hX3 hX4 hXc hW2 hW3 bM2
      go_wp2_with fail
      try rw [← hW4]
      try rw [hbc]
      clear hW4 m0 m1 m2 m3
      refine RM.mono ?_
      rintro e w3 ⟨hi, ⟨i, K', cs', hE, rfl, hA3, hI3⟩ | ⟨i, K', hF, rfl, hx3, _⟩⟩
      · obtain ⟨⟨tv, bt3, ho3, _⟩, _⟩ := hI3
        obtain ⟨At, ct, rfl, _, _, _⟩ := (ownsRow_row ho3).form
        have tc := bt3.cell 0
        simp only [List.getElem?_toArray, List.getElem?_cons_zero, List.getElem?_cons_succ] at tc
        have HO := Lib.hid (ownsRow_base ho3 hX1.size)
        have HR : Hid (MTR m ws (N : Int) (firstM m.rules (startM ws) (i + 1)) 0) := .inr (.inr ⟨HVM.out, HCND.out, .inl ⟨i, by rw [HNT.out]; exact hE, rfl, rfl⟩⟩)
        have HX := Lib.hid (hX1.trans hA3.ext0)
        have HL : Hid ((firstM m.rules (startM ws) (i + 1)).length = i + 1) := by unfold Hid; simp [firstM]
        generalize (lookM m.rules (cfgM m.rules (startM ws) i)).isNone = ib at *
        clear hE hA3 ho3 bt3 RM
        go_wp2_with fail
        exact bodyPost_ret (v := .tuple #[.slice At (i + 1) ct, .int .i64 0]) (by simp [results, Tryd.results9, go_sem]) rfl ⟨⟨_, 0, _, rfl, HR.out, by rw [HL.out]; exact HO.out⟩, HX.out⟩
      · have HR : Hid (MTR m ws (N : Int) [] 5) := .inr (.inr ⟨HVM.out, HCND.out, .inr ⟨i, by rw [HNT.out]; exact hF, rfl, rfl⟩⟩)
        have HX := Lib.hid (hX1.trans hx3)
        clear hF RM
        go_wp2_with fail
        exact bodyPost_ret (v := .tuple #[.slice none 0 0, .int .i64 5]) (by simp [results, Tryd.results9, go_sem]) rfl ⟨⟨[], 5, _, rfl, HR.out, World.ownsRow_nil ..⟩, HX.out⟩
  · have hb : (cd != 0) = true := by simp [h0]
    have HR : Hid (MTR m ws n [] cd) := by
      have h1 := HCD.out
      have h2 := HVM.out
      have h3 := HBN.out
      rw [← h1] at h0 ⊢
      cases vm with
      | false => exact .inl ⟨h2, rfl, rfl⟩
      | true =>
        cases bn with
        | true => exact absurd rfl h0
        | false => exact .inr (.inl ⟨h2, fun h => (by rw [h3] at h; cases h.1), rfl, rfl⟩)
    have HX := Lib.hid hX1
    clear hI hW TC h0
    go_wp2_with fail
    refine bodyPost_ret (v := .tuple #[.slice none 0 0, .int .i64 cd]) (by simp [results, Tryd.results9, go_sem]) rfl ⟨⟨[], cd, _, rfl, HR.out, World.ownsRow_nil ..⟩, HX.out⟩
end Go.Proofs.YtkbpchdncljlbaaDoor
end
