/- Contract of the program's run of a machine with several tapes, for whatever visitor.
Contracts of the program's copies of a tape and of a configuration with several tapes.
Contracts of the program's judgement of tapes. -/
import Derived.Test.YtkbpchdncljlbaaGreatDoorV29
import Derived.Test.YtkbpchdncljlbaaGreatDoorV12
import Derived.Test.YtkbpchdncljlbaaGreatDoorV08
section
set_option linter.unusedVariables false
set_option linter.unusedSimpArgs false
namespace Go.Proofs.YtkbpchdncljlbaaGreatDoor
open Go Go.RowKit Go.Proofs Go.Maps
set_option maxHeartbeats 400000
/-- Numbers of a configuration that are small enough for a table's key, on as many tapes as the machine has. -/
structure GoodM (m : MultiD) (c : MConfD) : Prop where
  q : smallZ c.q
  n : (c.tapes.length : Int) = m.tp
  sym : ∀ t ∈ c.tapes, (∀ z ∈ t.l, smallZ z) ∧ ∀ z ∈ t.r, smallZ z
theorem smallZ_zero : smallZ 0 := by unfold smallZ; omega
theorem getD_small {xs : List Int} (h : ∀ z ∈ xs, smallZ z) (i : Nat) : smallZ (xs.getD i 0) := by
  by_cases hi : i < xs.length
  · rw [List.getD_eq_getElem?_getD, List.getElem?_eq_getElem hi]
    exact h _ (List.getElem_mem hi)
  · rw [List.getD_eq_getElem?_getD, List.getElem?_eq_none (by omega)]
    exact smallZ_zero
theorem trim_small {xs : List Int} (h : ∀ z ∈ xs, smallZ z) : ∀ z ∈ trim xs, smallZ z := fun z hz => h z (List.mem_of_mem_take hz)
theorem drop_small {xs : List Int} (h : ∀ z ∈ xs, smallZ z) (k : Nat) : ∀ z ∈ xs.drop k, smallZ z := fun z hz => h z (List.mem_of_mem_drop hz)
theorem cons_small {x : Int} {xs : List Int} (hx : smallZ x) (h : ∀ z ∈ xs, smallZ z) : ∀ z ∈ x :: xs, smallZ z := fun z hz => by
  rcases List.mem_cons.1 hz with e | e
  · rw [e]; exact hx
  · exact h z e
theorem writeT_small {t : TapeD} {s mv : Int} (h : (∀ z ∈ t.l, smallZ z) ∧ ∀ z ∈ t.r, smallZ z) (hs : smallZ s) : (∀ z ∈ (writeT t s mv).l, smallZ z) ∧ ∀ z ∈ (writeT t s mv).r, smallZ z := by
  obtain ⟨hl, hr⟩ := h
  have hw : ∀ z ∈ writeR t s, smallZ z := cons_small hs (drop_small hr 1)
  unfold writeT
  split
  · exact ⟨trim_small (cons_small hs hl), trim_small (drop_small hr 1)⟩
  · split
    · exact ⟨trim_small (drop_small hl 1), trim_small (cons_small (getD_small hl 0) hw)⟩
    · exact ⟨trim_small hl, trim_small hw⟩
theorem GoodM.apply {m : MultiD} {c : MConfD} {r : MRuleD} (h : GoodM m c) (hr : mruleOk m r = true) (hm : multiOk m = true) : GoodM m (applyM c r) := by
  obtain ⟨_, ⟨s1, s2⟩, ⟨q1, q2⟩, _, _⟩ := multi_all hm
  obtain ⟨_, h2, _, _, _, _, h7, _⟩ := mrule_all hr
  refine ⟨by show smallZ r.nx; unfold smallZ; omega, by show ((writeAll c.tapes r.wr r.mv).length : Int) = m.tp; rw [writeAll_length]; exact h.n, fun t ht => ?_⟩
  obtain ⟨k, hk, rfl⟩ := List.getElem_of_mem ht
  have hk' : k < c.tapes.length := by rw [← writeAll_length c.tapes r.wr r.mv]; exact hk
  have e : (applyM c r).tapes[k] = writeT c.tapes[k] (r.wr.getD k 0) (r.mv.getD k 0) := writeAll_get c.tapes r.wr r.mv k hk'
  rw [e]
  exact writeT_small (h.sym _ (List.getElem_mem hk')) (getD_small (fun z hz => by have := h7 z hz; unfold smallZ; omega) k)
theorem GoodM.cfg {m : MultiD} {c : MConfD} (h : GoodM m c) (hm : multiOk m = true) : ∀ i, GoodM m (cfgM m.rules c i)
  | 0 => h
  | i + 1 => by
    have ih := GoodM.cfg h hm i
    unfold cfgM stepM
    split
    · exact ih
    · rename_i j hj
      have hlt : j < m.rules.length := findM_lt hj
      have e : m.rules.getD j mr0 = m.rules[j] := by rw [List.getD_eq_getElem?_getD, List.getElem?_eq_getElem hlt]; rfl
      rw [e]
      exact ih.apply (multi_rule hm hlt) hm
theorem GoodM.key {m : MultiD} {c : MConfD} (h : GoodM m c) : ∃ l, keyOf Tryz.prog 82 (rdE (readM c)) = some l := by
  have hh : ∀ z ∈ c.tapes.map headT, smallZ z := fun z hz => by
    obtain ⟨t, ht, rfl⟩ := List.mem_map.1 hz
    exact getD_small (h.sym t ht).2 0
  exact rdKey _ h.q (getD_small hh 0) (getD_small hh 1) (getD_small hh 2)
/-- What a visitor must do: it may write its own blocks, which are among K or become so; neither the configuration nor the blocks from lo to hi. -/
def VisM (fid : FuncId) (lb : Array Value) (rs : List MRuleD) (c : MConfD) (w0 : World) (bc gT cap lo hi : Nat) (I : Nat → (Nat → Prop) → World → Prop) : Prop :=
  ∀ (i : Nat) (K : Nat → Prop) (wX : World) (cs : Array Value), MRuns rs c i → MAt w0 K wX bc gT cap cs (cfgM rs c i) → I i K wX → hi ≤ wX.heap.size →
    Calls Tryz.prog fid (#[Value.agg #[.int .i64 (cfgM rs c i).q, .slice (some ⟨gT, 0, none⟩) c.tapes.length cap]] ++ lb) wX fun e w' =>
      e = .returned (.tuple #[]) ∧ ∃ K' : Nat → Prop, (∀ k, K k → K' k) ∧ MAt w0 K' w' bc gT cap cs (cfgM rs c i) ∧ I (i + 1) K' w' ∧ ∀ k, lo ≤ k → k < hi → w'.heap[k]? = wX.heap[k]?
/-- What a run leaves. -/
def RunOutM (rs : List MRuleD) (c : MConfD) (N : Nat) (w0 : World) (bc gT cap : Nat) (I : Nat → (Nat → Prop) → World → Prop) (e : Ending) (w' : World) : Prop :=
  (∃ (i : Nat) (K : Nat → Prop) (cs : Array Value), MEnd rs c N i ∧ e = .returned (.tuple #[.int .i64 (i : Int), .bool (lookM rs (cfgM rs c i)).isNone, .int .i64 0]) ∧ MAt w0 K w' bc gT cap cs (cfgM rs c i) ∧ I (i + 1) K w') ∨
  (∃ (i : Nat) (K : Nat → Prop), MFull rs c N i ∧ e = .returned (.tuple #[.int .i64 0, .bool false, .int .i64 5]) ∧ Ext w0 w' ∧ I i K w')
theorem MAt.tapes {w0 w : World} {K : Nat → Prop} {bc gT cap : Nat} {cs : Array Value} {c : MConfD} (h : MAt w0 K w bc gT cap cs c) : Tapes w (.slice (some ⟨gT, 0, none⟩) c.tapes.length cap) c.tapes := by
  refine ⟨_, _, rfl, h.cap1, h.cap2, fun _ => ⟨gT, 0, rfl, fun i hi => ?_⟩⟩
  obtain ⟨lv, rv, e1, e2, s1, s2⟩ := h.side i hi
  exact ⟨lv, rv, by rw [Nat.zero_add]; exact (h.tblk.cell _).trans e1, by rw [Nat.zero_add]; exact (h.tblk.cell _).trans e2, s1.ints, s2.ints⟩
/-- Blocks that have been made since may be kept as well. -/
theorem MAt.more {w0 w w' : World} {K K' : Nat → Prop} {bc gT cap : Nat} {cs : Array Value} {c : MConfD} (h : MAt w0 K w bc gT cap cs c) (he : Ext w w') (hK : ∀ k, K' k → K k ∨ (w.heap.size ≤ k ∧ k < w'.heap.size)) : MAt w0 K' w' bc gT cap cs c := by
  have h1 := h.ext he
  have hb := h.blk.lt
  have ht := h.tblk.lt
  have hs := he.size
  refine ⟨h1.ext0, fun k hk => ?_, h.blo, fun hk => ?_, h.tlo, fun hk => ?_, h.cap1, h.cap2, h1.blk, h1.tblk, h1.side, fun j v g hjn hj hg hk => ?_, h1.lt, h.ap⟩
  · rcases hK k hk with e | e
    · have := h.kb k e; omega
    · exact e.2
  · rcases hK bc hk with e | e
    · exact h.bK e
    · omega
  · rcases hK gT hk with e | e
    · exact h.tK e
    · omega
  · have := (h.lt j v g hjn hj hg).2
    rcases hK g hk with e | e
    · exact h.mid j v g hjn hj hg e
    · omega
/-- How far the program's run of a machine with several tapes has come. -/
structure MuLoop (w0 wA : World) (lo : Nat) (m : MultiD) (c : MConfD) (bc gT cap gB bm : Nat) (A : Option Addr) (cA : Nat) (I : Nat → (Nat → Prop) → World → Prop) (i : Nat) (K : Nat → Prop) (cs : Array Value) (w : World) : Prop where
  at_ : MAt w0 K w bc gT cap cs (cfgM m.rules c i)
  runs : MRuns m.rules c i
  inv : I i K w
  own : ∀ k, lo ≤ k → k < wA.heap.size → K k
  blk : Blk w gB 26 #[.int .i64 m.tp, .int .i64 m.sy, .int .i64 m.st, .slice A m.rules.length cA]
  tbl : Tbl Tryz.prog 82 2 rdE w bm m.rules.length (tblM m.rules m.rules.length)
theorem Tbl.sameB {P : Program} {k e : TypeId} {α : Type} {enc : α → Value} {w w' : World} {b n : Nat} {T : α → Option Int} (h : Tbl P k e enc w b n T) (hs : w'.heap[b]? = w.heap[b]?) : Tbl P k e enc w' b n T := by
  obtain ⟨D, ⟨es, clock, hb, hr⟩, h2⟩ := h
  exact ⟨D, ⟨es, clock, hs.trans hb, hr⟩, h2⟩
set_option maxRecDepth 20000 in
set_option maxHeartbeats 4000000 in
theorem runMulti_c (w0 w : World) (K : Nat → Prop) (m : MultiD) (mv : Value) (c : MConfD) (bc gT cap N : Nat) (cs : Array Value) (lb : Array Value) (I : Nat → Nat → (Nat → Prop) → World → Prop)
    (hM : Mult w0 mv m) (hm : multiOk m = true) (hG : GoodM m c) (hroom : roomM c = true) (h : MAt w0 K w bc gT cap cs c) (hN : N ≤ 1000000)
    (h0 : ∀ wA K', Ext w wA → (∀ k, K k → K' k) → (∀ k, K' k → K k ∨ (w.heap.size ≤ k ∧ k < wA.heap.size)) → I wA.heap.size 0 K' wA)
    (hI : ∀ hi i K w1 w2, I hi i K w1 → Kp K w1 w2 → I hi i K w2)
    (hV : ∀ hi, VisM 23 lb m.rules c w0 bc gT cap w.heap.size hi (I hi)) :
    Calls Tryz.prog 22 #[mv, .pointer (some ⟨bc, 0, none⟩), .int .i64 (N : Int), .func (.func 23) #[] lb] w fun e w' => ∃ hi, RunOutM m.rules c N w0 bc gT cap (I hi) e w' := by
  obtain ⟨rv, rfl, hR⟩ := hM
  obtain ⟨A, cA, rfl, _, _⟩ := hR.form
  obtain ⟨gB, hgB⟩ : ∃ g, w.heap.size = g := ⟨_, rfl⟩
  obtain ⟨V, hVV⟩ : ∃ V, V = w.alloc (.cells #[.int .i64 m.tp, .int .i64 m.sy, .int .i64 m.st, .slice A m.rules.length cA] 26) := ⟨_, rfl⟩
  have hXV : Ext w V := by rw [hVV]; exact Ext.alloc _ _
  have bB : Blk V gB 26 #[.int .i64 m.tp, .int .i64 m.sy, .int .i64 m.st, .slice A m.rules.length cA] := by rw [hVV]; exact Blk.new _ _ _ _ hgB
  have b0 := bB.cell 0
  have b1 := bB.cell 1
  have b2 := bB.cell 2
  have b3 := bB.cell 3
  simp only [List.getElem?_toArray, List.getElem?_cons_zero, List.getElem?_cons_succ] at b0 b1 b2 b3
  have TM := multiRules_c (.agg #[.int .i64 m.tp, .int .i64 m.sy, .int .i64 m.st, .slice A m.rules.length cA]) m V ⟨_, rfl, hR.ext (h.ext0.trans hXV)⟩ hm
  go_enter Tryz.func22, Tryz.ntmps22
  go_wp2_with fail
  try rw [← hVV]
  try rw [hgB]
  clear hVV b0 b1 b2 b3
  refine TM.mono ?_
  rintro e wA ⟨bm, rfl, hT, hbm, hxA⟩
  have hXA := hXV.trans hxA
  have st0 : MuLoop w0 wA w.heap.size m c bc gT cap gB bm A cA (I wA.heap.size) 0 (fun k => K k ∨ (w.heap.size ≤ k ∧ k < wA.heap.size)) cs wA :=
    ⟨h.more hXA (fun k hk => hk), MRuns.zero hroom, h0 wA _ hXA (fun k hk => .inl hk) (fun k hk => hk), fun k h1 h2 => .inr ⟨h1, h2⟩, bB.ext hxA, hT⟩
  have hgV : V.heap.size ≤ wA.heap.size := hxA.size
  have hBlt : gB < wA.heap.size := (bB.ext hxA).lt
  have hbmlt := hT.lt
  have hgbm : w.heap.size ≤ bm := Nat.le_trans hXV.size hbm
  obtain ⟨hi, hhi⟩ : ∃ k, wA.heap.size = k := ⟨_, rfl⟩
  have HV := hV hi
  have HI := hI hi
  have hMR := hR
  have HM := Lib.hid hm
  rw [hhi] at st0 hBlt hbmlt
  clear h h0 hV hI hT bB TM hm hgV hroom hXV hR
  go_wp2_with fail
  go_loopw [12] (fun u wr => ∃ (i : Nat) (K : Nat → Prop) (cs : Array Value), i ≤ N ∧ u = .int .i64 (i : Int) ∧ MuLoop w0 wA w.heap.size m c bc gT cap gB bm A cA (I hi) i K cs wr) (fun u _ => N + 1 - (intOf u).toNat)
  case atStart => exact ⟨0, _, _, Nat.zero_le _, rfl, st0⟩
  case round =>
    clear st0
    obtain ⟨i, K, cs, hiN, rfl, st⟩ := hrel
    have VC := HV i K wr cs st.runs st.at_ st.inv (by have := st.at_.kb (hi - 1) (st.own (hi - 1) (by omega) (by omega)); omega)
    have b0 := st.at_.blk.cell 0
    have b1 := st.at_.blk.cell 1
    simp only [List.getElem?_toArray, List.getElem?_cons_zero, List.getElem?_cons_succ] at b0 b1
    rw [cfgM_tapes] at b1
    go_wp2_with fail
    refine VC.mono ?_
    rintro e w1 ⟨rfl, K1, hKK, at1, inv1, hk1⟩
    have bB1 : Blk w1 gB 26 #[.int .i64 m.tp, .int .i64 m.sy, .int .i64 m.st, .slice A m.rules.length cA] := (hk1 gB (by omega) hBlt).trans st.blk
    have tb1 := st.tbl.sameB (hk1 bm hgbm hbmlt)
    have own1 : ∀ k, w.heap.size ≤ k → k < wA.heap.size → K1 k := fun k a b => hKK k (st.own k a b)
    have runs := st.runs
    have hgd := hG.cfg HM.out i
    have hrm := runs.room i (Nat.le_refl _)
    have hsucc : cfgM m.rules c (i + 1) = stepM m.rules (cfgM m.rules c i) := rfl
    have htp := (multi_all HM.out).1
    clear st VC b0 b1
    generalize hci : cfgM m.rules c i = ci at *
    have HCI := Lib.hid hci
    have c0 := at1.blk.cell 0
    have c1 := at1.blk.cell 1
    simp only [List.getElem?_toArray, List.getElem?_cons_zero, List.getElem?_cons_succ] at c0 c1
    have RD := read_c bc ci _ w1 c0 c1 at1.tapes (by have := hgd.n; omega)
    clear hci c0 c1
    go_wp2_with fail
    refine RD.mono ?_
    rintro e w2 ⟨rfl, hx2⟩
    have at2 := at1.ext hx2
    have bB2 := bB1.ext hx2
    have tb2 := tb1.ext hx2
    have inv2 := HI (i + 1) K1 w1 w2 inv1 (fun k hk => Below.block hx2 k (at1.kb k hk))
    have lk := tb2.lookup2 rdTy (readM ci) hgd.key
    have htb : tblM m.rules m.rules.length (readM ci) = Option.map (fun i : Nat => (i : Int)) (lookM m.rules ci) := rfl
    rw [htb] at lk
    have bb3 := bB2.cell 3
    simp only [List.getElem?_toArray, List.getElem?_cons_zero, List.getElem?_cons_succ] at bb3
    simp only [rdE] at lk ⊢
    cases hlk : lookM m.rules ci with
    | none =>
      rw [hlk] at lk
      simp only [Option.map_none, Option.getD_none, Option.isSome_none] at lk
      have HE : Hid (MEnd m.rules c N i) := ⟨runs, hiN, .inr (by rw [HCI.out]; exact hlk)⟩
      have HAT := Lib.hid at2
      have HIN := Lib.hid inv2
      have HL := Lib.hid hlk
      clear runs hsucc at2 at1 inv1 inv2 hlk
      go_wp2_with fail
      refine bodyPost_ret (v := .tuple #[.int .i64 (i : Int), .bool true, .int .i64 0]) (by simp [results, Tryz.results22, go_sem]) rfl ⟨hi, .inl ⟨i, K1, cs, HE.out, ?_, by rw [HCI.out]; exact HAT.out, HIN.out⟩⟩
      rw [HCI.out, HL.out]
      rfl
    | some j =>
      rw [hlk] at lk
      simp only [Option.map_some, Option.getD_some, Option.isSome_some] at lk
      have HNO : Hid (lookM m.rules (cfgM m.rules c i) ≠ none) := by unfold Hid; rw [HCI.out, hlk]; simp
      by_cases hiN' : i = N
      · have HE : Hid (MEnd m.rules c N i) := ⟨runs, hiN, .inl hiN'⟩
        have HAT := Lib.hid at2
        have HIN := Lib.hid inv2
        have HL := Lib.hid hlk
        have bi : ((i : Int) == (N : Int)) = true := by simp [hiN']
        have bi' : (i == N) = true := by simp [hiN']
        clear runs hsucc at2 at1 inv1 inv2 hlk hiN'
        go_wp2_with fail
        refine bodyPost_ret (v := .tuple #[.int .i64 (i : Int), .bool false, .int .i64 0]) (by simp [results, Tryz.results22, go_sem]) rfl ⟨hi, .inl ⟨i, K1, cs, HE.out, ?_, by rw [HCI.out]; exact HAT.out, HIN.out⟩⟩
        rw [HCI.out, HL.out]
        rfl
      · have bi : ((i : Int) == (N : Int)) = false := beq_false_of_ne (by omega)
        have bi' : (i == N) = false := beq_false_of_ne hiN'
        have hjl : j < m.rules.length := findM_lt hlk
        obtain ⟨b, off, vr, vw, vm, hA, c0, c1, c2, c3, c4, j1, j2, j3⟩ := hMR.at hjl
        have hgdj : m.rules.getD j mr0 = m.rules[j] := by rw [List.getD_eq_getElem?_getD, List.getElem?_eq_getElem hjl]; rfl
        have hro := multi_rule HM.out hjl
        have hstep : stepM m.rules ci = applyM ci m.rules[j] := by unfold stepM; rw [hlk]; simp only; rw [hgdj]
        rw [hstep] at hsucc
        have hx0 := at2.ext0
        subst hA
        have d0 := hx0.cell c0
        have d1 := hx0.cell c1
        have d2 := hx0.cell c2
        have d3 := hx0.cell c3
        have d4 := hx0.cell c4
        obtain ⟨r, hrk⟩ : ∃ r, m.rules[j] = r := ⟨_, rfl⟩
        rw [hrk] at d0 d4 j1 j2 j3 hro hsucc
        obtain ⟨_, _, _, hw3, hv3, _⟩ := mrule_all hro
        obtain ⟨A1, k1, rfl, _, _⟩ := j1.form
        obtain ⟨A2, k2, rfl, _, _⟩ := j2.form
        obtain ⟨A3, k3, rfl, _, _⟩ := j3.form
        have hn1 := hgd.n
        have AP := apply_c w0 w2 K1 bc gT cap cs ci r _ _ _ at2 j1 j2 j3 (by omega) (by omega) (by omega) (fun q hq => by
          have := hrm
          unfold roomM at this
          have := List.all_eq_true.1 this _ (List.getElem_mem hq)
          simp only [roomT, Bool.and_eq_true, decide_eq_true_eq] at this
          omega)
        have HSU := Lib.hid hsucc
        have HRN := Lib.hid runs
        have HAT := Lib.hid at2
        have HIN := Lib.hid inv2
        have HJ := Lib.hid hjl
        have hjl2 : j < m.rules.length := hjl
        have HLT := Lib.hid (show i < N by omega)
        clear runs hsucc at2 at1 inv1 inv2 hlk hiN' hstep hgdj hrk c0 c1 c2 c3 c4 hro hw3 hv3 hn1 hrm hgd
        go_wp2_with fail
        refine AP.mono ?_
        rintro e w3 ⟨rfl, cs3, at3, kp3⟩
        have bB3 : Blk w3 gB 26 #[.int .i64 m.tp, .int .i64 m.sy, .int .i64 m.st, .slice (some ⟨b, off, none⟩) m.rules.length cA] := (kp3 gB (own1 gB (by omega) (by omega))).trans bB2
        have tb3 := tb2.sameB (kp3 bm (own1 bm hgbm (by omega)))
        have inv3 := HI (i + 1) K1 w2 w3 HIN.out kp3
        have HA3 : Hid (MAt w0 K1 w3 bc gT cap cs3 (cfgM m.rules c (i + 1))) := by unfold Hid; rw [HSU.out]; exact at3
        have HRM : Hid (roomM (cfgM m.rules c (i + 1)) = roomM (applyM ci r)) := by unfold Hid; rw [HSU.out]
        have HI3 := Lib.hid inv3
        have HE3 := Lib.hid at3.ext0
        have hi1 : i < N := HLT.out
        clear at3 kp3 inv3 AP tb2 bB2 HAT HIN lk bb3
        cases hrr : roomM (applyM ci r) with
        | true =>
          have HRR : Hid (roomM (cfgM m.rules c (i + 1)) = true) := by unfold Hid; rw [HRM.out]; exact hrr
          clear hrr
          go_wp2_with fail
          go_roundw
          case rel => exact ⟨i + 1, K1, cs3, by omega, by go_num, ⟨HA3.out, HRN.out.succ HNO.out HRR.out, HI3.out, own1, bB3, tb3⟩⟩
          case measure => simp [intOf]; omega
        | false =>
          have HRR : Hid (roomM (cfgM m.rules c (i + 1)) = false) := by unfold Hid; rw [HRM.out]; exact hrr
          clear hrr
          have HF : Hid (MFull m.rules c N (i + 1)) := ⟨by omega, HRN.out, hi1, HNO.out, HRR.out⟩
          go_wp2_with fail
          exact bodyPost_ret (v := .tuple #[.int .i64 0, .bool false, .int .i64 5]) (by simp [results, Tryz.results22, go_sem]) rfl ⟨hi, .inr ⟨i + 1, K1, HF.out, rfl, HE3.out, HI3.out⟩⟩
end Go.Proofs.YtkbpchdncljlbaaGreatDoor
end
section
set_option linter.unusedVariables false
set_option linter.unusedSimpArgs false
namespace Go.Proofs.YtkbpchdncljlbaaGreatDoor
open Go Go.RowKit Go.Proofs Go.Maps
set_option maxHeartbeats 400000
set_option maxRecDepth 20000 in
set_option maxHeartbeats 1000000 in
theorem copyTape_c (lv rv : Value) (t : TapeD) (w : World) (hl : Ints w lv t.l) (hr : Ints w rv t.r) (fl : Flat lv) (fr : Flat rv) (n1 : t.l.length ≤ 1000) (n2 : t.r.length ≤ 1000) :
    Calls Tryz.prog 55 #[.agg #[lv, rv]] w fun e w' => ∃ lv' rv', e = .returned (.agg #[lv', rv']) ∧ OwnInts w.heap.size w' lv' t.l ∧ OwnInts w.heap.size w' rv' t.r ∧ (∀ g, lv'.ownBlock = some g → rv'.ownBlock ≠ some g) ∧ Ext w w' := by
  obtain ⟨A1, k1, rfl, _, _⟩ := hl.form
  obtain ⟨A2, k2, rfl, _, _⟩ := hr.form
  obtain ⟨V, hV⟩ : ∃ V, V = (w.alloc (.cells #[.slice A1 t.l.length k1, .slice A2 t.r.length k2] 50)).alloc (.cells #[.slice none 0 0, .slice none 0 0] 50) := ⟨_, rfl⟩
  have hX : Ext w V := by rw [hV]; exact (Ext.alloc _ _).trans (Ext.alloc _ _)
  obtain ⟨g, hg⟩ : ∃ g, w.heap.size = g := ⟨_, rfl⟩
  have bB : Blk V g 50 #[.slice A1 t.l.length k1, .slice A2 t.r.length k2] := by rw [hV]; exact (Blk.new _ _ _ _ hg).alloc _
  have bO : Blk V (g + 1) 50 #[.slice none 0 0, .slice none 0 0] := by rw [hV]; exact Blk.new _ _ _ _ (by simp [hg])
  have b0 := bB.drew.cell 0
  have b1 := bB.drew.cell 1
  simp only [List.getElem?_toArray, List.getElem?_cons_zero, List.getElem?_cons_succ] at b0 b1
  have L := CloneF_c _ t.l V.drew (hl.ext (hX.trans (Ext.drew _))) fl (by omega)
  have R := fun W' (h : Ext V.drew W') => CloneF_c _ t.r W' (hr.ext ((hX.trans (Ext.drew _)).trans h)) fr (by omega)
  have hVs : w.heap.size ≤ V.drew.heap.size := hX.size
  have gO : g + 1 < V.heap.size := bO.lt
  go_enter Tryz.func55, Tryz.ntmps55
  go_wp2_with fail
  try rw [← hV]
  try rw [hg]
  clear hV
  refine wp_region_ord 7 [0, 1, 3, 4, 2, 5, 6] (by kernel_rfl) (by kernel_rfl) (fun _ _ _ _ _ h => h) ?_
  simp only [pickO, List.drop_succ_cons, List.drop_zero, List.head?_cons, Option.elim_some]
  repeat (refine wpOrd_read (v := ?_) (by rfl) (Or.inl ⟨by rfl, fun x hx => ?_⟩) ?_; rotate_left; (· have a0 := hx.cell b0; have a1 := hx.cell b1; go_simp; try with_reducible rfl); simp only [Act.put, List.setIfInBounds_toArray, List.set_cons_zero, List.set_cons_succ])
  refine wpOrd_stir (by rfl) (fun K hK => ?_)
  go_simp
  go_at_call 85
  refine L.mono ?_
  rintro e w3 ⟨u, rfl, ho3, _, hx3⟩
  refine hK _ _ hx3 ?_
  clear hK K
  try simp only [Act.put, List.setIfInBounds_toArray, List.set_cons_zero, List.set_cons_succ]
  refine wpOrd_stir (by rfl) (fun K hK => ?_)
  go_simp
  go_at_call 85
  refine (R w3 hx3).mono ?_
  rintro e w4 ⟨v, rfl, ho4, _, hx4⟩
  obtain ⟨A3, c3, rfl, _, _⟩ := id ho3.ints.form
  obtain ⟨A4, c4, rfl, _, _⟩ := id ho4.ints.form
  refine hK _ _ hx4 ?_
  clear hK K
  try simp only [Act.put, List.setIfInBounds_toArray, List.set_cons_zero, List.set_cons_succ]
  repeat (refine wpOrd_read (v := ?_) (by rfl) (Or.inl ⟨by rfl, fun x hx => ?_⟩) ?_; rotate_left; (· go_simp; try with_reducible rfl); simp only [Act.put, List.setIfInBounds_toArray, List.set_cons_zero, List.set_cons_succ])
  refine wpOrd_done ?_
  try simp only [List.drop_succ_cons, List.drop_zero]
  have hX4 : Ext V w4 := ((Ext.drew V).trans hx3).trans hx4
  have bO4 := bO.ext hX4
  have hap : ∀ g, (Value.slice A3 t.l.length c3).ownBlock = some g → (Value.slice A4 t.r.length c4).ownBlock ≠ some g := fun q hq hq' => by
    have := (ho3.lt q hq).2
    have := (ho4.lt q hq').1
    omega
  have HU : Hid (OwnInts g w4 (.slice A3 t.l.length c3) t.l) := by
    have := ownsRow_base (ho3.ext hx4) hVs
    rw [hg] at this
    exact this
  have HV : Hid (OwnInts g w4 (.slice A4 t.r.length c4) t.r) := by
    have := ownsRow_base ho4 (Nat.le_trans hVs hx3.size)
    rw [hg] at this
    exact this
  have n1' : ∀ q, (Value.slice A3 t.l.length c3).ownBlock = some q → q ≠ g + 1 := fun q hq e => by
    subst e
    exact blk_ne_row bO4 HU.out (by decide) hq.symm
  have n2' : ∀ q, (Value.slice A4 t.r.length c4).ownBlock = some q → q ≠ g + 1 := fun q hq e => by
    subst e
    exact blk_ne_row bO4 HV.out (by decide) hq.symm
  have ob := bO4.cell
  have of_ := bO4.frozen
  clear L R b0 b1 ho3 ho4
  go_wp2_with fail
  refine bodyPost_ret (v := .agg #[.slice A3 t.l.length c3, .slice A4 t.r.length c4]) (by simp [results, Tryz.results55, go_sem, ob]) rfl ⟨_, _, rfl, ?_, ?_, hap, ?_⟩
  · rw [hg]
    exact ownsRow_far (ownsRow_far HU.out n1' _) n1' _
  · rw [hg]
    exact ownsRow_far (ownsRow_far HV.out n2' _) n2' _
  · exact ((hX.trans hX4).setCell (by show w.heap.size ≤ g + 1; omega) _).setCell (by show w.heap.size ≤ g + 1; omega) _
/-- The visitor that looks at nothing. -/
theorem visNone (rs : List MRuleD) (c : MConfD) (w0 : World) (bc gT cap lo hi : Nat) : VisM 23 #[] rs c w0 bc gT cap lo hi (fun _ _ _ => True) := by
  intro i K wX cs _ h _ hhi
  have hX := Ext.alloc wX (.cells #[.int .i64 (cfgM rs c i).q, .slice (some ⟨gT, 0, none⟩) c.tapes.length cap] 29)
  have hM := Lib.hid (h.ext hX)
  generalize (cfgM rs c i).q = q at *
  show Calls _ _ #[_] _ _
  go_enter Tryz.func23, Tryz.ntmps23
  go_wp2_with fail
  refine bodyPost_end (results_none rfl _ _ _) rfl ?_
  exact ⟨rfl, K, fun _ hk => hk, hM.out, trivial, fun k _ hk => Below.block hX k (by omega)⟩
end Go.Proofs.YtkbpchdncljlbaaGreatDoor
end
section
set_option linter.unusedVariables false
set_option linter.unusedSimpArgs false
namespace Go.Proofs.YtkbpchdncljlbaaGreatDoor
open Go Go.RowKit Go.Proofs Go.Maps
set_option maxHeartbeats 400000
set_option maxRecDepth 20000 in
set_option maxHeartbeats 1000000 in
theorem validTape_c (m : MultiD) (mv lv rv : Value) (t : TapeD) (w : World) (hM : Mult w mv m) (hm : multiOk m = true) (hl : Ints w lv t.l) (hr : Ints w rv t.r) :
    Calls Tryz.prog 54 #[mv, .agg #[lv, rv]] w fun e w' => e = .returned (.bool (tapeOk m t)) ∧ Ext w w' := by
  obtain ⟨rv', rfl, hR⟩ := hM
  obtain ⟨A, cA, rfl, _, _⟩ := hR.form
  obtain ⟨A1, k1, rfl, _, _⟩ := hl.form
  obtain ⟨A2, k2, rfl, _, _⟩ := hr.form
  obtain ⟨_, ⟨s1, s2⟩, _, _, _⟩ := multi_all hm
  obtain ⟨V, hV⟩ : ∃ V, V = (w.alloc (.cells #[.int .i64 m.tp, .int .i64 m.sy, .int .i64 m.st, .slice A m.rules.length cA] 26)).alloc (.cells #[.slice A1 t.l.length k1, .slice A2 t.r.length k2] 50) := ⟨_, rfl⟩
  have hX : Ext w V := by rw [hV]; exact (Ext.alloc _ _).trans (Ext.alloc _ _)
  obtain ⟨g, hg⟩ : ∃ g, w.heap.size = g := ⟨_, rfl⟩
  have bM : Blk V g 26 #[.int .i64 m.tp, .int .i64 m.sy, .int .i64 m.st, .slice A m.rules.length cA] := by rw [hV]; exact (Blk.new _ _ _ _ hg).alloc _
  have bT : Blk V (g + 1) 50 #[.slice A1 t.l.length k1, .slice A2 t.r.length k2] := by rw [hV]; exact Blk.new _ _ _ _ (by simp [hg])
  have m1 := bM.cell 1
  have t0 := bT.cell 0
  have t1 := bT.cell 1
  simp only [List.getElem?_toArray, List.getElem?_cons_zero, List.getElem?_cons_succ] at m1 t0 t1
  have L := validSide_c _ t.l m.sy 200 V (hl.ext hX) (by omega) (by omega)
  have R := validSide_c _ t.r m.sy 200 V (hr.ext hX) (by omega) (by omega)
  have HR : Hid (tapeOk m t = (sideOk t.l m.sy 200 && sideOk t.r m.sy 200)) := rfl
  rw [HR.out]
  go_enter Tryz.func54, Tryz.ntmps54
  cases h1 : sideOk t.l m.sy 200 with
  | false =>
    rw [h1] at L
    go_wp2_with fail
    try rw [← hV]
    try rw [hg]
    clear hV h1
    refine L.mono ?_
    rintro e _ ⟨rfl, rfl⟩
    go_wp2_with fail
    go_ret
    exact ⟨rfl, hX⟩
  | true =>
    rw [h1] at L
    generalize sideOk t.r m.sy 200 = b at *
    go_wp2_with fail
    try rw [← hV]
    try rw [hg]
    clear hV h1
    refine L.mono ?_
    rintro e _ ⟨rfl, rfl⟩
    go_wp2_with fail
    refine R.mono ?_
    rintro e _ ⟨rfl, rfl⟩
    go_wp2_with fail
    go_ret
    exact ⟨rfl, hX⟩
end Go.Proofs.YtkbpchdncljlbaaGreatDoor
end
