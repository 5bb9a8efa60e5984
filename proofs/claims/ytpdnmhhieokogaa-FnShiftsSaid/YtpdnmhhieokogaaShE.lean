/- Contract of the program's follower with its tracker, from the blank tape. -/
import Derived.Test.YtpdnmhhieokogaaShD
import Derived.Test.YtpdnmhhieokogaaRunw
set_option linter.unusedSimpArgs false
set_option linter.unusedVariables false
namespace Go.Proofs.Ytpdnmhhieokogaa
open Go Go.RowKit Go.Proofs
set_option maxHeartbeats 400000
/-- The records behind n configurations. -/
structure RecsAt (m : MachD) (c : ConfD) (n : Nat) (rs : List RecV) (lo hi : Int) : Prop where
  lo0 : lo ≤ 0
  hi0 : 0 ≤ hi
  each : ∀ r ∈ rs, 1 ≤ r.n ∧ r.n < n ∧ r.c = cfgI m c r.n ∧ ((r.side = 1 ∧ posI m c r.n ≤ hi) ∨ (r.side = -1 ∧ lo ≤ posI m c r.n))
  pair : rs.Pairwise fun a b => a.n < b.n ∧ (a.side = b.side → posI m c a.n ≠ posI m c b.n)
theorem RecsAt.start (m : MachD) (c : ConfD) : RecsAt m c 0 [] 0 0 := ⟨Int.le_refl _, Int.le_refl _, fun r hr => by simp at hr, List.Pairwise.nil⟩
theorem RecsAt.seen {m : MachD} {c : ConfD} {n : Nat} {rs rs' : List RecV} {lo hi lo' hi' : Int} (h : RecsAt m c n rs lo hi) (hs : SeenQ (cfgI m c n) (posI m c n) n rs rs' lo hi lo' hi') : RecsAt m c (n + 1) rs' lo' hi' := by
  have z0 : n = 0 → posI m c n = 0 := fun e => by subst e; rfl
  have h0 := h.lo0
  have h1 := h.hi0
  have hn : hi < posI m c n ∨ posI m c n < lo → 1 ≤ n := fun e => by
    by_cases hz : n = 0
    · have := z0 hz; omega
    · omega
  have mono : ∀ r ∈ rs, 1 ≤ r.n ∧ r.n < n + 1 ∧ r.c = cfgI m c r.n ∧ ((r.side = 1 ∧ posI m c r.n ≤ hi) ∨ (r.side = -1 ∧ lo ≤ posI m c r.n)) := fun r hr => by
    obtain ⟨a, b, d, e⟩ := h.each r hr
    exact ⟨a, by omega, d, e⟩
  rcases hs with ⟨hz, ⟨lv, rv, rfl⟩, rfl, rfl⟩ | ⟨hz, hz2, ⟨lv, rv, rfl⟩, rfl, rfl⟩ | ⟨_, _, rfl, rfl, rfl⟩
  · refine ⟨h.lo0, by omega, fun r hr => ?_, ?_⟩
    · rcases List.mem_append.1 hr with hr | hr
      · obtain ⟨a, b, d, e⟩ := mono r hr
        refine ⟨a, b, d, ?_⟩
        rcases e with e | e
        · exact .inl ⟨e.1, by omega⟩
        · exact .inr e
      · rw [List.mem_singleton.1 hr]
        exact ⟨hn (.inl hz), Nat.lt_succ_self _, rfl, .inl ⟨rfl, Int.le_refl _⟩⟩
    · refine List.pairwise_append.2 ⟨h.pair, List.pairwise_singleton _ _, fun a ha b hb => ?_⟩
      rw [List.mem_singleton.1 hb]
      obtain ⟨q1, q2, _, q3⟩ := h.each a ha
      refine ⟨q2, fun e => ?_⟩
      simp only at e
      rcases q3 with q3 | q3
      · simp only; omega
      · rw [q3.1] at e; exact absurd e (by decide)
  · refine ⟨by omega, h.hi0, fun r hr => ?_, ?_⟩
    · rcases List.mem_append.1 hr with hr | hr
      · obtain ⟨a, b, d, e⟩ := mono r hr
        refine ⟨a, b, d, ?_⟩
        rcases e with e | e
        · exact .inl e
        · exact .inr ⟨e.1, by omega⟩
      · rw [List.mem_singleton.1 hr]
        exact ⟨hn (.inr hz2), Nat.lt_succ_self _, rfl, .inr ⟨rfl, Int.le_refl _⟩⟩
    · refine List.pairwise_append.2 ⟨h.pair, List.pairwise_singleton _ _, fun a ha b hb => ?_⟩
      rw [List.mem_singleton.1 hb]
      obtain ⟨q1, q2, _, q3⟩ := h.each a ha
      refine ⟨q2, fun e => ?_⟩
      simp only at e
      rcases q3 with q3 | q3
      · rw [q3.1] at e; exact absurd e (by decide)
      · simp only; omega
  · exact ⟨h.lo0, h.hi0, mono, h.pair⟩
theorem SeenQ.len {c : ConfD} {z : Int} {n : Nat} {rs rs' : List RecV} {lo hi lo' hi' : Int} (h : SeenQ c z n rs rs' lo hi lo' hi') : rs'.length ≤ rs.length + 1 := by
  rcases h with ⟨_, ⟨lv, rv, rfl⟩, _⟩ | ⟨_, _, ⟨lv, rv, rfl⟩, _⟩ | ⟨_, _, rfl, _⟩ <;> simp
theorem RunAt.under {w0 w w' : World} {b : Nat} {m : MachD} {c : ConfD} {mv lv rv : Value} (h : RunAt w w' b m c mv lv rv) (hr : Rules w0 mv m.rules) (he : Ext w0 w) : RunAt w0 w' b m c mv lv rv :=
  ⟨h.blk, hr, he.trans h.ext0, ownsRow_base h.l he.size, ownsRow_base h.r he.size, h.ap, Nat.le_trans he.size h.low⟩
/-- The positions of the configurations before the nth one. -/
def posM (m : MachD) (c : ConfD) (n : Nat) : List Int := (List.range n).map (posI m c)
theorem posM_succ (m : MachD) (c : ConfD) (n : Nat) : posM m c (n + 1) = posM m c n ++ [posI m c n] := by simp [posM, List.range_succ]
theorem posM_len (m : MachD) (c : ConfD) (n : Nat) : (posM m c n).length = n := by simp [posM]
theorem pos_bound {m : MachD} (hm : machOk m = true) {c : ConfD} (hc : IGood m c) : ∀ n : Nat, (∀ i < n, ¬ lookI m (cfgI m c i) = noR) → -(n : Int) ≤ posI m c n ∧ posI m c n ≤ n := by
  intro n
  induction n with
  | zero => intro _; simp [posI]
  | succ n ih =>
    intro h
    have := ih (fun i hi => h i (by omega))
    have hk := look_move hm (cfg_good hm hc n (fun i hi => h i (by omega))) (h n (by omega))
    rw [posI]
    omega
/-- What following a run comes to. -/
def FolRes (w0 : World) (x : Nat) (m : MachD) (N : Nat) (e : Ending) (w' : World) : Prop :=
  ∃ (i : Nat) (rs : List RecV) (lo hi : Int) (pv qv lv rv : Value), TrkAt w0 w' x lv rv (posM m blankC (i + 1)) rs lo hi pv qv ∧ RecsAt m blankC (i + 1) rs lo hi ∧ Ext w0 w' ∧ rs.length ≤ i + 1 ∧
    ((EndAt m blankC N i ∧ e = .returned (.tuple #[.int .i64 i, .bool (decide (lookI m (cfgI m blankC i) = noR)), .int .i64 0])) ∨ (FullAt m blankC N (i + 1) ∧ e = .returned (.tuple #[.int .i64 0, .bool false, .int .i64 5])))
theorem methConfig (x : Nat) (w : World) : (method 247 46 (.pointer (some ⟨x, 0, none⟩)) "loop.example/g01079/impl.config").run Try.prog w = .ok (101, .pointer (some ⟨x, 0, none⟩)) w := by kernel_rfl
theorem methStep (x : Nat) (w : World) : (method 247 46 (.pointer (some ⟨x, 0, none⟩)) "loop.example/g01079/impl.step").run Try.prog w = .ok (102, .pointer (some ⟨x, 0, none⟩)) w := by kernel_rfl
theorem trackerStep_c (p r : Value) (h a b c : Int) (w : World) :
    Calls Try.prog 102 #[p, r, .int .i64 h, .agg #[.int .i64 a, .int .i64 b, .int .i64 c]] w fun e w' => e = .returned (.tuple #[]) ∧ Ext w w' := by
  go_enter Try.func102, Try.ntmps102
  go_wp2
  go_end0
  exact ⟨rfl, Ext.alloc _ _⟩
set_option maxRecDepth 20000 in
set_option maxHeartbeats 4000000 in
theorem follow_c (w0 w : World) (x : Nat) (m : MachD) (mv : Value) (N : Nat) (hr0 : Rules w0 mv m.rules) (he0 : Ext w0 w) (hm : machOk m = true) (hN : N ≤ 20000) (hb : Blk w x 53 #[.slice none 0 0, .slice none 0 0, .int .i64 0, .int .i64 0]) (hx : w0.heap.size ≤ x) :
    Calls Try.prog 31 #[.agg #[.int .i64 m.sy, .int .i64 m.st, mv], .agg #[.int .i64 0, .slice none 0 0, .slice none 0 0], .int .i64 N, .iface 46 (.pointer (some ⟨x, 0, none⟩))] w (FolRes w0 x m N) := by
  have hg0 := blank_good hm
  obtain ⟨Am, cm, rfl, _, _⟩ := id hr0.form
  obtain ⟨W, hW⟩ : ∃ W, W = (w.alloc (.cells #[.int .i64 m.sy, .int .i64 m.st, .slice Am m.rules.length cm] 26)).alloc (.cells #[.int .i64 0, .slice none 0 0, .slice none 0 0] 36) := ⟨_, rfl⟩
  have hXW : Ext w W := by rw [hW]; exact (Ext.alloc _ _).trans (Ext.alloc _ _)
  have hXW0 := he0.trans hXW
  have HM := Lib.hid hm
  have HG0 := Lib.hid hg0
  have HR0 := Lib.hid hr0
  clear hm hg0 hr0
  go_enter Try.func31, Try.ntmps31
  go_wp2_with fail
  rw [← hW]
  clear hW
  refine (runnerOf_c W m blankC _ _ _ (HR0.out.ext hXW0) (ints_nil W) (ints_nil W) (.inl rfl) (.inl rfl) (by simp [blankC]) (by simp [blankC])).mono ?_
  rintro e w1 ⟨b, lv1, rv1, rfl, hR1'⟩
  have hR1 := hR1'.under HR0.out hXW0
  have hB1 := hb.ext (hXW.trans hR1'.ext0)
  have hT1 : TrkAt w0 w1 x lv1 rv1 (posM m blankC 0) [] 0 0 (.slice none 0 0) (.slice none 0 0) :=
    ⟨hB1, World.ownsRow_nil .., World.ownsRow_nil .., fun r hr => by simp at hr, hx, fun g hg => by simp [Value.ownBlock] at hg, fun r hr => by simp at hr⟩
  clear hR1' hB1 hb hXW hXW0
  go_wp2
  go_loopw [12, 13] (fun hd i wr => ∃ (n : Nat) (rs : List RecV) (lo hi : Int) (pv qv lv rv : Value), n ≤ N ∧ i = .int .i64 (n : Int) ∧ hd = .int .i64 (posI m blankC n) ∧ RunAt w0 wr b m (cfgI m blankC n) (.slice Am m.rules.length cm) lv rv ∧ TrkAt w0 wr x lv rv (posM m blankC n) rs lo hi pv qv ∧ Hid (RecsAt m blankC n rs lo hi) ∧ Hid (RunsTo m blankC n) ∧ rs.length ≤ n) (fun _ i _ => N - (intOf i).toNat)
  case atStart => exact ⟨0, [], 0, 0, _, _, _, _, Nat.zero_le _, rfl, rfl, hR1, hT1, Lib.hid (RecsAt.start m blankC), Lib.hid (RunsTo.zero (by decide)), Nat.le_refl _⟩
  case round =>
    clear hR1 hT1
    obtain ⟨n, rs, lo, hi, pv, qv, lv, rv, hn, rfl, rfl, hR, hT, HRS, HRT, hrl⟩ := hrel
    have hfit := HRT.out.fit n (Nat.le_refl _)
    simp only [fitI, Bool.and_eq_true, decide_eq_true_eq] at hfit
    have hgd := cfg_good HM.out HG0.out n HRT.out.no
    have hlp := posM_len m blankC n
    have HGD := Lib.hid hgd
    have hq := quickConfig_c w0 wr b x m (cfgI m blankC n) _ lv rv pv qv (posM m blankC n) rs lo hi (posI m blankC n) hR hT (by omega) (by omega) (by omega) (by omega)
    have HFIT := Lib.hid hfit
    clear hlp hR hT hgd
    have hmc := methConfig x
    have hms := methStep x
    go_wp2_with fail
    refine hq.mono ?_
    rintro e w2 ⟨rfl, rs', lo', hi', pv', qv', hR2, hT2, hS⟩
    clear hq
    have HSL := Lib.hid hS.len
    have HRS2 := Lib.hid (HRS.out.seen (by rw [posM_len] at hS; exact hS))
    rw [← posM_succ] at hT2
    clear hS
    have HGD' := HGD.out
    have HMo := HM.out
    have hh := halts_c w0 w2 b m _ _ lv rv hR2 (by omega) HMo HGD'
    clear HGD' HMo
    by_cases hnN : n = N
    · have hbe : ((n : Int) == (N : Int)) = true := by simp [hnN]
      have HNN := Lib.hid hnN
      clear hnN
      go_wp2_with fail
      refine hh.mono ?_
      rintro e w3 ⟨rfl, hx3⟩
      have hT3 := hT2.ext hx3
      have hR3 := hR2.ext hx3
      clear hh
      obtain ⟨hb', hhb⟩ : ∃ y, decide (lookI m (cfgI m blankC n) = noR) = y := ⟨_, rfl⟩
      have HB := Lib.hid hhb
      rw [hhb]
      clear hhb
      go_wp2
      exact bodyPost_ret (v := .tuple #[.int .i64 n, .bool hb', .int .i64 0]) (by simp [results, Try.results31, go_sem]) rfl ⟨n, rs', lo', hi', pv', qv', lv, rv, hT3, HRS2.out, hR3.ext0, by have := HSL.out; omega, .inl ⟨⟨HRT.out, hn, .inl HNN.out⟩, by rw [HB.out]⟩⟩
    · have hbe : ((n : Int) == (N : Int)) = false := by
        simp only [beq_eq_false_iff_ne, ne_eq]
        omega
      have HNN := Lib.hid hnN
      clear hnN
      go_wp2_with fail
      refine hh.mono ?_
      rintro e w3 ⟨rfl, hx3⟩
      have hT3 := hT2.ext hx3
      have hR3 := hR2.ext hx3
      clear hh
      by_cases hno : lookI m (cfgI m blankC n) = noR
      · have hdn : decide (lookI m (cfgI m blankC n) = noR) = true := by simp [hno]
        have HNO := Lib.hid hno
        have hh2 := halts_c w0 w3 b m _ _ lv rv hR3 (by omega) HM.out HGD.out
        rw [hdn] at hh2
        rw [hdn]
        clear hno
        have HDN := Lib.hid hdn
        clear hdn
        go_wp2_with fail
        refine hh2.mono ?_
        rintro e w4 ⟨rfl, hx4⟩
        go_wp2
        exact bodyPost_ret (v := .tuple #[.int .i64 n, .bool true, .int .i64 0]) (by simp [results, Try.results31, go_sem]) rfl ⟨n, rs', lo', hi', pv', qv', lv, rv, hT3.ext hx4, HRS2.out, (hR3.ext hx4).ext0, by have := HSL.out; omega, .inl ⟨⟨HRT.out, hn, .inr HNO.out⟩, by rw [HDN.out]⟩⟩
      · have hdn : decide (lookI m (cfgI m blankC n) = noR) = false := by simp [hno]
        have HNO := Lib.hid hno
        have hru := rule_c w0 w3 b m _ _ lv rv hR3 (by omega) HM.out HGD.out
        rw [hdn]
        clear hno hdn
        obtain ⟨⟨ra, rb, rc⟩, hrr⟩ : ∃ R, lookI m (cfgI m blankC n) = R := ⟨_, rfl⟩
        rw [hrr] at hru
        have HRR := Lib.hid hrr
        simp only at hru
        go_wp2_with fail
        refine hru.mono ?_
        rintro e w4 ⟨rfl, hx4⟩
        obtain ⟨V4, hV4⟩ : ∃ V, V = w4.alloc (.cells #[.int .i64 ra, .int .i64 rb, .int .i64 rc] 92) := ⟨_, rfl⟩
        obtain ⟨b4, hb4⟩ : ∃ g, g = w4.heap.size := ⟨_, rfl⟩
        have hxV : Ext w4 V4 := by rw [hV4]; exact Ext.alloc _ _
        have bV : Blk V4 b4 92 #[.int .i64 ra, .int .i64 rb, .int .i64 rc] := by rw [hV4, hb4]; exact Blk.new _ _ _ _ rfl
        have hT4 := hT3.ext (hx4.trans hxV)
        have hR4 := hR3.ext (hx4.trans hxV)
        have v0 := bV.cell 0
        have v1 := bV.cell 1
        have v2 := bV.cell 2
        simp only [List.getElem?_toArray, List.getElem?_cons_zero, List.getElem?_cons_succ] at v0 v1 v2
        rw [hV4, hb4] at v0 v1 v2
        clear hru hrr hT3 hR3 hT2 hR2
        go_wp2_with fail
        rw [← hV4, ← hb4]
        rw [← hV4, ← hb4] at v0 v1 v2
        clear hV4 hb4
        refine (trackerStep_c _ _ _ _ _ _ V4).mono ?_
        rintro e w5 ⟨rfl, hx5⟩
        have hT5 := hT4.ext hx5
        have hR5 := hR4.ext hx5
        have bV5 := bV.ext hx5
        have hst := step_c w0 w5 b m _ _ lv rv hR5 (by omega) (by omega) HM.out HGD.out
        have HMV := Lib.hid (look_move HM.out HGD.out HNO.out)
        have HPB := Lib.hid (pos_bound HM.out HG0.out n HRT.out.no)
        clear v0 v1 v2 hT4 hR4 bV
        go_wp2_with fail
        refine hst.mono ?_
        rintro e w6 ⟨lv', rv', rfl, hR6, hM6⟩
        have hT6 := hT5.moved hR5 hM6
        have hRB : Blk w6 b4 92 #[.int .i64 ra, .int .i64 rb, .int .i64 rc] := (hM6.same b4 bV5.lt (fun e => absurd (blk_type bV5 (e ▸ hR5.blk)) (by decide)) (fun e => blk_ne_row bV5 hR5.l (by decide) e.symm) (fun e => blk_ne_row bV5 hR5.r (by decide) e.symm)).trans bV5
        have hcs : stepI (lookI m (cfgI m blankC n)) (cfgI m blankC n) = cfgI m blankC (n + 1) := rfl
        rw [hcs] at hR6
        rw [hcs]
        clear hst hcs hT5 hR5 hM6 bV5
        by_cases hf : fitI (cfgI m blankC (n + 1)) = true
        · have HRT2 := Lib.hid (HRT.out.succ HNO.out hf)
          rw [hf]
          clear hf
          have v1 := hRB.cell 1
          simp only [List.getElem?_toArray, List.getElem?_cons_zero, List.getElem?_cons_succ] at v1
          have HPS : Hid (posI m blankC (n + 1) = posI m blankC n + rb) := Lib.hid (by rw [posI, HRR.out])
          have hmv : rb = 1 ∨ rb = -1 := by have := HMV.out; rw [HRR.out] at this; exact this
          have hpb := HPB.out
          go_wp2
          go_roundw
          case rel => exact ⟨n + 1, rs', lo', hi', pv', qv', lv', rv', by have := HNN.out; omega, by go_num, by rw [HPS.out], hR6, hT6, HRS2, HRT2, by have := HSL.out; omega⟩
          case measure => have := HNN.out; simp [intOf]; omega
        · have hf' : fitI (cfgI m blankC (n + 1)) = false := by simpa using hf
          have HFULL : Hid (FullAt m blankC N (n + 1)) := Lib.hid ⟨by omega, by simpa using HRT.out, by have := HNN.out; omega, by simpa using HNO.out, hf'⟩
          rw [hf']
          clear hf hf'
          go_wp2
          exact bodyPost_ret (v := .tuple #[.int .i64 0, .bool false, .int .i64 5]) (by simp [results, Try.results31, go_sem]) rfl ⟨n, rs', lo', hi', pv', qv', lv', rv', hT6, HRS2.out, hR6.ext0, by have := HSL.out; omega, .inr ⟨HFULL.out, rfl⟩⟩
end Go.Proofs.Ytpdnmhhieokogaa
