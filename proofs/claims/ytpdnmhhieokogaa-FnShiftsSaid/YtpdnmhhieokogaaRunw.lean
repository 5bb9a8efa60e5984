/- The iterator over the steps of the program's runner has its contract. The machine is valid and the configuration is one of its. -/
import Derived.Test.YtpdnmhhieokogaaRunv
import Derived.Test.YtpdnmhhieokogaaIter
import Derived.Shelf.Abstract
import Derived.Shelf.RegionOpen
import Derived.WalkKit
import Derived.OwnWalkIn
import Derived.TacticsInMore
import Derived.LoopNIn
import Derived.LoopIn
set_option linter.unusedSimpArgs false
set_option linter.unusedVariables false
namespace Go.Proofs.Ytpdnmhhieokogaa
open Go Go.RowKit Go.Proofs Go.Shelf
attribute [local go_sem] Oper.semAt_some
set_option maxHeartbeats 400000
abbrev encR (x : Int × Bool) : Array Value := #[.int .i64 x.1, .bool x.2]
/-- The run ends behind i steps. -/
structure EndAt (m : MachD) (c : ConfD) (N i : Nat) : Prop where
  runs : RunsTo m c i
  le : i ≤ N
  stop : i = N ∨ lookI m (cfgI m c i) = noR
/-- There is no room behind i steps. -/
structure FullAt (m : MachD) (c : ConfD) (N i : Nat) : Prop where
  pos : 0 < i
  runs : RunsTo m c (i - 1)
  le : i ≤ N
  no : ¬ lookI m (cfgI m c (i - 1)) = noR
  full : fitI (cfgI m c i) = false
section
variable (w0 : World) (b bq bp : Nat) (m : MachD) (c : ConfD) (mv : Value) (N : Nat)
def WrR (A B : World) : Prop := ∃ d lv rv d' lv' rv', RunAt w0 A b m d mv lv rv ∧ RunAt w0 B b m d' mv lv' rv' ∧ Moved b A B lv rv lv' rv'
def KpR (W W' : World) : Prop := W.heap.size ≤ W'.heap.size ∧ (∀ d lv rv, RunAt w0 W b m d mv lv rv → RunAt w0 W' b m d mv lv rv) ∧ W'.heap[bq]? = W.heap[bq]? ∧ W'.heap[bp]? = W.heap[bp]?
def StR (pre : List (Int × Bool)) (x : Int × Bool) (W : World) : Prop :=
  ∃ (i : Nat) (lv rv : Value), RunAt w0 W b m (cfgI m c i) mv lv rv ∧ pre.length = i ∧ ((x = ((i : Int), true) ∧ RunsTo m c i ∧ i ≤ N) ∨ (x = ((i : Int), false) ∧ FullAt m c N i))
def SR (xs : List (Int × Bool)) (W : World) : Prop :=
  ∃ (i : Nat) (lv rv : Value) (pre : List (Int × Bool)), RunAt w0 W b m (cfgI m c i) mv lv rv ∧ ((xs = pre ++ [((i : Int), true)] ∧ EndAt m c N i) ∨ (xs = pre ++ [((i : Int), false)] ∧ FullAt m c N i))
def SpR (xs : List (Int × Bool)) (W : World) : Prop :=
  ∃ (i : Nat) (lv rv : Value) (pre : List (Int × Bool)), RunAt w0 W b m (cfgI m c i) mv lv rv ∧ ((xs = pre ++ [((i : Int), true)] ∧ RunsTo m c i ∧ i ≤ N) ∨ (xs = pre ++ [((i : Int), false)] ∧ FullAt m c N i))
end
/-- The boxes of the iterator, apart from the sides. -/
structure BoxR (W : World) (b bq bp : Nat) (N : Nat) (lv rv : Value) : Prop where
  q : Blk W bq 2 #[.int .i64 N]
  p : Blk W bp 58 #[.pointer (some ⟨b, 0, none⟩)]
  lq : lv.ownBlock ≠ some bq
  rq : rv.ownBlock ≠ some bq
  lp : lv.ownBlock ≠ some bp
  rp : rv.ownBlock ≠ some bp
  bq_ : bq ≠ b
  bp_ : bp ≠ b
theorem BoxR.moved {W W' : World} {b bq bp N : Nat} {lv rv lv' rv' : Value} (h : BoxR W b bq bp N lv rv) (hm : Moved b W W' lv rv lv' rv') : BoxR W' b bq bp N lv' rv' := by
  have h1 := h.q.lt
  have h2 := h.p.lt
  refine ⟨(hm.same _ h1 h.bq_ h.lq h.rq).trans h.q, (hm.same _ h2 h.bp_ h.lp h.rp).trans h.p, fun e => ?_, fun e => ?_, fun e => ?_, fun e => ?_, h.bq_, h.bp_⟩
  · rcases hm.newl _ e with e | e | e
    · exact h.lq e
    · exact h.rq e
    · omega
  · rcases hm.newr _ e with e | e | e
    · exact h.lq e
    · exact h.rq e
    · omega
  · rcases hm.newl _ e with e | e | e
    · exact h.lp e
    · exact h.rp e
    · omega
  · rcases hm.newr _ e with e | e | e
    · exact h.lp e
    · exact h.rp e
    · omega
theorem BoxR.kept {W W' : World} {b bq bp N : Nat} {lv rv : Value} (h : BoxR W b bq bp N lv rv) (h1 : W'.heap[bq]? = W.heap[bq]?) (h2 : W'.heap[bp]? = W.heap[bp]?) : BoxR W' b bq bp N lv rv :=
  ⟨h1.trans h.q, h2.trans h.p, h.lq, h.rq, h.lp, h.rp, h.bq_, h.bp_⟩
theorem fit_both {c : ConfD} (h : fitI c = true) : c.l.length ≤ 200 ∧ c.r.length ≤ 200 := by
  simpa [fitI] using h
set_option maxRecDepth 100000 in
set_option maxHeartbeats 4000000 in
theorem steps1_w (n : Nat) (hn : 4 ≤ n) (w0 w : World) (b bq bp : Nat) (m : MachD) (c : ConfD) (mv lv rv : Value) (N : Nat) (hN : N ≤ 100000) (hm : machOk m = true) (hg : IGood m c) (hf : fitI c = true)
    (h : RunAt w0 w b m c mv lv rv) (hB : BoxR w b bq bp N lv rv) :
    SeqW Fence.wide n Try.prog 75 #[.pointer (some ⟨bq, 0, none⟩), .pointer (some ⟨bp, 0, none⟩)] encR (WrR w0 b m mv) (StR w0 b m c mv N) (KpR w0 b bq bp m mv) (SR w0 b m c mv N) (SpR w0 b m c mv N) (N + 2) w := fun l J Jx W hb hJw hY h0 => by
  have hn1 : 1 ≤ n := by omega
  refine callsIn_of_wp Try.func75 rfl trivial ?_ rfl
  simp only [Try.ntmps75, List.size_toArray, List.length_cons, List.length_nil, Nat.reduceAdd, Nat.reduceSub, Array.replicate_succ, Array.replicate_zero, List.push_toArray, List.append_toArray, List.nil_append, List.cons_append]
  gi_wp2
  gi_loopw [4] (fun n wr => ∃ (i : Nat) (pre : List (Int × Bool)) (l1 r1 : Value), n = .int .i64 i ∧ pre.length = i ∧ J pre wr ∧ RunAt w0 wr b m (cfgI m c i) mv l1 r1 ∧ BoxR wr b bq bp N l1 r1 ∧ RunsTo m c i ∧ i ≤ N) (fun n _ => N + 1 - (intOf n).toNat)
  case atStart => exact ⟨0, [], lv, rv, rfl, rfl, h0, h.ext hb, hB.kept (Below.block hb _ hB.q.lt) (Below.block hb _ hB.p.lt), RunsTo.zero hf, by omega⟩
  case round =>
    obtain ⟨i, pre, l1, r1, rfl, hpl, hJ, hR, hBx, hT, hiN⟩ := hrel
    obtain ⟨fn, tmps, assign, body, hy, hRd⟩ := hY pre ((i : Int), true) wr hJ ⟨i, l1, r1, hR, hpl, .inl ⟨rfl, hT, hiN⟩⟩ (by omega)
    dsimp only [encR] at hy
    have HT := Lib.hid hT
    have HPL := Lib.hid hpl
    clear hpl hT
    gi_wp2
    refine hRd.mono ?_
    rintro e W3 (⟨rfl, hJ3, hk3⟩ | ⟨rfl, hJx3, hk3⟩)
    · have R3 := hk3.2.1 _ _ _ hR
      have B3 := hBx.kept hk3.2.2.1 hk3.2.2.2
      have hgi : IGood m (cfgI m c i) := cfg_good hm hg i HT.out.no
      have hfi := fit_both (HT.out.fit i (Nat.le_refl _))
      have cq := B3.q.cell 0
      have cp := B3.p.cell 0
      simp only [List.getElem?_toArray, List.getElem?_cons_zero] at cq cp
      clear hRd hy
      by_cases hlt : i < N
      · have d1 : decide ((i : Int) < (N : Int)) = true := decide_eq_true (by omega)
        have d1' : decide (i < N) = true := decide_eq_true hlt
        have hH := halts_c w0 W3 b m _ mv l1 r1 R3 (by omega) hm hgi
        by_cases hno : lookI m (cfgI m c i) = noR
        · rw [decide_eq_true hno] at hH
          have HNO := Lib.hid hno
          clear hno
          gi_wp2_with (refine ⟨trivial, ?_⟩; gi_at_call 54; refine (callsIn_wide.2 hH).mono ?_; rintro e w4 ⟨rfl, hx4⟩)
          refine bodyPost_end (results_none rfl _ _ _) rfl ?_
          have R4 := R3.ext hx4
          have hJ4 := hJw _ _ _ hJ3 ⟨_, _, _, _, _, _, R3, R4, Moved.ofExt hx4⟩
          exact ⟨⟨_, rfl⟩, .inl ⟨_, ⟨i, l1, r1, pre, R4, .inl ⟨rfl, HT.out, hiN, .inr HNO.out⟩⟩, hJ4⟩⟩
        · rw [decide_eq_false hno] at hH
          have HNO := Lib.hid hno
          clear hno
          gi_wp2_with (refine ⟨trivial, ?_⟩; gi_at_call 54; refine (callsIn_wide.2 hH).mono ?_; rintro e w4 ⟨rfl, hx4⟩; have R4 := R3.ext hx4; have cp4 := hx4.cell cp; have hS := step_c w0 w4 b m _ mv l1 r1 R4 hfi.1 hfi.2 hm hgi)
          refine ⟨trivial, ?_⟩
          refine (callsIn_wide.2 hS).mono ?_
          rintro e w5 ⟨l5, r5, rfl, R5, M5⟩
          have B5 := (B3.moved (Moved.ofExt hx4)).moved M5
          have hJ4 := hJw _ _ _ hJ3 ⟨_, _, _, _, _, _, R3, R4, Moved.ofExt hx4⟩
          have hJ5 := hJw _ _ _ hJ4 ⟨_, _, _, _, _, _, R4, R5, M5⟩
          have R5' : RunAt w0 w5 b m (cfgI m c (i + 1)) mv l5 r5 := R5
          cases hfit : fitI (stepI (lookI m (cfgI m c i)) (cfgI m c i)) with
          | true =>
            have HF : Hid (RunsTo m c (i + 1)) := Lib.hid (HT.out.succ HNO.out hfit)
            clear hfit hS hH
            gi_wp2
            go_roundw
            case rel => exact ⟨i + 1, pre ++ [((i : Int), true)], l5, r5, by go_num, by rw [List.length_append, HPL.out]; rfl, hJ5, R5', B5, HF.out, by omega⟩
            case measure => simp [intOf]; omega
          | false =>
            have HF : Hid (FullAt m c N (i + 1)) := ⟨by omega, by simpa using HT.out, by omega, by simpa using HNO.out, hfit⟩
            clear hfit hS hH
            obtain ⟨fn, tmps, assign, body, hy, hRd⟩ := hY (pre ++ [((i : Int), true)]) (((i : Int) + 1), false) w5 hJ5 ⟨i + 1, l5, r5, R5', by rw [List.length_append, HPL.out]; rfl, .inr ⟨by simp, HF.out⟩⟩ (by rw [List.length_append, HPL.out]; simp; omega)
            dsimp only [encR] at hy
            gi_wp2
            refine hRd.mono ?_
            rintro e W6 (⟨rfl, hJ6, hk6⟩ | ⟨rfl, hJx6, hk6⟩)
            · have R6 := hk6.2.1 _ _ _ R5'
              gi_wp2
              refine bodyPost_ret (results_none rfl _ _ _) rfl ?_
              exact ⟨⟨_, rfl⟩, .inl ⟨_, ⟨i + 1, l5, r5, pre ++ [((i : Int), true)], R6, .inr ⟨by simp, HF.out⟩⟩, hJ6⟩⟩
            · have R6 := hk6.2.1 _ _ _ R5'
              gi_wp2
              refine bodyPost_ret (results_none rfl _ _ _) rfl ?_
              exact ⟨⟨_, rfl⟩, .inr ⟨_, ⟨i + 1, l5, r5, pre ++ [((i : Int), true)], R6, .inr ⟨by simp, HF.out⟩⟩, hJx6⟩⟩
      · have d1 : decide ((i : Int) < (N : Int)) = false := decide_eq_false (by omega)
        have d1' : decide (i < N) = false := decide_eq_false hlt
        gi_wp2
        refine ⟨trivial, ?_⟩
        gi_wp2
        refine bodyPost_end (results_none rfl _ _ _) rfl ?_
        exact ⟨⟨_, rfl⟩, .inl ⟨_, ⟨i, l1, r1, pre, R3, .inl ⟨rfl, HT.out, hiN, .inl (by omega)⟩⟩, hJ3⟩⟩
    · have R3 := hk3.2.1 _ _ _ hR
      gi_wp2
      refine ⟨trivial, ?_⟩
      gi_wp2
      refine bodyPost_end (results_none rfl _ _ _) rfl ?_
      exact ⟨⟨_, rfl⟩, .inr ⟨_, ⟨i, l1, r1, pre, R3, .inl ⟨rfl, HT.out, hiN⟩⟩, hJx3⟩⟩
end Go.Proofs.Ytpdnmhhieokogaa
