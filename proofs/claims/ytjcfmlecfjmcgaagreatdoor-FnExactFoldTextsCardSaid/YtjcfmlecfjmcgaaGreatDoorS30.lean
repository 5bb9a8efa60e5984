/- The iterator over the steps of the program's runner has its contract. The machine is valid and the configuration is one of its.
Plain words: the machine on one half of the tape is a valid one; the beginning of its run; and the texts of its run. -/
import Derived.Test.YtjcfmlecfjmcgaaGreatDoorS29
import Derived.Shelf.Abstract
import Derived.Shelf.RegionOpen
import Derived.WalkKit
import Derived.OwnWalkIn
import Derived.TacticsInMore
import Derived.LoopNIn
import Derived.LoopIn
import Derived.Test.YtjcfmlecfjmcgaaGreatDoorS17
import Derived.Test.YtjcfmlecfjmcgaaGreatDoorS19
import Derived.Test.YtjcfmlecfjmcgaaGreatDoorS23
import Derived.Test.YtjcfmlecfjmcgaaGreatDoorS25
section
set_option linter.unusedSimpArgs false
set_option linter.unusedVariables false
namespace Go.Proofs.YtjcfmlecfjmcgaaGreatDoor
open Go Go.RowKit Go.Proofs Go.Shelf
attribute [local go_sem] Oper.semAt_some
set_option maxHeartbeats 400000
abbrev encR (x : Int × Bool) : Array Value := #[.int .i64 x.1, .bool x.2]
/-- The run ends behind i steps. -/
structure EndAt (m : MachD) (c : ConfD) (N i : Nat) : Prop where
  runs : RunsTo m c i
  le : i ≤ N
  stop : i = N ∨ lookI m (cfgI m c i) = noR
/-- There is no room behind i steps. -/
structure FullAt (m : MachD) (c : ConfD) (N i : Nat) : Prop where
  pos : 0 < i
  runs : RunsTo m c (i - 1)
  le : i ≤ N
  no : ¬ lookI m (cfgI m c (i - 1)) = noR
  full : fitI (cfgI m c i) = false
section
variable (w0 : World) (b bq bp : Nat) (m : MachD) (c : ConfD) (mv : Value) (N : Nat)
def WrR (A B : World) : Prop := ∃ d lv rv d' lv' rv', RunAt w0 A b m d mv lv rv ∧ RunAt w0 B b m d' mv lv' rv' ∧ Moved b A B lv rv lv' rv'
def KpR (W W' : World) : Prop := W.heap.size ≤ W'.heap.size ∧ (∀ d lv rv, RunAt w0 W b m d mv lv rv → RunAt w0 W' b m d mv lv rv) ∧ W'.heap[bq]? = W.heap[bq]? ∧ W'.heap[bp]? = W.heap[bp]?
def StR (pre : List (Int × Bool)) (x : Int × Bool) (W : World) : Prop :=
  ∃ (i : Nat) (lv rv : Value), RunAt w0 W b m (cfgI m c i) mv lv rv ∧ pre.length = i ∧ ((x = ((i : Int), true) ∧ RunsTo m c i ∧ i ≤ N) ∨ (x = ((i : Int), false) ∧ FullAt m c N i))
def SR (xs : List (Int × Bool)) (W : World) : Prop :=
  ∃ (i : Nat) (lv rv : Value) (pre : List (Int × Bool)), RunAt w0 W b m (cfgI m c i) mv lv rv ∧ ((xs = pre ++ [((i : Int), true)] ∧ EndAt m c N i) ∨ (xs = pre ++ [((i : Int), false)] ∧ FullAt m c N i))
def SpR (xs : List (Int × Bool)) (W : World) : Prop :=
  ∃ (i : Nat) (lv rv : Value) (pre : List (Int × Bool)), RunAt w0 W b m (cfgI m c i) mv lv rv ∧ ((xs = pre ++ [((i : Int), true)] ∧ RunsTo m c i ∧ i ≤ N) ∨ (xs = pre ++ [((i : Int), false)] ∧ FullAt m c N i))
end
/-- The boxes of the iterator, apart from the sides. -/
structure BoxR (W : World) (b bq bp : Nat) (N : Nat) (lv rv : Value) : Prop where
  q : Blk W bq 2 #[.int .i64 N]
  p : Blk W bp 108 #[.pointer (some ⟨b, 0, none⟩)]
  lq : lv.ownBlock ≠ some bq
  rq : rv.ownBlock ≠ some bq
  lp : lv.ownBlock ≠ some bp
  rp : rv.ownBlock ≠ some bp
  bq_ : bq ≠ b
  bp_ : bp ≠ b
theorem BoxR.moved {W W' : World} {b bq bp N : Nat} {lv rv lv' rv' : Value} (h : BoxR W b bq bp N lv rv) (hm : Moved b W W' lv rv lv' rv') : BoxR W' b bq bp N lv' rv' := by
  have h1 := h.q.lt
  have h2 := h.p.lt
  refine ⟨(hm.same _ h1 h.bq_ h.lq h.rq).trans h.q, (hm.same _ h2 h.bp_ h.lp h.rp).trans h.p, fun e => ?_, fun e => ?_, fun e => ?_, fun e => ?_, h.bq_, h.bp_⟩
  · rcases hm.newl _ e with e | e | e
    · exact h.lq e
    · exact h.rq e
    · omega
  · rcases hm.newr _ e with e | e | e
    · exact h.lq e
    · exact h.rq e
    · omega
  · rcases hm.newl _ e with e | e | e
    · exact h.lp e
    · exact h.rp e
    · omega
  · rcases hm.newr _ e with e | e | e
    · exact h.lp e
    · exact h.rp e
    · omega
theorem BoxR.kept {W W' : World} {b bq bp N : Nat} {lv rv : Value} (h : BoxR W b bq bp N lv rv) (h1 : W'.heap[bq]? = W.heap[bq]?) (h2 : W'.heap[bp]? = W.heap[bp]?) : BoxR W' b bq bp N lv rv :=
  ⟨h1.trans h.q, h2.trans h.p, h.lq, h.rq, h.lp, h.rp, h.bq_, h.bp_⟩
theorem fit_both {c : ConfD} (h : fitI c = true) : c.l.length ≤ 200 ∧ c.r.length ≤ 200 := by
  simpa [fitI] using h
set_option maxRecDepth 100000 in
set_option maxHeartbeats 4000000 in
theorem steps1_w (n : Nat) (hn : 4 ≤ n) (w0 w : World) (b bq bp : Nat) (m : MachD) (c : ConfD) (mv lv rv : Value) (N : Nat) (hN : N ≤ 100000) (hm : machOk m = true) (hg : IGood m c) (hf : fitI c = true)
    (h : RunAt w0 w b m c mv lv rv) (hB : BoxR w b bq bp N lv rv) :
    SeqW Fence.wide n Tryz.prog 97 #[.pointer (some ⟨bq, 0, none⟩), .pointer (some ⟨bp, 0, none⟩)] encR (WrR w0 b m mv) (StR w0 b m c mv N) (KpR w0 b bq bp m mv) (SR w0 b m c mv N) (SpR w0 b m c mv N) (N + 2) w := fun l J Jx W hb hJw hY h0 => by
  have hn1 : 1 ≤ n := by omega
  refine callsIn_of_wp Tryz.func97 rfl trivial ?_ rfl
  simp only [Tryz.ntmps97, List.size_toArray, List.length_cons, List.length_nil, Nat.reduceAdd, Nat.reduceSub, Array.replicate_succ, Array.replicate_zero, List.push_toArray, List.append_toArray, List.nil_append, List.cons_append]
  gi_wp2
  gi_loopw [4] (fun n wr => ∃ (i : Nat) (pre : List (Int × Bool)) (l1 r1 : Value), n = .int .i64 i ∧ pre.length = i ∧ J pre wr ∧ RunAt w0 wr b m (cfgI m c i) mv l1 r1 ∧ BoxR wr b bq bp N l1 r1 ∧ RunsTo m c i ∧ i ≤ N) (fun n _ => N + 1 - (intOf n).toNat)
  case atStart => exact ⟨0, [], lv, rv, rfl, rfl, h0, h.ext hb, hB.kept (Below.block hb _ hB.q.lt) (Below.block hb _ hB.p.lt), RunsTo.zero hf, by omega⟩
  case round =>
    obtain ⟨i, pre, l1, r1, rfl, hpl, hJ, hR, hBx, hT, hiN⟩ := hrel
    obtain ⟨fn, tmps, assign, body, hy, hRd⟩ := hY pre ((i : Int), true) wr hJ ⟨i, l1, r1, hR, hpl, .inl ⟨rfl, hT, hiN⟩⟩ (by omega)
    dsimp only [encR] at hy
    have HT := Lib.hid hT
    have HPL := Lib.hid hpl
    clear hpl hT
    gi_wp2
    refine hRd.mono ?_
    rintro e W3 (⟨rfl, hJ3, hk3⟩ | ⟨rfl, hJx3, hk3⟩)
    · have R3 := hk3.2.1 _ _ _ hR
      have B3 := hBx.kept hk3.2.2.1 hk3.2.2.2
      have hgi : IGood m (cfgI m c i) := cfg_good hm hg i HT.out.no
      have hfi := fit_both (HT.out.fit i (Nat.le_refl _))
      have cq := B3.q.cell 0
      have cp := B3.p.cell 0
      simp only [List.getElem?_toArray, List.getElem?_cons_zero] at cq cp
      clear hRd hy
      by_cases hlt : i < N
      · have d1 : decide ((i : Int) < (N : Int)) = true := decide_eq_true (by omega)
        have d1' : decide (i < N) = true := decide_eq_true hlt
        have hH := halts_c w0 W3 b m _ mv l1 r1 R3 (by omega) hm hgi
        by_cases hno : lookI m (cfgI m c i) = noR
        · rw [decide_eq_true hno] at hH
          have HNO := Lib.hid hno
          clear hno
          gi_wp2_with (refine ⟨trivial, ?_⟩; gi_at_call 98; refine (callsIn_wide.2 hH).mono ?_; rintro e w4 ⟨rfl, hx4⟩)
          refine bodyPost_end (results_none rfl _ _ _) rfl ?_
          have R4 := R3.ext hx4
          have hJ4 := hJw _ _ _ hJ3 ⟨_, _, _, _, _, _, R3, R4, Moved.ofExt hx4⟩
          exact ⟨⟨_, rfl⟩, .inl ⟨_, ⟨i, l1, r1, pre, R4, .inl ⟨rfl, HT.out, hiN, .inr HNO.out⟩⟩, hJ4⟩⟩
        · rw [decide_eq_false hno] at hH
          have HNO := Lib.hid hno
          clear hno
          gi_wp2_with (refine ⟨trivial, ?_⟩; gi_at_call 98; refine (callsIn_wide.2 hH).mono ?_; rintro e w4 ⟨rfl, hx4⟩; have R4 := R3.ext hx4; have cp4 := hx4.cell cp; have hS := step_c w0 w4 b m _ mv l1 r1 R4 hfi.1 hfi.2 hm hgi)
          refine ⟨trivial, ?_⟩
          refine (callsIn_wide.2 hS).mono ?_
          rintro e w5 ⟨l5, r5, rfl, R5, M5⟩
          have B5 := (B3.moved (Moved.ofExt hx4)).moved M5
          have hJ4 := hJw _ _ _ hJ3 ⟨_, _, _, _, _, _, R3, R4, Moved.ofExt hx4⟩
          have hJ5 := hJw _ _ _ hJ4 ⟨_, _, _, _, _, _, R4, R5, M5⟩
          have R5' : RunAt w0 w5 b m (cfgI m c (i + 1)) mv l5 r5 := R5
          cases hfit : fitI (stepI (lookI m (cfgI m c i)) (cfgI m c i)) with
          | true =>
            have HF : Hid (RunsTo m c (i + 1)) := Lib.hid (HT.out.succ HNO.out hfit)
            clear hfit hS hH
            gi_wp2
            go_roundw
            case rel => exact ⟨i + 1, pre ++ [((i : Int), true)], l5, r5, by go_num, by rw [List.length_append, HPL.out]; rfl, hJ5, R5', B5, HF.out, by omega⟩
            case measure => simp [intOf]; omega
          | false =>
            have HF : Hid (FullAt m c N (i + 1)) := ⟨by omega, by simpa using HT.out, by omega, by simpa using HNO.out, hfit⟩
            clear hfit hS hH
            obtain ⟨fn, tmps, assign, body, hy, hRd⟩ := hY (pre ++ [((i : Int), true)]) (((i : Int) + 1), false) w5 hJ5 ⟨i + 1, l5, r5, R5', by rw [List.length_append, HPL.out]; rfl, .inr ⟨by simp, HF.out⟩⟩ (by rw [List.length_append, HPL.out]; simp; omega)
            dsimp only [encR] at hy
            gi_wp2
            refine hRd.mono ?_
            rintro e W6 (⟨rfl, hJ6, hk6⟩ | ⟨rfl, hJx6, hk6⟩)
            · have R6 := hk6.2.1 _ _ _ R5'
              gi_wp2
              refine bodyPost_ret (results_none rfl _ _ _) rfl ?_
              exact ⟨⟨_, rfl⟩, .inl ⟨_, ⟨i + 1, l5, r5, pre ++ [((i : Int), true)], R6, .inr ⟨by simp, HF.out⟩⟩, hJ6⟩⟩
            · have R6 := hk6.2.1 _ _ _ R5'
              gi_wp2
              refine bodyPost_ret (results_none rfl _ _ _) rfl ?_
              exact ⟨⟨_, rfl⟩, .inr ⟨_, ⟨i + 1, l5, r5, pre ++ [((i : Int), true)], R6, .inr ⟨by simp, HF.out⟩⟩, hJx6⟩⟩
      · have d1 : decide ((i : Int) < (N : Int)) = false := decide_eq_false (by omega)
        have d1' : decide (i < N) = false := decide_eq_false hlt
        gi_wp2
        refine ⟨trivial, ?_⟩
        gi_wp2
        refine bodyPost_end (results_none rfl _ _ _) rfl ?_
        exact ⟨⟨_, rfl⟩, .inl ⟨_, ⟨i, l1, r1, pre, R3, .inl ⟨rfl, HT.out, hiN, .inl (by omega)⟩⟩, hJ3⟩⟩
    · have R3 := hk3.2.1 _ _ _ hR
      gi_wp2
      refine ⟨trivial, ?_⟩
      gi_wp2
      refine bodyPost_end (results_none rfl _ _ _) rfl ?_
      exact ⟨⟨_, rfl⟩, .inr ⟨_, ⟨i, l1, r1, pre, R3, .inl ⟨rfl, HT.out, hiN⟩⟩, hJx3⟩⟩
end Go.Proofs.YtjcfmlecfjmcgaaGreatDoor
end
section
set_option linter.unusedSimpArgs false
set_option linter.unusedVariables false
namespace Go.Proofs.YtjcfmlecfjmcgaaGreatDoor
open Go Go.RowKit Go.Proofs
section
variable {α : Type} [DecidableEq α]
/-- What holds of a machine that is being built. -/
structure BOk (Q : α → Prop) (sy : Nat) (s : List α × List RuleD) : Prop where
  all : ∀ p ∈ s.1, Q p
  rules : ∀ r ∈ s.2, r = noR ∨ ((0 ≤ r.w ∧ r.w < sy) ∧ (r.m = 1 ∨ r.m = -1) ∧ 0 ≤ r.n ∧ r.n < s.1.length)
theorem BOk.sym {Q : α → Prop} {act : α → Int → ActG α} {sy : Nat} {p : α} {s : List α × List RuleD} {v : Int} (h : BOk Q sy s)
    (ha : (act p v).no = false → Q (act p v).p ∧ (0 ≤ (act p v).w ∧ (act p v).w < sy) ∧ ((act p v).m = 1 ∨ (act p v).m = -1)) : BOk Q sy (symStep act p s v) := by
  cases e : (act p v).no with
  | true =>
    rw [symStep_no e]
    refine ⟨h.all, fun r hr => ?_⟩
    rcases List.mem_append.1 hr with hr | hr
    · exact h.rules r hr
    · left; simpa using hr
  | false =>
    obtain ⟨h1, h2, h3⟩ := ha e
    rw [symStep_yes e]
    refine ⟨addP_all h.all h1, fun r hr => ?_⟩
    have hl := addP_length s.1 (act p v).p
    rcases List.mem_append.1 hr with hr | hr
    · rcases h.rules r hr with c | ⟨a, b, c, d⟩
      · exact .inl c
      · exact .inr ⟨a, b, c, by simp only; omega⟩
    · simp only [List.mem_singleton] at hr
      subst hr
      right
      have hi := List.idxOf_lt_length_iff.2 (addP_mem s.1 (act p v).p)
      exact ⟨h2, h3, Int.natCast_nonneg _, by simp only; omega⟩
theorem BOk.row {Q : α → Prop} {act : α → Int → ActG α} {sy : Nat} {p : α} {s : List α × List RuleD} (h : BOk Q sy s)
    (ha : ∀ v : Nat, v < sy → (act p v).no = false → Q (act p v).p ∧ (0 ≤ (act p v).w ∧ (act p v).w < sy) ∧ ((act p v).m = 1 ∨ (act p v).m = -1)) : ∀ n, n ≤ sy → BOk Q sy (rowTo act p s n) := by
  intro n
  induction n with
  | zero => intro _; exact h
  | succ n ih => intro hn; exact (ih (by omega)).sym (ha n (by omega))
theorem bldF_ok {Q : α → Prop} {act : α → Int → ActG α} {d : α} {sy : Nat}
    (ha : ∀ p, Q p → ∀ v : Nat, v < sy → (act p v).no = false → Q (act p v).p ∧ (0 ≤ (act p v).w ∧ (act p v).w < sy) ∧ ((act p v).m = 1 ∨ (act p v).m = -1)) :
    ∀ f k s t, bldF act d sy f k s = some t → BOk Q sy s → s.2.length = k * sy → k ≤ s.1.length → 1 ≤ s.1.length → s.1.length ≤ 1000 → BOk Q sy t ∧ t.2.length = t.1.length * sy ∧ 1 ≤ t.1.length ∧ t.1.length ≤ 1000 := by
  intro f
  induction f with
  | zero => intro k s t h; simp [bldF] at h
  | succ f ih =>
    intro k s t h hb hl hk h1 h2
    simp only [bldF] at h
    split at h
    · rename_i hlt
      split at h
      · cases h
      · rename_i hmost
        have hp : s.1.getD k d ∈ s.1 := by
          rw [List.getD_eq_getElem?_getD, List.getElem?_eq_getElem hlt]
          exact List.getElem_mem hlt
        have hlen := rowTo_length act (s.1.getD k d) s sy
        refine ih (k + 1) _ t h (hb.row (ha _ (hb.all _ hp)) sy (Nat.le_refl _)) ?_ (by omega) (by omega) (by omega)
        rw [hlen.2.2, hl, Nat.succ_mul]
    · rename_i hge
      cases h
      have hkk : k = s.1.length := by omega
      exact ⟨hb, by rw [hl, hkk], h1, h2⟩
end
theorem actF_fine {m : MachD} (hm : machOk m = true) {p : FP} {v : Int} (hp : POk m.st p) (v0 : 0 ≤ v) (v1 : v ≤ m.sy) (hn : (actF m p v).no = false) : (0 ≤ (actF m p v).w ∧ (actF m p v).w ≤ m.sy) ∧ ((actF m p v).m = 1 ∨ (actF m p v).m = -1) := by
  obtain ⟨s1, s2, s3, s4, hl⟩ := machOk_all hm
  obtain ⟨k, q, h⟩ := p
  obtain ⟨k0, k5, q0, q1, h01, hk⟩ := hp
  simp only at k0 k5 q0 q1 h01 hk
  have main : ∀ h', v ≠ m.sy → (foldMainD m q h' v).no = false → (0 ≤ (foldMainD m q h' v).w ∧ (foldMainD m q h' v).w ≤ m.sy) ∧ ((foldMainD m q h' v).m = 1 ∨ (foldMainD m q h' v).m = -1) := by
    intro h' hne hno
    obtain ⟨j, hj1, hj2⟩ := ruleIx s1 s2 hl q0 q1 v0 (by omega : v < m.sy)
    have e0 : m.rules.getD (q * m.sy + v).toNat noR = m.rules[j] := by
      rw [hj1, List.getD_eq_getElem?_getD, Int.toNat_natCast, List.getElem?_eq_getElem hj2]; rfl
    have hr : ruleOk m.sy m.st m.rules[j] = true := by
      have : m.rules.all (ruleOk m.sy m.st) = true := by simp only [machOk, Bool.and_eq_true] at hm; exact hm.2
      exact List.all_eq_true.1 this _ (List.getElem_mem hj2)
    unfold foldMainD at hno ⊢
    rw [e0] at hno ⊢
    generalize m.rules[j] = r at *
    by_cases hn : r = noR
    · rw [if_pos hn] at hno; simp [noA] at hno
    · rw [if_neg hn] at hno ⊢
      have hrn : 0 ≤ r.w ∧ r.w ≤ m.sy - 1 := by
        simp only [ruleOk, decide_eq_false hn, Bool.false_or, Bool.and_eq_true] at hr
        exact inB_iff.1 hr.1.1
      split
      · exact ⟨⟨hrn.1, by simp only; omega⟩, .inl rfl⟩
      · split
        · exact ⟨⟨hrn.1, by simp only; omega⟩, .inr rfl⟩
        · exact ⟨⟨hrn.1, by simp only; omega⟩, .inr rfl⟩
  have hkk : k = 0 ∨ k = 1 ∨ k = 2 ∨ k = 3 ∨ k = 4 ∨ k = 5 := by omega
  by_cases hne : v = m.sy
  · rcases hkk with e | e | e | e | e | e <;> subst e <;> simp [actF, hne, noA, keepD] at hn ⊢
    all_goals omega
  · rcases hkk with e | e | e | e | e | e <;> subst e <;> simp [actF, hne, keepD] at hn ⊢
    · exact main h hne hn
    · omega
    · omega
    · omega
    · omega
    · exact main 1 hne hn
/-- The machine on one half of the tape. -/
def foldM (m : MachD) (s : List FP × List RuleD) : MachD := ⟨m.sy + 1, s.1.length, s.2⟩
theorem fold_ok {m : MachD} (hm : machOk m = true) {s : List FP × List RuleD} (h : foldOf m = some s) : machOk (foldM m s) = true ∧ (∀ p ∈ s.1, POk m.st p) := by
  obtain ⟨s1, s2, s3, s4, hl⟩ := machOk_all hm
  unfold foldOf at h
  split at h
  · cases h
  · rename_i h6
    have hsy : ((m.sy + 1).toNat : Int) = m.sy + 1 := by omega
    have hd : POk m.st fp0 := ⟨by decide, by decide, Int.le_refl _, by show (0 : Int) < m.st; omega, .inl rfl, fun _ => rfl⟩
    obtain ⟨hb, h1, h2, h3⟩ := bldF_ok (Q := POk m.st) (act := actF m) (d := fp0) (sy := (m.sy + 1).toNat) (fun p hp v hv hno => by
      have hf := actF_fine hm hp (v := (v : Int)) (by omega) (by omega) hno
      exact ⟨actF_ok hm hp (by omega) (by omega) hno, ⟨hf.1.1, by omega⟩, hf.2⟩) 1002 0 ([fp0], []) s h ⟨fun p hp => by simp only [List.mem_singleton] at hp; subst hp; exact hd, fun r hr => by cases hr⟩ (by simp) (by simp) (by simp) (by simp)
    refine ⟨?_, hb.all⟩
    have hmul : (s.2.length : Int) = (m.sy + 1) * (s.1.length : Int) := by
      rw [h1, Int.natCast_mul, hsy, Int.mul_comm]
    have a1 : inB (m.sy + 1) 2 6 = true := inB_iff.2 (by omega)
    have a2 : inB (s.1.length : Int) 1 1000 = true := inB_iff.2 (by omega)
    have a3 : decide ((s.2.length : Int) = (m.sy + 1) * (s.1.length : Int)) = true := decide_eq_true hmul
    have a4 : s.2.all (ruleOk (m.sy + 1) (s.1.length : Int)) = true := List.all_eq_true.2 (fun r hr => by
      rcases hb.rules r hr with e | ⟨a, b, c, d⟩
      · simp [ruleOk, e]
      · have b1 : inB r.w 0 (m.sy + 1 - 1) = true := inB_iff.2 (by omega)
        have b2 : inB r.n 0 ((s.1.length : Int) - 1) = true := inB_iff.2 (by omega)
        have b3 : (r.m == 1 || r.m == -1) = true := by rcases b with e | e <;> rw [e] <;> rfl
        simp only [ruleOk, b1, b2, b3, Bool.and_true, Bool.or_true, Bool.and_self])
    show (inB (m.sy + 1) 2 6 && inB (s.1.length : Int) 1 1000 && decide ((s.2.length : Int) = (m.sy + 1) * (s.1.length : Int)) && s.2.all (ruleOk (m.sy + 1) (s.1.length : Int))) = true
    rw [a1, a2, a3, a4]
    rfl
/-- The right side of the beginning: the cells of both sides in turn. -/
def interN (a b : List Int) (n : Nat) : List Int := (List.range n).flatMap fun k => [a.getD k 0, b.getD k 0]
theorem interN_succ (a b : List Int) (n : Nat) : interN a b (n + 1) = interN a b n ++ [a.getD n 0, b.getD n 0] := by simp [interN, List.range_succ]
theorem interN_length (a b : List Int) (n : Nat) : (interN a b n).length = n * 2 := by
  induction n with
  | zero => rfl
  | succ n ih => rw [interN_succ, List.length_append, ih, Nat.succ_mul]; rfl
/-- The beginning of the run on one half of the tape, and its code. -/
def startX (m : MachD) (c : ConfD) (s : List FP × List RuleD) : ConfD := ⟨(s.1.idxOf ⟨0, c.q, 0⟩ : Nat), [m.sy], trim (interN c.r c.l (max c.l.length c.r.length))⟩
def startF (m : MachD) (c : ConfD) : ConfD × Int :=
  match foldOf m with
  | none => (blankC, 5)
  | some s => if (⟨0, c.q, 0⟩ : FP) ∈ s.1 then (if confB (foldM m s) (startX m c s) then (startX m c s, 0) else (blankC, 5)) else (blankC, 6)
/-- The text of the configuration for which one stands. -/
def txtF (m : MachD) (x : ConfD) : List UInt8 := if (decAll m x).2 = 0 then confT (decAll m x).1 else []
/-- The texts of a run and the code. -/
def TRun (M : MachD) (x : ConfD) (N : Nat) (f : ConfD → List UInt8) (L : List (List UInt8)) (k : Int) : Prop :=
  (∃ T, EndAt M x N T ∧ L = (List.range (T + 1)).map (fun i => f (cfgI M x i)) ∧ k = 0) ∨ ((∃ T, FullAt M x N T) ∧ L = [] ∧ k = 5)
theorem EndAt.unique {M : MachD} {x : ConfD} {N T T' : Nat} (h : EndAt M x N T) (h' : EndAt M x N T') : T = T' := by
  have key : ∀ {a b : Nat}, EndAt M x N a → EndAt M x N b → ¬ a < b := fun {a b} ha hb hlt => by
    rcases ha.stop with e | e
    · have := hb.le; omega
    · exact hb.runs.no a hlt e
  have := key h h'
  have := key h' h
  omega
theorem EndAt.not_full {M : MachD} {x : ConfD} {N T T' : Nat} (h : EndAt M x N T) (h' : FullAt M x N T') : False := by
  have hp := h'.pos
  have hle := h'.le
  by_cases hlt : T' ≤ T
  · have := h.runs.fit T' hlt
    rw [h'.full] at this
    cases this
  · rcases h.stop with e | e
    · omega
    · by_cases e1 : T = T' - 1
      · rw [e1] at e; exact h'.no e
      · exact h'.runs.no T (by omega) e
theorem TRun.unique {M : MachD} {x : ConfD} {N : Nat} {f : ConfD → List UInt8} {L L' : List (List UInt8)} {k k' : Int} (h : TRun M x N f L k) (h' : TRun M x N f L' k') : L = L' ∧ k = k' := by
  rcases h with ⟨T, h1, rfl, rfl⟩ | ⟨⟨T, h1⟩, rfl, rfl⟩ <;> rcases h' with ⟨T', h1', rfl, rfl⟩ | ⟨⟨T', h1'⟩, rfl, rfl⟩
  · rw [h1.unique h1']; exact ⟨rfl, rfl⟩
  · exact (h1.not_full h1').elim
  · exact (h1'.not_full h1).elim
  · exact ⟨rfl, rfl⟩
/-- The texts and the code of the whole call. -/
def FTxt (m : MachD) (c : ConfD) (n : Int) (L : List (List UInt8)) (k : Int) : Prop :=
  if machOk m && confB m c then
    if inB n 0 599 then
      if (startF m c).2 = 0 then ∃ s, foldOf m = some s ∧ TRun (foldM m s) (startF m c).1 n.toNat (txtF m) L k
      else L = [] ∧ k = (startF m c).2
    else L = [] ∧ k = 2
  else L = [] ∧ k = 1
theorem FTxt.unique {m : MachD} {c : ConfD} {n : Int} {L L' : List (List UInt8)} {k k' : Int} (h : FTxt m c n L k) (h' : FTxt m c n L' k') : L = L' ∧ k = k' := by
  unfold FTxt at h h'
  split at h
  · rename_i h0
    rw [if_pos h0] at h'
    split at h
    · rename_i h1
      rw [if_pos h1] at h'
      split at h
      · rename_i h2
        rw [if_pos h2] at h'
        obtain ⟨s, e, ht⟩ := h
        obtain ⟨s', e', ht'⟩ := h'
        rw [e] at e'
        cases e'
        exact ht.unique ht'
      · rename_i h2
        rw [if_neg h2] at h'
        exact ⟨h.1.trans h'.1.symm, h.2.trans h'.2.symm⟩
    · rename_i h1
      rw [if_neg h1] at h'
      exact ⟨h.1.trans h'.1.symm, h.2.trans h'.2.symm⟩
  · rename_i h0
    rw [if_neg h0] at h'
    exact ⟨h.1.trans h'.1.symm, h.2.trans h'.2.symm⟩
/-- What the run of the folded machine comes to is one of its configurations. -/
theorem run_conf {m : MachD} (hm : machOk m = true) {s : List FP × List RuleD} (hs : foldOf m = some s) {x : ConfD} (hx : confB (foldM m s) x = true) {i : Nat} (h : RunsTo (foldM m s) x i) : confB (foldM m s) (cfgI (foldM m s) x i) = true := by
  obtain ⟨hg, hf, ht⟩ := conf_good hx
  have hok := (fold_ok hm hs).1
  refine conf_back (cfg_good hok hg i h.no) ?_ (tidy_cfg ht i)
  have := h.fit i (Nat.le_refl _)
  simpa [fitI] using this
end Go.Proofs.YtjcfmlecfjmcgaaGreatDoor
end
