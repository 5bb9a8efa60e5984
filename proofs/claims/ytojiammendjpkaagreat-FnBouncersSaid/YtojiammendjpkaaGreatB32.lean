/- A range over a function whose iterator writes memory of its own between the rounds: the contract of such an iterator, and the law for the loop. No condition.
The iterator over the steps of the program's runner has its contract. The machine is valid and the configuration is one of its.
Contract of the program's follower with its tracker, from the blank tape. -/
import Derived.RangeFuncNested
import Derived.RangeFuncBound
import Derived.RangeFuncCalls
import Derived.RangeFuncLeaves
import Derived.Test.YtojiammendjpkaaGreatB30
import Derived.Shelf.Abstract
import Derived.Shelf.RegionOpen
import Derived.WalkKit
import Derived.OwnWalkIn
import Derived.TacticsInMore
import Derived.LoopNIn
import Derived.LoopIn
import Derived.Test.YtojiammendjpkaaGreatB31
section
namespace Go.Proofs.YtojiammendjpkaaGreat
open Go Go.RowKit
variable {F : Fence} {n : Nat} {P : Program}
/-- The contract of an iterator: 'Wr': its own steps; 'St': what holds when it hands an element on; 'Kp': what a round keeps for it. -/
def SeqW {α : Type} (F : Fence) (n : Nat) (P : Program) (g : Nat) (lb : Array Value) (encs : α → Array Value) (Wr : World → World → Prop) (St : List α → α → World → Prop) (Kp : World → World → Prop) (S Sp : List α → World → Prop) (N : Nat) (w : World) : Prop :=
  ∀ (l : Nat) (J Jx : List α → World → Prop) (W : World), Below w.heap.size w W → (∀ s A B, J s A → Wr A B → J s B) →
    (∀ pre x W1, J pre W1 → St pre x W1 → pre.length < N → YieldAt F (n - 1) P l (encs x) W1 fun e W' =>
      (e = .returned (.bool true) ∧ J (pre ++ [x]) W' ∧ Kp W1 W') ∨ (e = .returned (.bool false) ∧ Jx (pre ++ [x]) W' ∧ Kp W1 W')) →
    J [] W →
    CallsIn F n P g (#[.func (.yield l) #[] #[]] ++ lb) W fun e W' => (∃ v, e = .returned v) ∧ ((∃ xs, S xs W' ∧ J xs W') ∨ (∃ pre, Sp pre W' ∧ Jx pre W'))
/-- How the body of a round may be left. -/
def ownPostW {α : Type} (B : Nat) (Kp : World → World → Prop) (I : List α → World → Prop) (Ix : Code → List α → World → Prop) (xs : List α) (W : World) : Exit → Act → World → Prop
  | .normal, _, W' => KeepsFrom B W W' ∧ Kp W W' ∧ I xs W'
  | .ret, _, W' => KeepsFrom B W W' ∧ Kp W W' ∧ Ix .ret xs W'
  | .exit id, _, W' => KeepsFrom B W W' ∧ Kp W W' ∧ Ix (.exit id) xs W'
  | .goto t, _, W' => KeepsFrom B W W' ∧ Kp W W' ∧ Ix (.goto t) xs W'
  | .panic _, _, _ => False
  | .outgrown, _, _ => False
theorem wpIn_rangeFunc_W {α : Type} {g : Operand} {ps : Array Tmp} {assign body : Code} {Q : Exit → Act → World → Prop} {a : Act} {w : World}
    (hro : F.round = none) (h1 : 1 ≤ n) {gf : Nat} {lb : Array Value} (hg : a.eval g = .func (.func gf) #[] lb) (hFg : F.fn gf) (eg : ∀ args w, (callFunc gf args).run P w = .ok (.enter gf args) w)
    {encs : α → Array Value} {Wr : World → World → Prop} {St : List α → α → World → Prop} {Kp : World → World → Prop} {S Sp : List α → World → Prop} {N : Nat} {w0 : World} (hseq : SeqW F (n - 1) P gf lb encs Wr St Kp S Sp N w0)
    (hKt : ∀ {A B C : World}, Kp A B → Kp B C → Kp A C) (hKb : ∀ (W : World) (l : Nat) (o o' : Obj), w.heap.size ≤ l → W.heap[l]? = some o → o.isCells = false → o.isWalk = false → Kp W (W.putObj l o')) (hb0 : Below w0.heap.size w0 w) (hps : ∀ x, (encs x).size = ps.size)
    (hWr : ∀ A B, Wr A B → KeepsOthers A B)
    (I : List α → World → Prop) (Ix : Code → List α → World → Prop) (hI : OwnFrom w.heap.size I) (hIx : ∀ c, OwnFrom w.heap.size (Ix c)) (hIw : ∀ s A B, I s A → Wr A B → I s B)
    (hSt : ∀ pre x, OwnFrom w.heap.size (fun (_ : Unit) W => St pre x W)) (hS : OwnFrom w.heap.size S) (hSp : OwnFrom w.heap.size Sp) (h0 : I [] w) (a₁ : α → Act)
    (hassign : ∀ (l : Nat) (x : α) (W : World) (K : Act → World → Prop), K (a₁ x) W →
      assign.wpIn (F.inRound l) (n - 1 - 1) P (Exit.then K (fun _ _ _ => False)) { tmps := (ps.zip (encs x)).foldl (fun t (p, v) => t.setIfInBounds p v) a.tmps, defers := [] } W)
    (hbody : ∀ (l : Nat) (pre : List α) (x : α) (W : World), I pre W → St pre x W → pre.length < N → body.wpIn (F.inRound l) (n - 1 - 1) P (ownPostW w.heap.size Kp I Ix (pre ++ [x]) W) (a₁ x) W)
    (hdone : ∀ (D : Nat) (xs : List α) (W : World), w.heap.size ≤ D → S xs W → I xs W → W.heap[D]? = some (.deferred (some [])) → Q .normal { a with defers := { target := .collected D, args := #[] } :: a.defers } W)
    (hstop : ∀ (D : Nat) (c : Code) (pre : List α) (W : World), w.heap.size ≤ D → Sp pre W → Ix c pre W → W.heap[D]? = some (.deferred (some [])) → c.wpIn F n P Q { a with defers := { target := .collected D, args := #[] } :: a.defers } W) :
    (Code.rangeFunc g ps assign body).wpIn F n P Q a w := by
  refine wpIn_rangeFunc ?_
  intro fn hfn
  rw [hro]
  obtain ⟨rec, hrec⟩ : ∃ rec : LoopState → Option Code → Loop, rec = fun st pe => { state := st, pending := pe, fn, tmps := a.tmps, params := ps, assign, body, defers := w.heap.size } := ⟨_, rfl⟩
  obtain ⟨W1, hW1⟩ : ∃ W1, (w.alloc (.deferred (some []))).alloc (.loop (rec .ready none)) = W1 := ⟨_, rfl⟩
  have hL1 : W1.heap[w.heap.size + 1]? = some (.loop (rec .ready none)) := by
    rw [← hW1]; have := World.alloc_heap_new (w.alloc (.deferred (some []))) (.loop (rec .ready none)); rwa [World.size_alloc] at this
  have hK1 : W1.heap[w.heap.size]? = some (.deferred (some [])) := by
    rw [← hW1]; exact (Below.heap_alloc _ _ _ (by simp)).trans (World.alloc_heap_new w _)
  have hI1 : I [] W1 := by rw [← hW1]; exact hI.alloc _ (hI.alloc _ h0)
  have hb1 : Below w0.heap.size w0 W1 := by
    rw [← hW1]; exact hb0.trans ((((Below.refl _ w).alloc (Nat.le_refl _) _).alloc (by simp) _).mono hb0.size)
  refine ⟨w.heap.size + 1, [{ target := .collected w.heap.size, args := #[] }], W1, { target := .fn (.func gf) lb, args := #[.func (.yield (w.heap.size + 1)) #[] #[]] }, W1, gf,
    #[.func (.yield (w.heap.size + 1)) #[] #[]] ++ lb, W1, ?_, ?_, ?_, ?_, fun _ => h1, ?_⟩
  · rw [← hW1, hrec]; exact run_enterLoop_outer _ _ _ _ _
  · simp only [resolve, hg]
    simp [go_sem]
  · intro f' hf'; simp [Target.leads] at hf'; subst hf'; exact hFg
  · simp [invoke, go_sem, eg]
  · refine (hseq (w.heap.size + 1)
      (fun pre W => I pre W ∧ W.heap[w.heap.size + 1]? = some (.loop (rec .ready none)) ∧ W.heap[w.heap.size]? = some (.deferred (some [])))
      (fun pre W => ∃ c, Ix c pre W ∧ W.heap[w.heap.size + 1]? = some (.loop (rec .done (some c))) ∧ W.heap[w.heap.size]? = some (.deferred (some [])))
      W1 hb1
      (fun s A B hs hr => ⟨hIw s A B hs.1 hr, (hWr A B hr).same _ _ hs.2.1 rfl, (hWr A B hr).same _ _ hs.2.2 rfl⟩)
      ?_ ⟨hI1, hL1, hK1⟩).mono ?_
    · rintro pre x W ⟨hi, hl, hk⟩ hst hlen
      have hlt : w.heap.size + 1 < W.heap.size := (Array.getElem?_eq_some_iff.1 hl).1
      have hy := run_yield (P := P) (args := encs x) hl (by rw [hrec]; exact hps x)
      rw [hrec] at hy
      refine ⟨fn, _, assign, body, hy, roundIn_of_wpIn hfn (hassign _ x W _ ⟨_, run_beginRound hl (by rw [hrec]), ?_⟩)⟩
      have hl2 : (W.putObj (w.heap.size + 1) (.loop { rec .ready none with state := .busy })).heap[w.heap.size + 1]? = some (.loop { rec .ready none with state := .busy }) := World.putObj_heap_same hlt
      have hk2 : (W.putObj (w.heap.size + 1) (.loop { rec .ready none with state := .busy })).heap[w.heap.size]? = some (.deferred (some [])) := (World.putObj_heap_other (by omega)).trans hk
      have hw2 : Kp W (W.putObj (w.heap.size + 1) (.loop { rec .ready none with state := .busy })) := hKb _ _ _ _ (by omega) hl rfl rfl
      refine wpIn_mono (hbody _ pre x _ (hI.putObj _ hi (by omega) hl rfl) ((hSt pre x).putObj (s := ()) _ hst (by omega) hl rfl) hlen) ?_
      have fin : ∀ (jump : Option Code) (W3 : World), KeepsFrom w.heap.size (W.putObj (w.heap.size + 1) (.loop { rec .ready none with state := .busy })) W3 →
          (Instr.endRound (w.heap.size + 1) jump).run P W3 = .ok (.bool jump.isNone) (W3.putObj (w.heap.size + 1) (.loop (rec (if jump.isNone then .ready else .done) jump))) ∧
          W3.heap[w.heap.size + 1]? = some (.loop { rec .ready none with state := .busy }) ∧
          (W3.putObj (w.heap.size + 1) (.loop (rec (if jump.isNone then .ready else .done) jump))).heap[w.heap.size + 1]? = some (.loop (rec (if jump.isNone then .ready else .done) jump)) ∧
          (W3.putObj (w.heap.size + 1) (.loop (rec (if jump.isNone then .ready else .done) jump))).heap[w.heap.size]? = some (.deferred (some [])) := fun jump W3 hk3 => by
        have hl3 := hk3.same _ _ (by omega) hl2 rfl
        have := run_endRound (P := P) jump hl3
        rw [hrec] at this ⊢
        exact ⟨this, by rw [hrec] at hl3; exact hl3, World.putObj_heap_same (Array.getElem?_eq_some_iff.1 hl3).1, (World.putObj_heap_other (by omega)).trans (hk3.same _ _ (Nat.le_refl _) hk2 rfl)⟩
      rintro e a3 W3 hp
      cases e with
      | normal =>
        obtain ⟨hk3, hkp3, hi3⟩ := hp
        obtain ⟨hr, hl3, hl4, hk4⟩ := fin none W3 hk3
        exact ⟨_, _, hr, .inl ⟨rfl, ⟨hI.putObj _ hi3 (by omega) hl3 rfl, hl4, hk4⟩, hKt (hKt hw2 hkp3) (hKb _ _ _ _ (by omega) hl3 rfl rfl)⟩⟩
      | ret =>
        obtain ⟨hk3, hkp3, hi3⟩ := hp
        obtain ⟨hr, hl3, hl4, hk4⟩ := fin (some .ret) W3 hk3
        exact ⟨_, _, hr, .inr ⟨rfl, ⟨.ret, (hIx _).putObj _ hi3 (by omega) hl3 rfl, hl4, hk4⟩, hKt (hKt hw2 hkp3) (hKb _ _ _ _ (by omega) hl3 rfl rfl)⟩⟩
      | exit id =>
        obtain ⟨hk3, hkp3, hi3⟩ := hp
        obtain ⟨hr, hl3, hl4, hk4⟩ := fin (some (.exit id)) W3 hk3
        exact ⟨_, _, hr, .inr ⟨rfl, ⟨.exit id, (hIx _).putObj _ hi3 (by omega) hl3 rfl, hl4, hk4⟩, hKt (hKt hw2 hkp3) (hKb _ _ _ _ (by omega) hl3 rfl rfl)⟩⟩
      | goto t =>
        obtain ⟨hk3, hkp3, hi3⟩ := hp
        obtain ⟨hr, hl3, hl4, hk4⟩ := fin (some (.goto t)) W3 hk3
        exact ⟨_, _, hr, .inr ⟨rfl, ⟨.goto t, (hIx _).putObj _ hi3 (by omega) hl3 rfl, hl4, hk4⟩, hKt (hKt hw2 hkp3) (hKb _ _ _ _ (by omega) hl3 rfl rfl)⟩⟩
      | panic ch => exact hp.elim
      | outgrown => exact hp.elim
    · rintro e W2 ⟨⟨v, rfl⟩, (⟨xs, hs, hi, hl, hk⟩ | ⟨pre, hsp, c, hi, hl, hk⟩)⟩
      · exact ⟨none, _, by have := run_endLoop (P := P) hl (by rw [hrec]; simp); rw [hrec] at this; exact this, hdone _ xs _ (Nat.le_refl _) (hS.putObj _ hs (by omega) hl rfl) (hI.putObj _ hi (by omega) hl rfl) ((World.putObj_heap_other (by omega)).trans hk)⟩
      · exact ⟨some c, _, by have := run_endLoop (P := P) hl (by rw [hrec]; simp); rw [hrec] at this; exact this, hstop _ c pre _ (Nat.le_refl _) (hSp.putObj _ hsp (by omega) hl rfl) ((hIx c).putObj _ hi (by omega) hl rfl) ((World.putObj_heap_other (by omega)).trans hk)⟩
end Go.Proofs.YtojiammendjpkaaGreat
end
section
set_option linter.unusedSimpArgs false
set_option linter.unusedVariables false
namespace Go.Proofs.YtojiammendjpkaaGreat
open Go Go.RowKit Go.Proofs Go.Shelf
attribute [local go_sem] Oper.semAt_some
set_option maxHeartbeats 400000
abbrev encR (x : Int × Bool) : Array Value := #[.int .i64 x.1, .bool x.2]
/-- The run ends behind i steps. -/
structure EndAt (m : MachD) (c : ConfD) (N i : Nat) : Prop where
  runs : RunsTo m c i
  le : i ≤ N
  stop : i = N ∨ lookI m (cfgI m c i) = noR
/-- There is no room behind i steps. -/
structure FullAt (m : MachD) (c : ConfD) (N i : Nat) : Prop where
  pos : 0 < i
  runs : RunsTo m c (i - 1)
  le : i ≤ N
  no : ¬ lookI m (cfgI m c (i - 1)) = noR
  full : fitI (cfgI m c i) = false
section
variable (w0 : World) (b bq bp : Nat) (m : MachD) (c : ConfD) (mv : Value) (N : Nat)
def WrR (A B : World) : Prop := ∃ d lv rv d' lv' rv', RunAt w0 A b m d mv lv rv ∧ RunAt w0 B b m d' mv lv' rv' ∧ Moved b A B lv rv lv' rv'
def KpR (W W' : World) : Prop := W.heap.size ≤ W'.heap.size ∧ (∀ d lv rv, RunAt w0 W b m d mv lv rv → RunAt w0 W' b m d mv lv rv) ∧ W'.heap[bq]? = W.heap[bq]? ∧ W'.heap[bp]? = W.heap[bp]?
def StR (pre : List (Int × Bool)) (x : Int × Bool) (W : World) : Prop :=
  ∃ (i : Nat) (lv rv : Value), RunAt w0 W b m (cfgI m c i) mv lv rv ∧ pre.length = i ∧ ((x = ((i : Int), true) ∧ RunsTo m c i ∧ i ≤ N) ∨ (x = ((i : Int), false) ∧ FullAt m c N i))
def SR (xs : List (Int × Bool)) (W : World) : Prop :=
  ∃ (i : Nat) (lv rv : Value) (pre : List (Int × Bool)), RunAt w0 W b m (cfgI m c i) mv lv rv ∧ ((xs = pre ++ [((i : Int), true)] ∧ EndAt m c N i) ∨ (xs = pre ++ [((i : Int), false)] ∧ FullAt m c N i))
def SpR (xs : List (Int × Bool)) (W : World) : Prop :=
  ∃ (i : Nat) (lv rv : Value) (pre : List (Int × Bool)), RunAt w0 W b m (cfgI m c i) mv lv rv ∧ ((xs = pre ++ [((i : Int), true)] ∧ RunsTo m c i ∧ i ≤ N) ∨ (xs = pre ++ [((i : Int), false)] ∧ FullAt m c N i))
end
/-- The boxes of the iterator, apart from the sides. -/
structure BoxR (W : World) (b bq bp : Nat) (N : Nat) (lv rv : Value) : Prop where
  q : Blk W bq 2 #[.int .i64 N]
  p : Blk W bp 88 #[.pointer (some ⟨b, 0, none⟩)]
  lq : lv.ownBlock ≠ some bq
  rq : rv.ownBlock ≠ some bq
  lp : lv.ownBlock ≠ some bp
  rp : rv.ownBlock ≠ some bp
  bq_ : bq ≠ b
  bp_ : bp ≠ b
theorem BoxR.moved {W W' : World} {b bq bp N : Nat} {lv rv lv' rv' : Value} (h : BoxR W b bq bp N lv rv) (hm : Moved b W W' lv rv lv' rv') : BoxR W' b bq bp N lv' rv' := by
  have h1 := h.q.lt
  have h2 := h.p.lt
  refine ⟨(hm.same _ h1 h.bq_ h.lq h.rq).trans h.q, (hm.same _ h2 h.bp_ h.lp h.rp).trans h.p, fun e => ?_, fun e => ?_, fun e => ?_, fun e => ?_, h.bq_, h.bp_⟩
  · rcases hm.newl _ e with e | e | e
    · exact h.lq e
    · exact h.rq e
    · omega
  · rcases hm.newr _ e with e | e | e
    · exact h.lq e
    · exact h.rq e
    · omega
  · rcases hm.newl _ e with e | e | e
    · exact h.lp e
    · exact h.rp e
    · omega
  · rcases hm.newr _ e with e | e | e
    · exact h.lp e
    · exact h.rp e
    · omega
theorem BoxR.kept {W W' : World} {b bq bp N : Nat} {lv rv : Value} (h : BoxR W b bq bp N lv rv) (h1 : W'.heap[bq]? = W.heap[bq]?) (h2 : W'.heap[bp]? = W.heap[bp]?) : BoxR W' b bq bp N lv rv :=
  ⟨h1.trans h.q, h2.trans h.p, h.lq, h.rq, h.lp, h.rp, h.bq_, h.bp_⟩
theorem fit_both {c : ConfD} (h : fitI c = true) : c.l.length ≤ 200 ∧ c.r.length ≤ 200 := by
  simpa [fitI] using h
set_option maxRecDepth 100000 in
set_option maxHeartbeats 4000000 in
theorem steps1_w (n : Nat) (hn : 4 ≤ n) (w0 w : World) (b bq bp : Nat) (m : MachD) (c : ConfD) (mv lv rv : Value) (N : Nat) (hN : N ≤ 100000) (hm : machOk m = true) (hg : IGood m c) (hf : fitI c = true)
    (h : RunAt w0 w b m c mv lv rv) (hB : BoxR w b bq bp N lv rv) :
    SeqW Fence.wide n Tryz.prog 154 #[.pointer (some ⟨bq, 0, none⟩), .pointer (some ⟨bp, 0, none⟩)] encR (WrR w0 b m mv) (StR w0 b m c mv N) (KpR w0 b bq bp m mv) (SR w0 b m c mv N) (SpR w0 b m c mv N) (N + 2) w := fun l J Jx W hb hJw hY h0 => by
  have hn1 : 1 ≤ n := by omega
  refine callsIn_of_wp Tryz.func154 rfl trivial ?_ rfl
  simp only [Tryz.ntmps154, List.size_toArray, List.length_cons, List.length_nil, Nat.reduceAdd, Nat.reduceSub, Array.replicate_succ, Array.replicate_zero, List.push_toArray, List.append_toArray, List.nil_append, List.cons_append]
  gi_wp2
  gi_loopw [4] (fun n wr => ∃ (i : Nat) (pre : List (Int × Bool)) (l1 r1 : Value), n = .int .i64 i ∧ pre.length = i ∧ J pre wr ∧ RunAt w0 wr b m (cfgI m c i) mv l1 r1 ∧ BoxR wr b bq bp N l1 r1 ∧ RunsTo m c i ∧ i ≤ N) (fun n _ => N + 1 - (intOf n).toNat)
  case atStart => exact ⟨0, [], lv, rv, rfl, rfl, h0, h.ext hb, hB.kept (Below.block hb _ hB.q.lt) (Below.block hb _ hB.p.lt), RunsTo.zero hf, by omega⟩
  case round =>
    obtain ⟨i, pre, l1, r1, rfl, hpl, hJ, hR, hBx, hT, hiN⟩ := hrel
    obtain ⟨fn, tmps, assign, body, hy, hRd⟩ := hY pre ((i : Int), true) wr hJ ⟨i, l1, r1, hR, hpl, .inl ⟨rfl, hT, hiN⟩⟩ (by omega)
    dsimp only [encR] at hy
    have HT := Lib.hid hT
    have HPL := Lib.hid hpl
    clear hpl hT
    gi_wp2
    refine hRd.mono ?_
    rintro e W3 (⟨rfl, hJ3, hk3⟩ | ⟨rfl, hJx3, hk3⟩)
    · have R3 := hk3.2.1 _ _ _ hR
      have B3 := hBx.kept hk3.2.2.1 hk3.2.2.2
      have hgi : IGood m (cfgI m c i) := cfg_good hm hg i HT.out.no
      have hfi := fit_both (HT.out.fit i (Nat.le_refl _))
      have cq := B3.q.cell 0
      have cp := B3.p.cell 0
      simp only [List.getElem?_toArray, List.getElem?_cons_zero] at cq cp
      clear hRd hy
      by_cases hlt : i < N
      · have d1 : decide ((i : Int) < (N : Int)) = true := decide_eq_true (by omega)
        have d1' : decide (i < N) = true := decide_eq_true hlt
        have hH := halts_c w0 W3 b m _ mv l1 r1 R3 (by omega) hm hgi
        by_cases hno : lookI m (cfgI m c i) = noR
        · rw [decide_eq_true hno] at hH
          have HNO := Lib.hid hno
          clear hno
          gi_wp2_with (refine ⟨trivial, ?_⟩; gi_at_call 50; refine (callsIn_wide.2 hH).mono ?_; rintro e w4 ⟨rfl, hx4⟩)
          refine bodyPost_end (results_none rfl _ _ _) rfl ?_
          have R4 := R3.ext hx4
          have hJ4 := hJw _ _ _ hJ3 ⟨_, _, _, _, _, _, R3, R4, Moved.ofExt hx4⟩
          exact ⟨⟨_, rfl⟩, .inl ⟨_, ⟨i, l1, r1, pre, R4, .inl ⟨rfl, HT.out, hiN, .inr HNO.out⟩⟩, hJ4⟩⟩
        · rw [decide_eq_false hno] at hH
          have HNO := Lib.hid hno
          clear hno
          gi_wp2_with (refine ⟨trivial, ?_⟩; gi_at_call 50; refine (callsIn_wide.2 hH).mono ?_; rintro e w4 ⟨rfl, hx4⟩; have R4 := R3.ext hx4; have cp4 := hx4.cell cp; have hS := step_c w0 w4 b m _ mv l1 r1 R4 hfi.1 hfi.2 hm hgi)
          refine ⟨trivial, ?_⟩
          refine (callsIn_wide.2 hS).mono ?_
          rintro e w5 ⟨l5, r5, rfl, R5, M5⟩
          have B5 := (B3.moved (Moved.ofExt hx4)).moved M5
          have hJ4 := hJw _ _ _ hJ3 ⟨_, _, _, _, _, _, R3, R4, Moved.ofExt hx4⟩
          have hJ5 := hJw _ _ _ hJ4 ⟨_, _, _, _, _, _, R4, R5, M5⟩
          have R5' : RunAt w0 w5 b m (cfgI m c (i + 1)) mv l5 r5 := R5
          cases hfit : fitI (stepI (lookI m (cfgI m c i)) (cfgI m c i)) with
          | true =>
            have HF : Hid (RunsTo m c (i + 1)) := Lib.hid (HT.out.succ HNO.out hfit)
            clear hfit hS hH
            gi_wp2
            go_roundw
            case rel => exact ⟨i + 1, pre ++ [((i : Int), true)], l5, r5, by go_num, by rw [List.length_append, HPL.out]; rfl, hJ5, R5', B5, HF.out, by omega⟩
            case measure => simp [intOf]; omega
          | false =>
            have HF : Hid (FullAt m c N (i + 1)) := ⟨by omega, by simpa using HT.out, by omega, by simpa using HNO.out, hfit⟩
            clear hfit hS hH
            obtain ⟨fn, tmps, assign, body, hy, hRd⟩ := hY (pre ++ [((i : Int), true)]) (((i : Int) + 1), false) w5 hJ5 ⟨i + 1, l5, r5, R5', by rw [List.length_append, HPL.out]; rfl, .inr ⟨by simp, HF.out⟩⟩ (by rw [List.length_append, HPL.out]; simp; omega)
            dsimp only [encR] at hy
            gi_wp2
            refine hRd.mono ?_
            rintro e W6 (⟨rfl, hJ6, hk6⟩ | ⟨rfl, hJx6, hk6⟩)
            · have R6 := hk6.2.1 _ _ _ R5'
              gi_wp2
              refine bodyPost_ret (results_none rfl _ _ _) rfl ?_
              exact ⟨⟨_, rfl⟩, .inl ⟨_, ⟨i + 1, l5, r5, pre ++ [((i : Int), true)], R6, .inr ⟨by simp, HF.out⟩⟩, hJ6⟩⟩
            · have R6 := hk6.2.1 _ _ _ R5'
              gi_wp2
              refine bodyPost_ret (results_none rfl _ _ _) rfl ?_
              exact ⟨⟨_, rfl⟩, .inr ⟨_, ⟨i + 1, l5, r5, pre ++ [((i : Int), true)], R6, .inr ⟨by simp, HF.out⟩⟩, hJx6⟩⟩
      · have d1 : decide ((i : Int) < (N : Int)) = false := decide_eq_false (by omega)
        have d1' : decide (i < N) = false := decide_eq_false hlt
        gi_wp2
        refine ⟨trivial, ?_⟩
        gi_wp2
        refine bodyPost_end (results_none rfl _ _ _) rfl ?_
        exact ⟨⟨_, rfl⟩, .inl ⟨_, ⟨i, l1, r1, pre, R3, .inl ⟨rfl, HT.out, hiN, .inl (by omega)⟩⟩, hJ3⟩⟩
    · have R3 := hk3.2.1 _ _ _ hR
      gi_wp2
      refine ⟨trivial, ?_⟩
      gi_wp2
      refine bodyPost_end (results_none rfl _ _ _) rfl ?_
      exact ⟨⟨_, rfl⟩, .inr ⟨_, ⟨i, l1, r1, pre, R3, .inl ⟨rfl, HT.out, hiN⟩⟩, hJx3⟩⟩
end Go.Proofs.YtojiammendjpkaaGreat
end
section
set_option linter.unusedSimpArgs false
set_option linter.unusedVariables false
namespace Go.Proofs.YtojiammendjpkaaGreat
open Go Go.RowKit Go.Proofs
set_option maxHeartbeats 400000
/-- The records behind n configurations. -/
structure RecsAt (m : MachD) (c : ConfD) (n : Nat) (rs : List RecV) (lo hi : Int) : Prop where
  lo0 : lo ≤ 0
  hi0 : 0 ≤ hi
  each : ∀ r ∈ rs, 1 ≤ r.n ∧ r.n < n ∧ r.c = cfgI m c r.n ∧ ((r.side = 1 ∧ posI m c r.n ≤ hi) ∨ (r.side = -1 ∧ lo ≤ posI m c r.n))
  pair : rs.Pairwise fun a b => a.n < b.n ∧ (a.side = b.side → posI m c a.n ≠ posI m c b.n)
theorem RecsAt.start (m : MachD) (c : ConfD) : RecsAt m c 0 [] 0 0 := ⟨Int.le_refl _, Int.le_refl _, fun r hr => by simp at hr, List.Pairwise.nil⟩
theorem RecsAt.seen {m : MachD} {c : ConfD} {n : Nat} {rs rs' : List RecV} {lo hi lo' hi' : Int} (h : RecsAt m c n rs lo hi) (hs : SeenQ (cfgI m c n) (posI m c n) n rs rs' lo hi lo' hi') : RecsAt m c (n + 1) rs' lo' hi' := by
  have z0 : n = 0 → posI m c n = 0 := fun e => by subst e; rfl
  have h0 := h.lo0
  have h1 := h.hi0
  have hn : hi < posI m c n ∨ posI m c n < lo → 1 ≤ n := fun e => by
    by_cases hz : n = 0
    · have := z0 hz; omega
    · omega
  have mono : ∀ r ∈ rs, 1 ≤ r.n ∧ r.n < n + 1 ∧ r.c = cfgI m c r.n ∧ ((r.side = 1 ∧ posI m c r.n ≤ hi) ∨ (r.side = -1 ∧ lo ≤ posI m c r.n)) := fun r hr => by
    obtain ⟨a, b, d, e⟩ := h.each r hr
    exact ⟨a, by omega, d, e⟩
  rcases hs with ⟨hz, ⟨lv, rv, rfl⟩, rfl, rfl⟩ | ⟨hz, hz2, ⟨lv, rv, rfl⟩, rfl, rfl⟩ | ⟨_, _, rfl, rfl, rfl⟩
  · refine ⟨h.lo0, by omega, fun r hr => ?_, ?_⟩
    · rcases List.mem_append.1 hr with hr | hr
      · obtain ⟨a, b, d, e⟩ := mono r hr
        refine ⟨a, b, d, ?_⟩
        rcases e with e | e
        · exact .inl ⟨e.1, by omega⟩
        · exact .inr e
      · rw [List.mem_singleton.1 hr]
        exact ⟨hn (.inl hz), Nat.lt_succ_self _, rfl, .inl ⟨rfl, Int.le_refl _⟩⟩
    · refine List.pairwise_append.2 ⟨h.pair, List.pairwise_singleton _ _, fun a ha b hb => ?_⟩
      rw [List.mem_singleton.1 hb]
      obtain ⟨q1, q2, _, q3⟩ := h.each a ha
      refine ⟨q2, fun e => ?_⟩
      simp only at e
      rcases q3 with q3 | q3
      · simp only; omega
      · rw [q3.1] at e; exact absurd e (by decide)
  · refine ⟨by omega, h.hi0, fun r hr => ?_, ?_⟩
    · rcases List.mem_append.1 hr with hr | hr
      · obtain ⟨a, b, d, e⟩ := mono r hr
        refine ⟨a, b, d, ?_⟩
        rcases e with e | e
        · exact .inl e
        · exact .inr ⟨e.1, by omega⟩
      · rw [List.mem_singleton.1 hr]
        exact ⟨hn (.inr hz2), Nat.lt_succ_self _, rfl, .inr ⟨rfl, Int.le_refl _⟩⟩
    · refine List.pairwise_append.2 ⟨h.pair, List.pairwise_singleton _ _, fun a ha b hb => ?_⟩
      rw [List.mem_singleton.1 hb]
      obtain ⟨q1, q2, _, q3⟩ := h.each a ha
      refine ⟨q2, fun e => ?_⟩
      simp only at e
      rcases q3 with q3 | q3
      · rw [q3.1] at e; exact absurd e (by decide)
      · simp only; omega
  · exact ⟨h.lo0, h.hi0, mono, h.pair⟩
theorem SeenQ.len {c : ConfD} {z : Int} {n : Nat} {rs rs' : List RecV} {lo hi lo' hi' : Int} (h : SeenQ c z n rs rs' lo hi lo' hi') : rs'.length ≤ rs.length + 1 := by
  rcases h with ⟨_, ⟨lv, rv, rfl⟩, _⟩ | ⟨_, _, ⟨lv, rv, rfl⟩, _⟩ | ⟨_, _, rfl, _⟩ <;> simp
/-- The positions of the configurations before the nth one. -/
def posM (m : MachD) (c : ConfD) (n : Nat) : List Int := (List.range n).map (posI m c)
theorem posM_succ (m : MachD) (c : ConfD) (n : Nat) : posM m c (n + 1) = posM m c n ++ [posI m c n] := by simp [posM, List.range_succ]
theorem posM_len (m : MachD) (c : ConfD) (n : Nat) : (posM m c n).length = n := by simp [posM]
theorem pos_bound {m : MachD} (hm : machOk m = true) {c : ConfD} (hc : IGood m c) : ∀ n : Nat, (∀ i < n, ¬ lookI m (cfgI m c i) = noR) → -(n : Int) ≤ posI m c n ∧ posI m c n ≤ n := by
  intro n
  induction n with
  | zero => intro _; simp [posI]
  | succ n ih =>
    intro h
    have := ih (fun i hi => h i (by omega))
    have hk := look_move hm (cfg_good hm hc n (fun i hi => h i (by omega))) (h n (by omega))
    rw [posI]
    omega
/-- What following a run comes to. -/
def FolRes (w0 : World) (x : Nat) (m : MachD) (N : Nat) (e : Ending) (w' : World) : Prop :=
  ∃ (i : Nat) (rs : List RecV) (lo hi : Int) (pv qv lv rv : Value), TrkAt w0 w' x lv rv (posM m blankC (i + 1)) rs lo hi pv qv ∧ RecsAt m blankC (i + 1) rs lo hi ∧ Ext w0 w' ∧ rs.length ≤ i + 1 ∧
    ((EndAt m blankC N i ∧ e = .returned (.tuple #[.int .i64 i, .bool (decide (lookI m (cfgI m blankC i) = noR)), .int .i64 0])) ∨ (FullAt m blankC N (i + 1) ∧ e = .returned (.tuple #[.int .i64 0, .bool false, .int .i64 5])))
theorem methConfig (x : Nat) (w : World) : (method 364 99 (.pointer (some ⟨x, 0, none⟩)) "loop.example/g01079/impl.config").run Tryz.prog w = .ok (215, .pointer (some ⟨x, 0, none⟩)) w := by kernel_rfl
theorem methStep (x : Nat) (w : World) : (method 364 99 (.pointer (some ⟨x, 0, none⟩)) "loop.example/g01079/impl.step").run Tryz.prog w = .ok (216, .pointer (some ⟨x, 0, none⟩)) w := by kernel_rfl
theorem trackerStep_c (p r : Value) (h a b c : Int) (w : World) :
    Calls Tryz.prog 216 #[p, r, .int .i64 h, .agg #[.int .i64 a, .int .i64 b, .int .i64 c]] w fun e w' => e = .returned (.tuple #[]) ∧ Ext w w' := by
  go_enter Tryz.func216, Tryz.ntmps216
  go_wp2
  go_end0
  exact ⟨rfl, Ext.alloc _ _⟩
set_option maxRecDepth 20000 in
set_option maxHeartbeats 4000000 in
theorem follow_c (w0 w : World) (x : Nat) (m : MachD) (mv : Value) (N : Nat) (hr0 : Rules w0 mv m.rules) (he0 : Ext w0 w) (hm : machOk m = true) (hN : N ≤ 20000) (hb : Blk w x 109 #[.slice none 0 0, .slice none 0 0, .int .i64 0, .int .i64 0]) (hx : w0.heap.size ≤ x) :
    Calls Tryz.prog 117 #[.agg #[.int .i64 m.sy, .int .i64 m.st, mv], .agg #[.int .i64 0, .slice none 0 0, .slice none 0 0], .int .i64 N, .iface 99 (.pointer (some ⟨x, 0, none⟩))] w (FolRes w0 x m N) := by
  have hg0 := blank_good hm
  obtain ⟨Am, cm, rfl, _, _⟩ := id hr0.form
  obtain ⟨W, hW⟩ : ∃ W, W = (w.alloc (.cells #[.int .i64 m.sy, .int .i64 m.st, .slice Am m.rules.length cm] 26)).alloc (.cells #[.int .i64 0, .slice none 0 0, .slice none 0 0] 29) := ⟨_, rfl⟩
  have hXW : Ext w W := by rw [hW]; exact (Ext.alloc _ _).trans (Ext.alloc _ _)
  have hXW0 := he0.trans hXW
  have HM := Lib.hid hm
  have HG0 := Lib.hid hg0
  have HR0 := Lib.hid hr0
  clear hm hg0 hr0
  go_enter Tryz.func117, Tryz.ntmps117
  go_wp2_with fail
  rw [← hW]
  clear hW
  refine (runnerOf_c W m blankC _ _ _ (HR0.out.ext hXW0) (ints_nil W) (ints_nil W) (.inl rfl) (.inl rfl) (by simp [blankC]) (by simp [blankC])).mono ?_
  rintro e w1 ⟨b, lv1, rv1, rfl, hR1'⟩
  have hR1 := hR1'.under HR0.out hXW0
  have hB1 := hb.ext (hXW.trans hR1'.ext0)
  have hT1 : TrkAt w0 w1 x lv1 rv1 (posM m blankC 0) [] 0 0 (.slice none 0 0) (.slice none 0 0) :=
    ⟨hB1, World.ownsRow_nil .., World.ownsRow_nil .., fun r hr => by simp at hr, hx, fun g hg => by simp [Value.ownBlock] at hg, fun r hr => by simp at hr⟩
  clear hR1' hB1 hb hXW hXW0
  go_wp2
  go_loopw [12, 13] (fun hd i wr => ∃ (n : Nat) (rs : List RecV) (lo hi : Int) (pv qv lv rv : Value), n ≤ N ∧ i = .int .i64 (n : Int) ∧ hd = .int .i64 (posI m blankC n) ∧ RunAt w0 wr b m (cfgI m blankC n) (.slice Am m.rules.length cm) lv rv ∧ TrkAt w0 wr x lv rv (posM m blankC n) rs lo hi pv qv ∧ Hid (RecsAt m blankC n rs lo hi) ∧ Hid (RunsTo m blankC n) ∧ rs.length ≤ n) (fun _ i _ => N - (intOf i).toNat)
  case atStart => exact ⟨0, [], 0, 0, _, _, _, _, Nat.zero_le _, rfl, rfl, hR1, hT1, Lib.hid (RecsAt.start m blankC), Lib.hid (RunsTo.zero (by decide)), Nat.le_refl _⟩
  case round =>
    clear hR1 hT1
    obtain ⟨n, rs, lo, hi, pv, qv, lv, rv, hn, rfl, rfl, hR, hT, HRS, HRT, hrl⟩ := hrel
    have hfit := HRT.out.fit n (Nat.le_refl _)
    simp only [fitI, Bool.and_eq_true, decide_eq_true_eq] at hfit
    have hgd := cfg_good HM.out HG0.out n HRT.out.no
    have hlp := posM_len m blankC n
    have HGD := Lib.hid hgd
    have hq := quickConfig_c w0 wr b x m (cfgI m blankC n) _ lv rv pv qv (posM m blankC n) rs lo hi (posI m blankC n) hR hT (by omega) (by omega) (by omega) (by omega)
    have HFIT := Lib.hid hfit
    clear hlp hR hT hgd
    have hmc := methConfig x
    have hms := methStep x
    go_wp2_with fail
    refine hq.mono ?_
    rintro e w2 ⟨rfl, rs', lo', hi', pv', qv', hR2, hT2, hS⟩
    clear hq
    have HSL := Lib.hid hS.len
    have HRS2 := Lib.hid (HRS.out.seen (by rw [posM_len] at hS; exact hS))
    rw [← posM_succ] at hT2
    clear hS
    have HGD' := HGD.out
    have HMo := HM.out
    have hh := halts_c w0 w2 b m _ _ lv rv hR2 (by omega) HMo HGD'
    clear HGD' HMo
    by_cases hnN : n = N
    · have hbe : ((n : Int) == (N : Int)) = true := by simp [hnN]
      have HNN := Lib.hid hnN
      clear hnN
      go_wp2_with fail
      refine hh.mono ?_
      rintro e w3 ⟨rfl, hx3⟩
      have hT3 := hT2.ext hx3
      have hR3 := hR2.ext hx3
      clear hh
      obtain ⟨hb', hhb⟩ : ∃ y, decide (lookI m (cfgI m blankC n) = noR) = y := ⟨_, rfl⟩
      have HB := Lib.hid hhb
      rw [hhb]
      clear hhb
      go_wp2
      exact bodyPost_ret (v := .tuple #[.int .i64 n, .bool hb', .int .i64 0]) (by simp [results, Tryz.results117, go_sem]) rfl ⟨n, rs', lo', hi', pv', qv', lv, rv, hT3, HRS2.out, hR3.ext0, by have := HSL.out; omega, .inl ⟨⟨HRT.out, hn, .inl HNN.out⟩, by rw [HB.out]⟩⟩
    · have hbe : ((n : Int) == (N : Int)) = false := by
        simp only [beq_eq_false_iff_ne, ne_eq]
        omega
      have HNN := Lib.hid hnN
      clear hnN
      go_wp2_with fail
      refine hh.mono ?_
      rintro e w3 ⟨rfl, hx3⟩
      have hT3 := hT2.ext hx3
      have hR3 := hR2.ext hx3
      clear hh
      by_cases hno : lookI m (cfgI m blankC n) = noR
      · have hdn : decide (lookI m (cfgI m blankC n) = noR) = true := by simp [hno]
        have HNO := Lib.hid hno
        have hh2 := halts_c w0 w3 b m _ _ lv rv hR3 (by omega) HM.out HGD.out
        rw [hdn] at hh2
        rw [hdn]
        clear hno
        have HDN := Lib.hid hdn
        clear hdn
        go_wp2_with fail
        refine hh2.mono ?_
        rintro e w4 ⟨rfl, hx4⟩
        go_wp2
        exact bodyPost_ret (v := .tuple #[.int .i64 n, .bool true, .int .i64 0]) (by simp [results, Tryz.results117, go_sem]) rfl ⟨n, rs', lo', hi', pv', qv', lv, rv, hT3.ext hx4, HRS2.out, (hR3.ext hx4).ext0, by have := HSL.out; omega, .inl ⟨⟨HRT.out, hn, .inr HNO.out⟩, by rw [HDN.out]⟩⟩
      · have hdn : decide (lookI m (cfgI m blankC n) = noR) = false := by simp [hno]
        have HNO := Lib.hid hno
        have hru := rule_c w0 w3 b m _ _ lv rv hR3 (by omega) HM.out HGD.out
        rw [hdn]
        clear hno hdn
        obtain ⟨⟨ra, rb, rc⟩, hrr⟩ : ∃ R, lookI m (cfgI m blankC n) = R := ⟨_, rfl⟩
        rw [hrr] at hru
        have HRR := Lib.hid hrr
        simp only at hru
        go_wp2_with fail
        refine hru.mono ?_
        rintro e w4 ⟨rfl, hx4⟩
        obtain ⟨V4, hV4⟩ : ∃ V, V = w4.alloc (.cells #[.int .i64 ra, .int .i64 rb, .int .i64 rc] 76) := ⟨_, rfl⟩
        obtain ⟨b4, hb4⟩ : ∃ g, g = w4.heap.size := ⟨_, rfl⟩
        have hxV : Ext w4 V4 := by rw [hV4]; exact Ext.alloc _ _
        have bV : Blk V4 b4 76 #[.int .i64 ra, .int .i64 rb, .int .i64 rc] := by rw [hV4, hb4]; exact Blk.new _ _ _ _ rfl
        have hT4 := hT3.ext (hx4.trans hxV)
        have hR4 := hR3.ext (hx4.trans hxV)
        have v0 := bV.cell 0
        have v1 := bV.cell 1
        have v2 := bV.cell 2
        simp only [List.getElem?_toArray, List.getElem?_cons_zero, List.getElem?_cons_succ] at v0 v1 v2
        rw [hV4, hb4] at v0 v1 v2
        clear hru hrr hT3 hR3 hT2 hR2
        go_wp2_with fail
        rw [← hV4, ← hb4]
        rw [← hV4, ← hb4] at v0 v1 v2
        clear hV4 hb4
        refine (trackerStep_c _ _ _ _ _ _ V4).mono ?_
        rintro e w5 ⟨rfl, hx5⟩
        have hT5 := hT4.ext hx5
        have hR5 := hR4.ext hx5
        have bV5 := bV.ext hx5
        have hst := step_c w0 w5 b m _ _ lv rv hR5 (by omega) (by omega) HM.out HGD.out
        have HMV := Lib.hid (look_move HM.out HGD.out HNO.out)
        have HPB := Lib.hid (pos_bound HM.out HG0.out n HRT.out.no)
        clear v0 v1 v2 hT4 hR4 bV
        go_wp2_with fail
        refine hst.mono ?_
        rintro e w6 ⟨lv', rv', rfl, hR6, hM6⟩
        have hT6 := hT5.moved hR5 hM6
        have hRB : Blk w6 b4 76 #[.int .i64 ra, .int .i64 rb, .int .i64 rc] := (hM6.same b4 bV5.lt (fun e => absurd (blk_type bV5 (e ▸ hR5.blk)) (by decide)) (fun e => blk_ne_row bV5 hR5.l (by decide) e.symm) (fun e => blk_ne_row bV5 hR5.r (by decide) e.symm)).trans bV5
        have hcs : stepI (lookI m (cfgI m blankC n)) (cfgI m blankC n) = cfgI m blankC (n + 1) := rfl
        rw [hcs] at hR6
        rw [hcs]
        clear hst hcs hT5 hR5 hM6 bV5
        by_cases hf : fitI (cfgI m blankC (n + 1)) = true
        · have HRT2 := Lib.hid (HRT.out.succ HNO.out hf)
          rw [hf]
          clear hf
          have v1 := hRB.cell 1
          simp only [List.getElem?_toArray, List.getElem?_cons_zero, List.getElem?_cons_succ] at v1
          have HPS : Hid (posI m blankC (n + 1) = posI m blankC n + rb) := Lib.hid (by rw [posI, HRR.out])
          have hmv : rb = 1 ∨ rb = -1 := by have := HMV.out; rw [HRR.out] at this; exact this
          have hpb := HPB.out
          go_wp2
          go_roundw
          case rel => exact ⟨n + 1, rs', lo', hi', pv', qv', lv', rv', by have := HNN.out; omega, by go_num, by rw [HPS.out], hR6, hT6, HRS2, HRT2, by have := HSL.out; omega⟩
          case measure => have := HNN.out; simp [intOf]; omega
        · have hf' : fitI (cfgI m blankC (n + 1)) = false := by simpa using hf
          have HFULL : Hid (FullAt m blankC N (n + 1)) := Lib.hid ⟨by omega, by simpa using HRT.out, by have := HNN.out; omega, by simpa using HNO.out, hf'⟩
          rw [hf']
          clear hf hf'
          go_wp2
          exact bodyPost_ret (v := .tuple #[.int .i64 0, .bool false, .int .i64 5]) (by simp [results, Tryz.results117, go_sem]) rfl ⟨n, rs', lo', hi', pv', qv', lv', rv', hT6, HRS2.out, hR6.ext0, by have := HSL.out; omega, .inr ⟨HFULL.out, rfl⟩⟩
end Go.Proofs.YtojiammendjpkaaGreat
end
