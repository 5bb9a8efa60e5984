/- A range over a function whose iterator writes memory of its own between the rounds: the contract of such an iterator, and the law for the loop. No condition.
The iterator over the steps of the program's runner has its contract. The machine is valid and the configuration is one of its.
Contract of the program's run of a machine by its runner. The machine is valid and the configuration is one of its. -/
import Derived.Test.YtapjofbjedpmgaaGreatC01
import Derived.Test.YtapjofbjedpmgaaGreatC02
import Derived.Test.YtapjofbjedpmgaaGreatC03
import Derived.Test.YtapjofbjedpmgaaGreatC04
import Derived.Test.YtapjofbjedpmgaaGreatC05
import Derived.Test.YtapjofbjedpmgaaGreatC06
import Derived.Test.YtapjofbjedpmgaaGreatC07
import Derived.Test.YtapjofbjedpmgaaGreatC08
import Derived.Test.YtapjofbjedpmgaaGreatC09
import Derived.Test.YtapjofbjedpmgaaGreatC10
import Derived.Test.YtapjofbjedpmgaaGreatC11
import Derived.Test.YtapjofbjedpmgaaGreatC12
import Derived.Test.YtapjofbjedpmgaaGreatC13
import Derived.Test.YtapjofbjedpmgaaGreatC14
import Derived.Test.YtapjofbjedpmgaaGreatC15
import Derived.Test.YtapjofbjedpmgaaGreatC16
import Derived.Test.YtapjofbjedpmgaaGreatC17
import Derived.Test.YtapjofbjedpmgaaGreatC18
import Derived.Test.YtapjofbjedpmgaaGreatC19
import Derived.Test.YtapjofbjedpmgaaGreatC20
import Derived.Test.YtapjofbjedpmgaaGreatC21
import Derived.Test.YtapjofbjedpmgaaGreatC22
import Derived.Test.YtapjofbjedpmgaaGreatC23
import Derived.Test.YtapjofbjedpmgaaGreatC24
import Derived.Test.YtapjofbjedpmgaaGreatC25
import Derived.Test.YtapjofbjedpmgaaGreatC26
import Derived.Test.YtapjofbjedpmgaaGreatC27
import Derived.Test.YtapjofbjedpmgaaGreatC28
import Derived.Test.YtapjofbjedpmgaaGreatC29
import Derived.Test.YtapjofbjedpmgaaGreatC30
import Derived.Test.YtapjofbjedpmgaaGreatC31
import Derived.Test.YtapjofbjedpmgaaGreatC32
import Derived.Test.YtapjofbjedpmgaaGreatC33
import Derived.Test.YtapjofbjedpmgaaGreatC34
import Derived.Test.YtapjofbjedpmgaaGreatC35
import Derived.Test.YtapjofbjedpmgaaGreatC36
import Derived.Test.YtapjofbjedpmgaaGreatC37
import Derived.Test.YtapjofbjedpmgaaGreatC38
import Derived.Test.YtapjofbjedpmgaaGreatC39
import Derived.Test.YtapjofbjedpmgaaGreatC40
import Derived.Test.YtapjofbjedpmgaaGreatC41
import Derived.Test.YtapjofbjedpmgaaGreatC42
import Derived.Test.YtapjofbjedpmgaaGreatC43
import Derived.Test.YtapjofbjedpmgaaGreatC44
import Derived.Test.YtapjofbjedpmgaaGreatC45
import Derived.Test.YtapjofbjedpmgaaGreatC46
import Derived.Test.YtapjofbjedpmgaaGreatC47
import Derived.Test.YtapjofbjedpmgaaGreatC48
import Derived.RangeFuncNested
import Derived.RangeFuncBound
import Derived.RangeFuncCalls
import Derived.RangeFuncLeaves
import Derived.Shelf.Abstract
import Derived.Shelf.RegionOpen
import Derived.WalkKit
import Derived.OwnWalkIn
import Derived.TacticsInMore
import Derived.LoopNIn
import Derived.LoopIn
section
namespace Go.Proofs.YtapjofbjedpmgaaGreat
open Go Go.RowKit
variable {F : Fence} {n : Nat} {P : Program}
/-- The contract of an iterator: 'Wr': its own steps; 'St': what holds when it hands an element on; 'Kp': what a round keeps for it. -/
def SeqW {α : Type} (F : Fence) (n : Nat) (P : Program) (g : Nat) (lb : Array Value) (encs : α → Array Value) (Wr : World → World → Prop) (St : List α → α → World → Prop) (Kp : World → World → Prop) (S Sp : List α → World → Prop) (N : Nat) (w : World) : Prop :=
  ∀ (l : Nat) (J Jx : List α → World → Prop) (W : World), Below w.heap.size w W → (∀ s A B, J s A → Wr A B → J s B) →
    (∀ pre x W1, J pre W1 → St pre x W1 → pre.length < N → YieldAt F (n - 1) P l (encs x) W1 fun e W' =>
      (e = .returned (.bool true) ∧ J (pre ++ [x]) W' ∧ Kp W1 W') ∨ (e = .returned (.bool false) ∧ Jx (pre ++ [x]) W' ∧ Kp W1 W')) →
    J [] W →
    CallsIn F n P g (#[.func (.yield l) #[] #[]] ++ lb) W fun e W' => (∃ v, e = .returned v) ∧ ((∃ xs, S xs W' ∧ J xs W') ∨ (∃ pre, Sp pre W' ∧ Jx pre W'))
/-- How the body of a round may be left. -/
def ownPostW {α : Type} (B : Nat) (Kp : World → World → Prop) (I : List α → World → Prop) (Ix : Code → List α → World → Prop) (xs : List α) (W : World) : Exit → Act → World → Prop
  | .normal, _, W' => KeepsFrom B W W' ∧ Kp W W' ∧ I xs W'
  | .ret, _, W' => KeepsFrom B W W' ∧ Kp W W' ∧ Ix .ret xs W'
  | .exit id, _, W' => KeepsFrom B W W' ∧ Kp W W' ∧ Ix (.exit id) xs W'
  | .goto t, _, W' => KeepsFrom B W W' ∧ Kp W W' ∧ Ix (.goto t) xs W'
  | .panic _, _, _ => False
  | .outgrown, _, _ => False
theorem wpIn_rangeFunc_W {α : Type} {g : Operand} {ps : Array Tmp} {assign body : Code} {Q : Exit → Act → World → Prop} {a : Act} {w : World}
    (hro : F.round = none) (h1 : 1 ≤ n) {gf : Nat} {lb : Array Value} (hg : a.eval g = .func (.func gf) #[] lb) (hFg : F.fn gf) (eg : ∀ args w, (callFunc gf args).run P w = .ok (.enter gf args) w)
    {encs : α → Array Value} {Wr : World → World → Prop} {St : List α → α → World → Prop} {Kp : World → World → Prop} {S Sp : List α → World → Prop} {N : Nat} {w0 : World} (hseq : SeqW F (n - 1) P gf lb encs Wr St Kp S Sp N w0)
    (hKt : ∀ {A B C : World}, Kp A B → Kp B C → Kp A C) (hKb : ∀ (W : World) (l : Nat) (o o' : Obj), w.heap.size ≤ l → W.heap[l]? = some o → o.isCells = false → o.isWalk = false → Kp W (W.putObj l o')) (hb0 : Below w0.heap.size w0 w) (hps : ∀ x, (encs x).size = ps.size)
    (hWr : ∀ A B, Wr A B → KeepsOthers A B)
    (I : List α → World → Prop) (Ix : Code → List α → World → Prop) (hI : OwnFrom w.heap.size I) (hIx : ∀ c, OwnFrom w.heap.size (Ix c)) (hIw : ∀ s A B, I s A → Wr A B → I s B)
    (hSt : ∀ pre x, OwnFrom w.heap.size (fun (_ : Unit) W => St pre x W)) (hS : OwnFrom w.heap.size S) (hSp : OwnFrom w.heap.size Sp) (h0 : I [] w) (a₁ : α → Act)
    (hassign : ∀ (l : Nat) (x : α) (W : World) (K : Act → World → Prop), K (a₁ x) W →
      assign.wpIn (F.inRound l) (n - 1 - 1) P (Exit.then K (fun _ _ _ => False)) { tmps := (ps.zip (encs x)).foldl (fun t (p, v) => t.setIfInBounds p v) a.tmps, defers := [] } W)
    (hbody : ∀ (l : Nat) (pre : List α) (x : α) (W : World), I pre W → St pre x W → pre.length < N → body.wpIn (F.inRound l) (n - 1 - 1) P (ownPostW w.heap.size Kp I Ix (pre ++ [x]) W) (a₁ x) W)
    (hdone : ∀ (D : Nat) (xs : List α) (W : World), w.heap.size ≤ D → S xs W → I xs W → W.heap[D]? = some (.deferred (some [])) → Q .normal { a with defers := { target := .collected D, args := #[] } :: a.defers } W)
    (hstop : ∀ (D : Nat) (c : Code) (pre : List α) (W : World), w.heap.size ≤ D → Sp pre W → Ix c pre W → W.heap[D]? = some (.deferred (some [])) → c.wpIn F n P Q { a with defers := { target := .collected D, args := #[] } :: a.defers } W) :
    (Code.rangeFunc g ps assign body).wpIn F n P Q a w := by
  refine wpIn_rangeFunc ?_
  intro fn hfn
  rw [hro]
  obtain ⟨rec, hrec⟩ : ∃ rec : LoopState → Option Code → Loop, rec = fun st pe => { state := st, pending := pe, fn, tmps := a.tmps, params := ps, assign, body, defers := w.heap.size } := ⟨_, rfl⟩
  obtain ⟨W1, hW1⟩ : ∃ W1, (w.alloc (.deferred (some []))).alloc (.loop (rec .ready none)) = W1 := ⟨_, rfl⟩
  have hL1 : W1.heap[w.heap.size + 1]? = some (.loop (rec .ready none)) := by
    rw [← hW1]; have := World.alloc_heap_new (w.alloc (.deferred (some []))) (.loop (rec .ready none)); rwa [World.size_alloc] at this
  have hK1 : W1.heap[w.heap.size]? = some (.deferred (some [])) := by
    rw [← hW1]; exact (Below.heap_alloc _ _ _ (by simp)).trans (World.alloc_heap_new w _)
  have hI1 : I [] W1 := by rw [← hW1]; exact hI.alloc _ (hI.alloc _ h0)
  have hb1 : Below w0.heap.size w0 W1 := by
    rw [← hW1]; exact hb0.trans ((((Below.refl _ w).alloc (Nat.le_refl _) _).alloc (by simp) _).mono hb0.size)
  refine ⟨w.heap.size + 1, [{ target := .collected w.heap.size, args := #[] }], W1, { target := .fn (.func gf) lb, args := #[.func (.yield (w.heap.size + 1)) #[] #[]] }, W1, gf,
    #[.func (.yield (w.heap.size + 1)) #[] #[]] ++ lb, W1, ?_, ?_, ?_, ?_, fun _ => h1, ?_⟩
  · rw [← hW1, hrec]; exact run_enterLoop_outer _ _ _ _ _
  · simp only [resolve, hg]
    simp [go_sem]
  · intro f' hf'; simp [Target.leads] at hf'; subst hf'; exact hFg
  · simp [invoke, go_sem, eg]
  · refine (hseq (w.heap.size + 1)
      (fun pre W => I pre W ∧ W.heap[w.heap.size + 1]? = some (.loop (rec .ready none)) ∧ W.heap[w.heap.size]? = some (.deferred (some [])))
      (fun pre W => ∃ c, Ix c pre W ∧ W.heap[w.heap.size + 1]? = some (.loop (rec .done (some c))) ∧ W.heap[w.heap.size]? = some (.deferred (some [])))
      W1 hb1
      (fun s A B hs hr => ⟨hIw s A B hs.1 hr, (hWr A B hr).same _ _ hs.2.1 rfl, (hWr A B hr).same _ _ hs.2.2 rfl⟩)
      ?_ ⟨hI1, hL1, hK1⟩).mono ?_
    · rintro pre x W ⟨hi, hl, hk⟩ hst hlen
      have hlt : w.heap.size + 1 < W.heap.size := (Array.getElem?_eq_some_iff.1 hl).1
      have hy := run_yield (P := P) (args := encs x) hl (by rw [hrec]; exact hps x)
      rw [hrec] at hy
      refine ⟨fn, _, assign, body, hy, roundIn_of_wpIn hfn (hassign _ x W _ ⟨_, run_beginRound hl (by rw [hrec]), ?_⟩)⟩
      have hl2 : (W.putObj (w.heap.size + 1) (.loop { rec .ready none with state := .busy })).heap[w.heap.size + 1]? = some (.loop { rec .ready none with state := .busy }) := World.putObj_heap_same hlt
      have hk2 : (W.putObj (w.heap.size + 1) (.loop { rec .ready none with state := .busy })).heap[w.heap.size]? = some (.deferred (some [])) := (World.putObj_heap_other (by omega)).trans hk
      have hw2 : Kp W (W.putObj (w.heap.size + 1) (.loop { rec .ready none with state := .busy })) := hKb _ _ _ _ (by omega) hl rfl rfl
      refine wpIn_mono (hbody _ pre x _ (hI.putObj _ hi (by omega) hl rfl) ((hSt pre x).putObj (s := ()) _ hst (by omega) hl rfl) hlen) ?_
      have fin : ∀ (jump : Option Code) (W3 : World), KeepsFrom w.heap.size (W.putObj (w.heap.size + 1) (.loop { rec .ready none with state := .busy })) W3 →
          (Instr.endRound (w.heap.size + 1) jump).run P W3 = .ok (.bool jump.isNone) (W3.putObj (w.heap.size + 1) (.loop (rec (if jump.isNone then .ready else .done) jump))) ∧
          W3.heap[w.heap.size + 1]? = some (.loop { rec .ready none with state := .busy }) ∧
          (W3.putObj (w.heap.size + 1) (.loop (rec (if jump.isNone then .ready else .done) jump))).heap[w.heap.size + 1]? = some (.loop (rec (if jump.isNone then .ready else .done) jump)) ∧
          (W3.putObj (w.heap.size + 1) (.loop (rec (if jump.isNone then .ready else .done) jump))).heap[w.heap.size]? = some (.deferred (some [])) := fun jump W3 hk3 => by
        have hl3 := hk3.same _ _ (by omega) hl2 rfl
        have := run_endRound (P := P) jump hl3
        rw [hrec] at this ⊢
        exact ⟨this, by rw [hrec] at hl3; exact hl3, World.putObj_heap_same (Array.getElem?_eq_some_iff.1 hl3).1, (World.putObj_heap_other (by omega)).trans (hk3.same _ _ (Nat.le_refl _) hk2 rfl)⟩
      rintro e a3 W3 hp
      cases e with
      | normal =>
        obtain ⟨hk3, hkp3, hi3⟩ := hp
        obtain ⟨hr, hl3, hl4, hk4⟩ := fin none W3 hk3
        exact ⟨_, _, hr, .inl ⟨rfl, ⟨hI.putObj _ hi3 (by omega) hl3 rfl, hl4, hk4⟩, hKt (hKt hw2 hkp3) (hKb _ _ _ _ (by omega) hl3 rfl rfl)⟩⟩
      | ret =>
        obtain ⟨hk3, hkp3, hi3⟩ := hp
        obtain ⟨hr, hl3, hl4, hk4⟩ := fin (some .ret) W3 hk3
        exact ⟨_, _, hr, .inr ⟨rfl, ⟨.ret, (hIx _).putObj _ hi3 (by omega) hl3 rfl, hl4, hk4⟩, hKt (hKt hw2 hkp3) (hKb _ _ _ _ (by omega) hl3 rfl rfl)⟩⟩
      | exit id =>
        obtain ⟨hk3, hkp3, hi3⟩ := hp
        obtain ⟨hr, hl3, hl4, hk4⟩ := fin (some (.exit id)) W3 hk3
        exact ⟨_, _, hr, .inr ⟨rfl, ⟨.exit id, (hIx _).putObj _ hi3 (by omega) hl3 rfl, hl4, hk4⟩, hKt (hKt hw2 hkp3) (hKb _ _ _ _ (by omega) hl3 rfl rfl)⟩⟩
      | goto t =>
        obtain ⟨hk3, hkp3, hi3⟩ := hp
        obtain ⟨hr, hl3, hl4, hk4⟩ := fin (some (.goto t)) W3 hk3
        exact ⟨_, _, hr, .inr ⟨rfl, ⟨.goto t, (hIx _).putObj _ hi3 (by omega) hl3 rfl, hl4, hk4⟩, hKt (hKt hw2 hkp3) (hKb _ _ _ _ (by omega) hl3 rfl rfl)⟩⟩
      | panic ch => exact hp.elim
      | outgrown => exact hp.elim
    · rintro e W2 ⟨⟨v, rfl⟩, (⟨xs, hs, hi, hl, hk⟩ | ⟨pre, hsp, c, hi, hl, hk⟩)⟩
      · exact ⟨none, _, by have := run_endLoop (P := P) hl (by rw [hrec]; simp); rw [hrec] at this; exact this, hdone _ xs _ (Nat.le_refl _) (hS.putObj _ hs (by omega) hl rfl) (hI.putObj _ hi (by omega) hl rfl) ((World.putObj_heap_other (by omega)).trans hk)⟩
      · exact ⟨some c, _, by have := run_endLoop (P := P) hl (by rw [hrec]; simp); rw [hrec] at this; exact this, hstop _ c pre _ (Nat.le_refl _) (hSp.putObj _ hsp (by omega) hl rfl) ((hIx c).putObj _ hi (by omega) hl rfl) ((World.putObj_heap_other (by omega)).trans hk)⟩
end Go.Proofs.YtapjofbjedpmgaaGreat
end
section
set_option linter.unusedSimpArgs false
set_option linter.unusedVariables false
namespace Go.Proofs.YtapjofbjedpmgaaGreat
open Go Go.RowKit Go.Proofs Go.Shelf
attribute [local go_sem] Oper.semAt_some
set_option maxHeartbeats 400000
abbrev encR (x : Int × Bool) : Array Value := #[.int .i64 x.1, .bool x.2]
section
variable (w0 : World) (b bq bp : Nat) (m : MachD) (c : ConfD) (mv : Value) (N : Nat)
def StR (pre : List (Int × Bool)) (x : Int × Bool) (W : World) : Prop :=
  ∃ (i : Nat) (lv rv : Value), RunAt w0 W b m (cfgI m c i) mv lv rv ∧ pre.length = i ∧ ((x = ((i : Int), true) ∧ RunsTo m c i ∧ i ≤ N) ∨ (x = ((i : Int), false) ∧ FullAt m c N i))
def SpR (xs : List (Int × Bool)) (W : World) : Prop :=
  ∃ (i : Nat) (lv rv : Value) (pre : List (Int × Bool)), RunAt w0 W b m (cfgI m c i) mv lv rv ∧ ((xs = pre ++ [((i : Int), true)] ∧ RunsTo m c i ∧ i ≤ N) ∨ (xs = pre ++ [((i : Int), false)] ∧ FullAt m c N i))
end
theorem BoxR.moved {W W' : World} {b bq bp N : Nat} {lv rv lv' rv' : Value} (h : BoxR W b bq bp N lv rv) (hm : Moved b W W' lv rv lv' rv') : BoxR W' b bq bp N lv' rv' := by
  have h1 := h.q.lt
  have h2 := h.p.lt
  refine ⟨(hm.same _ h1 h.bq_ h.lq h.rq).trans h.q, (hm.same _ h2 h.bp_ h.lp h.rp).trans h.p, fun e => ?_, fun e => ?_, fun e => ?_, fun e => ?_, h.bq_, h.bp_⟩
  · rcases hm.newl _ e with e | e | e
    · exact h.lq e
    · exact h.rq e
    · omega
  · rcases hm.newr _ e with e | e | e
    · exact h.lq e
    · exact h.rq e
    · omega
  · rcases hm.newl _ e with e | e | e
    · exact h.lp e
    · exact h.rp e
    · omega
  · rcases hm.newr _ e with e | e | e
    · exact h.lp e
    · exact h.rp e
    · omega
theorem fit_both {c : ConfD} (h : fitI c = true) : c.l.length ≤ 200 ∧ c.r.length ≤ 200 := by
  simpa [fitI] using h
set_option maxRecDepth 100000 in
set_option maxHeartbeats 4000000 in
theorem steps1_w (n : Nat) (hn : 4 ≤ n) (w0 w : World) (b bq bp : Nat) (m : MachD) (c : ConfD) (mv lv rv : Value) (N : Nat) (hN : N ≤ 100000) (hm : machOk m = true) (hg : IGood m c) (hf : fitI c = true)
    (h : RunAt w0 w b m c mv lv rv) (hB : BoxR w b bq bp N lv rv) :
    SeqW Fence.wide n Tryz.prog 110 #[.pointer (some ⟨bq, 0, none⟩), .pointer (some ⟨bp, 0, none⟩)] encR (WrR w0 b m mv) (StR w0 b m c mv N) (KpR w0 b bq bp m mv) (SR w0 b m c mv N) (SpR w0 b m c mv N) (N + 2) w := fun l J Jx W hb hJw hY h0 => by
  have hn1 : 1 ≤ n := by omega
  refine callsIn_of_wp Tryz.func110 rfl trivial ?_ rfl
  simp only [Tryz.ntmps110, List.size_toArray, List.length_cons, List.length_nil, Nat.reduceAdd, Nat.reduceSub, Array.replicate_succ, Array.replicate_zero, List.push_toArray, List.append_toArray, List.nil_append, List.cons_append]
  gi_wp2
  gi_loopw [4] (fun n wr => ∃ (i : Nat) (pre : List (Int × Bool)) (l1 r1 : Value), n = .int .i64 i ∧ pre.length = i ∧ J pre wr ∧ RunAt w0 wr b m (cfgI m c i) mv l1 r1 ∧ BoxR wr b bq bp N l1 r1 ∧ RunsTo m c i ∧ i ≤ N) (fun n _ => N + 1 - (intOf n).toNat)
  case atStart => exact ⟨0, [], lv, rv, rfl, rfl, h0, h.ext hb, hB.kept (Below.block hb _ hB.q.lt) (Below.block hb _ hB.p.lt), RunsTo.zero hf, by omega⟩
  case round =>
    obtain ⟨i, pre, l1, r1, rfl, hpl, hJ, hR, hBx, hT, hiN⟩ := hrel
    obtain ⟨fn, tmps, assign, body, hy, hRd⟩ := hY pre ((i : Int), true) wr hJ ⟨i, l1, r1, hR, hpl, .inl ⟨rfl, hT, hiN⟩⟩ (by omega)
    dsimp only [encR] at hy
    have HT := Lib.hid hT
    have HPL := Lib.hid hpl
    clear hpl hT
    gi_wp2
    refine hRd.mono ?_
    rintro e W3 (⟨rfl, hJ3, hk3⟩ | ⟨rfl, hJx3, hk3⟩)
    · have R3 := hk3.2.1 _ _ _ hR
      have B3 := hBx.kept hk3.2.2.1 hk3.2.2.2
      have hgi : IGood m (cfgI m c i) := cfg_good hm hg i HT.out.no
      have hfi := fit_both (HT.out.fit i (Nat.le_refl _))
      have cq := B3.q.cell 0
      have cp := B3.p.cell 0
      simp only [List.getElem?_toArray, List.getElem?_cons_zero] at cq cp
      clear hRd hy
      by_cases hlt : i < N
      · have d1 : decide ((i : Int) < (N : Int)) = true := decide_eq_true (by omega)
        have d1' : decide (i < N) = true := decide_eq_true hlt
        have hH := halts_c w0 W3 b m _ mv l1 r1 R3 (by omega) hm hgi
        by_cases hno : lookI m (cfgI m c i) = noR
        · rw [decide_eq_true hno] at hH
          have HNO := Lib.hid hno
          clear hno
          gi_wp2_with (refine ⟨trivial, ?_⟩; gi_at_call 41; refine (callsIn_wide.2 hH).mono ?_; rintro e w4 ⟨rfl, hx4⟩)
          refine bodyPost_end (results_none rfl _ _ _) rfl ?_
          have R4 := R3.ext hx4
          have hJ4 := hJw _ _ _ hJ3 ⟨_, _, _, _, _, _, R3, R4, Moved.ofExt hx4⟩
          exact ⟨⟨_, rfl⟩, .inl ⟨_, ⟨i, l1, r1, pre, R4, .inl ⟨rfl, HT.out, hiN, .inr HNO.out⟩⟩, hJ4⟩⟩
        · rw [decide_eq_false hno] at hH
          have HNO := Lib.hid hno
          clear hno
          gi_wp2_with (refine ⟨trivial, ?_⟩; gi_at_call 41; refine (callsIn_wide.2 hH).mono ?_; rintro e w4 ⟨rfl, hx4⟩; have R4 := R3.ext hx4; have cp4 := hx4.cell cp; have hS := step_c w0 w4 b m _ mv l1 r1 R4 hfi.1 hfi.2 hm hgi)
          refine ⟨trivial, ?_⟩
          refine (callsIn_wide.2 hS).mono ?_
          rintro e w5 ⟨l5, r5, rfl, R5, M5⟩
          have B5 := (B3.moved (Moved.ofExt hx4)).moved M5
          have hJ4 := hJw _ _ _ hJ3 ⟨_, _, _, _, _, _, R3, R4, Moved.ofExt hx4⟩
          have hJ5 := hJw _ _ _ hJ4 ⟨_, _, _, _, _, _, R4, R5, M5⟩
          have R5' : RunAt w0 w5 b m (cfgI m c (i + 1)) mv l5 r5 := R5
          cases hfit : fitI (stepI (lookI m (cfgI m c i)) (cfgI m c i)) with
          | true =>
            have HF : Hid (RunsTo m c (i + 1)) := Lib.hid (HT.out.succ HNO.out hfit)
            clear hfit hS hH
            gi_wp2
            go_roundw
            case rel => exact ⟨i + 1, pre ++ [((i : Int), true)], l5, r5, by go_num, by rw [List.length_append, HPL.out]; rfl, hJ5, R5', B5, HF.out, by omega⟩
            case measure => simp [intOf]; omega
          | false =>
            have HF : Hid (FullAt m c N (i + 1)) := ⟨by omega, by simpa using HT.out, by omega, by simpa using HNO.out, hfit⟩
            clear hfit hS hH
            obtain ⟨fn, tmps, assign, body, hy, hRd⟩ := hY (pre ++ [((i : Int), true)]) (((i : Int) + 1), false) w5 hJ5 ⟨i + 1, l5, r5, R5', by rw [List.length_append, HPL.out]; rfl, .inr ⟨by simp, HF.out⟩⟩ (by rw [List.length_append, HPL.out]; simp; omega)
            dsimp only [encR] at hy
            gi_wp2
            refine hRd.mono ?_
            rintro e W6 (⟨rfl, hJ6, hk6⟩ | ⟨rfl, hJx6, hk6⟩)
            · have R6 := hk6.2.1 _ _ _ R5'
              gi_wp2
              refine bodyPost_ret (results_none rfl _ _ _) rfl ?_
              exact ⟨⟨_, rfl⟩, .inl ⟨_, ⟨i + 1, l5, r5, pre ++ [((i : Int), true)], R6, .inr ⟨by simp, HF.out⟩⟩, hJ6⟩⟩
            · have R6 := hk6.2.1 _ _ _ R5'
              gi_wp2
              refine bodyPost_ret (results_none rfl _ _ _) rfl ?_
              exact ⟨⟨_, rfl⟩, .inr ⟨_, ⟨i + 1, l5, r5, pre ++ [((i : Int), true)], R6, .inr ⟨by simp, HF.out⟩⟩, hJx6⟩⟩
      · have d1 : decide ((i : Int) < (N : Int)) = false := decide_eq_false (by omega)
        have d1' : decide (i < N) = false := decide_eq_false hlt
        gi_wp2
        refine ⟨trivial, ?_⟩
        gi_wp2
        refine bodyPost_end (results_none rfl _ _ _) rfl ?_
        exact ⟨⟨_, rfl⟩, .inl ⟨_, ⟨i, l1, r1, pre, R3, .inl ⟨rfl, HT.out, hiN, .inl (by omega)⟩⟩, hJ3⟩⟩
    · have R3 := hk3.2.1 _ _ _ hR
      gi_wp2
      refine ⟨trivial, ?_⟩
      gi_wp2
      refine bodyPost_end (results_none rfl _ _ _) rfl ?_
      exact ⟨⟨_, rfl⟩, .inr ⟨_, ⟨i, l1, r1, pre, R3, .inl ⟨rfl, HT.out, hiN⟩⟩, hJx3⟩⟩
end Go.Proofs.YtapjofbjedpmgaaGreat
end
section
set_option linter.unusedSimpArgs false
set_option linter.unusedVariables false
namespace Go.Proofs.YtapjofbjedpmgaaGreat
open Go Go.RowKit Go.Proofs Go.Shelf
attribute [local go_sem] Oper.semAt_some
set_option maxHeartbeats 400000
section
variable {w0 w w' A B : World} {b bq bp : Nat} {m : MachD} {c d d' : ConfD} {mv lv rv lv' rv' : Value} {N : Nat}
theorem RunAt.vals (h : RunAt w0 w b m d mv lv rv) (h' : RunAt w0 w b m d' mv lv' rv') : lv = lv' ∧ rv = rv' := by
  have e := (h.blk.symm.trans h'.blk)
  simp at e
  exact ⟨e.2.1, e.2.2⟩
end
/-- What lies apart from a runner. -/
structure Apt (b k : Nat) (lv rv : Value) : Prop where
  nb : k ≠ b
  nl : lv.ownBlock ≠ some k
  nr : rv.ownBlock ≠ some k
theorem Apt.moved {b k : Nat} {A B : World} {lv rv lv' rv' : Value} (h : Apt b k lv rv) (hm : Moved b A B lv rv lv' rv') (hk : k < A.heap.size) : Apt b k lv' rv' ∧ B.heap[k]? = A.heap[k]? := by
  refine ⟨⟨h.nb, fun e => ?_, fun e => ?_⟩, hm.same k hk h.nb h.nl h.nr⟩
  · rcases hm.newl _ e with e | e | e
    · exact h.nl e
    · exact h.nr e
    · omega
  · rcases hm.newr _ e with e | e | e
    · exact h.nl e
    · exact h.nr e
    · omega
theorem steps_c (v : Value) (N : Int) (w : World) (h : ∃ a, v = .pointer a) :
    Calls Tryz.prog 85 #[v, .int .i64 N] w fun e w' => e = .returned (.func (.func 110) #[] #[.pointer (some ⟨w.heap.size + 1, 0, none⟩), .pointer (some ⟨w.heap.size, 0, none⟩)]) ∧ w' = (w.alloc (.cells #[v] 77)).alloc (.cells #[.int .i64 N] 2) := by
  obtain ⟨a, rfl⟩ := h
  go_enter Tryz.func85, Tryz.ntmps85
  go_wp2
  go_ret
  exact ⟨rfl, rfl⟩
end Go.Proofs.YtapjofbjedpmgaaGreat
end
