/- The memory of the program's tracker beside that of its runner. -/
import Derived.Test.YtpdnmhhieokogaaShB
import Derived.Test.YtpdnmhhieokogaaRunv
set_option linter.unusedSimpArgs false
set_option linter.unusedVariables false
namespace Go.Proofs.Ytpdnmhhieokogaa
open Go Go.RowKit Go.Proofs
set_option maxHeartbeats 400000
theorem recInfo : (Try.prog.info? 76).map (fun i => (i.zero, i.size, i.bytes)) = some (some (.agg #[.int .i64 0, .int .i64 0, .int .i64 0, .slice none 0 0, .slice none 0 0]), 5, 72) := by kernel_rfl
/-- A record, with the configuration that it holds. -/
structure RecV where
  n : Nat
  side : Int
  c : ConfD
  lv : Value
  rv : Value
def encC (x : RecV) : List Value := [.int .i64 x.n, .int .i64 x.side, .int .i64 x.c.q, x.lv, x.rv]
structure TrkAt (w0 W : World) (x : Nat) (lv rv : Value) (P : List Int) (rs : List RecV) (lo hi : Int) (pv qv : Value) : Prop where
  blk : Blk W x 53 #[pv, qv, .int .i64 lo, .int .i64 hi]
  pos : OwnInts w0.heap.size W pv P
  rec_ : W.ownsRow w0.heap.size 76 5 qv rs.length (rs.flatMap encC)
  conf : ∀ r ∈ rs, OwnInts w0.heap.size W r.lv r.c.l ∧ OwnInts w0.heap.size W r.rv r.c.r
  low : w0.heap.size ≤ x
  d1 : ∀ g, pv.ownBlock = some g → lv.ownBlock ≠ some g ∧ rv.ownBlock ≠ some g
  d2 : ∀ r ∈ rs, ∀ g, (r.lv.ownBlock = some g ∨ r.rv.ownBlock = some g) → lv.ownBlock ≠ some g ∧ rv.ownBlock ≠ some g ∧ pv.ownBlock ≠ some g
theorem TrkAt.ext {w0 W W' : World} {x : Nat} {lv rv pv qv : Value} {P : List Int} {rs : List RecV} {lo hi : Int} (h : TrkAt w0 W x lv rv P rs lo hi pv qv) (he : Ext W W') : TrkAt w0 W' x lv rv P rs lo hi pv qv :=
  ⟨h.blk.ext he, h.pos.ext he, ownsRow_ext h.rec_ he, fun r hr => ⟨(h.conf r hr).1.ext he, (h.conf r hr).2.ext he⟩, h.low, h.d1, h.d2⟩
theorem TrkAt.moved {w0 W W' : World} {b x : Nat} {m : MachD} {c : ConfD} {mv lv rv lv' rv' pv qv : Value} {P : List Int} {rs : List RecV} {lo hi : Int}
    (h : TrkAt w0 W x lv rv P rs lo hi pv qv) (hr : RunAt w0 W b m c mv lv rv) (M : Moved b W W' lv rv lv' rv') : TrkAt w0 W' x lv' rv' P rs lo hi pv qv := by
  have nb : ∀ {e : TypeId} {size n : Nat} {v : Value} {xs : List Value}, W.ownsRow w0.heap.size e size v n xs → 85 ≠ e → ∀ g, v.ownBlock = some g → g ≠ b := fun ho hne g hg e => by
    subst e
    exact blk_ne_row hr.blk ho hne hg.symm
  refine ⟨?_, ?_, ?_, fun r hrr => ?_, h.low, fun g hg => ?_, fun r hrr g hg => ?_⟩
  · refine (M.same x h.blk.lt (fun e => ?_) (fun e => blk_ne_row h.blk hr.l (by decide) e.symm) (fun e => blk_ne_row h.blk hr.r (by decide) e.symm)).trans h.blk
    subst e
    exact absurd (blk_type h.blk hr.blk) (by decide)
  · exact own_same h.pos (fun g hg => M.same g (h.pos.lt g hg).2 (nb h.pos (by decide) g hg) (h.d1 g hg).1 (h.d1 g hg).2)
  · refine own_same h.rec_ (fun g hg => M.same g (h.rec_.lt g hg).2 (nb h.rec_ (by decide) g hg) (fun e => ?_) (fun e => ?_))
    · rcases own_ne h.rec_ hr.l (by decide) with c | c
      · rw [c] at hg; cases hg
      · exact c (hg.trans e.symm)
    · rcases own_ne h.rec_ hr.r (by decide) with c | c
      · rw [c] at hg; cases hg
      · exact c (hg.trans e.symm)
  · obtain ⟨h1, h2⟩ := h.conf r hrr
    exact ⟨own_same h1 (fun g hg => M.same g (h1.lt g hg).2 (nb h1 (by decide) g hg) (h.d2 r hrr g (.inl hg)).1 (h.d2 r hrr g (.inl hg)).2.1),
      own_same h2 (fun g hg => M.same g (h2.lt g hg).2 (nb h2 (by decide) g hg) (h.d2 r hrr g (.inr hg)).1 (h.d2 r hrr g (.inr hg)).2.1)⟩
  · have hlt := (h.pos.lt g hg).2
    obtain ⟨a1, a2⟩ := h.d1 g hg
    refine ⟨fun e => ?_, fun e => ?_⟩
    · rcases M.newl g e with c | c | c
      · exact a1 c
      · exact a2 c
      · omega
    · rcases M.newr g e with c | c | c
      · exact a1 c
      · exact a2 c
      · omega
  · obtain ⟨h1, h2⟩ := h.conf r hrr
    have hlt : g < W.heap.size := by
      rcases hg with hg | hg
      · exact (h1.lt g hg).2
      · exact (h2.lt g hg).2
    obtain ⟨a1, a2, a3⟩ := h.d2 r hrr g hg
    refine ⟨fun e => ?_, fun e => ?_, a3⟩
    · rcases M.newl g e with c | c | c
      · exact a1 c
      · exact a2 c
      · omega
    · rcases M.newr g e with c | c | c
      · exact a1 c
      · exact a2 c
      · omega
/-- The runner stays, where only the tracker's blocks and new ones are touched. -/
theorem RunAt.keep {w0 W W' : World} {b : Nat} {m : MachD} {c : ConfD} {mv lv rv : Value} (h : RunAt w0 W b m c mv lv rv) (he : Ext w0 W') (hb : W'.heap[b]? = W.heap[b]?)
    (hl : ∀ g, lv.ownBlock = some g → W'.heap[g]? = W.heap[g]?) (hr : ∀ g, rv.ownBlock = some g → W'.heap[g]? = W.heap[g]?) : RunAt w0 W' b m c mv lv rv :=
  ⟨hb.trans h.blk, h.rules0, he, own_same h.l hl, own_same h.r hr, h.ap, h.low⟩
section
variable {w0 W W' : World} {b x : Nat} {m : MachD} {c : ConfD} {mv lv rv pv qv v : Value} {P : List Int} {rs : List RecV} {lo hi : Int}
theorem TrkAt.set (h : TrkAt w0 W x lv rv P rs lo hi pv qv) (hr : RunAt w0 W b m c mv lv rv) (i : Nat) (u : Value) (lo' hi' : Int)
    (hc : (#[pv, qv, .int .i64 lo, .int .i64 hi] : Array Value).setIfInBounds i u = #[pv, qv, .int .i64 lo', .int .i64 hi']) :
    TrkAt w0 (W.setCell ⟨x, i, none⟩ u) x lv rv P rs lo' hi' pv qv ∧ RunAt w0 (W.setCell ⟨x, i, none⟩ u) b m c mv lv rv := by
  have far : ∀ {e : TypeId} {size n : Nat} {v : Value} {xs : List Value} {base : Nat}, W.ownsRow base e size v n xs → 53 ≠ e → (W.setCell ⟨x, i, none⟩ u).ownsRow base e size v n xs := fun ho hne =>
    ownsRow_far ho (fun k hk e => by
      subst e
      exact blk_ne_row h.blk ho hne hk.symm) u
  have hx : b ≠ x := fun e => absurd (blk_type hr.blk (e ▸ h.blk)) (by decide)
  refine ⟨⟨?_, far h.pos (by decide), far h.rec_ (by decide), fun r hrr => ⟨far (h.conf r hrr).1 (by decide), far (h.conf r hrr).2 (by decide)⟩, h.low, h.d1, h.d2⟩, ?_⟩
  · have := h.blk.set_ i u
    rw [hc] at this
    exact this
  · exact ⟨hr.blk.far (by simpa using hx) _, hr.rules0, hr.ext0.setCell h.low _, far hr.l (by decide), far hr.r (by decide), hr.ap, hr.low⟩
/-- A position is appended. -/
theorem TrkAt.posed (h : TrkAt w0 W x lv rv P rs lo hi pv qv) (hr : RunAt w0 W b m c mv lv rv) (z : Int) (ho : W'.ownsRow w0.heap.size 2 1 v (P.length + 1) (ivs P ++ [.int .i64 z])) (hg : W.grownBy W' pv.ownBlock)
    (hn : ∀ g, v.ownBlock = some g → pv.ownBlock = some g ∨ W.heap.size ≤ g) :
    TrkAt w0 (W'.setCell ⟨x, 0, none⟩ v) x lv rv (P ++ [z]) rs lo hi v qv ∧ RunAt w0 (W'.setCell ⟨x, 0, none⟩ v) b m c mv lv rv := by
  have same : ∀ g, g < W.heap.size → pv.ownBlock ≠ some g → W'.heap[g]? = W.heap[g]? := fun g hg1 hg2 => hg.block g hg1 (fun e => hg2 e.symm)
  have hB : Blk W' x 53 #[pv, qv, .int .i64 lo, .int .i64 hi] := (same x h.blk.lt (fun e => blk_ne_row h.blk h.pos (by decide) e.symm)).trans h.blk
  have far : ∀ {e : TypeId} {size n : Nat} {u : Value} {xs : List Value} {base : Nat}, W'.ownsRow base e size u n xs → 53 ≠ e → (W'.setCell ⟨x, 0, none⟩ v).ownsRow base e size u n xs := fun ho' hne =>
    ownsRow_far ho' (fun k hk e => by
      subst e
      exact blk_ne_row hB ho' hne hk.symm) v
  have hx : b ≠ x := fun e => absurd (blk_type hr.blk (e ▸ h.blk)) (by decide)
  have hE : Ext w0 W' := hr.ext0.grown hg (fun k hk => (h.pos.lt k hk).1)
  have hR : W'.ownsRow w0.heap.size 76 5 qv rs.length (rs.flatMap encC) := own_same h.rec_ (fun g hg' => same g (h.rec_.lt g hg').2 (fun e => by
    rcases own_ne h.rec_ h.pos (by decide) with c | c
    · rw [c] at hg'; cases hg'
    · exact c (hg'.trans e.symm)))
  have hC : ∀ r ∈ rs, OwnInts w0.heap.size W' r.lv r.c.l ∧ OwnInts w0.heap.size W' r.rv r.c.r := fun r hrr => by
    obtain ⟨h1, h2⟩ := h.conf r hrr
    exact ⟨own_same h1 (fun g hg' => same g (h1.lt g hg').2 (h.d2 r hrr g (.inl hg')).2.2), own_same h2 (fun g hg' => same g (h2.lt g hg').2 (h.d2 r hrr g (.inr hg')).2.2)⟩
  refine ⟨⟨by have := hB.set_ 0 v; exact this, ?_, far hR (by decide), fun r hrr => ⟨far (hC r hrr).1 (by decide), far (hC r hrr).2 (by decide)⟩, h.low, fun g hg' => ?_, fun r hrr g hg' => ?_⟩, ?_⟩
  · have : OwnInts w0.heap.size W' v (P ++ [z]) := by simpa [OwnInts, ivs_append, ivs] using ho
    exact far this (by decide)
  · rcases hn g hg' with e | e
    · exact h.d1 g e
    · refine ⟨fun e' => ?_, fun e' => ?_⟩
      · have := (hr.l.lt g e').2; omega
      · have := (hr.r.lt g e').2; omega
  · obtain ⟨a1, a2, a3⟩ := h.d2 r hrr g hg'
    refine ⟨a1, a2, fun e => ?_⟩
    rcases hn g e with e | e
    · exact a3 e
    · obtain ⟨h1, h2⟩ := h.conf r hrr
      rcases hg' with hg' | hg'
      · have := (h1.lt g hg').2; omega
      · have := (h2.lt g hg').2; omega
  · have hb : Blk W' b 85 _ := (same b hr.blk.lt (fun e => blk_ne_row hr.blk h.pos (by decide) e.symm)).trans hr.blk
    have hl : OwnInts w0.heap.size W' lv c.l.reverse := own_same hr.l (fun g hg' => same g (hr.l.lt g hg').2 (fun e => (h.d1 g e).1 hg'))
    have hr' : OwnInts w0.heap.size W' rv c.r.reverse := own_same hr.r (fun g hg' => same g (hr.r.lt g hg').2 (fun e => (h.d1 g e).2 hg'))
    exact ⟨hb.far (by simpa using hx) _, hr.rules0, hE.setCell h.low _, far hl (by decide), far hr' (by decide), hr.ap, hr.low⟩
/-- A record is appended. -/
theorem TrkAt.reced (h : TrkAt w0 W x lv rv P rs lo hi pv qv) (hr : RunAt w0 W b m c mv lv rv) (r0 : RecV) (ho : W'.ownsRow w0.heap.size 76 5 v (rs.length + 1) (rs.flatMap encC ++ encC r0)) (hg : W.grownBy W' qv.ownBlock)
    (h1 : OwnInts w0.heap.size W r0.lv r0.c.l) (h2 : OwnInts w0.heap.size W r0.rv r0.c.r) (hd : ∀ g, (r0.lv.ownBlock = some g ∨ r0.rv.ownBlock = some g) → lv.ownBlock ≠ some g ∧ rv.ownBlock ≠ some g ∧ pv.ownBlock ≠ some g) :
    TrkAt w0 (W'.setCell ⟨x, 1, none⟩ v) x lv rv P (rs ++ [r0]) lo hi pv v ∧ RunAt w0 (W'.setCell ⟨x, 1, none⟩ v) b m c mv lv rv := by
  have same : ∀ g, g < W.heap.size → qv.ownBlock ≠ some g → W'.heap[g]? = W.heap[g]? := fun g hg1 hg2 => hg.block g hg1 (fun e => hg2 e.symm)
  have hB : Blk W' x 53 #[pv, qv, .int .i64 lo, .int .i64 hi] := (same x h.blk.lt (fun e => blk_ne_row h.blk h.rec_ (by decide) e.symm)).trans h.blk
  have far : ∀ {e : TypeId} {size n : Nat} {u : Value} {xs : List Value} {base : Nat}, W'.ownsRow base e size u n xs → 53 ≠ e → (W'.setCell ⟨x, 1, none⟩ v).ownsRow base e size u n xs := fun ho' hne =>
    ownsRow_far ho' (fun k hk e => by
      subst e
      exact blk_ne_row hB ho' hne hk.symm) v
  have hx : b ≠ x := fun e => absurd (blk_type hr.blk (e ▸ h.blk)) (by decide)
  have hE : Ext w0 W' := hr.ext0.grown hg (fun k hk => (h.rec_.lt k hk).1)
  have ints : ∀ {u : Value} {zs : List Int} {base : Nat}, OwnInts base W u zs → OwnInts base W' u zs := fun hu => own_same hu (fun g hg' => same g (hu.lt g hg').2 (fun e => by
    rcases own_ne hu h.rec_ (by decide) with c | c
    · rw [c] at hg'; cases hg'
    · exact c (hg'.trans e.symm)))
  refine ⟨⟨by have := hB.set_ 1 v; exact this, far (ints h.pos) (by decide), ?_, fun r hrr => ?_, h.low, h.d1, fun r hrr g hg' => ?_⟩, ?_⟩
  · have : W'.ownsRow w0.heap.size 76 5 v (rs ++ [r0]).length ((rs ++ [r0]).flatMap encC) := by simpa using ho
    exact far this (by decide)
  · rcases List.mem_append.1 hrr with hrr | hrr
    · exact ⟨far (ints (h.conf r hrr).1) (by decide), far (ints (h.conf r hrr).2) (by decide)⟩
    · rw [List.mem_singleton.1 hrr]
      exact ⟨far (ints h1) (by decide), far (ints h2) (by decide)⟩
  · rcases List.mem_append.1 hrr with hrr | hrr
    · exact h.d2 r hrr g hg'
    · rw [List.mem_singleton.1 hrr] at hg'
      exact hd g hg'
  · have hb : Blk W' b 85 _ := (same b hr.blk.lt (fun e => blk_ne_row hr.blk h.rec_ (by decide) e.symm)).trans hr.blk
    exact ⟨hb.far (by simpa using hx) _, hr.rules0, hE.setCell h.low _, far (ints hr.l) (by decide), far (ints hr.r) (by decide), hr.ap, hr.low⟩
end
end Go.Proofs.Ytpdnmhhieokogaa
