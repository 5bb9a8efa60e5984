/- The memory of the program's tracker beside that of its runner.
Contract of the program's tracker where it sees a configuration.
Contract of the program's runner upon the blank tape. -/
import Derived.Test.YtojiammendjpkaaGreatB29
import Derived.Test.YtojiammendjpkaaGreatB04
import Derived.Test.YtojiammendjpkaaGreatB05
import Derived.Maps.AppendAt
import Derived.BigQuiet
import Derived.Test.YtojiammendjpkaaGreatB30
import Derived.Deep.RegionLaw
import Derived.Deep.AppendLies
section
set_option linter.unusedSimpArgs false
set_option linter.unusedVariables false
namespace Go.Proofs.YtojiammendjpkaaGreat
open Go Go.RowKit Go.Proofs
set_option maxHeartbeats 400000
theorem recInfo : (Tryz.prog.info? 105).map (fun i => (i.zero, i.size, i.bytes)) = some (some (.agg #[.int .i64 0, .int .i64 0, .int .i64 0, .slice none 0 0, .slice none 0 0]), 5, 72) := by kernel_rfl
/-- A record, with the configuration that it holds. -/
structure RecV where
  n : Nat
  side : Int
  c : ConfD
  lv : Value
  rv : Value
def encC (x : RecV) : List Value := [.int .i64 x.n, .int .i64 x.side, .int .i64 x.c.q, x.lv, x.rv]
structure TrkAt (w0 W : World) (x : Nat) (lv rv : Value) (P : List Int) (rs : List RecV) (lo hi : Int) (pv qv : Value) : Prop where
  blk : Blk W x 109 #[pv, qv, .int .i64 lo, .int .i64 hi]
  pos : OwnInts w0.heap.size W pv P
  rec_ : W.ownsRow w0.heap.size 105 5 qv rs.length (rs.flatMap encC)
  conf : ∀ r ∈ rs, OwnInts w0.heap.size W r.lv r.c.l ∧ OwnInts w0.heap.size W r.rv r.c.r
  low : w0.heap.size ≤ x
  d1 : ∀ g, pv.ownBlock = some g → lv.ownBlock ≠ some g ∧ rv.ownBlock ≠ some g
  d2 : ∀ r ∈ rs, ∀ g, (r.lv.ownBlock = some g ∨ r.rv.ownBlock = some g) → lv.ownBlock ≠ some g ∧ rv.ownBlock ≠ some g ∧ pv.ownBlock ≠ some g
theorem TrkAt.ext {w0 W W' : World} {x : Nat} {lv rv pv qv : Value} {P : List Int} {rs : List RecV} {lo hi : Int} (h : TrkAt w0 W x lv rv P rs lo hi pv qv) (he : Ext W W') : TrkAt w0 W' x lv rv P rs lo hi pv qv :=
  ⟨h.blk.ext he, h.pos.ext he, ownsRow_ext h.rec_ he, fun r hr => ⟨(h.conf r hr).1.ext he, (h.conf r hr).2.ext he⟩, h.low, h.d1, h.d2⟩
theorem TrkAt.moved {w0 W W' : World} {b x : Nat} {m : MachD} {c : ConfD} {mv lv rv lv' rv' pv qv : Value} {P : List Int} {rs : List RecV} {lo hi : Int}
    (h : TrkAt w0 W x lv rv P rs lo hi pv qv) (hr : RunAt w0 W b m c mv lv rv) (M : Moved b W W' lv rv lv' rv') : TrkAt w0 W' x lv' rv' P rs lo hi pv qv := by
  have nb : ∀ {e : TypeId} {size n : Nat} {v : Value} {xs : List Value}, W.ownsRow w0.heap.size e size v n xs → 159 ≠ e → ∀ g, v.ownBlock = some g → g ≠ b := fun ho hne g hg e => by
    subst e
    exact blk_ne_row hr.blk ho hne hg.symm
  refine ⟨?_, ?_, ?_, fun r hrr => ?_, h.low, fun g hg => ?_, fun r hrr g hg => ?_⟩
  · refine (M.same x h.blk.lt (fun e => ?_) (fun e => blk_ne_row h.blk hr.l (by decide) e.symm) (fun e => blk_ne_row h.blk hr.r (by decide) e.symm)).trans h.blk
    subst e
    exact absurd (blk_type h.blk hr.blk) (by decide)
  · exact own_same h.pos (fun g hg => M.same g (h.pos.lt g hg).2 (nb h.pos (by decide) g hg) (h.d1 g hg).1 (h.d1 g hg).2)
  · refine own_same h.rec_ (fun g hg => M.same g (h.rec_.lt g hg).2 (nb h.rec_ (by decide) g hg) (fun e => ?_) (fun e => ?_))
    · rcases own_ne h.rec_ hr.l (by decide) with c | c
      · rw [c] at hg; cases hg
      · exact c (hg.trans e.symm)
    · rcases own_ne h.rec_ hr.r (by decide) with c | c
      · rw [c] at hg; cases hg
      · exact c (hg.trans e.symm)
  · obtain ⟨h1, h2⟩ := h.conf r hrr
    exact ⟨own_same h1 (fun g hg => M.same g (h1.lt g hg).2 (nb h1 (by decide) g hg) (h.d2 r hrr g (.inl hg)).1 (h.d2 r hrr g (.inl hg)).2.1),
      own_same h2 (fun g hg => M.same g (h2.lt g hg).2 (nb h2 (by decide) g hg) (h.d2 r hrr g (.inr hg)).1 (h.d2 r hrr g (.inr hg)).2.1)⟩
  · have hlt := (h.pos.lt g hg).2
    obtain ⟨a1, a2⟩ := h.d1 g hg
    refine ⟨fun e => ?_, fun e => ?_⟩
    · rcases M.newl g e with c | c | c
      · exact a1 c
      · exact a2 c
      · omega
    · rcases M.newr g e with c | c | c
      · exact a1 c
      · exact a2 c
      · omega
  · obtain ⟨h1, h2⟩ := h.conf r hrr
    have hlt : g < W.heap.size := by
      rcases hg with hg | hg
      · exact (h1.lt g hg).2
      · exact (h2.lt g hg).2
    obtain ⟨a1, a2, a3⟩ := h.d2 r hrr g hg
    refine ⟨fun e => ?_, fun e => ?_, a3⟩
    · rcases M.newl g e with c | c | c
      · exact a1 c
      · exact a2 c
      · omega
    · rcases M.newr g e with c | c | c
      · exact a1 c
      · exact a2 c
      · omega
/-- The runner stays, where only the tracker's blocks and new ones are touched. -/
theorem RunAt.keep {w0 W W' : World} {b : Nat} {m : MachD} {c : ConfD} {mv lv rv : Value} (h : RunAt w0 W b m c mv lv rv) (he : Ext w0 W') (hb : W'.heap[b]? = W.heap[b]?)
    (hl : ∀ g, lv.ownBlock = some g → W'.heap[g]? = W.heap[g]?) (hr : ∀ g, rv.ownBlock = some g → W'.heap[g]? = W.heap[g]?) : RunAt w0 W' b m c mv lv rv :=
  ⟨hb.trans h.blk, h.rules0, he, own_same h.l hl, own_same h.r hr, h.ap, h.low⟩
section
variable {w0 W W' : World} {b x : Nat} {m : MachD} {c : ConfD} {mv lv rv pv qv v : Value} {P : List Int} {rs : List RecV} {lo hi : Int}
theorem TrkAt.set (h : TrkAt w0 W x lv rv P rs lo hi pv qv) (hr : RunAt w0 W b m c mv lv rv) (i : Nat) (u : Value) (lo' hi' : Int)
    (hc : (#[pv, qv, .int .i64 lo, .int .i64 hi] : Array Value).setIfInBounds i u = #[pv, qv, .int .i64 lo', .int .i64 hi']) :
    TrkAt w0 (W.setCell ⟨x, i, none⟩ u) x lv rv P rs lo' hi' pv qv ∧ RunAt w0 (W.setCell ⟨x, i, none⟩ u) b m c mv lv rv := by
  have far : ∀ {e : TypeId} {size n : Nat} {v : Value} {xs : List Value} {base : Nat}, W.ownsRow base e size v n xs → 109 ≠ e → (W.setCell ⟨x, i, none⟩ u).ownsRow base e size v n xs := fun ho hne =>
    ownsRow_far ho (fun k hk e => by
      subst e
      exact blk_ne_row h.blk ho hne hk.symm) u
  have hx : b ≠ x := fun e => absurd (blk_type hr.blk (e ▸ h.blk)) (by decide)
  refine ⟨⟨?_, far h.pos (by decide), far h.rec_ (by decide), fun r hrr => ⟨far (h.conf r hrr).1 (by decide), far (h.conf r hrr).2 (by decide)⟩, h.low, h.d1, h.d2⟩, ?_⟩
  · have := h.blk.set_ i u
    rw [hc] at this
    exact this
  · exact ⟨hr.blk.far (by simpa using hx) _, hr.rules0, hr.ext0.setCell h.low _, far hr.l (by decide), far hr.r (by decide), hr.ap, hr.low⟩
/-- A position is appended. -/
theorem TrkAt.posed (h : TrkAt w0 W x lv rv P rs lo hi pv qv) (hr : RunAt w0 W b m c mv lv rv) (z : Int) (ho : W'.ownsRow w0.heap.size 2 1 v (P.length + 1) (ivs P ++ [.int .i64 z])) (hg : W.grownBy W' pv.ownBlock)
    (hn : ∀ g, v.ownBlock = some g → pv.ownBlock = some g ∨ W.heap.size ≤ g) :
    TrkAt w0 (W'.setCell ⟨x, 0, none⟩ v) x lv rv (P ++ [z]) rs lo hi v qv ∧ RunAt w0 (W'.setCell ⟨x, 0, none⟩ v) b m c mv lv rv := by
  have same : ∀ g, g < W.heap.size → pv.ownBlock ≠ some g → W'.heap[g]? = W.heap[g]? := fun g hg1 hg2 => hg.block g hg1 (fun e => hg2 e.symm)
  have hB : Blk W' x 109 #[pv, qv, .int .i64 lo, .int .i64 hi] := (same x h.blk.lt (fun e => blk_ne_row h.blk h.pos (by decide) e.symm)).trans h.blk
  have far : ∀ {e : TypeId} {size n : Nat} {u : Value} {xs : List Value} {base : Nat}, W'.ownsRow base e size u n xs → 109 ≠ e → (W'.setCell ⟨x, 0, none⟩ v).ownsRow base e size u n xs := fun ho' hne =>
    ownsRow_far ho' (fun k hk e => by
      subst e
      exact blk_ne_row hB ho' hne hk.symm) v
  have hx : b ≠ x := fun e => absurd (blk_type hr.blk (e ▸ h.blk)) (by decide)
  have hE : Ext w0 W' := hr.ext0.grown hg (fun k hk => (h.pos.lt k hk).1)
  have hR : W'.ownsRow w0.heap.size 105 5 qv rs.length (rs.flatMap encC) := own_same h.rec_ (fun g hg' => same g (h.rec_.lt g hg').2 (fun e => by
    rcases own_ne h.rec_ h.pos (by decide) with c | c
    · rw [c] at hg'; cases hg'
    · exact c (hg'.trans e.symm)))
  have hC : ∀ r ∈ rs, OwnInts w0.heap.size W' r.lv r.c.l ∧ OwnInts w0.heap.size W' r.rv r.c.r := fun r hrr => by
    obtain ⟨h1, h2⟩ := h.conf r hrr
    exact ⟨own_same h1 (fun g hg' => same g (h1.lt g hg').2 (h.d2 r hrr g (.inl hg')).2.2), own_same h2 (fun g hg' => same g (h2.lt g hg').2 (h.d2 r hrr g (.inr hg')).2.2)⟩
  refine ⟨⟨by have := hB.set_ 0 v; exact this, ?_, far hR (by decide), fun r hrr => ⟨far (hC r hrr).1 (by decide), far (hC r hrr).2 (by decide)⟩, h.low, fun g hg' => ?_, fun r hrr g hg' => ?_⟩, ?_⟩
  · have : OwnInts w0.heap.size W' v (P ++ [z]) := by simpa [OwnInts, ivs_append, ivs] using ho
    exact far this (by decide)
  · rcases hn g hg' with e | e
    · exact h.d1 g e
    · refine ⟨fun e' => ?_, fun e' => ?_⟩
      · have := (hr.l.lt g e').2; omega
      · have := (hr.r.lt g e').2; omega
  · obtain ⟨a1, a2, a3⟩ := h.d2 r hrr g hg'
    refine ⟨a1, a2, fun e => ?_⟩
    rcases hn g e with e | e
    · exact a3 e
    · obtain ⟨h1, h2⟩ := h.conf r hrr
      rcases hg' with hg' | hg'
      · have := (h1.lt g hg').2; omega
      · have := (h2.lt g hg').2; omega
  · have hb : Blk W' b 159 _ := (same b hr.blk.lt (fun e => blk_ne_row hr.blk h.pos (by decide) e.symm)).trans hr.blk
    have hl : OwnInts w0.heap.size W' lv c.l.reverse := own_same hr.l (fun g hg' => same g (hr.l.lt g hg').2 (fun e => (h.d1 g e).1 hg'))
    have hr' : OwnInts w0.heap.size W' rv c.r.reverse := own_same hr.r (fun g hg' => same g (hr.r.lt g hg').2 (fun e => (h.d1 g e).2 hg'))
    exact ⟨hb.far (by simpa using hx) _, hr.rules0, hE.setCell h.low _, far hl (by decide), far hr' (by decide), hr.ap, hr.low⟩
/-- A record is appended. -/
theorem TrkAt.reced (h : TrkAt w0 W x lv rv P rs lo hi pv qv) (hr : RunAt w0 W b m c mv lv rv) (r0 : RecV) (ho : W'.ownsRow w0.heap.size 105 5 v (rs.length + 1) (rs.flatMap encC ++ encC r0)) (hg : W.grownBy W' qv.ownBlock)
    (h1 : OwnInts w0.heap.size W r0.lv r0.c.l) (h2 : OwnInts w0.heap.size W r0.rv r0.c.r) (hd : ∀ g, (r0.lv.ownBlock = some g ∨ r0.rv.ownBlock = some g) → lv.ownBlock ≠ some g ∧ rv.ownBlock ≠ some g ∧ pv.ownBlock ≠ some g) :
    TrkAt w0 (W'.setCell ⟨x, 1, none⟩ v) x lv rv P (rs ++ [r0]) lo hi pv v ∧ RunAt w0 (W'.setCell ⟨x, 1, none⟩ v) b m c mv lv rv := by
  have same : ∀ g, g < W.heap.size → qv.ownBlock ≠ some g → W'.heap[g]? = W.heap[g]? := fun g hg1 hg2 => hg.block g hg1 (fun e => hg2 e.symm)
  have hB : Blk W' x 109 #[pv, qv, .int .i64 lo, .int .i64 hi] := (same x h.blk.lt (fun e => blk_ne_row h.blk h.rec_ (by decide) e.symm)).trans h.blk
  have far : ∀ {e : TypeId} {size n : Nat} {u : Value} {xs : List Value} {base : Nat}, W'.ownsRow base e size u n xs → 109 ≠ e → (W'.setCell ⟨x, 1, none⟩ v).ownsRow base e size u n xs := fun ho' hne =>
    ownsRow_far ho' (fun k hk e => by
      subst e
      exact blk_ne_row hB ho' hne hk.symm) v
  have hx : b ≠ x := fun e => absurd (blk_type hr.blk (e ▸ h.blk)) (by decide)
  have hE : Ext w0 W' := hr.ext0.grown hg (fun k hk => (h.rec_.lt k hk).1)
  have ints : ∀ {u : Value} {zs : List Int} {base : Nat}, OwnInts base W u zs → OwnInts base W' u zs := fun hu => own_same hu (fun g hg' => same g (hu.lt g hg').2 (fun e => by
    rcases own_ne hu h.rec_ (by decide) with c | c
    · rw [c] at hg'; cases hg'
    · exact c (hg'.trans e.symm)))
  refine ⟨⟨by have := hB.set_ 1 v; exact this, far (ints h.pos) (by decide), ?_, fun r hrr => ?_, h.low, h.d1, fun r hrr g hg' => ?_⟩, ?_⟩
  · have : W'.ownsRow w0.heap.size 105 5 v (rs ++ [r0]).length ((rs ++ [r0]).flatMap encC) := by simpa using ho
    exact far this (by decide)
  · rcases List.mem_append.1 hrr with hrr | hrr
    · exact ⟨far (ints (h.conf r hrr).1) (by decide), far (ints (h.conf r hrr).2) (by decide)⟩
    · rw [List.mem_singleton.1 hrr]
      exact ⟨far (ints h1) (by decide), far (ints h2) (by decide)⟩
  · rcases List.mem_append.1 hrr with hrr | hrr
    · exact h.d2 r hrr g hg'
    · rw [List.mem_singleton.1 hrr] at hg'
      exact hd g hg'
  · have hb : Blk W' b 159 _ := (same b hr.blk.lt (fun e => blk_ne_row hr.blk h.rec_ (by decide) e.symm)).trans hr.blk
    exact ⟨hb.far (by simpa using hx) _, hr.rules0, hE.setCell h.low _, far (ints hr.l) (by decide), far (ints hr.r) (by decide), hr.ap, hr.low⟩
end
end Go.Proofs.YtojiammendjpkaaGreat
end
section
set_option linter.unusedSimpArgs false
set_option linter.unusedVariables false
namespace Go.Proofs.YtojiammendjpkaaGreat
open Go Go.RowKit Go.Proofs
set_option maxHeartbeats 400000
/-- What the tracker holds behind a configuration with the head at z. -/
def SeenQ (c : ConfD) (z : Int) (n : Nat) (rs rs' : List RecV) (lo hi lo' hi' : Int) : Prop :=
  (hi < z ∧ (∃ lv rv, rs' = rs ++ [⟨n, 1, c, lv, rv⟩]) ∧ lo' = lo ∧ hi' = z) ∨ (¬ hi < z ∧ z < lo ∧ (∃ lv rv, rs' = rs ++ [⟨n, -1, c, lv, rv⟩]) ∧ lo' = z ∧ hi' = hi) ∨ (¬ hi < z ∧ ¬ z < lo ∧ rs' = rs ∧ lo' = lo ∧ hi' = hi)
def SawRes (w0 : World) (b x : Nat) (m : MachD) (c : ConfD) (mv lv rv : Value) (P : List Int) (rs : List RecV) (lo hi z : Int) (e : Ending) (w' : World) : Prop :=
  e = .returned (.tuple #[]) ∧ ∃ rs' lo' hi' pv' qv', RunAt w0 w' b m c mv lv rv ∧ TrkAt w0 w' x lv rv (P ++ [z]) rs' lo' hi' pv' qv' ∧ SeenQ c z P.length rs rs' lo hi lo' hi'
set_option maxRecDepth 20000 in
set_option maxHeartbeats 4000000 in
theorem quickConfig_c (w0 W : World) (b x : Nat) (m : MachD) (c : ConfD) (mv lv rv pv qv : Value) (P : List Int) (rs : List RecV) (lo hi z : Int) (hR : RunAt w0 W b m c mv lv rv) (hT : TrkAt w0 W x lv rv P rs lo hi pv qv)
    (hl : c.l.length ≤ 1000) (hn : c.r.length ≤ 1000) (hP : P.length ≤ 100000) (hrs : rs.length ≤ 100000) :
    Calls Tryz.prog 215 #[.pointer (some ⟨x, 0, none⟩), .pointer (some ⟨b, 0, none⟩), .int .i64 z] W (SawRes w0 b x m c mv lv rv P rs lo hi z) := by
  obtain ⟨i0, hi0, hz0, hz1, hz2⟩ := info_parts recInfo
  obtain ⟨j0, hj0, hy0, hy1, hy2⟩ := info_parts intInfo
  have hsz := hR.ext0.size
  obtain ⟨Ap, cp, rfl, _, _⟩ := hT.pos.ints.form
  obtain ⟨Aq, cq, rfl, _, _, _⟩ := (ownsRow_row hT.rec_).form
  have c2 := hT.blk.cell 2
  have c3 := hT.blk.cell 3
  have f3 := hT.blk.frozen 3
  have f2 := hT.blk.frozen 2
  simp only [List.getElem?_toArray, List.getElem?_cons_zero, List.getElem?_cons_succ] at c2 c3
  by_cases h1 : hi < z
  · have e1 : decide (hi < z) = true := by simp [h1]
    have H1 := Lib.hid h1
    clear h1
    obtain ⟨hT1, hR1⟩ := TrkAt.set hT hR 3 (.int .i64 z) lo z rfl
    obtain ⟨W1, hW1⟩ : ∃ W1, W1 = W.setCell ⟨x, 3, none⟩ (.int .i64 z) := ⟨_, rfl⟩
    rw [← hW1] at hT1 hR1
    go_enter Tryz.func215, Tryz.ntmps215
    go_wp2_with fail
    rw [← hW1]
    clear hW1 c2 c3 f2 f3
    have hRd := hR1.ext (Ext.drew _)
    have hTd := hT1.ext (Ext.drew _)
    have hcfg := config_c w0 W1.drew b m c mv lv rv hRd hl hn
    have hsize := sizeInt_c _ P W1.drew hTd.pos.ints
    have c0 := hT1.blk.cell 0
    have c1 := hT1.blk.cell 1
    simp only [List.getElem?_toArray, List.getElem?_cons_zero, List.getElem?_cons_succ] at c0 c1
    have hs1 : w0.heap.size ≤ W1.heap.size := hR1.ext0.size
    go_region_law (first
      | (go_simp; go_at_call 112; ((with_reducible refine hsize.mono ?_)); rintro e w' ⟨rfl, rfl⟩)
      | (go_simp; go_at_call 52; ((with_reducible refine hcfg.mono ?_)); rintro e w4 ⟨l4, r4, rfl, ol, orr, hap, hx4⟩; obtain ⟨Al, kl, rfl, _, _⟩ := ol.ints.form; obtain ⟨Ar, kr, rfl, _, _⟩ := orr.ints.form; have hT4 := hTd.ext hx4; have hR4 := hRd.ext hx4; have d0 := hT4.blk.cell 0; have d1 := hT4.blk.cell 1; simp only [List.getElem?_toArray, List.getElem?_cons_zero, List.getElem?_cons_succ] at d0 d1; have hsize4 := sizeInt_c _ P w4 hT4.pos.ints; have eA := Ext.alloc w4 (.cells #[.int .i64 P.length, .int .i64 1, .int .i64 c.q, .slice Al c.l.length kl, .slice Ar c.r.length kr] 105); have hs4 : W1.heap.size ≤ w4.heap.size := hx4.size; have hT5 := hT4.ext eA; have hR5 := hR4.ext eA; have g1 := hT5.blk.cell 1; simp only [List.getElem?_toArray, List.getElem?_cons_zero, List.getElem?_cons_succ] at g1)
      | (refine step_append_lies _ (by rfl) _ _ _ (by rfl) w0.heap.size 105 i0 _ 5 72 Tryz.underlying102 hi0 hz0 hz1 hz2 rfl (by omega) _ _ (rs.flatMap encC) (by first | rfl | simp [Act.eval, Act.put]) hT5.rec_ ⟨w4.heap.size, 0, none⟩ 1 1 [.int .i64 P.length, .int .i64 1, .int .i64 c.q, .slice Al c.l.length kl, .slice Ar c.r.length kr] (by first | rfl | simp [Act.eval, Act.put]) rfl (World.news_of_block (heap_alloc_new w4 _)) (by simp [Value.oneCell']) (by omega) (by unfold maxLen; omega) (by omega) (by simp; omega) (w4.heap.size + 1) (by simp) ?_; intro g7 cap w7 hown7 hg7 hat7 hlt7; have B7 := Blk.apart hT5.blk hT5.rec_ (by decide) hg7; have z1 := B7.cell 1; have v1 := B7.frozen 1; simp only [List.getElem?_toArray, List.getElem?_cons_zero, List.getElem?_cons_succ] at z1))
    all_goals
      have hbl : OwnInts W1.heap.size w4 (.slice Al c.l.length kl) c.l := ol
      have hbr : OwnInts W1.heap.size w4 (.slice Ar c.r.length kr) c.r := orr
      obtain ⟨hT6, hR6⟩ := TrkAt.reced (v := .slice (some ⟨g7, 0, none⟩) (rs.length + 1) cap) hT5 hR5 ⟨P.length, 1, c, .slice Al c.l.length kl, .slice Ar c.r.length kr⟩ hown7 hg7 (ownsRow_ext (ownsRow_base hbl hs1) eA) (ownsRow_ext (ownsRow_base hbr hs1) eA) (fun g hg => by
        have hge : W1.heap.size ≤ g := by
          rcases hg with hg | hg
          · exact (hbl.lt g hg).1
          · exact (hbr.lt g hg).1
        refine ⟨fun e => ?_, fun e => ?_, fun e => ?_⟩
        · have := (hR1.l.lt g e).2; omega
        · have := (hR1.r.lt g e).2; omega
        · have := (hT1.pos.lt g e).2; omega)
      obtain ⟨W8, hW8⟩ : ∃ W8, W8 = w7.setCell ⟨x, 1, none⟩ (.slice (some ⟨g7, 0, none⟩) (rs.length + 1) cap) := ⟨_, rfl⟩
      rw [← hW8] at hT6 hR6
      have HS : Hid (SeenQ c z P.length rs (rs ++ [⟨P.length, 1, c, .slice Al c.l.length kl, .slice Ar c.r.length kr⟩]) lo hi lo z) := Lib.hid (.inl ⟨H1.out, ⟨_, _, rfl⟩, rfl, rfl⟩)
      generalize rs ++ [(⟨P.length, 1, c, .slice Al c.l.length kl, .slice Ar c.r.length kr⟩ : RecV)] = rs' at *
      clear hT hR hT1 hR1 hRd hTd hcfg hsize c0 c1 g1 hT4 hR4 d0 d1 hsize4 hT5 hR5 B7 z1 v1 ol orr hbl hbr hap
      have p0 := (hT6.blk.alloc (.cells #[.int .i64 z] 2)).cell 0
      have p0' := hT6.blk.cell 0
      simp only [List.getElem?_toArray, List.getElem?_cons_zero, List.getElem?_cons_succ] at p0 p0'
      have ho9 := hT6.pos.alloc (.cells #[.int .i64 z] 2)
      have hs8 : w0.heap.size ≤ W8.heap.size := hR6.ext0.size
      try rw [← hW8]
      try clear hW8
      have eZ := Ext.alloc W8 (.cells #[.int .i64 z] 2)
      have hT9 := hT6.ext eZ
      have hR9 := hR6.ext eZ
      go_wp2_with (at_builtin; refine wpList_append_own_at _ rfl _ _ 27 rfl w0.heap.size 2 j0 (.int .i64 0) 1 8 Tryz.underlying27 hj0 hy0 hy1 hy2 rfl (by decide) _ _ _ rfl ho9 ⟨W8.heap.size, 0, none⟩ 1 1 [.int .i64 z] rfl rfl (cell_one_new _ _ _) ?c2 ?c3 ?c4 ?c5 ?_)
      case c2 => first | (intro u hu; simp at hu; subst hu; rfl) | rfl | simp [Value.oneCell']
      case c3 => unfold maxLen; omega
      case c4 => omega
      case c5 => first | (simp; omega) | omega
      intro v' wA hownA hgA _ hloc
      obtain ⟨Az, cz, rfl, _, _, _⟩ := (ownsRow_row hownA).form
      have BA := Blk.apart hT9.blk ho9 (by decide) hgA
      have p1 := BA.cell 0
      have q1 := BA.frozen 0
      simp only [List.getElem?_toArray, List.getElem?_cons_zero, List.getElem?_cons_succ] at p1
      obtain ⟨hTz, hRz⟩ := TrkAt.posed hT9 hR9 z hownA hgA (fun g hg => by
        rcases hloc with e | e
        · exact .inl (e.symm.trans hg)
        · rw [e] at hg
          injection hg with hg
          exact .inr (by simp; omega))
      have HT := Lib.hid hTz
      have HR := Lib.hid hRz
      clear hTz hRz hT9 hR9 hT6 hR6 ho9 BA p0 p0' hownA hgA
      go_wp2
      go_end0
      exact ⟨rfl, _, _, _, _, _, HR.out, HT.out, HS.out⟩

  · have e1 : decide (hi < z) = false := by simp [h1]
    have H1 := Lib.hid h1
    clear h1
    by_cases h2 : z < lo
    · have e2 : decide (z < lo) = true := by simp [h2]
      have H2 := Lib.hid h2
      clear h2
      obtain ⟨hT1, hR1⟩ := TrkAt.set hT hR 2 (.int .i64 z) z hi rfl
      obtain ⟨W1, hW1⟩ : ∃ W1, W1 = W.setCell ⟨x, 2, none⟩ (.int .i64 z) := ⟨_, rfl⟩
      rw [← hW1] at hT1 hR1
      go_enter Tryz.func215, Tryz.ntmps215
      go_wp2_with fail
      rw [← hW1]
      clear hW1 c2 c3 f2 f3
      have hRd := hR1.ext (Ext.drew _)
      have hTd := hT1.ext (Ext.drew _)
      have hcfg := config_c w0 W1.drew b m c mv lv rv hRd hl hn
      have hsize := sizeInt_c _ P W1.drew hTd.pos.ints
      have c0 := hT1.blk.cell 0
      have c1 := hT1.blk.cell 1
      simp only [List.getElem?_toArray, List.getElem?_cons_zero, List.getElem?_cons_succ] at c0 c1
      have hs1 : w0.heap.size ≤ W1.heap.size := hR1.ext0.size
      go_region_law (first
        | (go_simp; go_at_call 112; ((with_reducible refine hsize.mono ?_)); rintro e w' ⟨rfl, rfl⟩)
        | (go_simp; go_at_call 52; ((with_reducible refine hcfg.mono ?_)); rintro e w4 ⟨l4, r4, rfl, ol, orr, hap, hx4⟩; obtain ⟨Al, kl, rfl, _, _⟩ := ol.ints.form; obtain ⟨Ar, kr, rfl, _, _⟩ := orr.ints.form; have hT4 := hTd.ext hx4; have hR4 := hRd.ext hx4; have d0 := hT4.blk.cell 0; have d1 := hT4.blk.cell 1; simp only [List.getElem?_toArray, List.getElem?_cons_zero, List.getElem?_cons_succ] at d0 d1; have hsize4 := sizeInt_c _ P w4 hT4.pos.ints; have eA := Ext.alloc w4 (.cells #[.int .i64 P.length, .int .i64 (-1), .int .i64 c.q, .slice Al c.l.length kl, .slice Ar c.r.length kr] 105); have hs4 : W1.heap.size ≤ w4.heap.size := hx4.size; have hT5 := hT4.ext eA; have hR5 := hR4.ext eA; have g1 := hT5.blk.cell 1; simp only [List.getElem?_toArray, List.getElem?_cons_zero, List.getElem?_cons_succ] at g1)
        | (refine step_append_lies _ (by rfl) _ _ _ (by rfl) w0.heap.size 105 i0 _ 5 72 Tryz.underlying102 hi0 hz0 hz1 hz2 rfl (by omega) _ _ (rs.flatMap encC) (by first | rfl | simp [Act.eval, Act.put]) hT5.rec_ ⟨w4.heap.size, 0, none⟩ 1 1 [.int .i64 P.length, .int .i64 (-1), .int .i64 c.q, .slice Al c.l.length kl, .slice Ar c.r.length kr] (by first | rfl | simp [Act.eval, Act.put]) rfl (World.news_of_block (heap_alloc_new w4 _)) (by simp [Value.oneCell']) (by omega) (by unfold maxLen; omega) (by omega) (by simp; omega) (w4.heap.size + 1) (by simp) ?_; intro g7 cap w7 hown7 hg7 hat7 hlt7; have B7 := Blk.apart hT5.blk hT5.rec_ (by decide) hg7; have z1 := B7.cell 1; have v1 := B7.frozen 1; simp only [List.getElem?_toArray, List.getElem?_cons_zero, List.getElem?_cons_succ] at z1))
      all_goals
        have hbl : OwnInts W1.heap.size w4 (.slice Al c.l.length kl) c.l := ol
        have hbr : OwnInts W1.heap.size w4 (.slice Ar c.r.length kr) c.r := orr
        obtain ⟨hT6, hR6⟩ := TrkAt.reced (v := .slice (some ⟨g7, 0, none⟩) (rs.length + 1) cap) hT5 hR5 ⟨P.length, (-1), c, .slice Al c.l.length kl, .slice Ar c.r.length kr⟩ hown7 hg7 (ownsRow_ext (ownsRow_base hbl hs1) eA) (ownsRow_ext (ownsRow_base hbr hs1) eA) (fun g hg => by
          have hge : W1.heap.size ≤ g := by
            rcases hg with hg | hg
            · exact (hbl.lt g hg).1
            · exact (hbr.lt g hg).1
          refine ⟨fun e => ?_, fun e => ?_, fun e => ?_⟩
          · have := (hR1.l.lt g e).2; omega
          · have := (hR1.r.lt g e).2; omega
          · have := (hT1.pos.lt g e).2; omega)
        obtain ⟨W8, hW8⟩ : ∃ W8, W8 = w7.setCell ⟨x, 1, none⟩ (.slice (some ⟨g7, 0, none⟩) (rs.length + 1) cap) := ⟨_, rfl⟩
        rw [← hW8] at hT6 hR6
        have HS : Hid (SeenQ c z P.length rs (rs ++ [⟨P.length, (-1), c, .slice Al c.l.length kl, .slice Ar c.r.length kr⟩]) lo hi z hi) := Lib.hid (.inr (.inl ⟨by have := H1.out; omega, by have := H2.out; omega, ⟨_, _, rfl⟩, rfl, rfl⟩))
        generalize rs ++ [(⟨P.length, (-1), c, .slice Al c.l.length kl, .slice Ar c.r.length kr⟩ : RecV)] = rs' at *
        clear hT hR hT1 hR1 hRd hTd hcfg hsize c0 c1 g1 hT4 hR4 d0 d1 hsize4 hT5 hR5 B7 z1 v1 ol orr hbl hbr hap
        have p0 := (hT6.blk.alloc (.cells #[.int .i64 z] 2)).cell 0
        have p0' := hT6.blk.cell 0
        simp only [List.getElem?_toArray, List.getElem?_cons_zero, List.getElem?_cons_succ] at p0 p0'
        have ho9 := hT6.pos.alloc (.cells #[.int .i64 z] 2)
        have hs8 : w0.heap.size ≤ W8.heap.size := hR6.ext0.size
        try rw [← hW8]
        try clear hW8
        have eZ := Ext.alloc W8 (.cells #[.int .i64 z] 2)
        have hT9 := hT6.ext eZ
        have hR9 := hR6.ext eZ
        go_wp2_with (at_builtin; refine wpList_append_own_at _ rfl _ _ 27 rfl w0.heap.size 2 j0 (.int .i64 0) 1 8 Tryz.underlying27 hj0 hy0 hy1 hy2 rfl (by decide) _ _ _ rfl ho9 ⟨W8.heap.size, 0, none⟩ 1 1 [.int .i64 z] rfl rfl (cell_one_new _ _ _) ?c2 ?c3 ?c4 ?c5 ?_)
        case c2 => first | (intro u hu; simp at hu; subst hu; rfl) | rfl | simp [Value.oneCell']
        case c3 => unfold maxLen; omega
        case c4 => omega
        case c5 => first | (simp; omega) | omega
        intro v' wA hownA hgA _ hloc
        obtain ⟨Az, cz, rfl, _, _, _⟩ := (ownsRow_row hownA).form
        have BA := Blk.apart hT9.blk ho9 (by decide) hgA
        have p1 := BA.cell 0
        have q1 := BA.frozen 0
        simp only [List.getElem?_toArray, List.getElem?_cons_zero, List.getElem?_cons_succ] at p1
        obtain ⟨hTz, hRz⟩ := TrkAt.posed hT9 hR9 z hownA hgA (fun g hg => by
          rcases hloc with e | e
          · exact .inl (e.symm.trans hg)
          · rw [e] at hg
            injection hg with hg
            exact .inr (by simp; omega))
        have HT := Lib.hid hTz
        have HR := Lib.hid hRz
        clear hTz hRz hT9 hR9 hT6 hR6 ho9 BA p0 p0' hownA hgA
        go_wp2
        go_end0
        exact ⟨rfl, _, _, _, _, _, HR.out, HT.out, HS.out⟩

    · have e2 : decide (z < lo) = false := by simp [h2]
      have HS : Hid (SeenQ c z P.length rs rs lo hi lo hi) := Lib.hid (.inr (.inr ⟨by have := H1.out; omega, h2, rfl, rfl, rfl⟩))
      clear h2
      have hT6 := hT
      have hR6 := hR
      clear hT hR
      go_enter Tryz.func215, Tryz.ntmps215
      have p0 := (hT6.blk.alloc (.cells #[.int .i64 z] 2)).cell 0
      have p0' := hT6.blk.cell 0
      simp only [List.getElem?_toArray, List.getElem?_cons_zero, List.getElem?_cons_succ] at p0 p0'
      have ho9 := hT6.pos.alloc (.cells #[.int .i64 z] 2)
      have hs8 : w0.heap.size ≤ W.heap.size := hR6.ext0.size
      have eZ := Ext.alloc W (.cells #[.int .i64 z] 2)
      have hT9 := hT6.ext eZ
      have hR9 := hR6.ext eZ
      go_wp2_with (at_builtin; refine wpList_append_own_at _ rfl _ _ 27 rfl w0.heap.size 2 j0 (.int .i64 0) 1 8 Tryz.underlying27 hj0 hy0 hy1 hy2 rfl (by decide) _ _ _ rfl ho9 ⟨W.heap.size, 0, none⟩ 1 1 [.int .i64 z] rfl rfl (cell_one_new _ _ _) ?c2 ?c3 ?c4 ?c5 ?_)
      case c2 => first | (intro u hu; simp at hu; subst hu; rfl) | rfl | simp [Value.oneCell']
      case c3 => unfold maxLen; omega
      case c4 => omega
      case c5 => first | (simp; omega) | omega
      intro v' wA hownA hgA _ hloc
      obtain ⟨Az, cz, rfl, _, _, _⟩ := (ownsRow_row hownA).form
      have BA := Blk.apart hT9.blk ho9 (by decide) hgA
      have p1 := BA.cell 0
      have q1 := BA.frozen 0
      simp only [List.getElem?_toArray, List.getElem?_cons_zero, List.getElem?_cons_succ] at p1
      obtain ⟨hTz, hRz⟩ := TrkAt.posed hT9 hR9 z hownA hgA (fun g hg => by
        rcases hloc with e | e
        · exact .inl (e.symm.trans hg)
        · rw [e] at hg
          injection hg with hg
          exact .inr (by simp; omega))
      have HT := Lib.hid hTz
      have HR := Lib.hid hRz
      clear hTz hRz hT9 hR9 hT6 hR6 ho9 BA p0 p0' hownA hgA
      go_wp2
      go_end0
      exact ⟨rfl, _, _, _, _, _, HR.out, HT.out, HS.out⟩

end Go.Proofs.YtojiammendjpkaaGreat
end
section
set_option linter.unusedSimpArgs false
set_option linter.unusedVariables false
namespace Go.Proofs.YtojiammendjpkaaGreat
open Go Go.RowKit Go.Proofs
set_option maxHeartbeats 400000
theorem RunAt.under {w0 w w' : World} {b : Nat} {m : MachD} {c : ConfD} {mv lv rv : Value} (h : RunAt w w' b m c mv lv rv) (hr : Rules w0 mv m.rules) (he : Ext w0 w) : RunAt w0 w' b m c mv lv rv :=
  ⟨h.blk, hr, he.trans h.ext0, ownsRow_base h.l he.size, ownsRow_base h.r he.size, h.ap, Nat.le_trans he.size h.low⟩
set_option maxRecDepth 20000 in
theorem blankRun_c (w : World) (m : MachD) (mv : Value) (hr : Rules w mv m.rules) :
    Calls Tryz.prog 160 #[.agg #[.int .i64 m.sy, .int .i64 m.st, mv]] w (MadeRun w m blankC mv) := by
  obtain ⟨Am, cm, rfl, _, _⟩ := id hr.form
  obtain ⟨W, hW⟩ : ∃ W, W = w.alloc (.cells #[.int .i64 m.sy, .int .i64 m.st, .slice Am m.rules.length cm] 26) := ⟨_, rfl⟩
  have hX : Ext w W := by rw [hW]; exact Ext.alloc _ _
  have HR := Lib.hid hr
  clear hr
  go_enter Tryz.func160, Tryz.ntmps160
  go_wp2_with fail
  rw [← hW]
  clear hW
  refine (runnerOf_c W m blankC _ _ _ (HR.out.ext hX) (ints_nil W) (ints_nil W) (.inl rfl) (.inl rfl) (by simp [blankC]) (by simp [blankC])).mono ?_
  rintro e w2 ⟨b, lv, rv, rfl, hRun⟩
  have H := Lib.hid (hRun.under HR.out hX)
  clear hRun
  go_wp2
  go_ret
  exact ⟨b, lv, rv, rfl, H.out⟩
end Go.Proofs.YtojiammendjpkaaGreat
end
