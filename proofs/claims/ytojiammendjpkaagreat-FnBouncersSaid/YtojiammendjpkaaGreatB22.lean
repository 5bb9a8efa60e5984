/- Contract: the reference's judgement of a formula tape whose lists are in order: whether the head is.
A formula tape that is being drawn: its block, its lists in blocks of their own, no two in one block.
Plain words: a configuration seen as cells on a line with a head. -/
import Derived.Test.YtojiammendjpkaaGreatB06
import Derived.Test.YtojiammendjpkaaGreatB20
import Derived.Test.YtojiammendjpkaaGreatB21
section
set_option linter.unusedSimpArgs false
set_option linter.unusedVariables false
namespace Go.Proofs.YtojiammendjpkaaGreat
open Go Go.RowKit Go.Proofs
set_option maxHeartbeats 400000
/-- All but the head's place is in order. -/
structure FoGd (m : MachD) (f : FoD) : Prop where
  q : 0 ≤ f.q ∧ f.q < m.st
  rn : 1 ≤ f.rs.length ∧ f.rs.length ≤ 3
  ws : f.ws.length = f.rs.length + 1
  os : f.os.length = f.rs.length
  wl : ∀ x ∈ f.ws, x.length ≤ 100 ∧ ∀ z ∈ x, 0 ≤ z ∧ z < m.sy
  rl : ∀ x ∈ f.rs, 1 ≤ x.length ∧ x.length ≤ 20 ∧ ∀ z ∈ x, 0 ≤ z ∧ z < m.sy
  ol : ∀ o ∈ f.os, -1000 ≤ o ∧ o ≤ 1000
  hd : 0 ≤ f.hd ∧ f.hd ≤ f.rs.length
theorem foOk_of {m : MachD} {f : FoD} (h : FoGd m f) (ha : atOk f = true) : foOk m f = true := by
  unfold foOk
  simp only [Bool.and_eq_true, decide_eq_true_eq, List.all_eq_true]
  refine ⟨⟨⟨⟨⟨⟨⟨⟨inB_iff.2 (by have := h.q; omega), inB_iff.2 (by have := h.rn; omega)⟩, h.ws⟩, h.os⟩, fun x hx => ?_⟩, fun x hx => ?_⟩, fun z hz => inB_iff.2 (h.ol z hz)⟩, inB_iff.2 h.hd⟩, ha⟩
  · simp only [wordIn, Bool.and_eq_true, decide_eq_true_eq, List.all_eq_true]
    exact ⟨(h.wl x hx).1, fun z hz => inB_iff.2 (by have := (h.wl x hx).2 z hz; omega)⟩
  · simp only [repIn, wordIn, Bool.and_eq_true, decide_eq_true_eq, List.all_eq_true]
    exact ⟨(h.rl x hx).1, (h.rl x hx).2.1, fun z hz => inB_iff.2 (by have := (h.rl x hx).2.2 z hz; omega)⟩
end Go.Proofs.YtojiammendjpkaaGreat
end
section
set_option linter.unusedSimpArgs false
set_option linter.unusedVariables false
namespace Go.Proofs.YtojiammendjpkaaGreat
open Go Go.RowKit Go.Proofs
set_option maxHeartbeats 400000
def AptF (u v : Value) : Prop := ∀ g, u.ownBlock = some g → v.ownBlock ≠ some g
theorem AptF.symm {u v : Value} (h : AptF u v) : AptF v u := fun g hv hu => h g hu hv
theorem AptF.ne {u v : Value} (h : AptF u v) : u.ownBlock = none ∨ u.ownBlock ≠ v.ownBlock := by
  cases e : u.ownBlock with
  | none => exact .inl rfl
  | some g => exact .inr (fun e2 => h g e e2.symm)
structure FoDr (bm gF : Nat) (m : MachD) (mv : Value) (base : Nat) (f : FoD) (wv rv ov : Value) (vs us : List Value) (W : World) : Prop where
  mac : Blk W bm 26 #[.int .i64 m.sy, .int .i64 m.st, mv]
  blk : Blk W gF 49 #[.int .i64 f.q, .int .i64 f.hd, .int .i64 f.at_, wv, rv, ov]
  ow : W.ownsRow base 27 1 wv f.ws.length vs
  or : W.ownsRow base 27 1 rv f.rs.length us
  oo : OwnInts base W ov f.os
  iw : ∀ i, (h : i < f.ws.length) → ∃ u, vs[i]? = some u ∧ OwnInts base W u f.ws[i]
  ir : ∀ i, (h : i < f.rs.length) → ∃ u, us[i]? = some u ∧ OwnInts base W u f.rs[i]
  pw : (ov :: (vs ++ us)).Pairwise AptF
  nr : AptF wv rv
  new : base ≤ gF
theorem FoDr.ext {bm gF base : Nat} {m : MachD} {mv : Value} {f : FoD} {wv rv ov : Value} {vs us : List Value} {W W' : World} (h : FoDr bm gF m mv base f wv rv ov vs us W) (he : Ext W W') : FoDr bm gF m mv base f wv rv ov vs us W' :=
  ⟨h.mac.ext he, h.blk.ext he, ownsRow_ext h.ow he, ownsRow_ext h.or he, ownsRow_ext h.oo he, fun i hi => by obtain ⟨u, a, b⟩ := h.iw i hi; exact ⟨u, a, ownsRow_ext b he⟩, fun i hi => by obtain ⟨u, a, b⟩ := h.ir i hi; exact ⟨u, a, ownsRow_ext b he⟩, h.pw, h.nr, h.new⟩
theorem FoDr.src' {bm gF base B b n : Nat} {m : MachD} {mv : Value} {f : FoD} {wv rv ov : Value} {vs us : List Value} {W W' : World} (h : FoDr bm gF m mv base f wv rv ov vs us W) (hs : Src B W b n) (hg : W.grownBy W' (some b)) : FoDr bm gF m mv base f wv rv ov vs us W' :=
  ⟨blk_src hs hg h.mac (by decide), blk_src hs hg h.blk (by decide), own_src hs hg h.ow (by decide), own_src hs hg h.or (by decide), own_src hs hg h.oo (by decide), fun i hi => by obtain ⟨u, a, b⟩ := h.iw i hi; exact ⟨u, a, own_src hs hg b (by decide)⟩, fun i hi => by obtain ⟨u, a, b⟩ := h.ir i hi; exact ⟨u, a, own_src hs hg b (by decide)⟩, h.pw, h.nr, h.new⟩
theorem far_blkF {w : World} {base : Nat} {e : TypeId} {size n : Nat} {v : Value} {xs : List Value} {g : Nat} {t : TypeId} {cs : Array Value} (h : w.ownsRow base e size v n xs) (hb : Blk w g t cs) (hne : t ≠ e) (i : Nat) (x : Value) : (w.setCell ⟨g, i, none⟩ x).ownsRow base e size v n xs :=
  ownsRow_far h (fun k hk e => blk_ne_row hb h hne (by rw [hk]; exact congrArg some e.symm)) x
/-- A wall is laid behind the others. -/
theorem FoDr.putW {bm gF base : Nat} {m : MachD} {mv : Value} {f : FoD} {wv rv ov wv' u : Value} {vs us : List Value} {x : List Int} {W W' : World} (h : FoDr bm gF m mv base f wv rv ov vs us W) (hu : OwnInts base W u x) (hn : ∀ v ∈ ov :: (vs ++ us), AptF v u)
    (ho : W'.ownsRow base 27 1 wv' (f.ws.length + 1) (vs ++ [u])) (hg : W.grownBy W' wv.ownBlock) (hr : AptF wv' rv) (hmg : bm ≠ gF) :
    FoDr bm gF m mv base ⟨f.q, f.hd, f.at_, f.ws ++ [x], f.rs, f.os⟩ wv' rv ov (vs ++ [u]) us (W'.setCell ⟨gF, 3, none⟩ wv') := by
  have kI : ∀ {z : Value} {zs : List Int}, OwnInts base W z zs → OwnInts base W' z zs := fun hz => World.ownsRow.kept hz hg (own_ne hz h.ow (by decide))
  have bF := Blk.apart h.blk h.ow (by decide) hg
  have bM := Blk.apart h.mac h.ow (by decide) hg
  have fI : ∀ {z : Value} {zs : List Int}, OwnInts base W' z zs → OwnInts base (W'.setCell ⟨gF, 3, none⟩ wv') z zs := fun hz => far_blkF hz bF (by decide) 3 wv'
  have hlv : vs.length = f.ws.length := by have := h.ow.1; omega
  refine ⟨bM.far (p := ⟨gF, 3, none⟩) hmg _, bF.set_ 3 _, ?_, far_blkF (World.ownsRow.kept h.or hg h.nr.symm.ne) bF (by decide) 3 wv', fI (kI h.oo), fun i hi => ?_, fun i hi => ?_, ?_, hr, h.new⟩
  · have := far_blkF ho bF (by decide) 3 wv'
    simpa using this
  · simp only [List.length_append, List.length_singleton] at hi
    by_cases c : i < f.ws.length
    · obtain ⟨v, a, b⟩ := h.iw i c
      refine ⟨v, by rw [List.getElem?_append_left (by omega)]; exact a, ?_⟩
      simp only [List.getElem_append_left c]
      exact fI (kI b)
    · have e : i = f.ws.length := by omega
      subst e
      refine ⟨u, by rw [List.getElem?_append_right (by omega)]; simp [hlv], ?_⟩
      simp
      exact fI (kI hu)
  · obtain ⟨v, a, b⟩ := h.ir i hi
    exact ⟨v, a, fI (kI b)⟩
  · have hp : (ov :: ((vs ++ [u]) ++ us)).Perm (u :: ov :: (vs ++ us)) := by
      have : (vs ++ [u] ++ us).Perm (u :: (vs ++ us)) := by
        rw [List.append_assoc]
        exact List.perm_middle
      exact (List.Perm.cons ov this).trans (List.Perm.swap u ov _)
    rw [hp.pairwise_iff (fun {a b} hab => AptF.symm hab)]
    exact List.Pairwise.cons (fun v hv => (hn v hv).symm) h.pw
/-- A repeater is laid behind the others. -/
theorem FoDr.putR {bm gF base : Nat} {m : MachD} {mv : Value} {f : FoD} {wv rv ov rv' u : Value} {vs us : List Value} {x : List Int} {W W' : World} (h : FoDr bm gF m mv base f wv rv ov vs us W) (hu : OwnInts base W u x) (hn : ∀ v ∈ ov :: (vs ++ us), AptF v u)
    (ho : W'.ownsRow base 27 1 rv' (f.rs.length + 1) (us ++ [u])) (hg : W.grownBy W' rv.ownBlock) (hr : AptF wv rv') (hmg : bm ≠ gF) :
    FoDr bm gF m mv base ⟨f.q, f.hd, f.at_, f.ws, f.rs ++ [x], f.os⟩ wv rv' ov vs (us ++ [u]) (W'.setCell ⟨gF, 4, none⟩ rv') := by
  have kI : ∀ {z : Value} {zs : List Int}, OwnInts base W z zs → OwnInts base W' z zs := fun hz => World.ownsRow.kept hz hg (own_ne hz h.or (by decide))
  have bF := Blk.apart h.blk h.or (by decide) hg
  have bM := Blk.apart h.mac h.or (by decide) hg
  have fI : ∀ {z : Value} {zs : List Int}, OwnInts base W' z zs → OwnInts base (W'.setCell ⟨gF, 4, none⟩ rv') z zs := fun hz => far_blkF hz bF (by decide) 4 rv'
  have hlu : us.length = f.rs.length := by have := h.or.1; omega
  refine ⟨bM.far (p := ⟨gF, 4, none⟩) hmg _, bF.set_ 4 _, far_blkF (World.ownsRow.kept h.ow hg h.nr.ne) bF (by decide) 4 rv', ?_, fI (kI h.oo), fun i hi => ?_, fun i hi => ?_, ?_, hr, h.new⟩
  · have := far_blkF ho bF (by decide) 4 rv'
    simpa using this
  · obtain ⟨v, a, b⟩ := h.iw i hi
    exact ⟨v, a, fI (kI b)⟩
  · simp only [List.length_append, List.length_singleton] at hi
    by_cases c : i < f.rs.length
    · obtain ⟨v, a, b⟩ := h.ir i c
      refine ⟨v, by rw [List.getElem?_append_left (by omega)]; exact a, ?_⟩
      simp only [List.getElem_append_left c]
      exact fI (kI b)
    · have e : i = f.rs.length := by omega
      subst e
      refine ⟨u, by rw [List.getElem?_append_right (by omega)]; simp [hlu], ?_⟩
      simp
      exact fI (kI hu)
  · have hp : (ov :: (vs ++ (us ++ [u]))).Perm (u :: ov :: (vs ++ us)) := by
      have : (vs ++ (us ++ [u])).Perm (u :: (vs ++ us)) := by
        rw [← List.append_assoc]
        exact List.perm_append_singleton u (vs ++ us)
      exact (List.Perm.cons ov this).trans (List.Perm.swap u ov _)
    rw [hp.pairwise_iff (fun {a b} hab => AptF.symm hab)]
    exact List.Pairwise.cons (fun v hv => (hn v hv).symm) h.pw
/-- An offset is laid behind the others. -/
theorem FoDr.putO {bm gF base : Nat} {m : MachD} {mv : Value} {f : FoD} {wv rv ov ov' : Value} {vs us : List Value} {os' : List Int} {W W' : World} (h : FoDr bm gF m mv base f wv rv ov vs us W)
    (ho : OwnInts base W' ov' os') (hg : W.grownBy W' ov.ownBlock) (hr : ∀ v ∈ vs ++ us, AptF ov' v) (hmg : bm ≠ gF) :
    FoDr bm gF m mv base ⟨f.q, f.hd, f.at_, f.ws, f.rs, os'⟩ wv rv ov' vs us (W'.setCell ⟨gF, 5, none⟩ ov') := by
  have hpw := List.pairwise_cons.1 h.pw
  have bF := Blk.apart h.blk h.oo (by decide) hg
  have bM := Blk.apart h.mac h.oo (by decide) hg
  have fI : ∀ {z : Value} {zs : List Int}, OwnInts base W' z zs → OwnInts base (W'.setCell ⟨gF, 5, none⟩ ov') z zs := fun hz => far_blkF hz bF (by decide) 5 ov'
  have kI : ∀ {z : Value} {zs : List Int}, z ∈ vs ++ us → OwnInts base W z zs → OwnInts base (W'.setCell ⟨gF, 5, none⟩ ov') z zs := fun hm hz => fI (World.ownsRow.kept hz hg (hpw.1 _ hm).symm.ne)
  refine ⟨bM.far (p := ⟨gF, 5, none⟩) hmg _, bF.set_ 5 _, far_blkF (World.ownsRow.kept h.ow hg (own_ne h.ow h.oo (by decide))) bF (by decide) 5 ov', far_blkF (World.ownsRow.kept h.or hg (own_ne h.or h.oo (by decide))) bF (by decide) 5 ov', fI ho, fun i hi => ?_, fun i hi => ?_, List.Pairwise.cons hr hpw.2, h.nr, h.new⟩
  · obtain ⟨v, a, b⟩ := h.iw i hi
    exact ⟨v, a, kI (List.mem_append_left _ (List.mem_of_getElem? a)) b⟩
  · obtain ⟨v, a, b⟩ := h.ir i hi
    exact ⟨v, a, kI (List.mem_append_right _ (List.mem_of_getElem? a)) b⟩
/-- The head's place is written. -/
theorem FoDr.putA {bm gF base : Nat} {m : MachD} {mv : Value} {f : FoD} {wv rv ov : Value} {vs us : List Value} {W : World} (h : FoDr bm gF m mv base f wv rv ov vs us W) (a : Int) (hmg : bm ≠ gF) :
    FoDr bm gF m mv base ⟨f.q, f.hd, a, f.ws, f.rs, f.os⟩ wv rv ov vs us (W.setCell ⟨gF, 2, none⟩ (.int .i64 a)) :=
  ⟨h.mac.far (p := ⟨gF, 2, none⟩) hmg _, h.blk.set_ 2 _, far_blkF h.ow h.blk (by decide) 2 _, far_blkF h.or h.blk (by decide) 2 _, far_blkF h.oo h.blk (by decide) 2 _,
   fun i hi => by obtain ⟨v, x, y⟩ := h.iw i hi; exact ⟨v, x, far_blkF y h.blk (by decide) 2 _⟩, fun i hi => by obtain ⟨v, x, y⟩ := h.ir i hi; exact ⟨v, x, far_blkF y h.blk (by decide) 2 _⟩, h.pw, h.nr, h.new⟩
/-- The lists' blocks are there. -/
theorem FoDr.lt {bm gF base : Nat} {m : MachD} {mv : Value} {f : FoD} {wv rv ov : Value} {vs us : List Value} {W : World} (h : FoDr bm gF m mv base f wv rv ov vs us W) : ∀ v ∈ ov :: (vs ++ us), ∀ g, v.ownBlock = some g → g < W.heap.size := fun v hv g h1 => by
  have hv' : ∃ ys, OwnInts base W v ys := by
    rcases List.mem_cons.1 hv with rfl | hv
    · exact ⟨_, h.oo⟩
    · rcases List.mem_append.1 hv with hv | hv
      · obtain ⟨i, hi, rfl⟩ := List.getElem_of_mem hv
        obtain ⟨v', a, b⟩ := h.iw i (by have := h.ow.1; omega)
        rw [List.getElem?_eq_getElem hi] at a
        rw [Option.some.inj a]
        exact ⟨_, b⟩
      · obtain ⟨i, hi, rfl⟩ := List.getElem_of_mem hv
        obtain ⟨v', a, b⟩ := h.ir i (by have := h.or.1; omega)
        rw [List.getElem?_eq_getElem hi] at a
        rw [Option.some.inj a]
        exact ⟨_, b⟩
  obtain ⟨ys, hy⟩ := hv'
  exact (World.ownsRow.lt hy g h1).2
/-- A list that was made later lies in another block. -/
theorem FoDr.fresh {bm gF base : Nat} {m : MachD} {mv : Value} {f : FoD} {wv rv ov u : Value} {vs us : List Value} {x : List Int} {W W0 W' : World} (_h : FoDr bm gF m mv base f wv rv ov vs us W) (h : FoDr bm gF m mv base f wv rv ov vs us W0) (hu : OwnInts W0.heap.size W' u x) : ∀ v ∈ ov :: (vs ++ us), AptF v u := fun v hv g h1 h2 => by
  have hg := (World.ownsRow.lt hu g h2).1
  have hv' : ∃ ys, OwnInts base W0 v ys := by
    rcases List.mem_cons.1 hv with rfl | hv
    · exact ⟨_, h.oo⟩
    · rcases List.mem_append.1 hv with hv | hv
      · obtain ⟨i, hi, rfl⟩ := List.getElem_of_mem hv
        obtain ⟨v', a, b⟩ := h.iw i (by have := h.ow.1; omega)
        rw [List.getElem?_eq_getElem hi] at a
        rw [Option.some.inj a]
        exact ⟨_, b⟩
      · obtain ⟨i, hi, rfl⟩ := List.getElem_of_mem hv
        obtain ⟨v', a, b⟩ := h.ir i (by have := h.or.1; omega)
        rw [List.getElem?_eq_getElem hi] at a
        rw [Option.some.inj a]
        exact ⟨_, b⟩
  obtain ⟨ys, hy⟩ := hv'
  have := (World.ownsRow.lt hy g h1).2
  omega
theorem pw_ne {vs : List Value} (h : vs.Pairwise AptF) {i k : Nat} {u v : Value} (hi : vs[i]? = some u) (hk : vs[k]? = some v) (hne : i ≠ k) : AptF u v := by
  obtain ⟨h1, rfl⟩ := List.getElem?_eq_some_iff.1 hi
  obtain ⟨h2, rfl⟩ := List.getElem?_eq_some_iff.1 hk
  rw [List.pairwise_iff_getElem] at h
  rcases Nat.lt_or_gt_of_ne hne with c | c
  · exact h i k h1 h2 c
  · exact (h k i h2 h1 c).symm
/-- A wall is made longer where it lies, and laid down again. -/
theorem FoDr.last {bm gF base gw n c k : Nat} {m : MachD} {mv : Value} {f : FoD} {rv ov v v' : Value} {vs us : List Value} {x' : List Int} {W W' : World} (h : FoDr bm gF m mv base f (.slice (some ⟨gw, 0, none⟩) n c) rv ov vs us W)
    (hk : k < f.ws.length) (hv : vs[k]? = some v) (ho : OwnInts base W' v' x') (hg : W.grownBy W' v.ownBlock) :
    Blk (W'.setCell ⟨gw, k, none⟩ v') gF 49 #[.int .i64 f.q, .int .i64 f.hd, .int .i64 f.at_, .slice (some ⟨gw, 0, none⟩) n c, rv, ov] ∧ Blk (W'.setCell ⟨gw, k, none⟩ v') bm 26 #[.int .i64 m.sy, .int .i64 m.st, mv] ∧
    OwnLists base (W'.setCell ⟨gw, k, none⟩ v') (.slice (some ⟨gw, 0, none⟩) n c) (f.ws.set k x') ∧ OwnLists base (W'.setCell ⟨gw, k, none⟩ v') rv f.rs ∧ OwnInts base (W'.setCell ⟨gw, k, none⟩ v') ov f.os := by
  have hn : n = f.ws.length := by
    obtain ⟨A', c', e, _⟩ := (ownsRow_row h.ow).form
    injection e
  subst hn
  have hpw := List.pairwise_cons.1 h.pw
  have hp2 := List.pairwise_append.1 hpw.2
  have hvm : v ∈ vs := List.mem_of_getElem? hv
  obtain ⟨w0, a0, b0⟩ := h.iw k hk
  have hw0 : w0 = v := by rw [hv] at a0; exact (Option.some.inj a0).symm
  subst hw0
  have bF := Blk.apart h.blk b0 (by decide) hg
  have bM := Blk.apart h.mac b0 (by decide) hg
  have oW := World.ownsRow.kept h.ow hg (own_ne h.ow b0 (by decide))
  have oR := World.ownsRow.kept h.or hg (own_ne h.or b0 (by decide))
  obtain ⟨⟨csw, bW⟩, _⟩ := own_blk oW
  have hl : vs.length = f.ws.length := by have := h.ow.1; omega
  have fI : ∀ {z : Value} {zs : List Int}, OwnInts base W' z zs → OwnInts base (W'.setCell ⟨gw, k, none⟩ v') z zs := fun hz => far_blkF hz bW (by decide) k v'
  have hst := (oW.stored k v').1
  refine ⟨bF.far (p := ⟨gw, k, none⟩) (blk_ne bF bW (by decide)) _, bM.far (p := ⟨gw, k, none⟩) (blk_ne bM bW (by decide)) _, ⟨vs.set k v', by simpa using hst, fun i hi => ?_⟩, ⟨us, ?_, fun i hi => ?_⟩, fI (World.ownsRow.kept h.oo hg (hpw.1 _ (List.mem_append_left _ hvm)).ne)⟩
  · simp only [List.length_set] at hi
    by_cases e : i = k
    · subst e
      refine ⟨v', by rw [List.getElem?_set_self (by omega)], ?_⟩
      simp only [List.getElem_set_self]
      exact fI ho
    · obtain ⟨u, a, b⟩ := h.iw i hi
      refine ⟨u, by rw [List.getElem?_set_ne (fun q => e q.symm)]; exact a, ?_⟩
      rw [List.getElem_set_ne (fun q => e q.symm)]
      exact fI (World.ownsRow.kept b hg (pw_ne hp2.1 a hv e).ne)
  · refine ownsRow_far oR (fun j hj e => ?_) _
    exact h.nr j (by rw [e]; rfl) hj
  · obtain ⟨u, a, b⟩ := h.ir i hi
    exact ⟨u, a, fI (World.ownsRow.kept b hg (hp2.2.2 _ hvm _ (List.mem_of_getElem? a)).symm.ne)⟩
end Go.Proofs.YtojiammendjpkaaGreat
end
section
set_option linter.unusedSimpArgs false
set_option linter.unusedVariables false
namespace Go.Proofs.YtojiammendjpkaaGreat
open Go Go.RowKit Go.Proofs
/-- The cells of a configuration, and the place of its head. -/
structure Ln (x : ConfD) (f : Int → Int) (p : Int) : Prop where
  r : ∀ i : Nat, x.r.getD i 0 = f (p + i)
  l : ∀ i : Nat, x.l.getD i 0 = f (p - 1 - i)
def updF (f : Int → Int) (p v : Int) : Int → Int := fun i => if i = p then v else f i
theorem updF_same (f : Int → Int) (p v : Int) : updF f p v p = v := if_pos rfl
theorem updF_other (f : Int → Int) (p v : Int) {i : Int} (h : i ≠ p) : updF f p v i = f i := if_neg h
theorem pushL_zero (s : Int) (xs : List Int) : (pushL s xs).getD 0 0 = s := by
  unfold pushL
  split
  · rename_i h; simp [h.1]
  · rfl
theorem pushL_succ (s : Int) (xs : List Int) (i : Nat) : (pushL s xs).getD (i + 1) 0 = xs.getD i 0 := by
  unfold pushL
  split
  · rename_i h; simp [h.2]
  · rfl
theorem drop_getD (xs : List Int) (i : Nat) : (xs.drop 1).getD i 0 = xs.getD (i + 1) 0 := by
  rw [List.getD_eq_getElem?_getD, List.getD_eq_getElem?_getD, List.getElem?_drop, Nat.add_comm 1 i]
theorem Ln.head {x : ConfD} {f : Int → Int} {p : Int} (h : Ln x f p) : hdD x.r = f p := by
  have := h.r 0
  simpa [hdD] using this
theorem Ln.right {x : ConfD} {f : Int → Int} {p w n : Int} (h : Ln x f p) : Ln (stepI ⟨w, 1, n⟩ x) (updF f p w) (p + 1) := by
  unfold stepI
  rw [if_pos (by show (0 : Int) < 1; decide)]
  refine ⟨fun i => ?_, fun i => ?_⟩
  · rw [drop_getD, h.r, updF_other _ _ _ (by omega)]
    congr 1; omega
  · cases i with
    | zero => rw [pushL_zero, show p + 1 - 1 - ((0 : Nat) : Int) = p by omega, updF_same]
    | succ i => rw [pushL_succ, h.l, updF_other _ _ _ (by omega)]; congr 1; omega
theorem Ln.left {x : ConfD} {f : Int → Int} {p w n : Int} (h : Ln x f p) : Ln (stepI ⟨w, -1, n⟩ x) (updF f p w) (p - 1) := by
  unfold stepI
  rw [if_neg (by show ¬ (0 : Int) < -1; decide)]
  refine ⟨fun i => ?_, fun i => ?_⟩
  · cases i with
    | zero =>
      rw [pushL_zero, updF_other _ _ _ (by omega)]
      have := h.l 0
      simp only [hdD]
      rw [this]; congr 1
      try omega
    | succ i =>
      rw [pushL_succ]
      cases i with
      | zero => rw [pushL_zero, show p - 1 + ((0 + 1 : Nat) : Int) = p by omega, updF_same]
      | succ i => rw [pushL_succ, drop_getD, h.r, updF_other _ _ _ (by omega)]; congr 1; omega
  · rw [drop_getD, h.l, updF_other _ _ _ (by omega)]
    congr 1; omega
end Go.Proofs.YtojiammendjpkaaGreat
end
