/- Plain end: the normal form of a formula tape stands for the same configuration.
A formula tape that is being drawn: its block, its lists in blocks of their own, no two in one block.
Contract: the reference's drawing of a formula tape. -/
import Derived.Test.YtnflhpgkffiloaaDoorF23
section
set_option linter.unusedSimpArgs false
set_option linter.unusedVariables false
namespace Go.Proofs.YtnflhpgkffiloaaDoor
open Go Go.RowKit Go.Proofs
theorem norm_cfg {m : MachD} {f : FoD} {cs : List Int} (hok : foOk m f = true) (hgk : foOk m (normFo f) = true) (hs : ShapeF f cs) (hp : ∀ k, k < f.rs.length → 1 ≤ cs.getD k 0 + f.os.getD k 0) :
    foCfg (normFo f).q (tapeO (normFo f) cs) (headO (normFo f) cs) = foCfg f.q (tapeO f cs) (headO f cs) ∧ ShapeF (normFo f) cs ∧ ∀ k, k < (normFo f).rs.length → 1 ≤ cs.getD k 0 + (normFo f).os.getD k 0 := by
  obtain ⟨_, _, _, _, hrl, _, hat⟩ := foOk_parts hok
  obtain ⟨_, _, _, _, hrl', _, hat'⟩ := foOk_parts hgk
  have hne : ∀ r ∈ f.rs, r ≠ [] := fun r hr => List.length_pos_iff.1 (hrl r hr).1
  have hne' : ∀ r ∈ (normFo f).rs, r ≠ [] := fun r hr => List.length_pos_iff.1 (hrl' r hr).1
  have S := norm_same hs hne
  have hs' := S.shape hs
  have hp' : ∀ k, k < (normFo f).rs.length → 1 ≤ cs.getD k 0 + (normFo f).os.getD k 0 := fun k hk => by
    have a := hp k (by have := S.rs; omega)
    have b := S.ge k
    omega
  obtain ⟨a1, a2⟩ := head_ok hs hat hne hp
  obtain ⟨b1, b2⟩ := head_ok hs' hat' hne' hp'
  refine ⟨?_, hs', hp'⟩
  rw [S.q]
  exact (foCfg_same S.tape (by omega) a2 (by omega) b2).symm
theorem celF_bound {ws rs : List (List Int)} {es : List Nat} {a b : Nat} (h1 : ws.length = rs.length + 1) (h2 : es.length = rs.length) (hw : ∀ x ∈ ws, x.length ≤ a) (hr : ∀ k, k < rs.length → es.getD k 0 * (rs.getD k []).length ≤ b) :
    ∀ (k : Nat), k ≤ rs.length + 1 → (celF ws rs es k).length ≤ k * (a + b)
  | 0, _ => by rw [celF_zero]; simp
  | k + 1, h => by
    have ih := celF_bound h1 h2 hw hr k (by omega)
    have c1 : (ws.getD k []).length ≤ a := by rw [getD_get (show k < ws.length by omega)]; exact hw _ (List.getElem_mem _)
    rw [Nat.succ_mul]
    by_cases c : k < rs.length
    · have c2 := hr k c
      rw [celF_step h1 h2 c, List.length_append, List.length_append, repL_length]; omega
    · have e : k = rs.length := by omega
      rw [e, celF_last h1 h2, List.length_append, ← e]; omega
theorem trim_le (xs : List Int) : (trim xs).length ≤ xs.length := by
  unfold trim
  simp only [List.length_take]
  omega
theorem room_ok {q : Int} {l : List Int} {h : Int} (h0 : 0 ≤ h) (hl : l.length ≤ 200) : roomR (foCfg q l h) = (foCfg q l h, 0) := by
  unfold roomR
  rw [if_pos]
  unfold foCfg
  rw [if_neg (by omega)]
  simp only [Bool.and_eq_true, decide_eq_true_eq]
  have a := trim_le (l.take h.toNat).reverse
  have b := trim_le (l.drop h.toNat)
  simp only [List.length_reverse, List.length_take, List.length_drop] at a b
  omega
/-- A drawn formula tape has room. -/
theorem drawn_room {m : MachD} {f : FoD} {cs : List Int} (hok : foOk m f = true) (hs : ShapeF f cs) (hw : ∀ x ∈ f.ws, x.length ≤ 4) (hr : ∀ x ∈ f.rs, x.length ≤ 3) (hp : ∀ k, k < f.rs.length → 1 ≤ cs.getD k 0 + f.os.getD k 0 ∧ cs.getD k 0 + f.os.getD k 0 ≤ 9) :
    roomR (foCfg f.q (tapeO f cs) (headO f cs)) = (foCfg f.q (tapeO f cs) (headO f cs), 0) := by
  obtain ⟨hr3, _, _, _, hrl, _, hat⟩ := foOk_parts hok
  have hne : ∀ r ∈ f.rs, r ≠ [] := fun r hr => List.length_pos_iff.1 (hrl r hr).1
  have hel : (esF cs f.os).length = f.rs.length := by rw [esF_length _ _ (by rw [hs.cn, hs.os]), hs.os]
  refine room_ok (head_ok hs hat hne (fun k hk => (hp k hk).1)).1 ?_
  unfold tapeO
  rw [tape_cel]
  refine Nat.le_trans (celF_bound (a := 4) (b := 27) hs.ws hel hw (fun k hk => ?_) _ (Nat.le_refl _)) (by have := hr3.2; omega)
  rw [esF_getD _ _ _ (by rw [hs.cn, hs.os])]
  have a := hp k hk
  have b : (f.rs.getD k []).length ≤ 3 := by rw [getD_get hk]; exact hr _ (List.getElem_mem _)
  have := Nat.mul_le_mul (show (cs.getD k 0 + f.os.getD k 0).toNat ≤ 9 by omega) b
  omega
end Go.Proofs.YtnflhpgkffiloaaDoor
end
section
set_option linter.unusedSimpArgs false
set_option linter.unusedVariables false
namespace Go.Proofs.YtnflhpgkffiloaaDoor
open Go Go.RowKit Go.Proofs
set_option maxHeartbeats 400000
def Apt (u v : Value) : Prop := ∀ g, u.ownBlock = some g → v.ownBlock ≠ some g
theorem Apt.symm {u v : Value} (h : Apt u v) : Apt v u := fun g hv hu => h g hu hv
theorem Apt.ne {u v : Value} (h : Apt u v) : u.ownBlock = none ∨ u.ownBlock ≠ v.ownBlock := by
  cases e : u.ownBlock with
  | none => exact .inl rfl
  | some g => exact .inr (fun e2 => h g e e2.symm)
structure FoDr (bm gF : Nat) (m : MachD) (mv : Value) (base : Nat) (f : FoD) (wv rv ov : Value) (vs us : List Value) (W : World) : Prop where
  mac : Blk W bm 26 #[.int .i64 m.sy, .int .i64 m.st, mv]
  blk : Blk W gF 31 #[.int .i64 f.q, .int .i64 f.hd, .int .i64 f.at_, wv, rv, ov]
  ow : W.ownsRow base 29 1 wv f.ws.length vs
  or : W.ownsRow base 29 1 rv f.rs.length us
  oo : OwnInts base W ov f.os
  iw : ∀ i, (h : i < f.ws.length) → ∃ u, vs[i]? = some u ∧ OwnInts base W u f.ws[i]
  ir : ∀ i, (h : i < f.rs.length) → ∃ u, us[i]? = some u ∧ OwnInts base W u f.rs[i]
  pw : (ov :: (vs ++ us)).Pairwise Apt
  nr : Apt wv rv
  new : base ≤ gF
theorem FoDr.ext {bm gF base : Nat} {m : MachD} {mv : Value} {f : FoD} {wv rv ov : Value} {vs us : List Value} {W W' : World} (h : FoDr bm gF m mv base f wv rv ov vs us W) (he : Ext W W') : FoDr bm gF m mv base f wv rv ov vs us W' :=
  ⟨h.mac.ext he, h.blk.ext he, ownsRow_ext h.ow he, ownsRow_ext h.or he, ownsRow_ext h.oo he, fun i hi => by obtain ⟨u, a, b⟩ := h.iw i hi; exact ⟨u, a, ownsRow_ext b he⟩, fun i hi => by obtain ⟨u, a, b⟩ := h.ir i hi; exact ⟨u, a, ownsRow_ext b he⟩, h.pw, h.nr, h.new⟩
theorem FoDr.src' {bm gF base B b n : Nat} {m : MachD} {mv : Value} {f : FoD} {wv rv ov : Value} {vs us : List Value} {W W' : World} (h : FoDr bm gF m mv base f wv rv ov vs us W) (hs : Src B W b n) (hg : W.grownBy W' (some b)) : FoDr bm gF m mv base f wv rv ov vs us W' :=
  ⟨blk_src hs hg h.mac (by decide), blk_src hs hg h.blk (by decide), own_src hs hg h.ow (by decide), own_src hs hg h.or (by decide), own_src hs hg h.oo (by decide), fun i hi => by obtain ⟨u, a, b⟩ := h.iw i hi; exact ⟨u, a, own_src hs hg b (by decide)⟩, fun i hi => by obtain ⟨u, a, b⟩ := h.ir i hi; exact ⟨u, a, own_src hs hg b (by decide)⟩, h.pw, h.nr, h.new⟩
theorem far_blkF {w : World} {base : Nat} {e : TypeId} {size n : Nat} {v : Value} {xs : List Value} {g : Nat} {t : TypeId} {cs : Array Value} (h : w.ownsRow base e size v n xs) (hb : Blk w g t cs) (hne : t ≠ e) (i : Nat) (x : Value) : (w.setCell ⟨g, i, none⟩ x).ownsRow base e size v n xs :=
  ownsRow_far h (fun k hk e => blk_ne_row hb h hne (by rw [hk]; exact congrArg some e.symm)) x
/-- A wall is laid behind the others. -/
theorem FoDr.putW {bm gF base : Nat} {m : MachD} {mv : Value} {f : FoD} {wv rv ov wv' u : Value} {vs us : List Value} {x : List Int} {W W' : World} (h : FoDr bm gF m mv base f wv rv ov vs us W) (hu : OwnInts base W u x) (hn : ∀ v ∈ ov :: (vs ++ us), Apt v u)
    (ho : W'.ownsRow base 29 1 wv' (f.ws.length + 1) (vs ++ [u])) (hg : W.grownBy W' wv.ownBlock) (hr : Apt wv' rv) (hmg : bm ≠ gF) :
    FoDr bm gF m mv base ⟨f.q, f.hd, f.at_, f.ws ++ [x], f.rs, f.os⟩ wv' rv ov (vs ++ [u]) us (W'.setCell ⟨gF, 3, none⟩ wv') := by
  have kI : ∀ {z : Value} {zs : List Int}, OwnInts base W z zs → OwnInts base W' z zs := fun hz => World.ownsRow.kept hz hg (own_ne hz h.ow (by decide))
  have bF := Blk.apart h.blk h.ow (by decide) hg
  have bM := Blk.apart h.mac h.ow (by decide) hg
  have fI : ∀ {z : Value} {zs : List Int}, OwnInts base W' z zs → OwnInts base (W'.setCell ⟨gF, 3, none⟩ wv') z zs := fun hz => far_blkF hz bF (by decide) 3 wv'
  have hlv : vs.length = f.ws.length := by have := h.ow.1; omega
  refine ⟨bM.far (p := ⟨gF, 3, none⟩) hmg _, bF.set_ 3 _, ?_, far_blkF (World.ownsRow.kept h.or hg h.nr.symm.ne) bF (by decide) 3 wv', fI (kI h.oo), fun i hi => ?_, fun i hi => ?_, ?_, hr, h.new⟩
  · have := far_blkF ho bF (by decide) 3 wv'
    simpa using this
  · simp only [List.length_append, List.length_singleton] at hi
    by_cases c : i < f.ws.length
    · obtain ⟨v, a, b⟩ := h.iw i c
      refine ⟨v, by rw [List.getElem?_append_left (by omega)]; exact a, ?_⟩
      simp only [List.getElem_append_left c]
      exact fI (kI b)
    · have e : i = f.ws.length := by omega
      subst e
      refine ⟨u, by rw [List.getElem?_append_right (by omega)]; simp [hlv], ?_⟩
      simp
      exact fI (kI hu)
  · obtain ⟨v, a, b⟩ := h.ir i hi
    exact ⟨v, a, fI (kI b)⟩
  · have hp : (ov :: ((vs ++ [u]) ++ us)).Perm (u :: ov :: (vs ++ us)) := by
      have : (vs ++ [u] ++ us).Perm (u :: (vs ++ us)) := by
        rw [List.append_assoc]
        exact List.perm_middle
      exact (List.Perm.cons ov this).trans (List.Perm.swap u ov _)
    rw [hp.pairwise_iff (fun {a b} hab => Apt.symm hab)]
    exact List.Pairwise.cons (fun v hv => (hn v hv).symm) h.pw
/-- A repeater is laid behind the others. -/
theorem FoDr.putR {bm gF base : Nat} {m : MachD} {mv : Value} {f : FoD} {wv rv ov rv' u : Value} {vs us : List Value} {x : List Int} {W W' : World} (h : FoDr bm gF m mv base f wv rv ov vs us W) (hu : OwnInts base W u x) (hn : ∀ v ∈ ov :: (vs ++ us), Apt v u)
    (ho : W'.ownsRow base 29 1 rv' (f.rs.length + 1) (us ++ [u])) (hg : W.grownBy W' rv.ownBlock) (hr : Apt wv rv') (hmg : bm ≠ gF) :
    FoDr bm gF m mv base ⟨f.q, f.hd, f.at_, f.ws, f.rs ++ [x], f.os⟩ wv rv' ov vs (us ++ [u]) (W'.setCell ⟨gF, 4, none⟩ rv') := by
  have kI : ∀ {z : Value} {zs : List Int}, OwnInts base W z zs → OwnInts base W' z zs := fun hz => World.ownsRow.kept hz hg (own_ne hz h.or (by decide))
  have bF := Blk.apart h.blk h.or (by decide) hg
  have bM := Blk.apart h.mac h.or (by decide) hg
  have fI : ∀ {z : Value} {zs : List Int}, OwnInts base W' z zs → OwnInts base (W'.setCell ⟨gF, 4, none⟩ rv') z zs := fun hz => far_blkF hz bF (by decide) 4 rv'
  have hlu : us.length = f.rs.length := by have := h.or.1; omega
  refine ⟨bM.far (p := ⟨gF, 4, none⟩) hmg _, bF.set_ 4 _, far_blkF (World.ownsRow.kept h.ow hg h.nr.ne) bF (by decide) 4 rv', ?_, fI (kI h.oo), fun i hi => ?_, fun i hi => ?_, ?_, hr, h.new⟩
  · have := far_blkF ho bF (by decide) 4 rv'
    simpa using this
  · obtain ⟨v, a, b⟩ := h.iw i hi
    exact ⟨v, a, fI (kI b)⟩
  · simp only [List.length_append, List.length_singleton] at hi
    by_cases c : i < f.rs.length
    · obtain ⟨v, a, b⟩ := h.ir i c
      refine ⟨v, by rw [List.getElem?_append_left (by omega)]; exact a, ?_⟩
      simp only [List.getElem_append_left c]
      exact fI (kI b)
    · have e : i = f.rs.length := by omega
      subst e
      refine ⟨u, by rw [List.getElem?_append_right (by omega)]; simp [hlu], ?_⟩
      simp
      exact fI (kI hu)
  · have hp : (ov :: (vs ++ (us ++ [u]))).Perm (u :: ov :: (vs ++ us)) := by
      have : (vs ++ (us ++ [u])).Perm (u :: (vs ++ us)) := by
        rw [← List.append_assoc]
        exact List.perm_append_singleton u (vs ++ us)
      exact (List.Perm.cons ov this).trans (List.Perm.swap u ov _)
    rw [hp.pairwise_iff (fun {a b} hab => Apt.symm hab)]
    exact List.Pairwise.cons (fun v hv => (hn v hv).symm) h.pw
/-- An offset is laid behind the others. -/
theorem FoDr.putO {bm gF base : Nat} {m : MachD} {mv : Value} {f : FoD} {wv rv ov ov' : Value} {vs us : List Value} {os' : List Int} {W W' : World} (h : FoDr bm gF m mv base f wv rv ov vs us W)
    (ho : OwnInts base W' ov' os') (hg : W.grownBy W' ov.ownBlock) (hr : ∀ v ∈ vs ++ us, Apt ov' v) (hmg : bm ≠ gF) :
    FoDr bm gF m mv base ⟨f.q, f.hd, f.at_, f.ws, f.rs, os'⟩ wv rv ov' vs us (W'.setCell ⟨gF, 5, none⟩ ov') := by
  have hpw := List.pairwise_cons.1 h.pw
  have bF := Blk.apart h.blk h.oo (by decide) hg
  have bM := Blk.apart h.mac h.oo (by decide) hg
  have fI : ∀ {z : Value} {zs : List Int}, OwnInts base W' z zs → OwnInts base (W'.setCell ⟨gF, 5, none⟩ ov') z zs := fun hz => far_blkF hz bF (by decide) 5 ov'
  have kI : ∀ {z : Value} {zs : List Int}, z ∈ vs ++ us → OwnInts base W z zs → OwnInts base (W'.setCell ⟨gF, 5, none⟩ ov') z zs := fun hm hz => fI (World.ownsRow.kept hz hg (hpw.1 _ hm).symm.ne)
  refine ⟨bM.far (p := ⟨gF, 5, none⟩) hmg _, bF.set_ 5 _, far_blkF (World.ownsRow.kept h.ow hg (own_ne h.ow h.oo (by decide))) bF (by decide) 5 ov', far_blkF (World.ownsRow.kept h.or hg (own_ne h.or h.oo (by decide))) bF (by decide) 5 ov', fI ho, fun i hi => ?_, fun i hi => ?_, List.Pairwise.cons hr hpw.2, h.nr, h.new⟩
  · obtain ⟨v, a, b⟩ := h.iw i hi
    exact ⟨v, a, kI (List.mem_append_left _ (List.mem_of_getElem? a)) b⟩
  · obtain ⟨v, a, b⟩ := h.ir i hi
    exact ⟨v, a, kI (List.mem_append_right _ (List.mem_of_getElem? a)) b⟩
/-- The head's place is written. -/
theorem FoDr.putA {bm gF base : Nat} {m : MachD} {mv : Value} {f : FoD} {wv rv ov : Value} {vs us : List Value} {W : World} (h : FoDr bm gF m mv base f wv rv ov vs us W) (a : Int) (hmg : bm ≠ gF) :
    FoDr bm gF m mv base ⟨f.q, f.hd, a, f.ws, f.rs, f.os⟩ wv rv ov vs us (W.setCell ⟨gF, 2, none⟩ (.int .i64 a)) :=
  ⟨h.mac.far (p := ⟨gF, 2, none⟩) hmg _, h.blk.set_ 2 _, far_blkF h.ow h.blk (by decide) 2 _, far_blkF h.or h.blk (by decide) 2 _, far_blkF h.oo h.blk (by decide) 2 _,
   fun i hi => by obtain ⟨v, x, y⟩ := h.iw i hi; exact ⟨v, x, far_blkF y h.blk (by decide) 2 _⟩, fun i hi => by obtain ⟨v, x, y⟩ := h.ir i hi; exact ⟨v, x, far_blkF y h.blk (by decide) 2 _⟩, h.pw, h.nr, h.new⟩
/-- The lists' blocks are there. -/
theorem FoDr.lt {bm gF base : Nat} {m : MachD} {mv : Value} {f : FoD} {wv rv ov : Value} {vs us : List Value} {W : World} (h : FoDr bm gF m mv base f wv rv ov vs us W) : ∀ v ∈ ov :: (vs ++ us), ∀ g, v.ownBlock = some g → g < W.heap.size := fun v hv g h1 => by
  have hv' : ∃ ys, OwnInts base W v ys := by
    rcases List.mem_cons.1 hv with rfl | hv
    · exact ⟨_, h.oo⟩
    · rcases List.mem_append.1 hv with hv | hv
      · obtain ⟨i, hi, rfl⟩ := List.getElem_of_mem hv
        obtain ⟨v', a, b⟩ := h.iw i (by have := h.ow.1; omega)
        rw [List.getElem?_eq_getElem hi] at a
        rw [Option.some.inj a]
        exact ⟨_, b⟩
      · obtain ⟨i, hi, rfl⟩ := List.getElem_of_mem hv
        obtain ⟨v', a, b⟩ := h.ir i (by have := h.or.1; omega)
        rw [List.getElem?_eq_getElem hi] at a
        rw [Option.some.inj a]
        exact ⟨_, b⟩
  obtain ⟨ys, hy⟩ := hv'
  exact (World.ownsRow.lt hy g h1).2
/-- A list that was made later lies in another block. -/
theorem FoDr.fresh {bm gF base : Nat} {m : MachD} {mv : Value} {f : FoD} {wv rv ov u : Value} {vs us : List Value} {x : List Int} {W W0 W' : World} (_h : FoDr bm gF m mv base f wv rv ov vs us W) (h : FoDr bm gF m mv base f wv rv ov vs us W0) (hu : OwnInts W0.heap.size W' u x) : ∀ v ∈ ov :: (vs ++ us), Apt v u := fun v hv g h1 h2 => by
  have hg := (World.ownsRow.lt hu g h2).1
  have hv' : ∃ ys, OwnInts base W0 v ys := by
    rcases List.mem_cons.1 hv with rfl | hv
    · exact ⟨_, h.oo⟩
    · rcases List.mem_append.1 hv with hv | hv
      · obtain ⟨i, hi, rfl⟩ := List.getElem_of_mem hv
        obtain ⟨v', a, b⟩ := h.iw i (by have := h.ow.1; omega)
        rw [List.getElem?_eq_getElem hi] at a
        rw [Option.some.inj a]
        exact ⟨_, b⟩
      · obtain ⟨i, hi, rfl⟩ := List.getElem_of_mem hv
        obtain ⟨v', a, b⟩ := h.ir i (by have := h.or.1; omega)
        rw [List.getElem?_eq_getElem hi] at a
        rw [Option.some.inj a]
        exact ⟨_, b⟩
  obtain ⟨ys, hy⟩ := hv'
  have := (World.ownsRow.lt hy g h1).2
  omega
theorem pw_ne {vs : List Value} (h : vs.Pairwise Apt) {i k : Nat} {u v : Value} (hi : vs[i]? = some u) (hk : vs[k]? = some v) (hne : i ≠ k) : Apt u v := by
  obtain ⟨h1, rfl⟩ := List.getElem?_eq_some_iff.1 hi
  obtain ⟨h2, rfl⟩ := List.getElem?_eq_some_iff.1 hk
  rw [List.pairwise_iff_getElem] at h
  rcases Nat.lt_or_gt_of_ne hne with c | c
  · exact h i k h1 h2 c
  · exact (h k i h2 h1 c).symm
/-- A wall is made longer where it lies, and laid down again. -/
theorem FoDr.last {bm gF base gw n c k : Nat} {m : MachD} {mv : Value} {f : FoD} {rv ov v v' : Value} {vs us : List Value} {x' : List Int} {W W' : World} (h : FoDr bm gF m mv base f (.slice (some ⟨gw, 0, none⟩) n c) rv ov vs us W)
    (hk : k < f.ws.length) (hv : vs[k]? = some v) (ho : OwnInts base W' v' x') (hg : W.grownBy W' v.ownBlock) :
    Blk (W'.setCell ⟨gw, k, none⟩ v') gF 31 #[.int .i64 f.q, .int .i64 f.hd, .int .i64 f.at_, .slice (some ⟨gw, 0, none⟩) n c, rv, ov] ∧ Blk (W'.setCell ⟨gw, k, none⟩ v') bm 26 #[.int .i64 m.sy, .int .i64 m.st, mv] ∧
    OwnLists base (W'.setCell ⟨gw, k, none⟩ v') (.slice (some ⟨gw, 0, none⟩) n c) (f.ws.set k x') ∧ OwnLists base (W'.setCell ⟨gw, k, none⟩ v') rv f.rs ∧ OwnInts base (W'.setCell ⟨gw, k, none⟩ v') ov f.os := by
  have hn : n = f.ws.length := by
    obtain ⟨A', c', e, _⟩ := (ownsRow_row h.ow).form
    injection e
  subst hn
  have hpw := List.pairwise_cons.1 h.pw
  have hp2 := List.pairwise_append.1 hpw.2
  have hvm : v ∈ vs := List.mem_of_getElem? hv
  obtain ⟨w0, a0, b0⟩ := h.iw k hk
  have hw0 : w0 = v := by rw [hv] at a0; exact (Option.some.inj a0).symm
  subst hw0
  have bF := Blk.apart h.blk b0 (by decide) hg
  have bM := Blk.apart h.mac b0 (by decide) hg
  have oW := World.ownsRow.kept h.ow hg (own_ne h.ow b0 (by decide))
  have oR := World.ownsRow.kept h.or hg (own_ne h.or b0 (by decide))
  obtain ⟨⟨csw, bW⟩, _⟩ := own_blk oW
  have hl : vs.length = f.ws.length := by have := h.ow.1; omega
  have fI : ∀ {z : Value} {zs : List Int}, OwnInts base W' z zs → OwnInts base (W'.setCell ⟨gw, k, none⟩ v') z zs := fun hz => far_blkF hz bW (by decide) k v'
  have hst := (oW.stored k v').1
  refine ⟨bF.far (p := ⟨gw, k, none⟩) (blk_ne bF bW (by decide)) _, bM.far (p := ⟨gw, k, none⟩) (blk_ne bM bW (by decide)) _, ⟨vs.set k v', by simpa using hst, fun i hi => ?_⟩, ⟨us, ?_, fun i hi => ?_⟩, fI (World.ownsRow.kept h.oo hg (hpw.1 _ (List.mem_append_left _ hvm)).ne)⟩
  · simp only [List.length_set] at hi
    by_cases e : i = k
    · subst e
      refine ⟨v', by rw [List.getElem?_set_self (by omega)], ?_⟩
      simp only [List.getElem_set_self]
      exact fI ho
    · obtain ⟨u, a, b⟩ := h.iw i hi
      refine ⟨u, by rw [List.getElem?_set_ne (fun q => e q.symm)]; exact a, ?_⟩
      rw [List.getElem_set_ne (fun q => e q.symm)]
      exact fI (World.ownsRow.kept b hg (pw_ne hp2.1 a hv e).ne)
  · refine ownsRow_far oR (fun j hj e => ?_) _
    exact h.nr j (by rw [e]; rfl) hj
  · obtain ⟨u, a, b⟩ := h.ir i hi
    exact ⟨u, a, fI (World.ownsRow.kept b hg (hp2.2.2 _ hvm _ (List.mem_of_getElem? a)).symm.ne)⟩
/-- The source, another block and all older ones, where a list grows and is stored into the formula's block. -/
theorem put_side {B b N gO gF size n i : Nat} {e t : TypeId} {w W W' : World} {v0 x : Value} {xs : List Value} {cs : Array Value} (hs : Src B W b N) (ho : Blk W gO t cs) (hg0 : w.grownBy W (some b)) (hr : W.ownsRow w.heap.size e size v0 n xs) (hte : t ≠ e) (hg : W.grownBy W' v0.ownBlock)
    (hB : B ≤ w.heap.size) (hb : b < w.heap.size) (hne : gO ≠ gF) (hF : w.heap.size ≤ gF) :
    Src B (W'.setCell ⟨gF, i, none⟩ x) b N ∧ Blk (W'.setCell ⟨gF, i, none⟩ x) gO t cs ∧ w.grownBy (W'.setCell ⟨gF, i, none⟩ x) (some b) := by
  have b2 := Blk.apart ho hr hte hg
  have h1 := hs.kept hg (fun k hk => by have := (World.ownsRow.lt hr k hk).1; exact ⟨by omega, by omega⟩)
  have g1 : w.grownBy W' (some b) := grownBy_step hg0 hg (fun k hk => .inl (World.ownsRow.lt hr k hk).1)
  exact ⟨h1.kept (grownBy_setCell W' ⟨gF, i, none⟩ x) (fun k hk => by injection hk with hk; subst hk; exact ⟨by show B ≤ gF; omega, by show gF ≠ b; omega⟩), b2.far (p := ⟨gF, i, none⟩) hne _,
    grownBy_step g1 (grownBy_setCell W' ⟨gF, i, none⟩ x) (fun k hk => .inl (by injection hk with hk; subst hk; exact hF))⟩
end Go.Proofs.YtnflhpgkffiloaaDoor
end
section
set_option linter.unusedSimpArgs false
set_option linter.unusedVariables false
namespace Go.Proofs.YtnflhpgkffiloaaDoor
open Go Go.RowKit Go.Proofs
set_option maxHeartbeats 400000
/-- What is drawn. -/
def DrawnFo (base : Nat) (m : MachD) (e : Ending) (w' : World) : Prop := ∃ f wv rv ov, e = .returned (.agg #[.int .i64 f.q, .int .i64 f.hd, .int .i64 f.at_, wv, rv, ov]) ∧ OwnLists base w' wv f.ws ∧ OwnLists base w' rv f.rs ∧ OwnInts base w' ov f.os ∧ foOk m f = true ∧ (∀ x ∈ f.ws, x.length ≤ 4) ∧ (∀ x ∈ f.rs, x.length ≤ 3) ∧ ∀ o ∈ f.os, -2 ≤ o ∧ o ≤ 2
/-- Behind k rounds. -/
structure FoRnd (B b bm gF gO n : Nat) (m : MachD) (mv : Value) (w : World) (zq zh : Int) (r k : Nat) (f : FoD) (wv rv ov : Value) (vs us : List Value) (W : World) : Prop where
  dr : FoDr bm gF m mv w.heap.size f wv rv ov vs us W
  q : f.q = zq
  hd : f.hd = zh
  at_ : f.at_ = 0
  ws : f.ws.length = k
  rs : f.rs.length = min k r
  os : f.os.length = min k r
  wl : ∀ x ∈ f.ws, x.length ≤ 3 ∧ ∀ z ∈ x, 0 ≤ z ∧ z < 2
  rl : ∀ x ∈ f.rs, 1 ≤ x.length ∧ x.length ≤ 3 ∧ ∀ z ∈ x, 0 ≤ z ∧ z < 2
  ol : ∀ o ∈ f.os, -2 ≤ o ∧ o ≤ 2
  src : Src B W b (n + 8 + k * 600)
  out : Blk W gO 31 #[.int .i64 0, .int .i64 0, .int .i64 0, .slice none 0 0, .slice none 0 0, .slice none 0 0]
  grown : w.grownBy W (some b)
/-- What is drawn lies in memory. -/
structure FoFin (B b gF gO n : Nat) (m : MachD) (w : World) (f : FoD) (wv rv ov : Value) (cs : Array Value) (W : World) : Prop where
  blk : Blk W gF 31 #[.int .i64 f.q, .int .i64 f.hd, .int .i64 f.at_, wv, rv, ov]
  ws : OwnLists w.heap.size W wv f.ws
  rs : OwnLists w.heap.size W rv f.rs
  os : OwnInts w.heap.size W ov f.os
  ok : foOk m f = true
  wl : ∀ x ∈ f.ws, x.length ≤ 4
  rl : ∀ x ∈ f.rs, x.length ≤ 3
  ol : ∀ o ∈ f.os, -2 ≤ o ∧ o ≤ 2
  src : Src B W b (n + 5000)
  out : Blk W gO 31 cs
  grown : w.grownBy W (some b)
theorem OwnLists.far {w : World} {base g : Nat} {v : Value} {xss : List (List Int)} {t : TypeId} {cs : Array Value} (h : OwnLists base w v xss) (hb : Blk w g t cs) (h1 : t ≠ 29) (h2 : t ≠ 2) (i : Nat) (x : Value) : OwnLists base (w.setCell ⟨g, i, none⟩ x) v xss := by
  obtain ⟨vs, a, b⟩ := h
  exact ⟨vs, far_blkF a hb h1 i x, fun i hi => by obtain ⟨u, c, d⟩ := b i hi; exact ⟨u, c, far_blkF d hb h2 _ x⟩⟩
theorem FoFin.setO {B b gF gO n : Nat} {m : MachD} {w : World} {f : FoD} {wv rv ov : Value} {cs : Array Value} {W : World} (h : FoFin B b gF gO n m w f wv rv ov cs W) (h1 : gO ≠ gF) (h2 : w.heap.size ≤ gO) (h3 : B ≤ gO) (h4 : gO ≠ b) (i : Nat) (x : Value) :
    FoFin B b gF gO n m w f wv rv ov (cs.setIfInBounds i x) (W.setCell ⟨gO, i, none⟩ x) :=
  ⟨h.blk.far (p := ⟨gO, i, none⟩) (fun e => h1 e.symm) _, h.ws.far h.out (by decide) (by decide) i x, h.rs.far h.out (by decide) (by decide) i x, far_blkF h.os h.out (by decide) i x, h.ok, h.wl, h.rl, h.ol,
    h.src.kept (grownBy_setCell W ⟨gO, i, none⟩ x) (fun k hk => by injection hk with hk; subst hk; exact ⟨h3, h4⟩), h.out.set_ i x,
    grownBy_step h.grown (grownBy_setCell W ⟨gO, i, none⟩ x) (fun k hk => .inl (by injection hk with hk; subst hk; exact h2))⟩
/-- All but the head's place is in order behind the rounds. -/
theorem FoRnd.gd {B b bm gF gO n : Nat} {m : MachD} {mv : Value} {w : World} {zq zh : Int} {r : Nat} {f : FoD} {wv rv ov : Value} {vs us : List Value} {W : World} (h : FoRnd B b bm gF gO n m mv w zq zh r (r + 1) f wv rv ov vs us W)
    (hr : 1 ≤ r ∧ r ≤ 3) (hq : 0 ≤ zq ∧ zq < m.st) (hh : 0 ≤ zh ∧ zh ≤ r) (hy : 2 ≤ m.sy) (a : Int) : FoGd m ⟨f.q, f.hd, a, f.ws, f.rs, f.os⟩ := by
  have h1 := h.rs
  have h2 := h.os
  have h3 := h.ws
  have h4 := h.q
  have h5 := h.hd
  refine ⟨?_, ?_, ?_, ?_, fun x hx => ?_, fun x hx => ?_, fun o ho => ?_, ?_⟩
  · show 0 ≤ f.q ∧ f.q < m.st
    omega
  · show 1 ≤ f.rs.length ∧ f.rs.length ≤ 3
    omega
  · show f.ws.length = f.rs.length + 1
    omega
  · show f.os.length = f.rs.length
    omega
  · have := h.wl x hx
    exact ⟨by omega, fun z hz => by have := this.2 z hz; omega⟩
  · have := h.rl x hx
    exact ⟨by omega, by omega, fun z hz => by have := this.2.2 z hz; omega⟩
  · have := h.ol o ho
    omega
  · show 0 ≤ f.hd ∧ f.hd ≤ f.rs.length
    omega
/-- The same behind another symbol on a wall. -/
theorem FoGd.wall {m : MachD} {f : FoD} (h : FoGd m f) {k : Nat} {x : List Int} (hx : x.length ≤ 4) (hz : ∀ z ∈ x, 0 ≤ z ∧ z < 2) (hy : 2 ≤ m.sy) (a : Int) : FoGd m ⟨f.q, f.hd, a, f.ws.set k x, f.rs, f.os⟩ := by
  refine ⟨h.q, h.rn, by have := h.ws; simpa using this, h.os, fun y hy' => ?_, h.rl, h.ol, h.hd⟩
  rcases List.mem_or_eq_of_mem_set hy' with c | c
  · exact h.wl y c
  · subst c
    exact ⟨by omega, fun z hz' => by have := hz z hz'; omega⟩
set_option maxRecDepth 20000 in
set_option maxHeartbeats 8000000 in
theorem l27DrawOk_c (B b bm n : Nat) (m : MachD) (mv : Value) (w : World) (h : Src B w b n) (hB : B ≤ w.heap.size) (hm : Blk w bm 26 #[.int .i64 m.sy, .int .i64 m.st, mv]) (hmk : machOk m = true) (hn : n ≤ 100000000) :
    Calls Tryd.prog 14 #[.pointer (some ⟨b, 0, none⟩), .pointer (some ⟨bm, 0, none⟩)] w fun e w' => DrawnFo w.heap.size m e w' ∧ Src B w' b (n + 5000) ∧ w.grownBy w' (some b) := by
  obtain ⟨⟨y1, y2, t1, t2⟩, _, _⟩ := machOk_five hmk
  obtain ⟨r0i, hri, rz0, rz1, rz2⟩ := info_parts rowInfo
  obtain ⟨i0, hi0, hz0, hz1, hz2⟩ := info_parts intInfo
  obtain ⟨gO, hgO⟩ : ∃ g, w.heap.size = g := ⟨_, rfl⟩
  obtain ⟨W1, hW1⟩ : ∃ W, W = w.alloc (.cells #[.int .i64 0, .int .i64 0, .int .i64 0, .slice none 0 0, .slice none 0 0, .slice none 0 0] 31) := ⟨_, rfl⟩
  have hX1 : Ext w W1 := by rw [hW1]; exact Ext.alloc _ _
  have bO : Blk W1 gO 31 #[.int .i64 0, .int .i64 0, .int .i64 0, .slice none 0 0, .slice none 0 0, .slice none 0 0] := by rw [hW1]; exact Blk.new _ _ _ _ hgO
  have s1 := h.ext hX1
  have m1 := hm.ext hX1
  have hbl := h.lt
  have G1 := ext_grownBy hX1 (some b)
  have HB := Lib.hid hB
  have HMK := Lib.hid hmk
  have HBL := Lib.hid hbl
  have HGO := Lib.hid hgO
  clear h hm hX1 hB hmk hbl
  go_enter Tryd.func14, Tryd.ntmps14
  go_wp2_with fail
  try rw [← hW1]
  try rw [hgO]
  clear hW1 hgO
  refine (pick_c B b _ 2 W1 s1 (by omega)).mono ?_
  rintro e w2 ⟨⟨x, rfl, x0, _, x2⟩, s2, g2⟩
  have x3 := x2 (by omega)
  have m2 := blk_src s1 g2 m1 (by decide)
  have bO2 := blk_src s1 g2 bO (by decide)
  have G2 := grownBy_trans G1 g2
  have hw1 : IntKind.i64.wrap (1 + x) = 1 + x := IntWalk.i64_in _ (by omega)
  clear x2 s1 m1 bO G1 g2
  go_wp2_with fail
  refine (one_c B b _ 8 w2 s2 (by omega)).mono ?_
  rintro e w3 ⟨⟨q8, rfl⟩, s3, g3⟩
  have m3 := blk_src s2 g3 m2 (by decide)
  have bO3 := blk_src s2 g3 bO2 (by decide)
  have G3 := grownBy_trans G2 g3
  clear s2 m2 bO2 G2 g3
  go_upto_if 13 with fail
  go_cut [5] (fun u wx => (∃ r : Nat, u = .int .i64 (r : Int) ∧ 1 ≤ r ∧ r ≤ 3) ∧ w3 = wx)
  case first =>
    cases q8 with
    | true =>
      go_wp2_with fail
      go_meet
      exact ⟨⟨3, rfl, by omega, by omega⟩, rfl⟩
    | false =>
      go_wp2_with fail
      go_meet
      exact ⟨⟨(1 + x).toNat, by first | (congr 1; omega) | (simp; omega), by omega, by omega⟩, rfl⟩
  case rest =>
    obtain ⟨⟨r, rfl, hr1, hr3⟩, hwc⟩ := hcut
    subst hwc
    have c1 : w3.cell? ⟨bm, 1, none⟩ = some (.int .i64 m.st) := m3.cell 1
    have hw2 : IntKind.i64.wrap ((r : Int) + 1) = (r : Int) + 1 := IntWalk.i64_in _ (by omega)
    clear hw1 x0 x3
    go_wp2_with fail
    refine (pick_c B b _ m.st w3 s3 (by omega)).mono ?_
    rintro e w4 ⟨⟨zq, rfl, zq0, zq1, zq2⟩, s4, g4⟩
    have m4 := blk_src s3 g4 m3 (by decide)
    have bO4 := blk_src s3 g4 bO3 (by decide)
    have G4 := grownBy_trans G3 g4
    clear s3 m3 bO3 G3 g4 c1
    go_wp2_with fail
    refine (pick_c B b _ ((r : Int) + 1) w4 s4 (by omega)).mono ?_
    rintro e w5 ⟨⟨zh, rfl, zh0, _, zh2⟩, s5, g5⟩
    have zh3 := zh2 (by omega)
    have m5 := blk_src s4 g5 m4 (by decide)
    have bO5 := blk_src s4 g5 bO4 (by decide)
    have G5 := grownBy_trans G4 g5
    clear s4 m4 bO4 G4 g5 zh2
    obtain ⟨gF, hgF⟩ : ∃ g, w5.heap.size = g := ⟨_, rfl⟩
    obtain ⟨W6, hW6⟩ : ∃ W, W = w5.alloc (.cells #[.int .i64 zq, .int .i64 zh, .int .i64 0, .slice none 0 0, .slice none 0 0, .slice none 0 0] 31) := ⟨_, rfl⟩
    have e6 : Ext w5 W6 := by rw [hW6]; exact Ext.alloc _ _
    have bF : Blk W6 gF 31 #[.int .i64 zq, .int .i64 zh, .int .i64 0, .slice none 0 0, .slice none 0 0, .slice none 0 0] := by rw [hW6]; exact Blk.new _ _ _ _ hgF
    have hbF : w.heap.size ≤ gF := by have := G5.size; omega
    have hgOF : gO ≠ gF := by have := bO5.lt; omega
    have hbmF : bm ≠ gF := by have := m5.lt; omega
    have hR0 : FoRnd B b bm gF gO n m mv w zq zh r 0 ⟨zq, zh, 0, [], [], []⟩ (.slice none 0 0) (.slice none 0 0) (.slice none 0 0) [] [] W6 :=
      ⟨⟨m5.ext e6, bF, World.ownsRow_nil .., World.ownsRow_nil .., World.ownsRow_nil .., fun i hi => by simp at hi, fun i hi => by simp at hi, List.pairwise_singleton _ _, fun g hg => by simp [Value.ownBlock] at hg, hbF⟩, rfl, rfl, rfl, rfl, by simp, by simp, fun x hx => by simp at hx, fun x hx => by simp at hx, fun x hx => by simp at hx, (s5.ext e6).mono (by omega), bO5.ext e6, grownBy_trans G5 (ext_grownBy e6 _)⟩
    have HR0 := Lib.hid hR0
    have HNE := Lib.hid (And.intro hgOF hbmF)
    clear s5 m5 bO5 G5 e6 bF hbF hgOF hbmF hR0
    go_wp2_with fail
    try rw [← hW6]
    try rw [hgF]
    clear hW6 hgF
    go_loopw [7] (fun a wr => ∃ k : Nat, k ≤ r + 1 ∧ a = .int .i64 (k : Int) ∧ Hid (∃ f wv rv ov vs us, FoRnd B b bm gF gO n m mv w zq zh r k f wv rv ov vs us wr)) (fun a _ => r + 1 - (intOf a).toNat)
    case atStart => exact ⟨0, Nat.zero_le _, rfl, Lib.hid ⟨_, _, _, _, _, _, HR0.out⟩⟩
    case round =>
      clear HR0
      obtain ⟨k, hk, rfl, HR⟩ := hrel
      by_cases hlt : k < r + 1
      · have hdl : decide ((k : Int) ≤ (r : Int)) = true := decide_eq_true (by omega)
        have hdl2 : decide (k ≤ r) = true := decide_eq_true (by omega)
        obtain ⟨f, wv, rv, ov, vs, us, R⟩ := HR.out
        obtain ⟨Aw, cw, rfl, _, _, _⟩ := (ownsRow_row R.dr.ow).form
        have eD : Ext wr wr.drew := Ext.drew wr
        have dD := R.dr.ext eD
        have sD := R.src.ext eD
        have GD := grownBy_trans R.grown (ext_grownBy eD (some b))
        have oD := R.out.ext eD
        have z3 : wr.drew.cell? ⟨gF, 3, none⟩ = some (.slice Aw f.ws.length cw) := dD.blk.cell 3
        have HRR := Lib.hid R
        clear R
        go_wp2_with fail
        refine wp_region_ordTS (fun x : World => x.cell? ⟨gF, 3, none⟩ = some (.slice Aw f.ws.length cw)) 5 (readsT [0, 1, 2] (.stir 3 (.stir 4 .done))) (by kernel_rfl) (by kernel_rfl) (fun _ _ _ _ _ h => h) z3 ?_
        simp only [readsT]
        iterate 3 (refine wpOrdT_read (v := ?_) (by rfl) (Or.inl ⟨by rfl, fun x hx => ?_⟩) ?_; rotate_left; (· have a1 : x.cell? _ = _ := hx; go_simp; try with_reducible rfl); try simp only [Act.put, List.setIfInBounds_toArray, List.set_cons_zero, List.set_cons_succ])
        refine wpOrdT_keep (by rfl) (fun K hK => ?_)
        go_simp
        go_at_call 33
        refine (l27DrawFlat_c B b bm _ 0 3 m.sy (.int .i64 m.st) mv wr.drew sD (by have := HB.out; have := GD.size; omega) dD.mac (by omega) (by omega) (by omega)).mono ?_
        rintro e w7 ⟨⟨u, x, rfl, ox, lx1, lx2, hx⟩, s7, g7⟩
        have d7 := dD.src' sD g7
        have G7 := grownBy_trans GD g7
        have o7 := blk_src sD g7 oD (by decide)
        refine hK _ _ (d7.blk.cell 3) ?_
        clear hK K
        try simp only [Act.put, List.setIfInBounds_toArray, List.set_cons_zero, List.set_cons_succ]
        obtain ⟨Au, cu, rfl, _, _⟩ := id ox.ints.form
        refine wpOrdT_keep (by rfl) (fun K hK => ?_)
        go_simp
        have eA := Ext.alloc w7 (.cells #[.slice Au x.length cu] 29)
        refine hK _ _ (eA.cell (d7.blk.cell 3)) ?_
        clear hK K
        try simp only [Act.put, List.setIfInBounds_toArray, List.set_cons_zero, List.set_cons_succ]
        refine wpOrdT_done ?_
        try simp only [List.drop_succ_cons, List.drop_zero]
        have d8 := d7.ext eA
        have hq1 : (w7.alloc (.cells #[.slice Au x.length cu] 29)).ownsRow w.heap.size 29 1 (.slice Aw f.ws.length cw) f.ws.length vs := d8.ow
        have hsz : w.heap.size ≤ w7.heap.size := G7.size
        have hwl : f.ws.length ≤ 4 := by have := HRR.out.ws; omega
        have ox8 := ownsRow_ext ox eA
        go_wp2_with (at_builtin; refine wpList_append_own_at _ rfl _ _ 28 rfl w.heap.size 29 r0i (.slice none 0 0) 1 24 Tryd.underlying28 hri rz0 rz1 rz2 rfl (by decide) _ _ _ rfl hq1 ⟨w7.heap.size, 0, none⟩ 1 1 [.slice Au x.length cu] rfl rfl (cell_one_new _ _ _) ?c2 ?c3 ?c4 ?c5 ?_)
        case c2 => intro u hu; simp at hu; subst hu; rfl
        case c3 => unfold maxLen; omega
        case c4 => omega
        case c5 => simp; omega
        intro v' w9 hown9 hg9 hat9 hloc
        obtain ⟨A9, c9, rfl, _, _, _⟩ := (ownsRow_row hown9).form
        have ff := (Blk.apart d8.blk hq1 (by decide) hg9).frozen 3
        have cc : w9.cell? ⟨gF, 3, none⟩ = some (.slice Aw f.ws.length cw) := (Blk.apart d8.blk hq1 (by decide) hg9).cell 3
        have hn9 := d8.fresh dD ox
        have hAp : Apt (.slice A9 (f.ws.length + 1) c9) rv := fun q hq1' hq2 => by
          rcases hloc with e | e
          · exact d8.nr q (by rw [← e]; exact hq1') hq2
          · rw [e] at hq1'
            have h1 := (World.ownsRow.lt d8.or q hq2).2
            simp only [World.size_alloc] at h1
            injection hq1' with e2
            omega
        have P9 := d8.putW (ownsRow_base ox8 (by have := GD.size; omega)) hn9 hown9 hg9 hAp HNE.out.2
        have S9 := put_side (i := 3) (x := .slice A9 (f.ws.length + 1) c9) (s7.ext eA) (o7.ext eA) (grownBy_trans G7 (ext_grownBy eA _)) d8.ow (by decide) hg9 HB.out HBL.out HNE.out.1 d8.new
        have HP9 := Lib.hid P9
        have HS9 := Lib.hid S9
        have HX := Lib.hid (And.intro lx2 hx)
        clear P9 S9 hn9 hAp hq1 ox8 ox hg9 hown9 hloc d7 dD z3 s7 o7 G7 GD oD sD eD d8 lx2 hx lx1
        by_cases hkr : k < r
        · have hdr : decide ((k : Int) < (r : Int)) = true := decide_eq_true (by omega)
          have hdr2 : decide (k < r) = true := decide_eq_true (by omega)
          obtain ⟨Ar, cr, rfl, _, _, _⟩ := (ownsRow_row HP9.out.or).form
          obtain ⟨wT, hWT⟩ : ∃ W, W = w9.setCell ⟨gF, 3, none⟩ (.slice A9 (f.ws.length + 1) c9) := ⟨_, rfl⟩
          rw [← hWT] at HP9 HS9
          have eD : Ext wT wT.drew := Ext.drew wT
          have dD := HP9.out.ext eD
          have sD := HS9.out.1.ext eD
          have GD := grownBy_trans HS9.out.2.2 (ext_grownBy eD (some b))
          have oD := HS9.out.2.1.ext eD
          have z3 : wT.drew.cell? ⟨gF, 4, none⟩ = some (.slice Ar f.rs.length cr) := dD.blk.cell 4
          go_wp2_with fail
          try rw [← hWT]
          clear hWT ff cc
          refine wp_region_ordTS (fun x : World => x.cell? ⟨gF, 4, none⟩ = some (.slice Ar f.rs.length cr)) 5 (readsT [0, 1, 2] (.stir 3 (.stir 4 .done))) (by kernel_rfl) (by kernel_rfl) (fun _ _ _ _ _ h => h) z3 ?_
          simp only [readsT]
          iterate 3 (refine wpOrdT_read (v := ?_) (by rfl) (Or.inl ⟨by rfl, fun x hx => ?_⟩) ?_; rotate_left; (· have a1 : x.cell? _ = _ := hx; go_simp; try with_reducible rfl); try simp only [Act.put, List.setIfInBounds_toArray, List.set_cons_zero, List.set_cons_succ])
          refine wpOrdT_keep (by rfl) (fun K hK => ?_)
          go_simp
          go_at_call 33
          refine (l27DrawFlat_c B b bm _ 1 3 m.sy (.int .i64 m.st) mv wT.drew sD (by have := HB.out; have := GD.size; omega) dD.mac (by omega) (by omega) (by omega)).mono ?_
          rintro e w7r ⟨⟨ur, y, rfl, ox, lx1, lx2, hx⟩, s7r, g7r⟩
          have d7r := dD.src' sD g7r
          have G7r := grownBy_trans GD g7r
          have o7r := blk_src sD g7r oD (by decide)
          refine hK _ _ (d7r.blk.cell 4) ?_
          clear hK K
          try simp only [Act.put, List.setIfInBounds_toArray, List.set_cons_zero, List.set_cons_succ]
          obtain ⟨Au2, cu2, rfl, _, _⟩ := id ox.ints.form
          refine wpOrdT_keep (by rfl) (fun K hK => ?_)
          go_simp
          have eA := Ext.alloc w7r (.cells #[.slice Au2 y.length cu2] 29)
          refine hK _ _ (eA.cell (d7r.blk.cell 4)) ?_
          clear hK K
          try simp only [Act.put, List.setIfInBounds_toArray, List.set_cons_zero, List.set_cons_succ]
          refine wpOrdT_done ?_
          try simp only [List.drop_succ_cons, List.drop_zero]
          have d8r := d7r.ext eA
          have hq1 : (w7r.alloc (.cells #[.slice Au2 y.length cu2] 29)).ownsRow w.heap.size 29 1 (.slice Ar f.rs.length cr) f.rs.length us := d8r.or
          have hsz : w.heap.size ≤ w7r.heap.size := G7r.size
          have hwl : f.rs.length ≤ 4 := by have := HRR.out.rs; omega
          have ox8r := ownsRow_ext ox eA
          go_wp2_with (at_builtin; refine wpList_append_own_at _ rfl _ _ 28 rfl w.heap.size 29 r0i (.slice none 0 0) 1 24 Tryd.underlying28 hri rz0 rz1 rz2 rfl (by decide) _ _ _ rfl hq1 ⟨w7r.heap.size, 0, none⟩ 1 1 [.slice Au2 y.length cu2] rfl rfl (cell_one_new _ _ _) ?c2 ?c3 ?c4 ?c5 ?_)
          case c2 => intro u hu; simp at hu; subst hu; rfl
          case c3 => unfold maxLen; omega
          case c4 => omega
          case c5 => simp; omega
          intro v' w9r hown9r hg9r hat9r hloc
          obtain ⟨A9r, c9r, rfl, _, _, _⟩ := (ownsRow_row hown9r).form
          have ff := (Blk.apart d8r.blk hq1 (by decide) hg9r).frozen 4
          have cc : w9r.cell? ⟨gF, 4, none⟩ = some (.slice Ar f.rs.length cr) := (Blk.apart d8r.blk hq1 (by decide) hg9r).cell 4
          have hn9r := d8r.fresh dD ox
          have hAp : Apt (.slice A9 (f.ws.length + 1) c9) (.slice A9r (f.rs.length + 1) c9r) := fun q hq1' hq2 => by
            rcases hloc with e | e
            · exact d8r.nr q hq1' (by rw [← e]; exact hq2)
            · rw [e] at hq2
              have h1 := (World.ownsRow.lt d8r.ow q hq1').2
              simp only [World.size_alloc] at h1
              injection hq2 with e2
              omega
          have P9r := d8r.putR (ownsRow_base ox8r (by have := GD.size; omega)) hn9r hown9r hg9r hAp HNE.out.2
          have S9r := put_side (i := 4) (x := .slice A9r (f.rs.length + 1) c9r) (s7r.ext eA) (o7r.ext eA) (grownBy_trans G7r (ext_grownBy eA _)) d8r.or (by decide) hg9r HB.out HBL.out HNE.out.1 d8r.new
          have HP9r := Lib.hid P9r
          have HS9r := Lib.hid S9r
          have HXr := Lib.hid (And.intro lx1 (And.intro lx2 hx))
          clear P9r S9r hn9r hAp hq1 ox8r ox hg9r hown9r hloc d7r dD z3 s7r o7r G7r GD oD sD eD d8r lx2 hx lx1
          obtain ⟨Ao, co, rfl, _, _⟩ := HP9r.out.oo.ints.form
          obtain ⟨wU, hWU⟩ : ∃ W, W = w9r.setCell ⟨gF, 4, none⟩ (.slice A9r (f.rs.length + 1) c9r) := ⟨_, rfl⟩
          rw [← hWU] at HP9r HS9r
          have eE : Ext wU wU.drew := Ext.drew wU
          have dE := HP9r.out.ext eE
          have sE := HS9r.out.1.ext eE
          have GE := grownBy_trans HS9r.out.2.2 (ext_grownBy eE (some b))
          have oE := HS9r.out.2.1.ext eE
          have z5 : wU.drew.cell? ⟨gF, 5, none⟩ = some (.slice Ao f.os.length co) := dE.blk.cell 5
          go_wp2_with fail
          try rw [← hWU]
          clear hWU ff cc
          refine wp_region_ordTS (fun x : World => x.cell? ⟨gF, 5, none⟩ = some (.slice Ao f.os.length co)) 6 (readsT [0, 1, 2] (.stir 3 (readsT [4] (.stir 5 .done)))) (by kernel_rfl) (by kernel_rfl) (fun _ _ _ _ _ h => h) z5 ?_
          simp only [readsT]
          iterate 3 (refine wpOrdT_read (v := ?_) (by rfl) (Or.inl ⟨by rfl, fun x hx => ?_⟩) ?_; rotate_left; (· have a1 : x.cell? _ = _ := hx; go_simp; try with_reducible rfl); try simp only [Act.put, List.setIfInBounds_toArray, List.set_cons_zero, List.set_cons_succ])
          refine wpOrdT_keep (by rfl) (fun K hK => ?_)
          go_simp
          go_at_call 15
          refine (pick_c B b _ 5 wU.drew sE (by omega)).mono ?_
          rintro e w7s ⟨⟨z, rfl, z0, _, z2⟩, s7s, g7s⟩
          have z3 := z2 (by omega)
          have hwz : IntKind.i64.wrap (z - 2) = z - 2 := IntWalk.i64_in _ (by omega)
          have d7s := dE.src' sE g7s
          have G7s := grownBy_trans GE g7s
          have o7s := blk_src sE g7s oE (by decide)
          refine hK _ _ (d7s.blk.cell 5) ?_
          clear hK K z2
          try simp only [Act.put, List.setIfInBounds_toArray, List.set_cons_zero, List.set_cons_succ]
          refine wpOrdT_read (v := .int .i64 (z - 2)) (by rfl) (Or.inl ⟨by rfl, fun x hx => ?_⟩) ?_; (· go_simp; try rw [hwz]; try with_reducible rfl); try simp only [Act.put, List.setIfInBounds_toArray, List.set_cons_zero, List.set_cons_succ]
          refine wpOrdT_keep (by rfl) (fun K hK => ?_)
          go_simp
          have eA := Ext.alloc w7s (.cells #[.int .i64 (z - 2)] 2)
          refine hK _ _ (eA.cell (d7s.blk.cell 5)) ?_
          clear hK K
          try simp only [Act.put, List.setIfInBounds_toArray, List.set_cons_zero, List.set_cons_succ]
          refine wpOrdT_done ?_
          try simp only [List.drop_succ_cons, List.drop_zero]
          have d8s := d7s.ext eA
          have hq1 : (w7s.alloc (.cells #[.int .i64 (z - 2)] 2)).ownsRow w.heap.size 2 1 (.slice Ao f.os.length co) f.os.length (ivs f.os) := d8s.oo
          have hsz : w.heap.size ≤ w7s.heap.size := G7s.size
          have hol : f.os.length ≤ 4 := by have := HRR.out.os; omega
          go_wp2_with (at_builtin; refine wpList_append_own_at _ rfl _ _ 29 rfl w.heap.size 2 i0 (.int .i64 0) 1 8 Tryd.underlying29 hi0 hz0 hz1 hz2 rfl (by decide) _ _ _ rfl hq1 ⟨w7s.heap.size, 0, none⟩ 1 1 [.int .i64 (z - 2)] rfl rfl (cell_one_new _ _ _) ?c2 ?c3 ?c4 ?c5 ?_)
          case c2 => intro u hu; simp at hu; subst hu; rfl
          case c3 => unfold maxLen; omega
          case c4 => omega
          case c5 => simp; omega
          intro v' w9s hown9s hg9s hat9s hloc
          obtain ⟨A9s, c9s, rfl, _, _, _⟩ := (ownsRow_row hown9s).form
          have ff := (Blk.apart d8s.blk hq1 (by decide) hg9s).frozen 5
          have cc : w9s.cell? ⟨gF, 5, none⟩ = some (.slice Ao f.os.length co) := (Blk.apart d8s.blk hq1 (by decide) hg9s).cell 5
          have hos : OwnInts w.heap.size w9s (.slice A9s (f.os.length + 1) c9s) (f.os ++ [z - 2]) := by simpa [OwnInts, ivs_append, ivs] using hown9s
          have hpw := (List.pairwise_cons.1 d8s.pw).1
          have P9s := d8s.putO hos hg9s (fun v hv q h1 h2 => by
            rcases hloc with e | e
            · exact hpw v hv q (by rw [← e]; exact h1) h2
            · have h3 := d7s.lt v (List.mem_cons_of_mem _ hv) q h2
              rw [e] at h1
              injection h1 with e2
              omega) HNE.out.2
          have S9s := put_side (i := 5) (x := .slice A9s (f.os.length + 1) c9s) (s7s.ext eA) (o7s.ext eA) (grownBy_trans G7s (ext_grownBy eA _)) d8s.oo (by decide) hg9s HB.out HBL.out HNE.out.1 d8s.new
          have HPs := Lib.hid P9s
          have HSs := Lib.hid S9s
          have HZ := Lib.hid (And.intro z0 z3)
          have hw9 : IntKind.i64.wrap ((k : Int) + 1) = ((k + 1 : Nat) : Int) := by rw [show (k : Int) + 1 = ((k + 1 : Nat) : Int) by omega]; exact IntWalk.i64_in _ (by omega)
          clear P9s S9s hpw hq1 hg9s hown9s hloc d7s d8s dE sE GE oE s7s G7s o7s eA hos z5 z0 z3
          go_wp2
          go_roundw
          case rel =>
            refine ⟨k + 1, by omega, by go_num, Lib.hid ⟨_, _, _, _, _, _, HPs.out, HRR.out.q, HRR.out.hd, HRR.out.at_, ?_, ?_, ?_, ?_, ?_, ?_, HSs.out.1.mono ?_, HSs.out.2.1, HSs.out.2.2⟩⟩
            · simp [HRR.out.ws]
            · have := HRR.out.rs
              simp only [List.length_append, List.length_singleton]
              omega
            · have := HRR.out.os
              simp only [List.length_append, List.length_singleton]
              omega
            · intro y hy
              rcases List.mem_append.1 hy with hy | hy
              · exact HRR.out.wl y hy
              · rw [List.mem_singleton.1 hy]; exact HX.out
            · intro y hy
              rcases List.mem_append.1 hy with hy | hy
              · exact HRR.out.rl y hy
              · rw [List.mem_singleton.1 hy]; exact HXr.out
            · intro y hy
              rcases List.mem_append.1 hy with hy | hy
              · exact HRR.out.ol y hy
              · rw [List.mem_singleton.1 hy]; have := HZ.out; omega
            · rw [Nat.succ_mul]; omega
          case measure => simp [intOf]; omega
        · have hdr : decide ((k : Int) < (r : Int)) = false := decide_eq_false (by omega)
          have hdr2 : decide (k < r) = false := decide_eq_false (by omega)
          have hw9 : IntKind.i64.wrap ((k : Int) + 1) = ((k + 1 : Nat) : Int) := by rw [show (k : Int) + 1 = ((k + 1 : Nat) : Int) by omega]; exact IntWalk.i64_in _ (by omega)
          go_wp2
          go_roundw
          case rel =>
            refine ⟨k + 1, by omega, by go_num, Lib.hid ⟨_, _, _, _, _, _, HP9.out, HRR.out.q, HRR.out.hd, HRR.out.at_, ?_, ?_, ?_, ?_, HRR.out.rl, HRR.out.ol, HS9.out.1.mono ?_, HS9.out.2.1, HS9.out.2.2⟩⟩
            · simp [HRR.out.ws]
            · have := HRR.out.rs
              simp only at this ⊢
              omega
            · have := HRR.out.os
              simp only at this ⊢
              omega
            · intro y hy
              rcases List.mem_append.1 hy with hy | hy
              · exact HRR.out.wl y hy
              · rw [List.mem_singleton.1 hy]; exact HX.out
            · rw [Nat.succ_mul]; omega
          case measure => simp [intOf]; omega
      · have hkk : k = r + 1 := by omega
        subst hkk
        have hdl : decide (((r + 1 : Nat) : Int) ≤ (r : Int)) = false := decide_eq_false (by omega)
        have hdl2 : decide (r + 1 ≤ r) = false := decide_eq_false (by omega)
        obtain ⟨f, wv, rv, ov, vs, us, R⟩ := HR.out
        obtain ⟨kh, hkh⟩ : ∃ kh : Nat, zh = (kh : Int) := Int.eq_ofNat_of_zero_le zh0
        have hlw : f.ws.length = r + 1 := R.ws
        have hkw : kh < f.ws.length := by omega
        obtain ⟨gw, cw, rfl⟩ := own_some R.dr.ow (by omega)
        obtain ⟨u, hu, ou⟩ := R.dr.iw kh hkw
        obtain ⟨x0w, hx0w⟩ : ∃ y, f.ws[kh] = y := ⟨_, rfl⟩
        rw [hx0w] at ou
        have hxl : x0w.length ≤ 3 := by have := R.wl f.ws[kh] (List.getElem_mem _); rw [hx0w] at this; exact this.1
        have hxz : ∀ z ∈ x0w, 0 ≤ z ∧ z < 2 := by have := R.wl f.ws[kh] (List.getElem_mem _); rw [hx0w] at this; exact this.2
        obtain ⟨Au, cu, rfl, _, _⟩ := ou.ints.form
        have f3 : wr.cell? ⟨gF, 3, none⟩ = some (.slice (some ⟨gw, 0, none⟩) f.ws.length cw) := R.dr.blk.cell 3
        have f1 : wr.cell? ⟨gF, 1, none⟩ = some (.int .i64 (kh : Int)) := by have := R.dr.blk.cell 1; rw [show f.hd = (kh : Int) from R.hd.trans hkh] at this; exact this
        have fk : wr.cell? ⟨gw, kh, none⟩ = some (.slice Au x0w.length cu) := by have := own_cell R.dr.ow hkw; rw [hu] at this; exact this
        have hw13 : IntKind.i64.wrap ((x0w.length : Int) + 2) = (x0w.length : Int) + 2 := IntWalk.i64_in _ (by omega)
        have PK := pick_c B b _ ((x0w.length : Int) + 2) wr R.src (by rw [Nat.add_mul]; omega)
        have HRR := Lib.hid R
        have HOU := Lib.hid ou
        have HXZ := Lib.hid (And.intro hxl hxz)
        have HKH := Lib.hid hkh
        have HLW := Lib.hid hlw
        have HX0 := Lib.hid hx0w
        have HZQ := Lib.hid (And.intro zq0 zq1)
        have HFK := Lib.hid fk
        clear R HR ou hxz hkh hlw hx0w hu
        go_wp2_with fail
        refine PK.mono ?_
        rintro e w6 ⟨⟨x, rfl, x0, _, x2⟩, s6, g6⟩
        have x3 := x2 (by omega)
        have hw14 : IntKind.i64.wrap (x - 1) = x - 1 := IntWalk.i64_in _ (by omega)
        have d6 := (HRR.out.dr.src' HRR.out.src g6).putA (x - 1) HNE.out.2
        have s6' := s6.kept (grownBy_setCell w6 ⟨gF, 2, none⟩ (.int .i64 (x - 1))) (fun k hk => by injection hk with hk; subst hk; exact ⟨by show B ≤ gF; have := HB.out; have := HRR.out.dr.new; omega, by show gF ≠ b; have := HBL.out; have := HRR.out.dr.new; omega⟩)
        have o6 := (blk_src HRR.out.src g6 HRR.out.out (by decide)).far (p := ⟨gF, 2, none⟩) HNE.out.1 (.int .i64 (x - 1))
        have G6 := grownBy_step (grownBy_trans HRR.out.grown g6) (grownBy_setCell w6 ⟨gF, 2, none⟩ (.int .i64 (x - 1))) (fun k hk => .inl (by injection hk with hk; subst hk; exact HRR.out.dr.new))
        have fr6 := (HRR.out.dr.src' HRR.out.src g6).blk.frozen 2
        have cc6 := (HRR.out.dr.src' HRR.out.src g6).blk.cell 2
        obtain ⟨f', hf'⟩ : ∃ f', f' = (⟨f.q, f.hd, x - 1, f.ws, f.rs, f.os⟩ : FoD) := ⟨_, rfl⟩
        rw [← hf'] at d6
        have hgd : FoGd m f' := by rw [hf']; exact HRR.out.gd ⟨hr1, hr3⟩ ⟨zq0, by have := zq2; omega⟩ ⟨zh0, by omega⟩ y1 _
        have eq1 : f'.q = zq := by rw [hf']; exact HRR.out.q
        have eq2 : f'.hd = (kh : Int) := by rw [hf']; exact HRR.out.hd.trans HKH.out
        have eq3 : f'.ws = f.ws := by rw [hf']
        have eq4 : f'.rs = f.rs := by rw [hf']
        have eq5 : f'.os = f.os := by rw [hf']
        have IS := l27Is_c bm gF m f' mv _ rv ov _ d6.mac d6.blk (OwnLists.lists ⟨vs, d6.ow, d6.iw⟩) (OwnLists.lists ⟨us, d6.or, d6.ir⟩) d6.oo.ints hgd HMK.out
        obtain ⟨W7, hW7⟩ : ∃ W, W = w6.setCell ⟨gF, 2, none⟩ (.int .i64 (x - 1)) := ⟨_, rfl⟩
        rw [← hW7] at d6 s6' o6 G6 IS
        have HGD := Lib.hid hgd
        have HEQ := Lib.hid (And.intro eq1 (And.intro eq2 (And.intro eq3 (And.intro eq4 eq5))))
        clear PK x2 s6 g6 f3 f1 fk hf' hgd eq1 eq2 eq3 eq4 eq5
        go_wp2_with fail
        try rw [← hW7]
        clear hW7 fr6 cc6
        refine IS.mono ?_
        rintro e w8 ⟨rfl, e8⟩
        have d8 := d6.ext e8
        have s8 := s6'.ext e8
        have o8 := o6.ext e8
        have G8 := grownBy_trans G6 (ext_grownBy e8 (some b))
        clear IS d6 s6' o6 G6 e8 hw13 hw14
        go_upto_if 70 with fail
        go_cut [] (fun wx => Hid (∃ f wv rv ov, FoFin B b gF gO n m w f wv rv ov #[.int .i64 0, .int .i64 0, .int .i64 0, .slice none 0 0, .slice none 0 0, .slice none 0 0] wx))
        case first =>
          cases hat : atOk f' with
          | true =>
            go_wp2_with fail
            go_meet
            refine Lib.hid ⟨f', _, _, _, d8.blk, ⟨vs, d8.ow, d8.iw⟩, ⟨us, d8.or, d8.ir⟩, d8.oo, foOk_of HGD.out hat, ?_, ?_, ?_, s8.mono ?_, o8, G8⟩
            · rw [HEQ.out.2.2.1]; exact fun x hx => Nat.le_succ_of_le (HRR.out.wl x hx).1
            · rw [HEQ.out.2.2.2.1]; exact fun x hx => (HRR.out.rl x hx).2.1
            · rw [HEQ.out.2.2.2.2]; exact HRR.out.ol
            · rw [Nat.add_mul]; have : r * 600 ≤ 3 * 600 := Nat.mul_le_mul_right _ hr3; omega
          | false =>
            go_wp2_with fail
            have eD : Ext w8 w8.drew := Ext.drew w8
            have d9 := d8.ext eD
            have s9 := s8.ext eD
            have o9 := o8.ext eD
            have G9 := grownBy_trans G8 (ext_grownBy eD (some b))
            have c3 : w8.drew.cell? ⟨gF, 3, none⟩ = some (.slice (some ⟨gw, 0, none⟩) f.ws.length cw) := d9.blk.cell 3
            have c1 : w8.drew.cell? ⟨gF, 1, none⟩ = some (.int .i64 (kh : Int)) := by have := d9.blk.cell 1; rw [HEQ.out.2.1] at this; exact this
            refine wp_region_ordTS (fun x : World => x.cell? ⟨gF, 3, none⟩ = some (.slice (some ⟨gw, 0, none⟩) f.ws.length cw) ∧ x.cell? ⟨gF, 1, none⟩ = some (.int .i64 (kh : Int))) 7 (readsT [0, 1, 2, 3, 4] (.stir 5 (.stir 6 .done))) (by kernel_rfl) (by kernel_rfl) (fun _ _ _ _ _ h => h) ⟨c3, c1⟩ ?_
            simp only [readsT]
            iterate 5 (refine wpOrdT_read (v := ?_) (by rfl) (Or.inl ⟨by rfl, fun x hx => ?_⟩) ?_; rotate_left; (· have a1 : x.cell? _ = _ := hx.1; have a2 : x.cell? _ = _ := hx.2; go_simp; try with_reducible rfl); try simp only [Act.put, List.setIfInBounds_toArray, List.set_cons_zero, List.set_cons_succ])
            refine wpOrdT_keep (by rfl) (fun K hK => ?_)
            go_simp
            have eA := Ext.alloc w8.drew (.cells #[.int .i64 1] 2)
            refine hK _ _ ⟨eA.cell c3, eA.cell c1⟩ ?_
            clear hK K
            try simp only [Act.put, List.setIfInBounds_toArray, List.set_cons_zero, List.set_cons_succ]
            obtain ⟨w0a, hu9, ou9⟩ := d9.iw kh (by rw [HEQ.out.2.2.1]; exact hkw)
            have hu8 : vs[kh]? = some (.slice Au x0w.length cu) := by
              obtain ⟨u1, a1, b1⟩ := HRR.out.dr.iw kh hkw
              have hc := own_cell HRR.out.dr.ow hkw
              rw [HFK.out] at hc
              exact hc.symm
            obtain rfl : (.slice Au x0w.length cu : Value) = w0a := by rw [hu8] at hu9; exact Option.some.inj hu9
            have hxe : f'.ws[kh]'(by rw [HEQ.out.2.2.1]; exact hkw) = x0w := by
              simp only [HEQ.out.2.2.1]
              exact HX0.out
            rw [hxe] at ou9
            have ouA := ownsRow_ext ou9 eA
            have dA := d9.ext eA
            have sA := s9.ext eA
            have oA := o9.ext eA
            have GA := grownBy_trans G9 (ext_grownBy eA (some b))
            have hszw : w.heap.size ≤ w8.drew.heap.size := G9.size
            have hx4 := HXZ.out.1
            have hq1 : (w8.drew.alloc (.cells #[.int .i64 1] 2)).ownsRow w.heap.size 2 1 (.slice Au x0w.length cu) x0w.length (ivs x0w) := ouA
            have HDA := Lib.hid (And.intro dA (And.intro sA (And.intro oA (And.intro GA ouA))))
            refine wpOrdT_keep (by rfl) (fun K hK => ?_)
            refine step_append_lies _ rfl (.tmp 75) (.tmp 76) 29 rfl w.heap.size 2 i0 (.int .i64 0) 1 8 Tryd.underlying29 hi0 hz0 hz1 hz2 rfl (by decide) _ _ _ rfl hq1 ⟨w8.heap.size, 0, none⟩ 1 1 [.int .i64 1] rfl rfl (cell_one_new _ _ _) ?c2 (by decide) ?c3 ?c4 ?c5 _ rfl ?_
            case c2 => intro u hu; simp at hu; subst hu; rfl
            case c3 => unfold maxLen; omega
            case c4 => omega
            case c5 => simp; simp at hszw; omega
            intro g9 c9 w9 hown9 hg9 hat9 hlt9
            have hos : OwnInts w.heap.size w9 (.slice (some ⟨g9, 0, none⟩) (x0w.length + 1) c9) (x0w ++ [1]) := by simpa [OwnInts, ivs_append, ivs] using hown9
            have bF9 := Blk.apart HDA.out.1.blk hq1 (by decide) hg9
            have oW9 := World.ownsRow.kept HDA.out.1.ow hg9 (own_ne HDA.out.1.ow hq1 (by decide))
            rw [HEQ.out.2.2.1] at oW9
            have k3 : w9.cell? ⟨gF, 3, none⟩ = some (.slice (some ⟨gw, 0, none⟩) f.ws.length cw) := bF9.cell 3
            have k1 : w9.cell? ⟨gF, 1, none⟩ = some (.int .i64 (kh : Int)) := by have := bF9.cell 1; rw [HEQ.out.2.1] at this; exact this
            refine hK _ _ ⟨k3, k1⟩ ?_
            clear hK K
            try simp only [Act.put, List.setIfInBounds_toArray, List.set_cons_zero, List.set_cons_succ]
            refine wpOrdT_done ?_
            try simp only [List.drop_succ_cons, List.drop_zero]
            have kk : w9.cell? ⟨gw, kh, none⟩ = vs[kh]? := by
              have hc := oW9.cellAt kh (by omega)
              exact hc
            rw [hu8] at kk
            have zz : w9.frozen? ⟨gw, kh, none⟩ = false := oW9.frozenAt kh
            have hkf : kh < f'.ws.length := by rw [HEQ.out.2.2.1]; exact hkw
            have L := HDA.out.1.last (k := kh) hkf hu8 hos hg9
            obtain ⟨⟨csw, bW⟩, hgwb⟩ := own_blk HDA.out.1.ow
            have hgO : gO ≠ gw := blk_ne HDA.out.2.2.1 bW (by decide)
            have S := put_side (i := kh) (gF := gw) (x := .slice (some ⟨g9, 0, none⟩) (x0w.length + 1) c9) HDA.out.2.1 HDA.out.2.2.1 HDA.out.2.2.2.1 HDA.out.2.2.2.2 (by decide) hg9 HB.out HBL.out hgO hgwb
            obtain ⟨wX, hwX⟩ : ∃ W, W = w9.setCell ⟨gw, kh, none⟩ (.slice (some ⟨g9, 0, none⟩) (x0w.length + 1) c9) := ⟨_, rfl⟩
            have zz2 : w9.frozen? ⟨gF, 2, none⟩ = false := bF9.frozen 2
            have cc2 : (w9.setCell ⟨gw, kh, none⟩ (.slice (some ⟨g9, 0, none⟩) (x0w.length + 1) c9)).cell? ⟨gF, 2, none⟩ = some (.int .i64 f'.at_) := L.1.cell 2
            rw [← hwX] at L S
            have hbF : w.heap.size ≤ gF := HRR.out.dr.new
            have hS1 : Src B (wX.setCell ⟨gF, 2, none⟩ (.int .i64 0)) b (n + 5000) := (S.1.kept (grownBy_setCell wX ⟨gF, 2, none⟩ (.int .i64 0)) (fun k hk => by injection hk with hk; subst hk; exact ⟨by show B ≤ gF; have := HB.out; omega, by show gF ≠ b; have := HBL.out; omega⟩)).mono (by rw [Nat.add_mul]; have : r * 600 ≤ 3 * 600 := Nat.mul_le_mul_right _ hr3; omega)
            have FF : FoFin B b gF gO n m w ⟨f'.q, f'.hd, 0, f'.ws.set kh (x0w ++ [1]), f'.rs, f'.os⟩ (.slice (some ⟨gw, 0, none⟩) f.ws.length cw) rv ov #[.int .i64 0, .int .i64 0, .int .i64 0, .slice none 0 0, .slice none 0 0, .slice none 0 0] (wX.setCell ⟨gF, 2, none⟩ (.int .i64 0)) := by
              refine ⟨L.1.set_ 2 _, L.2.2.1.far L.1 (by decide) (by decide) 2 _, L.2.2.2.1.far L.1 (by decide) (by decide) 2 _, far_blkF L.2.2.2.2 L.1 (by decide) 2 _, ?_, ?_, ?_, ?_, hS1, S.2.1.far (p := ⟨gF, 2, none⟩) HNE.out.1 _, grownBy_step S.2.2 (grownBy_setCell wX ⟨gF, 2, none⟩ (.int .i64 0)) (fun k hk => .inl (by injection hk with hk; subst hk; exact hbF))⟩
              · refine foOk_of (HGD.out.wall (k := kh) (x := x0w ++ [1]) (by simp; omega) (fun z hz => ?_) y1 0) ?_
                · rcases List.mem_append.1 hz with c | c
                  · exact HXZ.out.2 z c
                  · rw [List.mem_singleton.1 c]; omega
                · unfold atOk
                  simp only [HEQ.out.2.1, Int.toNat_natCast, Bool.or_eq_true]
                  refine .inl (.inl (inB_iff.2 ?_))
                  rw [List.getD_eq_getElem?_getD, List.getElem?_set_self hkf]
                  simp
              · rw [HEQ.out.2.2.1]
                intro y hy
                rcases List.mem_or_eq_of_mem_set hy with c | c
                · exact Nat.le_succ_of_le (HRR.out.wl y c).1
                · subst c; simp; omega
              · rw [HEQ.out.2.2.2.1]; exact fun x hx => (HRR.out.rl x hx).2.1
              · rw [HEQ.out.2.2.2.2]; exact HRR.out.ol
            have HFF := Lib.hid FF
            clear FF S L hS1 hg9 hat9 hown9 hos hq1 bW hgO bF9 oW9 hkf hgwb hbF hxe hu8 hu9
            go_wp2_with fail
            try rw [← hwX]
            go_meet
            exact Lib.hid ⟨_, _, _, _, HFF.out⟩
        case rest =>
          obtain ⟨f0, wv0, rv0, ov0, F⟩ := hcut.out
          obtain ⟨A1, c1, rfl, _, _⟩ := F.ws.lists.form
          obtain ⟨A2, c2, rfl, _, _⟩ := F.rs.lists.form
          obtain ⟨A3, c3, rfl, _, _⟩ := F.os.ints.form
          have r0 := F.blk.cell 0
          have r1 := F.blk.cell 1
          have r2 := F.blk.cell 2
          have r3 := F.blk.cell 3
          have r4 := F.blk.cell 4
          have r5 := F.blk.cell 5
          have q0 := F.out.cell 0
          have q1 := F.out.cell 1
          have q2 := F.out.cell 2
          have q3 := F.out.cell 3
          have q4 := F.out.cell 4
          have q5 := F.out.cell 5
          simp only [List.getElem?_toArray, List.getElem?_cons_zero, List.getElem?_cons_succ] at r0 r1 r2 r3 r4 r5 q0 q1 q2 q3 q4 q5
          have z0 := F.out.frozen 0
          have z1 := F.out.frozen 1
          have z2 := F.out.frozen 2
          have z3 := F.out.frozen 3
          have z4 := F.out.frozen 4
          have z5 := F.out.frozen 5
          have hne := HNE.out.1
          have hw0 : w.heap.size ≤ gO := by rw [HGO.out]; exact Nat.le_refl _
          have hb0 : B ≤ gO := by have := HB.out; omega
          have hb1 : gO ≠ b := by have := HBL.out; omega
          have F1 := (((((F.setO hne hw0 hb0 hb1 0 (.int .i64 f0.q)).setO hne hw0 hb0 hb1 1 (.int .i64 f0.hd)).setO hne hw0 hb0 hb1 2 (.int .i64 f0.at_)).setO hne hw0 hb0 hb1 3 (.slice A1 f0.ws.length c1)).setO hne hw0 hb0 hb1 4 (.slice A2 f0.rs.length c2)).setO hne hw0 hb0 hb1 5 (.slice A3 f0.os.length c3)
          have HF1 := Lib.hid F1
          clear F F1 hw0 hb0 hb1 hcut
          go_wp2
          refine bodyPost_ret (v := .agg #[.int .i64 f0.q, .int .i64 f0.hd, .int .i64 f0.at_, .slice A1 f0.ws.length c1, .slice A2 f0.rs.length c2, .slice A3 f0.os.length c3]) (by simp [results, Tryd.results14, go_sem, q0, q1, q2, q3, q4, q5]) rfl ?_
          have F1 := HF1.out
          exact ⟨⟨f0, _, _, _, rfl, F1.ws, F1.rs, F1.os, F1.ok, F1.wl, F1.rl, F1.ol⟩, F1.src, F1.grown⟩
end Go.Proofs.YtnflhpgkffiloaaDoor
end
