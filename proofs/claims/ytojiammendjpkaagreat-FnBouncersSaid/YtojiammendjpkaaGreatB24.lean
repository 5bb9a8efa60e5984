/- A formula tape behind a pointer that is stepped: every list in a block of its own, no two in one, none of them among the blocks K.
Contract: the copy of a formula tape: every list in a block of its own.
Contract: a machine runs over a word until the head leaves it. -/
import Derived.Test.YtojiammendjpkaaGreatB22
import Derived.Test.YtojiammendjpkaaGreatB23
section
set_option linter.unusedSimpArgs false
set_option linter.unusedVariables false
namespace Go.Proofs.YtojiammendjpkaaGreat
open Go Go.RowKit Go.Proofs
set_option maxHeartbeats 400000
/-- The kept blocks are as they were. -/
def KpB (K : Nat → Prop) (w w' : World) : Prop := ∀ k, K k → w'.heap[k]? = w.heap[k]?
theorem KpB.refl (K : Nat → Prop) (w : World) : KpB K w w := fun _ _ => rfl
theorem KpB.trans {K : Nat → Prop} {a b c : World} (h : KpB K a b) (h' : KpB K b c) : KpB K a c := fun k hk => (h' k hk).trans (h k hk)
theorem KpB.ext {K : Nat → Prop} {w w' : World} (he : Ext w w') (hK : ∀ k, K k → k < w.heap.size) : KpB K w w' := fun k hk => Below.block he k (hK k hk)
theorem KpB.grown {K : Nat → Prop} {w w' : World} {q : Nat} (hg : w.grownBy w' (some q)) (hK : ∀ k, K k → k < w.heap.size) (hq : ¬ K q) : KpB K w w' := fun k hk => hg.block k (hK k hk) (fun e => hq (by injection e with e; exact e ▸ hk))
theorem KpB.blk {K : Nat → Prop} {w w' : World} (h : KpB K w w') {b : Nat} {t : TypeId} {cs : Array Value} (hb : Blk w b t cs) (hk : K b) : Blk w' b t cs := (h b hk).trans hb
structure FoO (w0 : World) (K : Nat → Prop) (w : World) (g : Nat) (f : FoD) (gw gr go cw cr co : Nat) (vw vr : List Value) : Prop where
  ext0 : Ext w0 w
  kb : ∀ k, K k → k < w.heap.size
  kg : ¬ K g
  kw : ¬ K gw
  kr : ¬ K gr
  ko : ¬ K go
  lst : ∀ v ∈ vw ++ vr, ∀ k, v.ownBlock = some k → ¬ K k ∧ k ≠ go
  blk : Blk w g 49 #[.int .i64 f.q, .int .i64 f.hd, .int .i64 f.at_, .slice (some ⟨gw, 0, none⟩) f.ws.length cw, .slice (some ⟨gr, 0, none⟩) f.rs.length cr, .slice (some ⟨go, 0, none⟩) f.os.length co]
  ow : w.ownsRow w0.heap.size 27 1 (.slice (some ⟨gw, 0, none⟩) f.ws.length cw) f.ws.length vw
  or : w.ownsRow w0.heap.size 27 1 (.slice (some ⟨gr, 0, none⟩) f.rs.length cr) f.rs.length vr
  oo : OwnInts w0.heap.size w (.slice (some ⟨go, 0, none⟩) f.os.length co) f.os
  iw : ∀ i, (h : i < f.ws.length) → ∃ u, vw[i]? = some u ∧ OwnInts w0.heap.size w u f.ws[i]
  ir : ∀ i, (h : i < f.rs.length) → ∃ u, vr[i]? = some u ∧ OwnInts w0.heap.size w u f.rs[i]
  ne : gw ≠ gr
  bg : w0.heap.size ≤ g
  pw : (vw ++ vr).Pairwise AptF
theorem il_own {w : World} {base go : Nat} {u : Value} {xs : List Int} (h : OwnInts base w u xs) (hg : ∀ b, u.ownBlock = some b → b ≠ go) : IL w go u xs := by
  refine ⟨h.ints, h.flat, fun b hb => ?_⟩
  refine ⟨hg b hb, ?_⟩
  rcases h.2 with ⟨rfl, _⟩ | ⟨g, cap, cur, rfl, _, hh, _⟩
  · simp [Value.ownBlock] at hb
  · have e : g = b := by simpa [Value.ownBlock] using hb
    subst e
    exact ⟨cur, hh⟩
section
variable {w0 : World} {K : Nat → Prop} {w W : World} {g : Nat} {f : FoD} {gw gr go cw cr co : Nat} {vw vr : List Value}
theorem FoO.at (h : FoO w0 K w g f gw gr go cw cr co vw vr) : FoAt w0.heap.size w g f gw gr go cw cr co vw vr :=
  ⟨h.blk, h.ow, h.or, h.oo, fun i hi => by obtain ⟨u, a, b⟩ := h.iw i hi; exact ⟨u, a, il_own b fun k hk => (h.lst u (List.mem_append_left _ (List.mem_of_getElem? a)) k hk).2⟩,
   fun i hi => by obtain ⟨u, a, b⟩ := h.ir i hi; exact ⟨u, a, il_own b fun k hk => (h.lst u (List.mem_append_right _ (List.mem_of_getElem? a)) k hk).2⟩, h.ne, h.bg⟩
theorem FoO.ext (h : FoO w0 K w g f gw gr go cw cr co vw vr) (he : Ext w W) : FoO w0 K W g f gw gr go cw cr co vw vr :=
  ⟨h.ext0.trans he, fun k hk => Nat.lt_of_lt_of_le (h.kb k hk) he.size, h.kg, h.kw, h.kr, h.ko, h.lst, h.blk.ext he, ownsRow_ext h.ow he, ownsRow_ext h.or he, ownsRow_ext h.oo he,
   fun i hi => by obtain ⟨u, a, b⟩ := h.iw i hi; exact ⟨u, a, ownsRow_ext b he⟩, fun i hi => by obtain ⟨u, a, b⟩ := h.ir i hi; exact ⟨u, a, ownsRow_ext b he⟩, h.ne, h.bg, h.pw⟩
/-- More blocks are kept, so they are not the formula's. -/
theorem FoO.mono {K' : Nat → Prop} (h : FoO w0 K w g f gw gr go cw cr co vw vr) (hk : ∀ k, K' k → K k) : FoO w0 K' w g f gw gr go cw cr co vw vr :=
  ⟨h.ext0, fun k a => h.kb k (hk k a), fun a => h.kg (hk _ a), fun a => h.kw (hk _ a), fun a => h.kr (hk _ a), fun a => h.ko (hk _ a), fun v hv k e => ⟨fun a => (h.lst v hv k e).1 (hk _ a), (h.lst v hv k e).2⟩, h.blk, h.ow, h.or, h.oo, h.iw, h.ir, h.ne, h.bg, h.pw⟩
/-- The cells of the pointer's block are written. -/
theorem FoO.hdr (h : FoO w0 K w g f gw gr go cw cr co vw vr) (hg : w.grownBy W (some g)) (q hd a : Int)
    (hb : Blk W g 49 #[.int .i64 q, .int .i64 hd, .int .i64 a, .slice (some ⟨gw, 0, none⟩) f.ws.length cw, .slice (some ⟨gr, 0, none⟩) f.rs.length cr, .slice (some ⟨go, 0, none⟩) f.os.length co]) :
    FoO w0 K W g ⟨q, hd, a, f.ws, f.rs, f.os⟩ gw gr go cw cr co vw vr ∧ KpB K w W := by
  have kI : ∀ {e : TypeId} {size n : Nat} {v : Value} {xs : List Value}, w.ownsRow w0.heap.size e size v n xs → 49 ≠ e → W.ownsRow w0.heap.size e size v n xs := fun ho hne => ho.kept hg (.inr fun e => blk_ne_row h.blk ho hne e.symm)
  exact ⟨⟨h.ext0.grown hg (fun k hk => by injection hk with hk; subst hk; exact h.bg), fun k hk => Nat.lt_of_lt_of_le (h.kb k hk) hg.size, h.kg, h.kw, h.kr, h.ko, h.lst, hb, kI h.ow (by decide), kI h.or (by decide), kI h.oo (by decide),
    fun i hi => by obtain ⟨u, a, b⟩ := h.iw i hi; exact ⟨u, a, kI b (by decide)⟩, fun i hi => by obtain ⟨u, a, b⟩ := h.ir i hi; exact ⟨u, a, kI b (by decide)⟩, h.ne, h.bg, h.pw⟩, KpB.grown hg h.kb h.kg⟩
theorem FoO.setQ (h : FoO w0 K w g f gw gr go cw cr co vw vr) (x : Int) : FoO w0 K (w.setCell ⟨g, 0, none⟩ (.int .i64 x)) g ⟨x, f.hd, f.at_, f.ws, f.rs, f.os⟩ gw gr go cw cr co vw vr ∧ KpB K w (w.setCell ⟨g, 0, none⟩ (.int .i64 x)) :=
  h.hdr (grownBy_setCell w ⟨g, 0, none⟩ _) _ _ _ (h.blk.set_ 0 _)
theorem FoO.setH (h : FoO w0 K w g f gw gr go cw cr co vw vr) (x : Int) : FoO w0 K (w.setCell ⟨g, 1, none⟩ (.int .i64 x)) g ⟨f.q, x, f.at_, f.ws, f.rs, f.os⟩ gw gr go cw cr co vw vr ∧ KpB K w (w.setCell ⟨g, 1, none⟩ (.int .i64 x)) :=
  h.hdr (grownBy_setCell w ⟨g, 1, none⟩ _) _ _ _ (h.blk.set_ 1 _)
theorem FoO.setA (h : FoO w0 K w g f gw gr go cw cr co vw vr) (x : Int) : FoO w0 K (w.setCell ⟨g, 2, none⟩ (.int .i64 x)) g ⟨f.q, f.hd, x, f.ws, f.rs, f.os⟩ gw gr go cw cr co vw vr ∧ KpB K w (w.setCell ⟨g, 2, none⟩ (.int .i64 x)) :=
  h.hdr (grownBy_setCell w ⟨g, 2, none⟩ _) _ _ _ (h.blk.set_ 2 _)
theorem pw_set {vs : List Value} (h : vs.Pairwise AptF) (i : Nat) (u : Value) (hu : ∀ j v, i ≠ j → vs[j]? = some v → AptF v u) : (vs.set i u).Pairwise AptF := by
  rw [List.pairwise_iff_getElem] at h ⊢
  intro a b ha hb hab
  simp only [List.length_set] at ha hb
  by_cases c : i = a
  · subst c
    rw [List.getElem_set_self, List.getElem_set_ne (by omega)]
    exact (hu b _ (by omega) (List.getElem?_eq_getElem hb)).symm
  · by_cases d : i = b
    · subst d
      rw [List.getElem_set_self, List.getElem_set_ne c]
      exact hu a _ c (List.getElem?_eq_getElem ha)
    · rw [List.getElem_set_ne c, List.getElem_set_ne d]
      exact h a b ha hb hab
/-- A wall's list is put into its place. -/
theorem FoO.putW (h : FoO w0 K w g f gw gr go cw cr co vw vr) {i : Nat} (hi : i < f.ws.length) {u : Value} {x : List Int} (hu : OwnInts w0.heap.size w u x) (hn : ∀ j v, i ≠ j → (vw ++ vr)[j]? = some v → AptF v u) (hk : ∀ k, u.ownBlock = some k → ¬ K k ∧ k ≠ go) :
    FoO w0 K (w.setCell ⟨gw, i, none⟩ u) g ⟨f.q, f.hd, f.at_, f.ws.set i x, f.rs, f.os⟩ gw gr go cw cr co (vw.set i u) vr ∧ KpB K w (w.setCell ⟨gw, i, none⟩ u) := by
  obtain ⟨⟨csw, bW⟩, hbw⟩ := own_blk h.ow
  have hl : vw.length = f.ws.length := by have := h.ow.1; omega
  have hg := grownBy_setCell w ⟨gw, i, none⟩ u
  have kI : ∀ {z : Value} {zs : List Int}, OwnInts w0.heap.size w z zs → OwnInts w0.heap.size (w.setCell ⟨gw, i, none⟩ u) z zs := fun hz => far_blkF hz bW (by decide) i u
  have happ : vw.set i u ++ vr = (vw ++ vr).set i u := by rw [List.set_append_left i u (by omega)]
  refine ⟨⟨h.ext0.grown hg (fun k hk => by injection hk with hk; subst hk; exact hbw), fun k hk => Nat.lt_of_lt_of_le (h.kb k hk) hg.size, h.kg, h.kw, h.kr, h.ko, fun v hv => ?_, ?_, ?_, ?_, kI h.oo, fun j hj => ?_, fun j hj => ?_, h.ne, h.bg, ?_⟩, KpB.grown hg h.kb h.kw⟩
  · rw [happ] at hv
    rcases List.mem_or_eq_of_mem_set hv with c | c
    · exact h.lst v c
    · subst c; exact hk
  · simp only [List.length_set]
    exact h.blk.far (p := ⟨gw, i, none⟩) (blk_ne h.blk bW (by decide)) _
  · simp only [List.length_set]
    have := (h.ow.stored i u).1
    exact this
  · refine ownsRow_far h.or (fun k hk => ?_) _
    have e2 : gr = k := by simpa [Value.ownBlock] using hk
    subst e2
    exact h.ne.symm
  · have hj' : j < f.ws.length := by simpa using hj
    by_cases c : i = j
    · subst c
      refine ⟨u, by rw [List.getElem?_set_self (by omega)], ?_⟩
      simp only [List.getElem_set_self]
      exact kI hu
    · obtain ⟨z, a, b⟩ := h.iw j hj'
      refine ⟨z, by rw [List.getElem?_set_ne c]; exact a, ?_⟩
      simp only [List.getElem_set_ne c]
      exact kI b
  · obtain ⟨z, a, b⟩ := h.ir j hj
    exact ⟨z, a, kI b⟩
  · rw [happ]
    exact pw_set h.pw i u hn
/-- A repeater's list is put into its place. -/
theorem FoO.putR (h : FoO w0 K w g f gw gr go cw cr co vw vr) {i : Nat} (hi : i < f.rs.length) {u : Value} {x : List Int} (hu : OwnInts w0.heap.size w u x) (hn : ∀ j v, f.ws.length + i ≠ j → (vw ++ vr)[j]? = some v → AptF v u) (hk : ∀ k, u.ownBlock = some k → ¬ K k ∧ k ≠ go) :
    FoO w0 K (w.setCell ⟨gr, i, none⟩ u) g ⟨f.q, f.hd, f.at_, f.ws, f.rs.set i x, f.os⟩ gw gr go cw cr co vw (vr.set i u) ∧ KpB K w (w.setCell ⟨gr, i, none⟩ u) := by
  obtain ⟨⟨csw, bW⟩, hbw⟩ := own_blk h.or
  have hlw : vw.length = f.ws.length := by have := h.ow.1; omega
  have hl : vr.length = f.rs.length := by have := h.or.1; omega
  have hg := grownBy_setCell w ⟨gr, i, none⟩ u
  have kI : ∀ {z : Value} {zs : List Int}, OwnInts w0.heap.size w z zs → OwnInts w0.heap.size (w.setCell ⟨gr, i, none⟩ u) z zs := fun hz => far_blkF hz bW (by decide) i u
  have happ : vw ++ vr.set i u = (vw ++ vr).set (f.ws.length + i) u := by rw [List.set_append_right _ u (by omega), show f.ws.length + i - vw.length = i by omega]
  refine ⟨⟨h.ext0.grown hg (fun k hk => by injection hk with hk; subst hk; exact hbw), fun k hk => Nat.lt_of_lt_of_le (h.kb k hk) hg.size, h.kg, h.kw, h.kr, h.ko, fun v hv => ?_, ?_, ?_, ?_, kI h.oo, fun j hj => ?_, fun j hj => ?_, h.ne, h.bg, ?_⟩, KpB.grown hg h.kb h.kr⟩
  · rw [happ] at hv
    rcases List.mem_or_eq_of_mem_set hv with c | c
    · exact h.lst v c
    · subst c; exact hk
  · simp only [List.length_set]
    exact h.blk.far (p := ⟨gr, i, none⟩) (blk_ne h.blk bW (by decide)) _
  · refine ownsRow_far h.ow (fun k hk => ?_) _
    have e2 : gw = k := by simpa [Value.ownBlock] using hk
    subst e2
    exact h.ne
  · simp only [List.length_set]
    exact (h.or.stored i u).1
  · obtain ⟨z, a, b⟩ := h.iw j hj
    exact ⟨z, a, kI b⟩
  · have hj' : j < f.rs.length := by simpa using hj
    by_cases c : i = j
    · subst c
      refine ⟨u, by rw [List.getElem?_set_self (by omega)], ?_⟩
      simp only [List.getElem_set_self]
      exact kI hu
    · obtain ⟨z, a, b⟩ := h.ir j hj'
      refine ⟨z, by rw [List.getElem?_set_ne c]; exact a, ?_⟩
      simp only [List.getElem_set_ne c]
      exact kI b
  · rw [happ]
    exact pw_set h.pw (f.ws.length + i) u hn
/-- A wall's list grows in its own block or into a new one; it is not yet put into its place. -/
theorem FoO.grow (h : FoO w0 K w g f gw gr go cw cr co vw vr) {i : Nat} {v v' : Value} {x' : List Int} (hi : i < f.ws.length) (hv : vw[i]? = some v) (hg : w.grownBy W v.ownBlock) (ho : OwnInts w0.heap.size W v' x') (hloc : v'.ownBlock = v.ownBlock ∨ v'.ownBlock = some w.heap.size) :
    FoO w0 K (W.setCell ⟨gw, i, none⟩ v') g ⟨f.q, f.hd, f.at_, f.ws.set i x', f.rs, f.os⟩ gw gr go cw cr co (vw.set i v') vr ∧ KpB K w (W.setCell ⟨gw, i, none⟩ v') ∧ W.frozen? ⟨gw, i, none⟩ = false ∧ W.cell? ⟨gw, i, none⟩ = some v := by
  have hl : vw.length = f.ws.length := by have := h.ow.1; omega
  have hvm : v ∈ vw ++ vr := List.mem_append_left _ (List.mem_of_getElem? hv)
  obtain ⟨v0, e0, b0⟩ := h.iw i hi
  obtain rfl : v0 = v := by rw [hv] at e0; exact (Option.some.inj e0).symm
  have bF := Blk.apart h.blk b0 (by decide) hg
  have oW := World.ownsRow.kept h.ow hg (own_ne h.ow b0 (by decide))
  have oR := World.ownsRow.kept h.or hg (own_ne h.or b0 (by decide))
  obtain ⟨⟨csw, bW⟩, hbw⟩ := own_blk oW
  have kI : ∀ {z : Value} {zs : List Int}, OwnInts w0.heap.size w z zs → AptF z v0 → OwnInts w0.heap.size W z zs := fun hz ha => World.ownsRow.kept hz hg ha.ne
  have hoo : OwnInts w0.heap.size W (.slice (some ⟨go, 0, none⟩) f.os.length co) f.os := kI h.oo (fun q hq1 hq2 => by
    have e : go = q := by simpa [Value.ownBlock] using hq1
    exact (h.lst v0 hvm q hq2).2 e.symm)
  have hnew : ∀ k, v'.ownBlock = some k → ¬ K k ∧ k ≠ go := fun k hk => by
    rcases hloc with e | e
    · exact h.lst v0 hvm k (by rw [← e]; exact hk)
    · rw [e] at hk
      injection hk with hk
      subst hk
      refine ⟨fun hK => by have := h.kb _ hK; omega, fun e => ?_⟩
      obtain ⟨⟨cs, hb⟩, _⟩ := own_blk h.oo
      have := hb.lt
      omega
  have hap : ∀ j u, i ≠ j → (vw ++ vr)[j]? = some u → AptF u v' := fun j u hij hj q hq1 hq2 => by
    have hvj : (vw ++ vr)[i]? = some v0 := by rw [List.getElem?_append_left (by omega)]; exact hv
    rcases hloc with e | e
    · exact pw_ne h.pw hj hvj (fun e => hij e.symm) q hq1 (by rw [← e]; exact hq2)
    · rw [e] at hq2
      injection hq2 with hq2
      subst hq2
      obtain ⟨hjl, hje⟩ := List.getElem?_eq_some_iff.1 hj
      have hlt : ∃ ys, OwnInts w0.heap.size w u ys := by
        by_cases c : j < vw.length
        · obtain ⟨z, a, b⟩ := h.iw j (by omega)
          rw [List.getElem?_append_left c, a] at hj
          rw [← Option.some.inj hj]
          exact ⟨_, b⟩
        · have hlr := h.or.1
          obtain ⟨z, a, b⟩ := h.ir (j - vw.length) (by simp at hjl; omega)
          rw [List.getElem?_append_right (by omega), a] at hj
          rw [← Option.some.inj hj]
          exact ⟨_, b⟩
      obtain ⟨ys, hy⟩ := hlt
      have := (World.ownsRow.lt hy _ hq1).2
      omega
  have hx0 : Ext w0 W := h.ext0.grown hg (fun k hk => (World.ownsRow.lt b0 k hk).1)
  have hKw : KpB K w W := fun k hk => hg.block k (h.kb k hk) (fun e => (h.lst v0 hvm k e.symm).1 hk)
  have hg2 := grownBy_setCell W ⟨gw, i, none⟩ v'
  have kS : ∀ {z : Value} {zs : List Int}, OwnInts w0.heap.size W z zs → OwnInts w0.heap.size (W.setCell ⟨gw, i, none⟩ v') z zs := fun hz => far_blkF hz bW (by decide) i v'
  have happ : vw.set i v' ++ vr = (vw ++ vr).set i v' := by rw [List.set_append_left i v' (by omega)]
  have kbW : ∀ k, K k → k < W.heap.size := fun k hk => Nat.lt_of_lt_of_le (h.kb k hk) hg.size
  refine ⟨⟨hx0.grown hg2 (fun k hk => by injection hk with hk; subst hk; exact hbw), fun k hk => Nat.lt_of_lt_of_le (kbW k hk) hg2.size, h.kg, h.kw, h.kr, h.ko, fun u hu => ?_, ?_, ?_, ?_, kS hoo, fun j hj => ?_, fun j hj => ?_, h.ne, h.bg, ?_⟩, hKw.trans (KpB.grown hg2 kbW h.kw), bW.frozen i, ?_⟩
  · rw [happ] at hu
    rcases List.mem_or_eq_of_mem_set hu with c | c
    · exact h.lst u c
    · subst c; exact hnew
  · simp only [List.length_set]
    exact bF.far (p := ⟨gw, i, none⟩) (blk_ne bF bW (by decide)) _
  · simp only [List.length_set]
    exact (oW.stored i v').1
  · refine ownsRow_far oR (fun k hk => ?_) _
    have e2 : gr = k := by simpa [Value.ownBlock] using hk
    subst e2
    exact h.ne.symm
  · have hj' : j < f.ws.length := by simpa using hj
    by_cases c : i = j
    · subst c
      refine ⟨v', by rw [List.getElem?_set_self (by omega)], ?_⟩
      simp only [List.getElem_set_self]
      exact kS ho
    · obtain ⟨z, a, b⟩ := h.iw j hj'
      refine ⟨z, by rw [List.getElem?_set_ne c]; exact a, ?_⟩
      simp only [List.getElem_set_ne c]
      exact kS (kI b (pw_ne h.pw (i := j) (k := i) (by rw [List.getElem?_append_left (by omega)]; exact a) (by rw [List.getElem?_append_left (by omega)]; exact hv) (fun e => c e.symm)))
  · obtain ⟨z, a, b⟩ := h.ir j hj
    exact ⟨z, a, kS (kI b (pw_ne h.pw (i := vw.length + j) (k := i) (by rw [List.getElem?_append_right (by omega)]; simpa using a) (by rw [List.getElem?_append_left (by omega)]; exact hv) (by omega)))⟩
  · rw [happ]
    exact pw_set h.pw i v' hap
  · exact (own_cell oW hi).trans hv
/-- A symbol of a wall is written where it lies. -/
theorem FoO.cellW (h : FoO w0 K w g f gw gr go cw cr co vw vr) {i j : Nat} (hi : i < f.ws.length) {b n c : Nat} (hv : vw[i]? = some (.slice (some ⟨b, 0, none⟩) n c)) (hj : j < f.ws[i].length) (z : Int) :
    FoO w0 K (w.setCell ⟨b, j, none⟩ (.int .i64 z)) g ⟨f.q, f.hd, f.at_, f.ws.set i (f.ws[i].set j z), f.rs, f.os⟩ gw gr go cw cr co vw vr ∧ KpB K w (w.setCell ⟨b, j, none⟩ (.int .i64 z)) := by
  have hl : vw.length = f.ws.length := by have := h.ow.1; omega
  obtain ⟨v0, e0, b0⟩ := h.iw i hi
  obtain rfl : (.slice (some ⟨b, 0, none⟩) n c : Value) = v0 := by rw [hv] at e0; exact Option.some.inj e0
  have hvm : (.slice (some ⟨b, 0, none⟩) n c : Value) ∈ vw ++ vr := List.mem_append_left _ (List.mem_of_getElem? hv)
  have hn : n = f.ws[i].length := by
    obtain ⟨A', c', e, _⟩ := b0.ints.form
    injection e
  subst hn
  have hg := grownBy_setCell w ⟨b, j, none⟩ (.int .i64 z)
  obtain ⟨⟨csb, bB⟩, hbb⟩ := own_blk b0
  have hKb : ¬ K b ∧ b ≠ go := h.lst _ hvm b rfl
  have kI : ∀ {y : Value} {ys : List Int}, OwnInts w0.heap.size w y ys → AptF y (.slice (some ⟨b, 0, none⟩) f.ws[i].length c) → OwnInts w0.heap.size (w.setCell ⟨b, j, none⟩ (.int .i64 z)) y ys := fun hz ha => World.ownsRow.kept hz hg (.inr fun e => ha b e rfl)
  have kR : ∀ {y : Value} {m : Nat} {ys : List Value}, w.ownsRow w0.heap.size 27 1 y m ys → (w.setCell ⟨b, j, none⟩ (.int .i64 z)).ownsRow w0.heap.size 27 1 y m ys := fun hz => far_blkF hz bB (by decide) j _
  have hst : OwnInts w0.heap.size (w.setCell ⟨b, j, none⟩ (.int .i64 z)) (.slice (some ⟨b, 0, none⟩) f.ws[i].length c) (f.ws[i].set j z) := by
    have e : (ivs f.ws[i]).set j (.int .i64 z) = ivs (f.ws[i].set j z) := by simp [ivs, List.map_set]
    unfold OwnInts
    rw [← e, List.length_set]
    exact (b0.stored j (.int .i64 z)).1
  refine ⟨⟨h.ext0.grown hg (fun k hk => by injection hk with hk; subst hk; exact hbb), fun k hk => Nat.lt_of_lt_of_le (h.kb k hk) hg.size, h.kg, h.kw, h.kr, h.ko, h.lst, ?_, ?_, kR h.or, kI h.oo (fun q hq1 hq2 => hKb.2 ?_), fun k hk => ?_, fun k hk => ?_, h.ne, h.bg, h.pw⟩, KpB.grown hg h.kb hKb.1⟩
  · simp only [List.length_set]
    exact h.blk.far (p := ⟨b, j, none⟩) (blk_ne h.blk bB (by decide)) _
  · simp only [List.length_set]
    exact kR h.ow
  · have a1 : go = q := by simpa [Value.ownBlock] using hq1
    have a2 : b = q := by simpa [Value.ownBlock] using hq2
    omega
  · have hk' : k < f.ws.length := by simpa using hk
    by_cases e : i = k
    · subst e
      refine ⟨_, hv, ?_⟩
      simp only [List.getElem_set_self]
      exact hst
    · obtain ⟨y, a, d⟩ := h.iw k hk'
      refine ⟨y, a, ?_⟩
      simp only [List.getElem_set_ne e]
      exact kI d (pw_ne h.pw (i := k) (k := i) (by rw [List.getElem?_append_left (by omega)]; exact a) (by rw [List.getElem?_append_left (by omega)]; exact hv) (fun e' => e e'.symm))
  · obtain ⟨y, a, d⟩ := h.ir k hk
    exact ⟨y, a, kI d (pw_ne h.pw (i := vw.length + k) (k := i) (by rw [List.getElem?_append_right (by omega)]; simpa using a) (by rw [List.getElem?_append_left (by omega)]; exact hv) (by omega))⟩
/-- An offset is written. -/
theorem FoO.setO (h : FoO w0 K w g f gw gr go cw cr co vw vr) (i : Nat) (o : Int) :
    FoO w0 K (w.setCell ⟨go, i, none⟩ (.int .i64 o)) g ⟨f.q, f.hd, f.at_, f.ws, f.rs, f.os.set i o⟩ gw gr go cw cr co vw vr ∧ KpB K w (w.setCell ⟨go, i, none⟩ (.int .i64 o)) := by
  obtain ⟨⟨cso, bO⟩, hbo⟩ := own_blk h.oo
  have hg := grownBy_setCell w ⟨go, i, none⟩ (.int .i64 o)
  have kI : ∀ {y : Value} {ys : List Int}, OwnInts w0.heap.size w y ys → y ∈ vw ++ vr → OwnInts w0.heap.size (w.setCell ⟨go, i, none⟩ (.int .i64 o)) y ys := fun {y ys} hz hm => World.ownsRow.kept hz hg (.inr fun e => (h.lst y hm go e).2 rfl)
  have kR : ∀ {y : Value} {m : Nat} {ys : List Value}, w.ownsRow w0.heap.size 27 1 y m ys → (w.setCell ⟨go, i, none⟩ (.int .i64 o)).ownsRow w0.heap.size 27 1 y m ys := fun hz => far_blkF hz bO (by decide) i _
  refine ⟨⟨h.ext0.grown hg (fun k hk => by injection hk with hk; subst hk; exact hbo), fun k hk => Nat.lt_of_lt_of_le (h.kb k hk) hg.size, h.kg, h.kw, h.kr, h.ko, h.lst, ?_, kR h.ow, kR h.or, ?_, fun k hk => ?_, fun k hk => ?_, h.ne, h.bg, h.pw⟩, KpB.grown hg h.kb h.ko⟩
  · simp only [List.length_set]
    exact h.blk.far (p := ⟨go, i, none⟩) (blk_ne h.blk bO (by decide)) _
  · have e : (ivs f.os).set i (.int .i64 o) = ivs (f.os.set i o) := by simp [ivs, List.map_set]
    simp only [List.length_set]
    unfold OwnInts
    rw [← e, List.length_set]
    exact (h.oo.stored i (.int .i64 o)).1
  · obtain ⟨y, a, d⟩ := h.iw k hk
    exact ⟨y, a, kI d (List.mem_append_left _ (List.mem_of_getElem? a))⟩
  · obtain ⟨y, a, d⟩ := h.ir k hk
    exact ⟨y, a, kI d (List.mem_append_right _ (List.mem_of_getElem? a))⟩
/-- A list made later lies apart from all. -/
theorem FoO.fresh (h : FoO w0 K w g f gw gr go cw cr co vw vr) {u : Value} {x : List Int} (hu : OwnInts w.heap.size W u x) : (∀ v ∈ vw ++ vr, AptF v u) ∧ ∀ k, u.ownBlock = some k → ¬ K k ∧ k ≠ go := by
  refine ⟨fun v hv q h1 h2 => ?_, fun k hk => ?_⟩
  · have hlt : ∃ ys, OwnInts w0.heap.size w v ys := by
      rcases List.mem_append.1 hv with c | c
      · obtain ⟨i, hi, rfl⟩ := List.getElem_of_mem c
        obtain ⟨z, a, b⟩ := h.iw i (by have := h.ow.1; omega)
        rw [List.getElem?_eq_getElem hi] at a
        rw [Option.some.inj a]
        exact ⟨_, b⟩
      · obtain ⟨i, hi, rfl⟩ := List.getElem_of_mem c
        obtain ⟨z, a, b⟩ := h.ir i (by have := h.or.1; omega)
        rw [List.getElem?_eq_getElem hi] at a
        rw [Option.some.inj a]
        exact ⟨_, b⟩
    obtain ⟨ys, hy⟩ := hlt
    have a := (World.ownsRow.lt hy q h1).2
    have b := (World.ownsRow.lt hu q h2).1
    omega
  · have b := (World.ownsRow.lt hu k hk).1
    refine ⟨fun hK => by have := h.kb k hK; omega, fun e => ?_⟩
    obtain ⟨⟨cs, hb⟩, _⟩ := own_blk h.oo
    have := hb.lt
    omega
end
end Go.Proofs.YtojiammendjpkaaGreat
end
section
set_option linter.unusedSimpArgs false
set_option linter.unusedVariables false
namespace Go.Proofs.YtojiammendjpkaaGreat
open Go Go.RowKit Go.Proofs
set_option maxHeartbeats 400000
/-- Lists of the call's own, no two in one block. -/
def OwnListsP (base : Nat) (w : World) (v : Value) (xss : List (List Int)) : Prop := ∃ vs, w.ownsRow base 27 1 v xss.length vs ∧ (∀ i, (h : i < xss.length) → ∃ u, vs[i]? = some u ∧ OwnInts base w u xss[i]) ∧ vs.Pairwise AptF
theorem OwnListsP.snoc {base : Nat} {w w' : World} {v v' u : Value} {xss : List (List Int)} {xs : List Int} {vs : List Value} (h1 : w.ownsRow base 27 1 v xss.length vs) (h2 : ∀ i, (h : i < xss.length) → ∃ u, vs[i]? = some u ∧ OwnInts base w u xss[i])
    (hu : OwnInts base w u xs) (ho : w'.ownsRow base 27 1 v' (xss.length + 1) (vs ++ [u])) (hg : w.grownBy w' v.ownBlock) (hp : vs.Pairwise AptF) (hf : ∀ v ∈ vs, AptF v u) : OwnListsP base w' v' (xss ++ [xs]) := by
  have hl := h1.1
  have keep : ∀ {x : Value} {zs : List Int}, OwnInts base w x zs → OwnInts base w' x zs := fun hx => World.ownsRow.kept hx hg (own_ne hx h1 (by decide))
  refine ⟨vs ++ [u], by simpa using ho, fun i hi => ?_, List.pairwise_append.2 ⟨hp, List.pairwise_singleton _ _, fun a ha b hb => by rw [List.mem_singleton.1 hb]; exact hf a ha⟩⟩
  by_cases h : i < xss.length
  · obtain ⟨x, e, hx⟩ := h2 i h
    exact ⟨x, by rw [List.getElem?_append_left (by omega), e], by rw [List.getElem_append_left h]; exact keep hx⟩
  · have hie : i = xss.length := by simp at hi; omega
    subst hie
    exact ⟨u, by rw [List.getElem?_append_right (by omega)]; simp [hl], by simpa using keep hu⟩
theorem own_fresh {base : Nat} {w w' : World} {v u : Value} {xss : List (List Int)} {xs : List Int} {vs : List Value} (h1 : w.ownsRow base 27 1 v xss.length vs) (h2 : ∀ i, (h : i < xss.length) → ∃ u, vs[i]? = some u ∧ OwnInts base w u xss[i]) (hu : OwnInts w.heap.size w' u xs) : ∀ v ∈ vs, AptF v u := fun y hy q e1 e2 => by
  obtain ⟨i, hi, rfl⟩ := List.getElem_of_mem hy
  obtain ⟨z, a, b⟩ := h2 i (by have := h1.1; omega)
  rw [List.getElem?_eq_getElem hi] at a
  rw [Option.some.inj a] at e1
  have p := (World.ownsRow.lt b q e1).2
  have r := (World.ownsRow.lt hu q e2).1
  omega
set_option maxRecDepth 20000 in
set_option maxHeartbeats 4000000 in
theorem copyListsP_c (v : Value) (xss : List (List Int)) (w : World) (h : Lists w v xss) (hn : ∀ x ∈ xss, x.length ≤ 1048576) (hl : xss.length ≤ 1000) :
    Calls Tryz.prog 113 #[v] w fun e w' => ∃ u, e = .returned u ∧ OwnListsP w.heap.size w' u xss ∧ Ext w w' := by
  obtain ⟨r0i, hri, rz0, rz1, rz2⟩ := info_parts rowInfo
  obtain ⟨A, c, rfl, _, _⟩ := h.form
  have H := Lib.hid h
  obtain ⟨W, hW⟩ : ∃ W, W = w.alloc (.cells #[] 27) := ⟨_, rfl⟩
  have hX : Ext w W := by rw [hW]; exact Ext.alloc _ _
  obtain ⟨g, hg⟩ : ∃ g, w.heap.size = g := ⟨_, rfl⟩
  have o0 : OwnListsP g W (.slice (some ⟨g, 0, none⟩) 0 0) [] := ⟨[], ⟨by simp, .inr ⟨g, 0, #[], rfl, Nat.le_refl _, by rw [hW, ← hg]; exact heap_alloc_new w _, by simp, by unfold maxLen; omega, rfl, by simp⟩⟩, fun i hi => by simp at hi, List.Pairwise.nil⟩
  have HG := Lib.hid hg
  clear h
  go_enter Tryz.func113, Tryz.ntmps113
  go_wp2
  try rw [← hW]
  try rw [hg]
  clear hW hg
  go_loopw [3, 9] (fun u i wr => ∃ (k : Nat) (uv : Value), k ≤ xss.length ∧ i = .int .i64 (k : Int) ∧ uv = u ∧ OwnListsP g wr uv (xss.take k) ∧ Ext w wr) (fun _ i _ => xss.length - (intOf i).toNat)
  case atStart => exact ⟨0, _, Nat.zero_le _, rfl, rfl, o0, hX⟩
  case round =>
    clear o0 hX
    obtain ⟨k, uv, hk, rfl, rfl, ho, hx⟩ := hrel
    obtain ⟨P, hP⟩ : ∃ P, xss.take k = P := ⟨_, rfl⟩
    rw [hP] at ho
    have HP := Lib.hid hP
    have HPL : Hid (P.length = k) := Lib.hid (by rw [← hP, List.length_take]; omega)
    have hpl : P.length ≤ 1000 := by have := HPL.out; omega
    clear hP
    by_cases hlt : k < xss.length
    · have hd : decide ((k : Int) < (xss.length : Int)) = true := decide_eq_true (by omega)
      obtain ⟨b, off, u, rfl, c0, hu, hf⟩ := Lists.at H.out hlt
      have c0 := hx.cell c0
      have hu := hu.ext hx
      have hul := hn _ (List.getElem_mem hlt)
      have HT := Lib.hid (List.take_succ_eq_append_getElem hlt)
      have CL := CloneF_c u xss[k] wr hu hf hul
      obtain ⟨Au, cu, rfl, _, _⟩ := hu.form
      generalize xss[k] = x at *
      clear hu hf
      go_wp2_with fail
      refine CL.mono ?_
      rintro e w1 ⟨z, rfl, oz, _, hx1⟩
      obtain ⟨vs, p1, p2, p3⟩ := ho
      have HFR : Hid (∀ v ∈ vs, AptF v z) := Lib.hid (own_fresh p1 p2 oz)
      have HP3 := Lib.hid p3
      obtain ⟨Aw, cw, hwv, _, _, _⟩ := (ownsRow_row p1).form
      subst hwv
      have e1 := Ext.alloc w1 (.cells #[z] 27)
      have q1 := ownsRow_ext p1 (hx1.trans e1)
      have q2 : ∀ i, (h : i < P.length) → ∃ u, vs[i]? = some u ∧ OwnInts g (w1.alloc (.cells #[z] 27)) u P[i] := fun i hi => by obtain ⟨u, a, b⟩ := p2 i hi; exact ⟨u, a, ownsRow_ext b (hx1.trans e1)⟩
      have hgw : g ≤ wr.heap.size := by have := hx.size; have := HG.out; omega
      have oz2 : OwnInts g (w1.alloc (.cells #[z] 27)) z x := ownsRow_base (ownsRow_ext oz e1) hgw
      have hxx := (hx.trans hx1).trans e1
      have hszb : g ≤ (w1.alloc (.cells #[z] 27)).heap.size := by have := hxx.size; have := HG.out; omega
      obtain ⟨Az, cz, rfl, _, _, _⟩ := (ownsRow_row oz).form
      have hq1 : (w1.alloc (.cells #[.slice Az x.length cz] 27)).ownsRow g 27 1 (.slice Aw P.length cw) P.length vs := q1
      have HOZ := Lib.hid oz2
      have HQ2 := Lib.hid q2
      clear p1 p2 p3 oz oz2 q2 hx1 e1 CL
      generalize hxl : x.length = nx at *
      go_wp2_with (at_builtin; refine wpList_append_own_at _ rfl _ _ 32 rfl g 27 r0i (.slice none 0 0) 1 24 Tryz.underlying32 hri rz0 rz1 rz2 rfl (by decide) _ _ _ rfl hq1 ⟨w1.heap.size, 0, none⟩ 1 1 [.slice Az nx cz] rfl rfl (cell_one_new _ _ _) ?c2 ?c3 ?c4 ?c5 ?_)
      case c2 => intro u hu; simp at hu; subst hu; rfl
      case c3 => unfold maxLen; omega
      case c4 => omega
      case c5 => exact hszb
      intro v' w4 hown4 hg4 _ hloc
      have hx4 : Ext w w4 := hxx.grown hg4 (fun j hj => by have := (q1.lt j hj).1; have := HG.out; omega)
      have HS : Hid (OwnListsP g w4 v' (xss.take (k + 1))) := Lib.hid (by rw [HT.out, HP.out]; exact OwnListsP.snoc q1 HQ2.out HOZ.out hown4 hg4 HP3.out HFR.out)
      clear hown4 hg4 q1 hq1
      go_wp2
      go_roundw
      case rel => exact ⟨k + 1, _, by omega, by go_num, rfl, HS.out, hx4⟩
      case measure => simp [intOf]; omega
    · have hd : decide ((k : Int) < (xss.length : Int)) = false := decide_eq_false (by omega)
      have HO : Hid (OwnListsP w.heap.size wr uv xss) := Lib.hid (by have e := HP.out; rw [List.take_of_length_le (by omega)] at e; rw [HG.out, e]; exact ho)
      go_wp2
      go_ret
      exact ⟨_, rfl, HO.out, hx⟩
set_option maxRecDepth 20000 in
set_option maxHeartbeats 4000000 in
theorem copyFormulaO_c (v wv rv ov : Value) (f : FoD) (w : World) (h : FoV w v f wv rv ov) (hs : FoSmall f) :
    Calls Tryz.prog 70 #[v] w fun e w' => (∃ g gw gr go cw cr co vw vr, e = .returned (.pointer (some ⟨g, 0, none⟩)) ∧ FoO w (fun k => k < w.heap.size) w' g f gw gr go cw cr co vw vr) ∧ Ext w w' := by
  obtain ⟨rfl, h1, h2, h3, h4⟩ := h
  obtain ⟨⟨n1, n2⟩, n3, n4, n5, n6⟩ := hs
  obtain ⟨V, hV⟩ : ∃ V, V = w.alloc (.cells #[.int .i64 f.q, .int .i64 f.hd, .int .i64 f.at_, wv, rv, ov] 49) := ⟨_, rfl⟩
  obtain ⟨b, hb⟩ : ∃ b, w.heap.size = b := ⟨_, rfl⟩
  have hX : Ext w V := by rw [hV]; exact Ext.alloc _ _
  have bb : Blk V b 49 #[.int .i64 f.q, .int .i64 f.hd, .int .i64 f.at_, wv, rv, ov] := by rw [hV]; exact Blk.new _ _ _ _ hb
  have z0 : V.drew.cell? ⟨b, 0, none⟩ = some (.int .i64 f.q) := bb.cell 0
  have z1 : V.drew.cell? ⟨b, 1, none⟩ = some (.int .i64 f.hd) := bb.cell 1
  have z2 : V.drew.cell? ⟨b, 2, none⟩ = some (.int .i64 f.at_) := bb.cell 2
  have z3 : V.drew.cell? ⟨b, 3, none⟩ = some wv := bb.cell 3
  have z4 : V.drew.cell? ⟨b, 4, none⟩ = some rv := bb.cell 4
  have z5 : V.drew.cell? ⟨b, 5, none⟩ = some ov := bb.cell 5
  have hXd : Ext w V.drew := hX.trans (Ext.drew _)
  have C1 := copyListsP_c wv f.ws V.drew (h1.ext hXd) (fun x hx => by have := n5 x hx; omega) (by omega)
  have HB := Lib.hid hb
  have HN : Hid (f.ws.length = f.rs.length + 1 ∧ f.os.length = f.rs.length) := Lib.hid ⟨n3, n4⟩
  clear n3 n4
  go_enter Tryz.func70, Tryz.ntmps70
  go_wp2_with fail
  try rw [← hV]
  try rw [hb]
  clear hV hb
  refine wp_region_ordT 17 (readsT [0, 1, 2, 3, 4, 5, 6, 7, 9, 10, 12, 13] (.stir 8 (.stir 11 (.stir 14 (readsT [15] (.stir 16 .done)))))) (by kernel_rfl) (by kernel_rfl) (fun _ _ _ _ _ h => h) ?_
  simp only [readsT]
  iterate 12 (refine wpOrdT_read (v := ?_) (by rfl) (Or.inl ⟨by rfl, fun x hx => ?_⟩) ?_; rotate_left; (· have y0 := Ext.cell hx z0; have y1 := Ext.cell hx z1; have y2 := Ext.cell hx z2; have y3 := Ext.cell hx z3; have y4 := Ext.cell hx z4; have y5 := Ext.cell hx z5; go_simp; try with_reducible rfl); try simp only [Act.put, List.setIfInBounds_toArray, List.set_cons_zero, List.set_cons_succ])
  refine wpOrdT_stir (by rfl) (fun K hK => ?_)
  go_simp
  go_at_call 113
  refine C1.mono ?_
  rintro e w1 ⟨u1, rfl, o1, hx1⟩
  refine hK _ _ hx1 ?_
  clear hK K C1
  try simp only [Act.put, List.setIfInBounds_toArray, List.set_cons_zero, List.set_cons_succ]
  have C2 := copyListsP_c rv f.rs w1 (h2.ext (hXd.trans hx1)) (fun x hx => by have := n6 x hx; omega) (by omega)
  refine wpOrdT_stir (by rfl) (fun K hK => ?_)
  go_simp
  go_at_call 113
  refine C2.mono ?_
  rintro e w2 ⟨u2, rfl, o2, hx2⟩
  refine hK _ _ hx2 ?_
  clear hK K C2
  try simp only [Act.put, List.setIfInBounds_toArray, List.set_cons_zero, List.set_cons_succ]
  have C3 := CloneF_c ov f.os w2 (h3.ext ((hXd.trans hx1).trans hx2)) h4 (by have := HN.out; omega)
  refine wpOrdT_stir (by rfl) (fun K hK => ?_)
  go_simp
  go_at_call 92
  refine C3.mono ?_
  rintro e w3 ⟨u3, rfl, o3, _, hx3⟩
  refine hK _ _ hx3 ?_
  clear hK K C3
  try simp only [Act.put, List.setIfInBounds_toArray, List.set_cons_zero, List.set_cons_succ]
  have hxd1 := hXd.trans hx1
  obtain ⟨vw, a1, a2, a3⟩ := o1
  obtain ⟨vr, b1, b2, b3⟩ := o2
  obtain ⟨gw, cw, rfl⟩ := own_some a1 (by have := HN.out; omega)
  obtain ⟨gr, cr, rfl⟩ := own_some b1 (by omega)
  obtain ⟨go, co, rfl⟩ := own_some o3 (by have := HN.out; omega)
  refine wpOrdT_read (v := ?_) (by rfl) (Or.inl ⟨by rfl, fun x hx => ?_⟩) ?_; rotate_left; (· go_simp; try with_reducible rfl); try simp only [Act.put, List.setIfInBounds_toArray, List.set_cons_zero, List.set_cons_succ]
  have s0 : w.heap.size ≤ V.drew.heap.size := hXd.size
  have s1 := hx1.size
  have s2 := hx2.size
  have s3 := hx3.size
  have l1 : gw < w1.heap.size := (World.ownsRow.lt a1 gw rfl).2
  have l2 := World.ownsRow.lt b1 gr rfl
  have l3 := World.ownsRow.lt o3 go rfl
  have hxa := ((hx2.trans hx3))
  obtain ⟨g, hg⟩ : ∃ g, w3.heap.size = g := ⟨_, rfl⟩
  obtain ⟨W3, hW3⟩ : ∃ W, W = w3.alloc (.cells #[.int .i64 f.q, .int .i64 f.hd, .int .i64 f.at_, .slice (some ⟨gw, 0, none⟩) f.ws.length cw, .slice (some ⟨gr, 0, none⟩) f.rs.length cr, .slice (some ⟨go, 0, none⟩) f.os.length co] 49) := ⟨_, rfl⟩
  have e3 : Ext w3 W3 := by rw [hW3]; exact Ext.alloc _ _
  have fw : ∀ v ∈ vw, ∀ k, v.ownBlock = some k → V.drew.heap.size ≤ k ∧ k < w1.heap.size := fun v hv k hk => by
    obtain ⟨i, hi, rfl⟩ := List.getElem_of_mem hv
    obtain ⟨u, p, o⟩ := a2 i (by have := a1.1; omega)
    rw [List.getElem?_eq_getElem hi] at p
    rw [Option.some.inj p] at hk
    exact World.ownsRow.lt o k hk
  have fr : ∀ v ∈ vr, ∀ k, v.ownBlock = some k → w1.heap.size ≤ k ∧ k < w2.heap.size := fun v hv k hk => by
    obtain ⟨i, hi, rfl⟩ := List.getElem_of_mem hv
    obtain ⟨u, p, o⟩ := b2 i (by have := b1.1; omega)
    rw [List.getElem?_eq_getElem hi] at p
    rw [Option.some.inj p] at hk
    exact World.ownsRow.lt o k hk
  have hgwb : V.drew.heap.size ≤ gw := (World.ownsRow.lt a1 gw rfl).1
  have HF : Hid (FoO w (fun k => k < w.heap.size) W3 g f gw gr go cw cr co vw vr) := Lib.hid
    ⟨(hxd1.trans hxa).trans e3, fun k hk => by have := ((hxd1.trans hxa).trans e3).size; omega, by show ¬ g < w.heap.size; omega, by show ¬ gw < w.heap.size; omega, by show ¬ gr < w.heap.size; omega, by show ¬ go < w.heap.size; omega,
      fun v hv k hk => by
        rcases List.mem_append.1 hv with c | c
        · have := fw v c k hk; exact ⟨by show ¬ k < w.heap.size; omega, by omega⟩
        · have := fr v c k hk; exact ⟨by show ¬ k < w.heap.size; omega, by omega⟩,
      by rw [hW3]; exact Blk.new _ _ _ _ hg, ownsRow_base (ownsRow_ext a1 (hxa.trans e3)) s0, ownsRow_base (ownsRow_ext b1 (hx3.trans e3)) (by omega), ownsRow_base (ownsRow_ext o3 e3) (by omega),
      fun i hi => by obtain ⟨u, p, o⟩ := a2 i hi; exact ⟨u, p, ownsRow_base (ownsRow_ext o (hxa.trans e3)) s0⟩, fun i hi => by obtain ⟨u, p, o⟩ := b2 i hi; exact ⟨u, p, ownsRow_base (ownsRow_ext o (hx3.trans e3)) (by omega)⟩, by omega, by omega,
      List.pairwise_append.2 ⟨a3, b3, fun u hu v hv k h1 h2 => by have p := fw u hu k h1; have q := fr v hv k h2; omega⟩⟩
  have HXX : Hid (Ext w W3) := Lib.hid ((hxd1.trans hxa).trans e3)
  clear fw fr hgwb a1 a2 a3 b1 b2 b3 o3 l1 l2 l3 s0 s1 s2 s3 hxa e3
  refine wpOrdT_stir (by rfl) (fun K hK => ?_)
  go_simp
  try rw [← hW3]
  try rw [hg]
  refine hK _ _ (by rw [hW3]; exact Ext.alloc _ _) ?_
  clear hK K
  try simp only [Act.put, List.setIfInBounds_toArray, List.set_cons_zero, List.set_cons_succ]
  refine wpOrdT_done ?_
  try simp only [List.drop_succ_cons, List.drop_zero]
  clear hW3 hg
  go_wp2
  go_ret
  exact ⟨⟨g, gw, gr, go, cw, cr, co, vw, vr, rfl, HF.out⟩, HXX.out⟩
end Go.Proofs.YtojiammendjpkaaGreat
end
section
set_option linter.unusedSimpArgs false
set_option linter.unusedVariables false
namespace Go.Proofs.YtojiammendjpkaaGreat
open Go Go.RowKit Go.Proofs
set_option maxHeartbeats 400000
theorem rule_idx {m : MachD} (hm : machOk m = true) {q z : Int} (hq : 0 ≤ q ∧ q < m.st) (hz : 0 ≤ z ∧ z < m.sy) : ∃ (k : Nat) (h : k < m.rules.length), q * m.sy + z = (k : Int) ∧ q * m.sy = (k : Int) - z ∧ ruleL m q z = m.rules[k] ∧ 0 ≤ q * m.sy ∧ q * m.sy ≤ 1000000 := by
  obtain ⟨⟨s1, s2, t1, t2⟩, hl, _⟩ := machOk_five hm
  have e1 := Int.mul_nonneg hq.1 (show 0 ≤ m.sy by omega)
  have e2 : q * m.sy + m.sy ≤ m.st * m.sy := by
    have := Int.mul_le_mul_of_nonneg_right (show q + 1 ≤ m.st from hq.2) (show 0 ≤ m.sy by omega)
    rw [Int.add_mul, Int.one_mul] at this
    exact this
  have e3 : m.st * m.sy ≤ 1000 * 6 := Int.mul_le_mul t2 s2 (by omega) (by omega)
  rw [Int.mul_comm] at hl
  refine ⟨(q * m.sy + z).toNat, by omega, by omega, by omega, ?_, e1, by omega⟩
  unfold ruleL
  exact getD_get (by omega)
theorem rule_parts {m : MachD} (hm : machOk m = true) {k : Nat} (h : k < m.rules.length) (hr : ¬ m.rules[k] = noR) : (0 ≤ m.rules[k].w ∧ m.rules[k].w < m.sy) ∧ (m.rules[k].m = 1 ∨ m.rules[k].m = -1) ∧ (0 ≤ m.rules[k].n ∧ m.rules[k].n < m.st) := by
  obtain ⟨_, _, hall⟩ := machOk_five hm
  have hq := hall _ (List.getElem_mem h)
  simp only [ruleOk, hr, decide_false, Bool.false_or, Bool.and_eq_true, Bool.or_eq_true, beq_iff_eq] at hq
  obtain ⟨⟨a, b⟩, c⟩ := hq
  have a := inB_iff.1 a
  have c := inB_iff.1 c
  exact ⟨by omega, b, by omega⟩
theorem isR_iff (a b c : Int) : isR ⟨a, b, c⟩ = !decide ((⟨a, b, c⟩ : RuleD) = noR) := by
  unfold isR
  simp [rEq]
/-- What the run over a word returns. -/
def ShRes (w : World) (R : Option (List Int)) (e : Ending) (w' : World) : Prop :=
  ((∃ o u k, R = some o ∧ e = .returned (.tuple #[u, .int .i64 k, .int .i64 0]) ∧ OwnInts w.heap.size w' u o) ∨ (∃ c, R = none ∧ e = .returned (.tuple #[.slice none 0 0, .int .i64 0, .int .i64 c]) ∧ (c = 6 ∨ c = 3))) ∧ Ext w w'
theorem set_in {xs : List Int} {P : Int → Prop} (h : ∀ z ∈ xs, P z) (i : Nat) {x : Int} (hx : P x) : ∀ z ∈ xs.set i x, P z := fun z hz => by
  rcases List.mem_or_eq_of_mem_set hz with c | c
  · exact h z c
  · rw [c]; exact hx
set_option maxRecDepth 20000 in
set_option maxHeartbeats 8000000 in
theorem shiftOver_c (m : MachD) (mv v : Value) (q side : Int) (xs : List Int) (w : World) (hM : Rules w mv m.rules) (hv : Ints w v xs) (hf : Flat v) (hm : machOk m = true) (hq : 0 ≤ q ∧ q < m.st) (hx : ∀ z ∈ xs, 0 ≤ z ∧ z < m.sy) (hl : 1 ≤ xs.length ∧ xs.length ≤ 1000) (hs : side = 1 ∨ side = -1) :
    Calls Tryz.prog 127 #[.agg #[.int .i64 m.sy, .int .i64 m.st, mv], .int .i64 q, v, .int .i64 side] w (ShRes w (shF m q xs side)) := by
  obtain ⟨y1, y2, t1, t2⟩ := (machOk_five hm).1
  obtain ⟨Ar, cr, rfl, _, _⟩ := hM.form
  obtain ⟨Av, cv, rfl, _, _⟩ := hv.form
  obtain ⟨V, hV⟩ : ∃ V, V = w.alloc (.cells #[.int .i64 m.sy, .int .i64 m.st, .slice Ar m.rules.length cr] 26) := ⟨_, rfl⟩
  obtain ⟨g, hg⟩ : ∃ g, w.heap.size = g := ⟨_, rfl⟩
  have hX : Ext w V := by rw [hV]; exact Ext.alloc _ _
  have bm : Blk V g 26 #[.int .i64 m.sy, .int .i64 m.st, .slice Ar m.rules.length cr] := by rw [hV]; exact Blk.new _ _ _ _ hg
  have CL := CloneF_c _ xs V (hv.ext hX) hf (by omega)
  have HM := Lib.hid (And.intro hm (hM.ext hX))
  have HX := Lib.hid hX
  have HQ := Lib.hid hq
  have HXX := Lib.hid hx
  have HG := Lib.hid hg
  have hln : ¬ xs.length = 0 := by omega
  clear hM hv hf hm hX hq hx
  go_enter Tryz.func127, Tryz.ntmps127
  go_wp2_with fail
  try rw [← hV]
  try rw [hg]
  clear hV hg
  refine CL.mono ?_
  rintro e w1 ⟨u, rfl, ou, _, hx1⟩
  obtain ⟨Au, cu, rfl, _, _⟩ := ou.ints.form
  have HO := Lib.hid ou
  have bm1 := bm.ext hx1
  have HX1 := Lib.hid (HX.out.trans hx1)
  have bm1x := Lib.hid bm
  have HGV : Hid (w.heap.size ≤ V.heap.size) := Lib.hid HX.out.size
  have HV1 := Lib.hid hx1
  obtain ⟨a0, ha0⟩ : ∃ a0 : Int, a0 = (if side = -1 then (xs.length : Int) - 1 else 0) := ⟨_, rfl⟩
  have HA0 := Lib.hid ha0
  have ha0b : 0 ≤ a0 ∧ a0 < xs.length := by rw [ha0]; split <;> omega
  have hw1 : IntKind.i64.wrap ((xs.length : Int) - 1) = (xs.length : Int) - 1 := IntWalk.i64_in _ (by omega)
  clear CL ou hx1 bm ha0
  go_upto_if 20 with fail
  go_cut [12] (fun u wx => u = .int .i64 a0 ∧ w1 = wx)
  case first =>
    rcases hs with rfl | rfl
    · have : a0 = 0 := by rw [HA0.out]; rfl
      subst this
      go_wp2_with fail
      go_meet
      exact ⟨rfl, rfl⟩
    · have : a0 = (xs.length : Int) - 1 := by rw [HA0.out]; rfl
      subst this
      go_wp2_with fail
      refine (sizeIN_c _ _ _ _).mono ?_
      rintro e w2 ⟨rfl, rfl⟩
      go_wp2_with fail
      go_meet
      exact ⟨rfl, rfl⟩
  case rest =>
    obtain ⟨rfl, rfl⟩ := hcut
    have hq' := HQ.out
    go_wp2_with fail
    go_loopw [12, 13, 14] (fun u1 u2 u3 wr => ∃ (k : Nat) (out : List Int) (a qq : Int), k ≤ 200 ∧ u1 = .int .i64 a ∧ u2 = .int .i64 qq ∧ u3 = .int .i64 (k : Int) ∧ (0 ≤ a ∧ a < xs.length) ∧ Hid (out.length = xs.length) ∧ Hid (wr.ownsRow V.heap.size 2 1 (.slice Au xs.length cu) xs.length (ivs out)) ∧ Hid (∀ z ∈ out, 0 ≤ z ∧ z < m.sy) ∧ (0 ≤ qq ∧ qq < m.st) ∧ Hid (Ext V wr) ∧ Hid (shR m q side (200 - k) out a qq = shF m q xs side)) (fun _ _ u _ => 200 - (intOf u).toNat)
    case atStart => exact ⟨0, xs, a0, q, Nat.zero_le _, rfl, rfl, rfl, ha0b, Lib.hid rfl, HO, HXX, hq', HV1, Lib.hid (by unfold shF; rw [← HA0.out])⟩
    case round =>
      clear ha0b
      obtain ⟨k, out, a, qq, hk, rfl, rfl, rfl, hab, HL, HOW, HIN, hqq, HXR, HR⟩ := hrel
      by_cases hlt : k < 200
      · have hd : decide ((k : Int) < 200) = true := decide_eq_true (by omega)
        have hd2 : decide (k < 200) = true := decide_eq_true hlt
        obtain ⟨j, hj⟩ : ∃ j : Nat, a = j := Int.eq_ofNat_of_zero_le hab.1
        subst hj
        have hjl : j < out.length := by rw [HL.out]; omega
        have hz := HIN.out _ (List.getElem_mem hjl)
        obtain ⟨z, hzz⟩ : ∃ z, out[j] = z := ⟨_, rfl⟩
        rw [hzz] at hz
        obtain ⟨i, hil, hi1, hi2, hi3, hi4, hi5⟩ := rule_idx HM.out.1 hqq hz
        have hru := HM.out.2
        obtain ⟨b', off, hAr, hc⟩ := hru.at hil
        subst hAr
        obtain ⟨r0, r1, r2⟩ := hc i hil
        obtain ⟨ru, hruu⟩ : ∃ ru, m.rules[i] = ru := ⟨_, rfl⟩
        rw [hruu] at r0 r1 r2 hi3
        obtain ⟨bo, cu', hAu⟩ := own_some HOW.out (by omega)
        injection hAu with hAu _ hcu
        subst hAu hcu
        have co := own_cell HOW.out (show j < xs.length by omega)
        have hbo := (own_blk HOW.out).2
        have mm : Blk wr g 26 #[.int .i64 m.sy, .int .i64 m.st, .slice (some ⟨b', off, none⟩) m.rules.length cr] := bm1x.out.ext HXR.out
        have z0 : wr.drew.cell? ⟨g, 0, none⟩ = some (.int .i64 m.sy) := mm.cell 0
        have z2 : wr.drew.cell? ⟨g, 2, none⟩ = some (.slice (some ⟨b', off, none⟩) m.rules.length cr) := mm.cell 2
        have zc : wr.drew.cell? ⟨bo, j, none⟩ = some (.int .i64 z) := by
          have := co
          rw [ivs_get _ j hjl, hzz] at this
          exact this
        have x0 : wr.drew.cell? ⟨b', off + i * 3, none⟩ = some (.int .i64 ru.w) := HXR.out.cell r0
        have x1 : wr.drew.cell? ⟨b', off + i * 3 + 1, none⟩ = some (.int .i64 ru.m) := HXR.out.cell r1
        have x2 : wr.drew.cell? ⟨b', off + i * 3 + 2, none⟩ = some (.int .i64 ru.n) := HXR.out.cell r2
        have hwm : IntKind.i64.wrap (qq * m.sy) = qq * m.sy := IntWalk.i64_in _ (by omega)
        have hwa : IntKind.i64.wrap (qq * m.sy + z) = (i : Int) := by rw [hi1]; exact IntWalk.i64_in _ (by omega)
        have hii : i < m.rules.length := hil
        clear hi1
        clear co hc hi2 hru r0 r1 r2 mm
        go_wp2_with fail
        refine wp_region_ordT 14 (readsT [0, 1, 2, 3, 4, 5, 6, 7, 8, 9, 10, 11, 12] (.stir 13 .done)) (by kernel_rfl) (by kernel_rfl) (fun _ _ _ _ _ h => h) ?_
        simp only [readsT]
        iterate 13 (refine wpOrdT_read (v := ?_) (by rfl) (Or.inl ⟨by rfl, fun x hx => ?_⟩) ?_; rotate_left; (· have y0 := Ext.cell hx z0; have y2 := Ext.cell hx z2; have yc := Ext.cell hx zc; have q0 := Ext.cell hx x0; have q1 := Ext.cell hx x1; have q2 := Ext.cell hx x2; go_simp; try first | with_reducible rfl | (rw [hwm]; try with_reducible rfl) | (rw [hwa]; try with_reducible rfl) | (rw [if_pos (by omega)]; try with_reducible rfl)); try simp only [Act.put, List.setIfInBounds_toArray, List.set_cons_zero, List.set_cons_succ])
        clear z0 z2 zc x0 x1 x2 hwm hwa
        refine wpOrdT_stir (by rfl) (fun K hK => ?_)
        go_simp
        refine hK _ _ (Ext.alloc _ _) ?_
        clear hK K
        try simp only [Act.put, List.setIfInBounds_toArray, List.set_cons_zero, List.set_cons_succ]
        refine wpOrdT_done ?_
        try simp only [List.drop_succ_cons, List.drop_zero]
        obtain ⟨W2, hW2⟩ : ∃ W, W = (wr.drew.alloc (.cells #[.int .i64 ru.w, .int .i64 ru.m, .int .i64 ru.n] 76)) := ⟨_, rfl⟩
        obtain ⟨gq, hgq⟩ : ∃ g, wr.heap.size = g := ⟨_, rfl⟩
        have eX2 : Ext wr W2 := by rw [hW2]; exact (Ext.drew wr).trans (Ext.alloc _ _)
        have bR : Blk W2 gq 76 #[.int .i64 ru.w, .int .i64 ru.m, .int .i64 ru.n] := by rw [hW2]; exact Blk.new _ _ _ _ (by rw [← hgq]; simp)
        have oW2 := ownsRow_ext HOW.out eX2
        have xV2 := HXR.out.trans eX2
        go_wp2_with fail
        rw [show (wr.alloc (.cells #[.int .i64 ru.w, .int .i64 ru.m, .int .i64 ru.n] 76)).drew = W2 by rw [hW2]; rfl]
        try rw [hgq]
        clear hW2 hgq
        refine (isRule_c ru.w ru.m ru.n W2).mono ?_
        rintro e w3 ⟨rfl, hx3⟩
        obtain ⟨d, hd200⟩ : ∃ d, 200 - k = d + 1 := ⟨199 - k, by omega⟩
        have HRR : Hid (shR m q side (d + 1) out (j : Int) qq = shF m q xs side) := Lib.hid (by rw [← hd200]; exact HR.out)
        have hru0 : ruleL m qq (out.getD (j : Int).toNat 0) = ru := by rw [Int.toNat_natCast, getD_get hjl, hzz, hi3]
        by_cases hr : ru = noR
        · have hb : isR ⟨ru.w, ru.m, ru.n⟩ = false := by rw [isR_iff]; simp [hr]
          have hno : shF m q xs side = none := by rw [← HRR.out]; unfold shR; rw [hru0, if_pos hr]
          rw [hb]
          go_wp2
          refine bodyPost_ret (v := .tuple #[.slice none 0 0, .int .i64 0, .int .i64 6]) (by simp [results, Tryz.results127, go_sem]) rfl ?_
          exact ⟨.inr ⟨6, hno, rfl, .inl rfl⟩, (HX.out.trans xV2).trans hx3⟩
        · have hb : isR ⟨ru.w, ru.m, ru.n⟩ = true := by rw [isR_iff]; simp [hr]
          rw [hb]
          have hpr := rule_parts HM.out.1 hil (by rw [hruu]; exact hr)
          rw [hruu] at hpr
          obtain ⟨pw1, pm, pn⟩ := hpr
          have bR3 := bR.ext hx3
          have oW3 := ownsRow_ext oW2 hx3
          have xV3 := xV2.trans hx3
          have y0 := bR3.cell 0
          have y1' := bR3.cell 1
          have y2' := bR3.cell 2
          simp only [List.getElem?_toArray, List.getElem?_cons_zero, List.getElem?_cons_succ] at y0 y1' y2'
          have hjx : j < xs.length := by omega
          have cj := own_cell oW3 hjx
          rw [ivs_get _ j hjl, hzz] at cj
          have fj := oW3.frozenAt j
          have hst := (oW3.stored j (.int .i64 ru.w)).1
          have eiv : (ivs out).set j (.int .i64 ru.w) = ivs (out.set j ru.w) := by simp [ivs, List.map_set]
          rw [eiv] at hst
          have xV4 := xV3.setCell (p := ⟨bo, j, none⟩) hbo (.int .i64 ru.w)
          have bR4 := bR3.far (p := ⟨bo, j, none⟩) (fun e => by
            obtain ⟨⟨cs, hb⟩, _⟩ := own_blk oW3
            exact blk_ne bR3 hb (by decide) e) (.int .i64 ru.w)
          have HSH : Hid (shF m q xs side = if inB ((j : Int) + ru.m) 0 ((xs.length : Int) - 1) = true then shR m q side d (out.set j ru.w) ((j : Int) + ru.m) ru.n else if ru.m = side ∧ ru.n = q then some (out.set j ru.w) else none) := Lib.hid (by
            rw [← HRR.out]
            conv => lhs; unfold shR
            rw [hru0, if_neg hr, HL.out, Int.toNat_natCast])
          have HOS : Hid ((out.set j ru.w).length = xs.length) := Lib.hid (by rw [List.length_set]; exact HL.out)
          have HIN2 : Hid (∀ z ∈ out.set j ru.w, 0 ≤ z ∧ z < m.sy) := Lib.hid (set_in HIN.out j pw1)
          have HW4 := Lib.hid (And.intro hst (And.intro xV4 bR4))
          clear bR oW2 xV2 hx3 bR3 oW3 xV3 hst eiv xV4 bR4 HR HRR hru0 hi3 hzz hruu
          go_upto_region 11 with fail
          obtain ⟨W4, hW4⟩ : ∃ W, w3.setCell ⟨bo, j, none⟩ (.int .i64 ru.w) = W := ⟨_, rfl⟩
          rw [hW4] at HW4
          try rw [hW4]
          clear hW4 cj fj y0 y1' y2'
          have z1 : W4.drew.cell? ⟨gq, 1, none⟩ = some (.int .i64 ru.m) := HW4.out.2.2.cell 1
          have z2 : W4.drew.cell? ⟨gq, 2, none⟩ = some (.int .i64 ru.n) := HW4.out.2.2.cell 2
          have hwa : IntKind.i64.wrap ((j : Int) + ru.m) = (j : Int) + ru.m := IntWalk.i64_in _ (by omega)
          refine wp_region_ordT 7 (readsT [0, 1, 2, 3, 4, 5, 6] .done) (by kernel_rfl) (by kernel_rfl) (fun _ _ _ _ _ h => h) ?_
          simp only [readsT]
          iterate 7 (refine wpOrdT_read (v := ?_) (by rfl) (Or.inl ⟨by rfl, fun x hx => ?_⟩) ?_; rotate_left; (· have y0 := Ext.cell hx z1; have y2 := Ext.cell hx z2; go_simp; try first | with_reducible rfl | (rw [hwa]; try with_reducible rfl)); try simp only [Act.put, List.setIfInBounds_toArray, List.set_cons_zero, List.set_cons_succ])
          refine wpOrdT_done ?_
          try simp only [List.drop_succ_cons, List.drop_zero]
          obtain ⟨o4, x4, b4⟩ := HW4.out
          have o5 := ownsRow_ext o4 (Ext.drew W4)
          have x5 := x4.trans (Ext.drew W4)
          have b5 := b4.ext (Ext.drew W4)
          have H5 := Lib.hid (And.intro o5 x5)
          have e1 := b5.cell 1
          simp only [List.getElem?_toArray, List.getElem?_cons_zero, List.getElem?_cons_succ] at e1
          clear HW4 o4 x4 b4 o5 x5 b5 z1 z2
          go_wp2_with fail
          obtain ⟨W5, hW5⟩ : ∃ W, W4.drew = W := ⟨_, rfl⟩
          rw [hW5] at H5 e1
          try rw [hW5]
          clear hW5
          refine (sizeIN_c _ _ _ _).mono ?_
          rintro e w6 ⟨rfl, rfl⟩
          go_wp2_with fail
          refine (within_c _ _ _ _).mono ?_
          rintro e w7 ⟨rfl, rfl⟩
          obtain ⟨bb, hbb⟩ : ∃ bb, inB ((j : Int) + ru.m) 0 ((xs.length : Int) - 1) = bb := ⟨_, rfl⟩
          rw [hbb]
          cases bb with
          | true =>
            have hin := inB_iff.1 hbb
            have hRR : shR m q side d (out.set j ru.w) ((j : Int) + ru.m) ru.n = shF m q xs side := by rw [HSH.out, if_pos hbb]
            have HRN : Hid (shR m q side (200 - (k + 1)) (out.set j ru.w) ((j : Int) + ru.m) ru.n = shF m q xs side) := Lib.hid (by rw [show 200 - (k + 1) = d by omega]; exact hRR)
            have hw9 : IntKind.i64.wrap ((k : Int) + 1) = ((k + 1 : Nat) : Int) := by rw [show (k : Int) + 1 = ((k + 1 : Nat) : Int) by omega]; exact IntWalk.i64_in _ (by omega)
            clear hRR HSH hbb
            go_wp2
            go_roundw
            case rel => exact ⟨k + 1, _, _, _, by omega, rfl, rfl, by go_num, by omega, HOS, Lib.hid H5.out.1, HIN2, pn, Lib.hid H5.out.2, HRN⟩
            case measure => simp [intOf]; omega
          | false =>
            by_cases hc : ru.m = side ∧ ru.n = q
            · have hR1 : shF m q xs side = some (out.set j ru.w) := by rw [HSH.out, if_neg (by rw [hbb]; decide), if_pos hc]
              have n1 : (ru.m != side) = false := by simp [hc.1]
              have n2 : (ru.n != q) = false := by simp [hc.2]
              have hw9 : IntKind.i64.wrap ((k : Int) + 1) = ((k + 1 : Nat) : Int) := by rw [show (k : Int) + 1 = ((k + 1 : Nat) : Int) by omega]; exact IntWalk.i64_in _ (by omega)
              have HRR := Lib.hid hR1
              clear hR1 hbb HSH hc
              go_wp2
              refine bodyPost_ret (v := .tuple #[.slice (some ⟨bo, 0, none⟩) xs.length cu, .int .i64 ((k + 1 : Nat) : Int), .int .i64 0]) (by simp [results, Tryz.results127, go_sem]) rfl ?_
              refine ⟨.inl ⟨_, _, _, HRR.out, rfl, ?_⟩, HX.out.trans H5.out.2⟩
              unfold OwnInts
              rw [HOS.out]
              exact ownsRow_base H5.out.1 HGV.out
            · have hR1 : shF m q xs side = none := by rw [HSH.out, if_neg (by rw [hbb]; decide), if_neg hc]
              have HRR := Lib.hid hR1
              by_cases h1 : ru.m = side
              · have h2 : ¬ ru.n = q := fun e => hc ⟨h1, e⟩
                have n1 : (ru.m != side) = false := by simp [h1]
                have n2 : (ru.n != q) = true := by simp [h2]
                clear hR1 hbb HSH hc h1 h2
                go_wp2
                refine bodyPost_ret (v := .tuple #[.slice none 0 0, .int .i64 0, .int .i64 3]) (by simp [results, Tryz.results127, go_sem]) rfl ?_
                exact ⟨.inr ⟨3, HRR.out, rfl, .inr rfl⟩, HX.out.trans H5.out.2⟩
              · have n1 : (ru.m != side) = true := by simp [h1]
                clear hR1 hbb HSH hc h1
                go_wp2
                refine bodyPost_ret (v := .tuple #[.slice none 0 0, .int .i64 0, .int .i64 3]) (by simp [results, Tryz.results127, go_sem]) rfl ?_
                exact ⟨.inr ⟨3, HRR.out, rfl, .inr rfl⟩, HX.out.trans H5.out.2⟩
      · have hke : k = 200 := by omega
        subst hke
        have hno : shF m q xs side = none := by rw [← HR.out]; rfl
        go_wp2
        refine bodyPost_ret (v := .tuple #[.slice none 0 0, .int .i64 0, .int .i64 3]) (by simp [results, Tryz.results127, go_sem]) rfl ?_
        exact ⟨.inr ⟨3, hno, rfl, .inr rfl⟩, HX.out.trans HXR.out⟩
end Go.Proofs.YtojiammendjpkaaGreat
end
