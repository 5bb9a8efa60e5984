/- How formula tapes lie in memory.
Contracts: copies of lists and of formula tapes.
Contract: the copy of a formula tape. -/
import Derived.Test.YtojiammendjpkaaGreatB15
import Derived.Test.YtojiammendjpkaaGreatB11
import Derived.Test.YtojiammendjpkaaGreatB12
import Derived.Test.YtojiammendjpkaaGreatB04
import Derived.Test.YtojiammendjpkaaGreatB10
import Derived.Deep.DeepCutAuto
import Derived.Test.YtojiammendjpkaaGreatB08
section
set_option linter.unusedSimpArgs false
set_option linter.unusedVariables false
namespace Go.Proofs.YtojiammendjpkaaGreat
open Go Go.RowKit Go.Proofs
/-- A list of numbers in a block of numbers that is not the block go. -/
structure IL (w : World) (go : Nat) (u : Value) (xs : List Int) : Prop where
  ints : Ints w u xs
  flat : Flat u
  blk : ∀ b, u.ownBlock = some b → b ≠ go ∧ ∃ cs, Blk w b 2 cs
theorem IL.ext {w w' : World} {go : Nat} {u : Value} {xs : List Int} (h : IL w go u xs) (he : Ext w w') : IL w' go u xs :=
  ⟨h.ints.ext he, h.flat, fun b hb => by obtain ⟨a, cs, c⟩ := h.blk b hb; exact ⟨a, cs, c.ext he⟩⟩
theorem IL.set {w : World} {go : Nat} {u : Value} {xs : List Int} (h : IL w go u xs) {g : Nat} {t : TypeId} {cs : Array Value} (hb : Blk w g t cs) (ht : t ≠ 2) (i : Nat) (x : Value) : IL (w.setCell ⟨g, i, none⟩ x) go u xs := by
  have ne : ∀ b, u.ownBlock = some b → b ≠ g := fun b hu e => by
    obtain ⟨_, cs', hc⟩ := h.blk b hu
    subst e
    exact ht (blk_type hb hc)
  exact ⟨Row.far h.ints (p := ⟨g, i, none⟩) ne x, h.flat, fun b hu => by
    obtain ⟨a, cs', hc⟩ := h.blk b hu
    exact ⟨a, cs', hc.far (p := ⟨g, i, none⟩) (ne b hu) x⟩⟩
theorem IL.setO {w : World} {go : Nat} {u : Value} {xs : List Int} (h : IL w go u xs) (i : Nat) (x : Value) : IL (w.setCell ⟨go, i, none⟩ x) go u xs :=
  ⟨Row.far h.ints (p := ⟨go, i, none⟩) (fun b hu => (h.blk b hu).1) x, h.flat, fun b hu => by
    obtain ⟨a, cs', hc⟩ := h.blk b hu
    exact ⟨a, cs', hc.far (p := ⟨go, i, none⟩) a x⟩⟩
theorem IL.own {w : World} {go base : Nat} {u : Value} {xs : List Int} (h : OwnInts base w u xs) (hg : go < base) : IL w go u xs := by
  refine ⟨h.ints, h.flat, fun b hb => ?_⟩
  have h1 := h.lt b hb
  refine ⟨by omega, ?_⟩
  rcases h.2 with ⟨rfl, _⟩ | ⟨g, cap, cur, rfl, _, hh, _⟩
  · simp [Value.ownBlock] at hb
  · have e : g = b := by simpa [Value.ownBlock] using hb
    subst e
    exact ⟨cur, hh⟩
/-- A part of such a list. -/
theorem IL.take {w : World} {go c n : Nat} {A : Option Addr} {xs : List Int} (h : IL w go (.slice A n c) xs) {k : Nat} (hk : k ≤ xs.length) : IL w go (.slice A k c) (xs.take k) := by
  obtain ⟨A', c', e, _, _⟩ := h.ints.form
  injection e with e1 e2 e3
  subst e1 e2 e3
  refine ⟨Ints.take h.ints k hk, ?_, fun b hb => h.blk b (by cases A with | none => simp [Value.ownBlock] at hb | some p => simpa [Value.ownBlock] using hb)⟩
  rcases h.flat with e | ⟨b, off, n, c'', e⟩
  · injection e with e1 e2 e3
    subst e1 e3
    have : k = 0 := by omega
    subst this
    exact .inl rfl
  · injection e with e1 e2 e3
    exact .inr ⟨b, off, k, c, by rw [e1]⟩
theorem IL.drop {w : World} {go c n b off : Nat} {xs : List Int} (h : IL w go (.slice (some ⟨b, off, none⟩) n c) xs) {k : Nat} (hk : k ≤ xs.length) : IL w go (.slice (some ⟨b, off + k, none⟩) (n - k) (c - k)) (xs.drop k) := by
  obtain ⟨A', c', e, h1, h2⟩ := h.ints.form
  injection e with e1 e2 e3
  subst e1 e2 e3
  refine ⟨⟨some ⟨b, off + k, none⟩, c - k, by rw [List.length_drop], by rw [List.length_drop]; omega, by omega, by rw [ivs_length]; simp, fun hn => ⟨b, off + k, rfl, fun j hj => ?_⟩⟩, .inr ⟨b, off + k, _, _, rfl⟩, h.blk⟩
  rw [ivs_length, List.length_drop] at hj
  have hp : 0 < xs.length := by omega
  obtain ⟨b', off', e, hc⟩ := h.ints.at hp
  injection e with e
  injection e with e1 e2
  subst e1 e2
  have := hc (k + j) (by omega)
  rw [show off + k + j = off + (k + j) by omega, this, ivs_get _ j (by rw [List.length_drop]; omega), List.getElem_drop]
/-- A formula tape behind a pointer. -/
structure FoAt (base : Nat) (w : World) (g : Nat) (f : FoD) (gw gr go cw cr co : Nat) (vw vr : List Value) : Prop where
  blk : Blk w g 49 #[.int .i64 f.q, .int .i64 f.hd, .int .i64 f.at_, .slice (some ⟨gw, 0, none⟩) f.ws.length cw, .slice (some ⟨gr, 0, none⟩) f.rs.length cr, .slice (some ⟨go, 0, none⟩) f.os.length co]
  ow : w.ownsRow base 27 1 (.slice (some ⟨gw, 0, none⟩) f.ws.length cw) f.ws.length vw
  or : w.ownsRow base 27 1 (.slice (some ⟨gr, 0, none⟩) f.rs.length cr) f.rs.length vr
  oo : OwnInts base w (.slice (some ⟨go, 0, none⟩) f.os.length co) f.os
  iw : ∀ i, (h : i < f.ws.length) → ∃ u, vw[i]? = some u ∧ IL w go u f.ws[i]
  ir : ∀ i, (h : i < f.rs.length) → ∃ u, vr[i]? = some u ∧ IL w go u f.rs[i]
  ne : gw ≠ gr
  bg : base ≤ g
theorem own_blk {w : World} {base : Nat} {e : TypeId} {size g n c m : Nat} {xs : List Value} (h : w.ownsRow base e size (.slice (some ⟨g, 0, none⟩) n c) m xs) : (∃ cs, Blk w g e cs) ∧ base ≤ g := by
  rcases h.2 with ⟨e', _⟩ | ⟨g', cap, cur, e', hb, hh, _⟩
  · simp at e'
  · simp only [Value.slice.injEq, Option.some.injEq, Addr.mk.injEq] at e'
    obtain ⟨⟨rfl, _⟩, _⟩ := e'
    exact ⟨⟨cur, hh⟩, hb⟩
theorem own_cell {w : World} {base : Nat} {e : TypeId} {g n c : Nat} {xs : List Value} (h : w.ownsRow base e 1 (.slice (some ⟨g, 0, none⟩) n c) n xs) {i : Nat} (hi : i < n) : w.cell? ⟨g, i, none⟩ = xs[i]? := by
  obtain ⟨b, off, e', hc⟩ := Row.at (ownsRow_row h) hi
  injection e' with e'
  injection e' with e1 e2
  subst e1 e2
  have := hc i (by omega)
  rwa [Nat.zero_add] at this
theorem FoAt.ext {base : Nat} {w w' : World} {g : Nat} {f : FoD} {gw gr go cw cr co : Nat} {vw vr : List Value} (h : FoAt base w g f gw gr go cw cr co vw vr) (he : Ext w w') : FoAt base w' g f gw gr go cw cr co vw vr :=
  ⟨h.blk.ext he, ownsRow_ext h.ow he, ownsRow_ext h.or he, ownsRow_ext h.oo he, fun i hi => by obtain ⟨u, a, b⟩ := h.iw i hi; exact ⟨u, a, b.ext he⟩, fun i hi => by obtain ⟨u, a, b⟩ := h.ir i hi; exact ⟨u, a, b.ext he⟩, h.ne, h.bg⟩
theorem FoAt.wall {base : Nat} {w : World} {g : Nat} {f : FoD} {gw gr go cw cr co : Nat} {vw vr : List Value} (h : FoAt base w g f gw gr go cw cr co vw vr) {i : Nat} (hi : i < f.ws.length) : ∃ u, w.cell? ⟨gw, i, none⟩ = some u ∧ IL w go u f.ws[i] := by
  obtain ⟨u, a, b⟩ := h.iw i hi
  exact ⟨u, (own_cell h.ow hi).trans a, b⟩
theorem FoAt.rep {base : Nat} {w : World} {g : Nat} {f : FoD} {gw gr go cw cr co : Nat} {vw vr : List Value} (h : FoAt base w g f gw gr go cw cr co vw vr) {i : Nat} (hi : i < f.rs.length) : ∃ u, w.cell? ⟨gr, i, none⟩ = some u ∧ IL w go u f.rs[i] := by
  obtain ⟨u, a, b⟩ := h.ir i hi
  exact ⟨u, (own_cell h.or hi).trans a, b⟩
/-- The place of the head is written. -/
theorem FoAt.setA {base : Nat} {w : World} {g : Nat} {f : FoD} {gw gr go cw cr co : Nat} {vw vr : List Value} (h : FoAt base w g f gw gr go cw cr co vw vr) (a : Int) : FoAt base (w.setCell ⟨g, 2, none⟩ (.int .i64 a)) g ⟨f.q, f.hd, a, f.ws, f.rs, f.os⟩ gw gr go cw cr co vw vr := by
  have ne : ∀ {e : TypeId} {q n c m : Nat} {xs : List Value}, w.ownsRow base e 1 (.slice (some ⟨q, 0, none⟩) n c) m xs → 49 ≠ e → (w.setCell ⟨g, 2, none⟩ (.int .i64 a)).ownsRow base e 1 (.slice (some ⟨q, 0, none⟩) n c) m xs := fun {e q n c m xs} o hne => by
    obtain ⟨⟨cs, hb⟩, _⟩ := own_blk o
    refine ownsRow_far o (fun k hk => ?_) _
    have e2 : q = k := by simpa [Value.ownBlock] using hk
    subst e2
    exact (blk_ne h.blk hb hne).symm
  exact ⟨h.blk.set_ 2 _, ne h.ow (by decide), ne h.or (by decide), ne h.oo (by decide), fun i hi => by obtain ⟨u, a, b⟩ := h.iw i hi; exact ⟨u, a, b.set h.blk (by decide) 2 _⟩, fun i hi => by obtain ⟨u, a, b⟩ := h.ir i hi; exact ⟨u, a, b.set h.blk (by decide) 2 _⟩, h.ne, h.bg⟩
/-- A wall is written. -/
theorem FoAt.setW {base : Nat} {w : World} {g : Nat} {f : FoD} {gw gr go cw cr co : Nat} {vw vr : List Value} (h : FoAt base w g f gw gr go cw cr co vw vr) {i : Nat} (hi : i < f.ws.length) {u : Value} {x : List Int} (hu : IL w go u x) :
    ∃ vw', FoAt base (w.setCell ⟨gw, i, none⟩ u) g ⟨f.q, f.hd, f.at_, f.ws.set i x, f.rs, f.os⟩ gw gr go cw cr co vw' vr := by
  obtain ⟨⟨csw, hbw⟩, hbase⟩ := own_blk h.ow
  have hl := h.ow.1
  have hst := (h.ow.stored i u).1
  refine ⟨vw.set i u, ⟨?_, ?_, ?_, ?_, fun j hj => ?_, fun j hj => ?_, h.ne, h.bg⟩⟩
  · simp only [List.length_set]
    exact h.blk.far (p := ⟨gw, i, none⟩) (blk_ne h.blk hbw (by decide)) _
  · simp only [List.length_set]
    exact hst
  · refine ownsRow_far h.or (fun k hk => ?_) _
    have e2 : gr = k := by simpa [Value.ownBlock] using hk
    subst e2
    exact h.ne.symm
  · obtain ⟨⟨cs, hb⟩, _⟩ := own_blk h.oo
    refine ownsRow_far h.oo (fun k hk => ?_) _
    have e2 : go = k := by simpa [Value.ownBlock] using hk
    subst e2
    exact blk_ne hb hbw (by decide)
  · have hj' : j < f.ws.length := by simpa using hj
    by_cases c : i = j
    · subst c
      refine ⟨u, by rw [List.getElem?_set_self (by omega)], ?_⟩
      simp only [List.getElem_set_self]
      exact hu.set hbw (by decide) i u
    · obtain ⟨z, a, b⟩ := h.iw j hj'
      refine ⟨z, by rw [List.getElem?_set_ne c]; exact a, ?_⟩
      simp only [List.getElem_set_ne c]
      exact b.set hbw (by decide) i u
  · obtain ⟨z, a, b⟩ := h.ir j hj
    exact ⟨z, a, b.set hbw (by decide) i u⟩
/-- A repeater is written. -/
theorem FoAt.setR {base : Nat} {w : World} {g : Nat} {f : FoD} {gw gr go cw cr co : Nat} {vw vr : List Value} (h : FoAt base w g f gw gr go cw cr co vw vr) {i : Nat} (hi : i < f.rs.length) {u : Value} {x : List Int} (hu : IL w go u x) :
    ∃ vr', FoAt base (w.setCell ⟨gr, i, none⟩ u) g ⟨f.q, f.hd, f.at_, f.ws, f.rs.set i x, f.os⟩ gw gr go cw cr co vw vr' := by
  obtain ⟨⟨csw, hbw⟩, hbase⟩ := own_blk h.or
  have hl := h.or.1
  have hst := (h.or.stored i u).1
  refine ⟨vr.set i u, ⟨?_, ?_, ?_, ?_, fun j hj => ?_, fun j hj => ?_, h.ne, h.bg⟩⟩
  · simp only [List.length_set]
    exact h.blk.far (p := ⟨gr, i, none⟩) (blk_ne h.blk hbw (by decide)) _
  · refine ownsRow_far h.ow (fun k hk => ?_) _
    have e2 : gw = k := by simpa [Value.ownBlock] using hk
    subst e2
    exact h.ne
  · simp only [List.length_set]
    exact hst
  · obtain ⟨⟨cs, hb⟩, _⟩ := own_blk h.oo
    refine ownsRow_far h.oo (fun k hk => ?_) _
    have e2 : go = k := by simpa [Value.ownBlock] using hk
    subst e2
    exact blk_ne hb hbw (by decide)
  · obtain ⟨z, a, b⟩ := h.iw j hj
    exact ⟨z, a, b.set hbw (by decide) i u⟩
  · have hj' : j < f.rs.length := by simpa using hj
    by_cases c : i = j
    · subst c
      refine ⟨u, by rw [List.getElem?_set_self (by omega)], ?_⟩
      simp only [List.getElem_set_self]
      exact hu.set hbw (by decide) i u
    · obtain ⟨z, a, b⟩ := h.ir j hj'
      refine ⟨z, by rw [List.getElem?_set_ne c]; exact a, ?_⟩
      simp only [List.getElem_set_ne c]
      exact b.set hbw (by decide) i u
/-- An offset is written. -/
theorem FoAt.setO {base : Nat} {w : World} {g : Nat} {f : FoD} {gw gr go cw cr co : Nat} {vw vr : List Value} (h : FoAt base w g f gw gr go cw cr co vw vr) (i : Nat) (o : Int) :
    FoAt base (w.setCell ⟨go, i, none⟩ (.int .i64 o)) g ⟨f.q, f.hd, f.at_, f.ws, f.rs, f.os.set i o⟩ gw gr go cw cr co vw vr := by
  obtain ⟨⟨cso, hbo⟩, hbase⟩ := own_blk h.oo
  have hst := (h.oo.stored i (.int .i64 o)).1
  have far : ∀ {q n c m : Nat} {xs : List Value}, w.ownsRow base 27 1 (.slice (some ⟨q, 0, none⟩) n c) m xs → (w.setCell ⟨go, i, none⟩ (.int .i64 o)).ownsRow base 27 1 (.slice (some ⟨q, 0, none⟩) n c) m xs := fun {q n c m xs} o' => by
    obtain ⟨⟨cs, hb⟩, _⟩ := own_blk o'
    refine ownsRow_far o' (fun k hk => ?_) _
    have e2 : q = k := by simpa [Value.ownBlock] using hk
    subst e2
    exact blk_ne hb hbo (by decide)
  refine ⟨?_, far h.ow, far h.or, ?_, fun j hj => by obtain ⟨u, a, b⟩ := h.iw j hj; exact ⟨u, a, b.setO i _⟩, fun j hj => by obtain ⟨u, a, b⟩ := h.ir j hj; exact ⟨u, a, b.setO i _⟩, h.ne, h.bg⟩
  · simp only [List.length_set]
    exact h.blk.far (p := ⟨go, i, none⟩) (blk_ne h.blk hbo (by decide)) _
  · have e : (ivs f.os).set i (.int .i64 o) = ivs (f.os.set i o) := by simp [ivs, List.map_set]
    simp only [List.length_set]
    unfold OwnInts
    rw [← e, List.length_set]
    exact hst
end Go.Proofs.YtojiammendjpkaaGreat
end
section
set_option linter.unusedSimpArgs false
set_option linter.unusedVariables false
namespace Go.Proofs.YtojiammendjpkaaGreat
open Go Go.RowKit Go.Proofs
set_option maxHeartbeats 400000
/-- Lists that can be read. -/
def Lists (w : World) (v : Value) (xss : List (List Int)) : Prop := ∃ vs, Row w 1 v xss.length vs ∧ ∀ i, (h : i < xss.length) → ∃ u, vs[i]? = some u ∧ Ints w u xss[i] ∧ Flat u
theorem Lists.ext {w w' : World} {v : Value} {xss : List (List Int)} (h : Lists w v xss) (he : Ext w w') : Lists w' v xss := by
  obtain ⟨vs, a, b⟩ := h
  exact ⟨vs, Row.ext a he, fun i hi => by obtain ⟨u, c, d, e⟩ := b i hi; exact ⟨u, c, d.ext he, e⟩⟩
theorem Lists.form {w : World} {v : Value} {xss : List (List Int)} (h : Lists w v xss) : ∃ A c, v = .slice A xss.length c ∧ xss.length ≤ c ∧ c ≤ 9223372036854775807 := by
  obtain ⟨vs, a, _⟩ := h
  obtain ⟨A, c, e, h1, h2, _⟩ := a.form
  exact ⟨A, c, e, h1, h2⟩
theorem Lists.at {w : World} {A : Option Addr} {c : Nat} {xss : List (List Int)} (h : Lists w (.slice A xss.length c) xss) {k : Nat} (hk : k < xss.length) : ∃ b off u, A = some ⟨b, off, none⟩ ∧ w.cell? ⟨b, off + k, none⟩ = some u ∧ Ints w u xss[k] ∧ Flat u := by
  obtain ⟨vs, a, b⟩ := h
  obtain ⟨bb, off, e, hc⟩ := Row.at a hk
  obtain ⟨u, c, d, f⟩ := b k hk
  exact ⟨bb, off, u, e, (hc k (by omega)).trans c, d, f⟩
/-- Lists in blocks of the call's own. -/
def OwnLists (base : Nat) (w : World) (v : Value) (xss : List (List Int)) : Prop := ∃ vs, w.ownsRow base 27 1 v xss.length vs ∧ ∀ i, (h : i < xss.length) → ∃ u, vs[i]? = some u ∧ OwnInts base w u xss[i]
theorem OwnLists.ext {base : Nat} {w w' : World} {v : Value} {xss : List (List Int)} (h : OwnLists base w v xss) (he : Ext w w') : OwnLists base w' v xss := by
  obtain ⟨vs, a, b⟩ := h
  exact ⟨vs, ownsRow_ext a he, fun i hi => by obtain ⟨u, c, d⟩ := b i hi; exact ⟨u, c, ownsRow_ext d he⟩⟩
theorem OwnLists.lists {base : Nat} {w : World} {v : Value} {xss : List (List Int)} (h : OwnLists base w v xss) : Lists w v xss := by
  obtain ⟨vs, a, b⟩ := h
  exact ⟨vs, ownsRow_row a, fun i hi => by obtain ⟨u, c, d⟩ := b i hi; exact ⟨u, c, d.ints, d.flat⟩⟩
theorem OwnLists.snoc {base : Nat} {w w' : World} {v v' u : Value} {xss : List (List Int)} {xs : List Int} {vs : List Value} (h1 : w.ownsRow base 27 1 v xss.length vs) (h2 : ∀ i, (h : i < xss.length) → ∃ u, vs[i]? = some u ∧ OwnInts base w u xss[i])
    (hu : OwnInts base w u xs) (ho : w'.ownsRow base 27 1 v' (xss.length + 1) (vs ++ [u])) (hg : w.grownBy w' v.ownBlock) : OwnLists base w' v' (xss ++ [xs]) := by
  have hl := h1.1
  have keep : ∀ {x : Value} {zs : List Int}, OwnInts base w x zs → OwnInts base w' x zs := fun hx => World.ownsRow.kept hx hg (own_ne hx h1 (by decide))
  refine ⟨vs ++ [u], by simpa using ho, fun i hi => ?_⟩
  by_cases h : i < xss.length
  · obtain ⟨x, e, hx⟩ := h2 i h
    exact ⟨x, by rw [List.getElem?_append_left (by omega), e], by rw [List.getElem_append_left h]; exact keep hx⟩
  · have hie : i = xss.length := by simp at hi; omega
    subst hie
    exact ⟨u, by rw [List.getElem?_append_right (by omega)]; simp [hl], by simpa using keep hu⟩
set_option maxRecDepth 20000 in
set_option maxHeartbeats 4000000 in
theorem copyLists_c (v : Value) (xss : List (List Int)) (w : World) (h : Lists w v xss) (hn : ∀ x ∈ xss, x.length ≤ 1048576) (hl : xss.length ≤ 1000) :
    Calls Tryz.prog 113 #[v] w fun e w' => ∃ u, e = .returned u ∧ OwnLists w.heap.size w' u xss ∧ Ext w w' := by
  obtain ⟨r0i, hri, rz0, rz1, rz2⟩ := info_parts rowInfo
  obtain ⟨A, c, rfl, _, _⟩ := h.form
  have H := Lib.hid h
  obtain ⟨W, hW⟩ : ∃ W, W = w.alloc (.cells #[] 27) := ⟨_, rfl⟩
  have hX : Ext w W := by rw [hW]; exact Ext.alloc _ _
  obtain ⟨g, hg⟩ : ∃ g, w.heap.size = g := ⟨_, rfl⟩
  have o0 : OwnLists g W (.slice (some ⟨g, 0, none⟩) 0 0) [] := ⟨[], ⟨by simp, .inr ⟨g, 0, #[], rfl, Nat.le_refl _, by rw [hW, ← hg]; exact heap_alloc_new w _, by simp, by unfold maxLen; omega, rfl, by simp⟩⟩, fun i hi => by simp at hi⟩
  have HG := Lib.hid hg
  clear h
  go_enter Tryz.func113, Tryz.ntmps113
  go_wp2
  try rw [← hW]
  try rw [hg]
  clear hW hg
  go_loopw [3, 9] (fun u i wr => ∃ (k : Nat) (uv : Value), k ≤ xss.length ∧ i = .int .i64 (k : Int) ∧ uv = u ∧ OwnLists g wr uv (xss.take k) ∧ Ext w wr) (fun _ i _ => xss.length - (intOf i).toNat)
  case atStart => exact ⟨0, _, Nat.zero_le _, rfl, rfl, o0, hX⟩
  case round =>
    clear o0 hX
    obtain ⟨k, uv, hk, rfl, rfl, ho, hx⟩ := hrel
    obtain ⟨P, hP⟩ : ∃ P, xss.take k = P := ⟨_, rfl⟩
    rw [hP] at ho
    have HP := Lib.hid hP
    have HPL : Hid (P.length = k) := Lib.hid (by rw [← hP, List.length_take]; omega)
    have hpl : P.length ≤ 1000 := by have := HPL.out; omega
    clear hP
    by_cases hlt : k < xss.length
    · have hd : decide ((k : Int) < (xss.length : Int)) = true := decide_eq_true (by omega)
      obtain ⟨b, off, u, rfl, c0, hu, hf⟩ := Lists.at H.out hlt
      have c0 := hx.cell c0
      have hu := hu.ext hx
      have hul := hn _ (List.getElem_mem hlt)
      have HT := Lib.hid (List.take_succ_eq_append_getElem hlt)
      have CL := CloneF_c u xss[k] wr hu hf hul
      obtain ⟨Au, cu, rfl, _, _⟩ := hu.form
      generalize xss[k] = x at *
      clear hu hf
      go_wp2_with fail
      refine CL.mono ?_
      rintro e w1 ⟨z, rfl, oz, _, hx1⟩
      obtain ⟨vs, p1, p2⟩ := ho
      obtain ⟨Aw, cw, hwv, _, _, _⟩ := (ownsRow_row p1).form
      subst hwv
      have e1 := Ext.alloc w1 (.cells #[z] 27)
      have q1 := ownsRow_ext p1 (hx1.trans e1)
      have q2 : ∀ i, (h : i < P.length) → ∃ u, vs[i]? = some u ∧ OwnInts g (w1.alloc (.cells #[z] 27)) u P[i] := fun i hi => by obtain ⟨u, a, b⟩ := p2 i hi; exact ⟨u, a, ownsRow_ext b (hx1.trans e1)⟩
      have hgw : g ≤ wr.heap.size := by have := hx.size; have := HG.out; omega
      have oz2 : OwnInts g (w1.alloc (.cells #[z] 27)) z x := ownsRow_base (ownsRow_ext oz e1) hgw
      have hxx := (hx.trans hx1).trans e1
      have hszb : g ≤ (w1.alloc (.cells #[z] 27)).heap.size := by have := hxx.size; have := HG.out; omega
      obtain ⟨Az, cz, rfl, _, _, _⟩ := (ownsRow_row oz).form
      have hq1 : (w1.alloc (.cells #[.slice Az x.length cz] 27)).ownsRow g 27 1 (.slice Aw P.length cw) P.length vs := q1
      have HOZ := Lib.hid oz2
      have HQ2 := Lib.hid q2
      clear p1 p2 oz oz2 q2 hx1 e1 CL
      generalize hxl : x.length = nx at *
      go_wp2_with (at_builtin; refine wpList_append_own_at _ rfl _ _ 32 rfl g 27 r0i (.slice none 0 0) 1 24 Tryz.underlying32 hri rz0 rz1 rz2 rfl (by decide) _ _ _ rfl hq1 ⟨w1.heap.size, 0, none⟩ 1 1 [.slice Az nx cz] rfl rfl (cell_one_new _ _ _) ?c2 ?c3 ?c4 ?c5 ?_)
      case c2 => intro u hu; simp at hu; subst hu; rfl
      case c3 => unfold maxLen; omega
      case c4 => omega
      case c5 => exact hszb
      intro v' w4 hown4 hg4 _ hloc
      have hx4 : Ext w w4 := hxx.grown hg4 (fun j hj => by have := (q1.lt j hj).1; have := HG.out; omega)
      have HS : Hid (OwnLists g w4 v' (xss.take (k + 1))) := Lib.hid (by rw [HT.out, HP.out]; exact OwnLists.snoc q1 HQ2.out HOZ.out hown4 hg4)
      clear hown4 hg4 q1 hq1
      go_wp2
      go_roundw
      case rel => exact ⟨k + 1, _, by omega, by go_num, rfl, HS.out, hx4⟩
      case measure => simp [intOf]; omega
    · have hd : decide ((k : Int) < (xss.length : Int)) = false := decide_eq_false (by omega)
      have HO : Hid (OwnLists w.heap.size wr uv xss) := Lib.hid (by have e := HP.out; rw [List.take_of_length_le (by omega)] at e; rw [HG.out, e]; exact ho)
      go_wp2
      go_ret
      exact ⟨_, rfl, HO.out, hx⟩
end Go.Proofs.YtojiammendjpkaaGreat
end
section
set_option linter.unusedSimpArgs false
set_option linter.unusedVariables false
namespace Go.Proofs.YtojiammendjpkaaGreat
open Go Go.RowKit Go.Proofs
set_option maxHeartbeats 400000
/-- A formula tape that can be read. -/
structure FoV (w : World) (v : Value) (f : FoD) (wv rv ov : Value) : Prop where
  e : v = .agg #[.int .i64 f.q, .int .i64 f.hd, .int .i64 f.at_, wv, rv, ov]
  ws : Lists w wv f.ws
  rs : Lists w rv f.rs
  os : Ints w ov f.os
  fl : Flat ov
theorem FoV.ext {w w' : World} {v : Value} {f : FoD} {wv rv ov : Value} (h : FoV w v f wv rv ov) (he : Ext w w') : FoV w' v f wv rv ov := ⟨h.e, h.ws.ext he, h.rs.ext he, h.os.ext he, h.fl⟩
/-- Small lists. -/
structure FoSmall (f : FoD) : Prop where
  rn : 1 ≤ f.rs.length ∧ f.rs.length ≤ 3
  wn : f.ws.length = f.rs.length + 1
  on : f.os.length = f.rs.length
  wl : ∀ x ∈ f.ws, x.length ≤ 1000
  rl : ∀ x ∈ f.rs, x.length ≤ 1000
theorem own_some {w : World} {base : Nat} {e : TypeId} {size n : Nat} {v : Value} {xs : List Value} (h : w.ownsRow base e size v n xs) (hn : 0 < n) : ∃ g c, v = .slice (some ⟨g, 0, none⟩) n c := by
  rcases h.2 with ⟨rfl, e'⟩ | ⟨g, cap, cur, rfl, _⟩
  · omega
  · exact ⟨g, cap, rfl⟩
theorem FoAt.val {base : Nat} {w : World} {g : Nat} {f : FoD} {gw gr go cw cr co : Nat} {vw vr : List Value} (h : FoAt base w g f gw gr go cw cr co vw vr) :
    FoV w (.agg #[.int .i64 f.q, .int .i64 f.hd, .int .i64 f.at_, .slice (some ⟨gw, 0, none⟩) f.ws.length cw, .slice (some ⟨gr, 0, none⟩) f.rs.length cr, .slice (some ⟨go, 0, none⟩) f.os.length co]) f (.slice (some ⟨gw, 0, none⟩) f.ws.length cw) (.slice (some ⟨gr, 0, none⟩) f.rs.length cr) (.slice (some ⟨go, 0, none⟩) f.os.length co) :=
  ⟨rfl, ⟨vw, ownsRow_row h.ow, fun i hi => by obtain ⟨u, a, b⟩ := h.iw i hi; exact ⟨u, a, b.ints, b.flat⟩⟩, ⟨vr, ownsRow_row h.or, fun i hi => by obtain ⟨u, a, b⟩ := h.ir i hi; exact ⟨u, a, b.ints, b.flat⟩⟩, h.oo.ints, .inr ⟨go, 0, _, _, rfl⟩⟩
set_option maxRecDepth 20000 in
set_option maxHeartbeats 4000000 in
theorem copyFormula_c (v wv rv ov : Value) (f : FoD) (w : World) (h : FoV w v f wv rv ov) (hs : FoSmall f) :
    Calls Tryz.prog 70 #[v] w fun e w' => (∃ g gw gr go cw cr co vw vr, e = .returned (.pointer (some ⟨g, 0, none⟩)) ∧ FoAt w.heap.size w' g f gw gr go cw cr co vw vr) ∧ Ext w w' := by
  obtain ⟨rfl, h1, h2, h3, h4⟩ := h
  obtain ⟨⟨n1, n2⟩, n3, n4, n5, n6⟩ := hs
  obtain ⟨V, hV⟩ : ∃ V, V = w.alloc (.cells #[.int .i64 f.q, .int .i64 f.hd, .int .i64 f.at_, wv, rv, ov] 49) := ⟨_, rfl⟩
  obtain ⟨b, hb⟩ : ∃ b, w.heap.size = b := ⟨_, rfl⟩
  have hX : Ext w V := by rw [hV]; exact Ext.alloc _ _
  have bb : Blk V b 49 #[.int .i64 f.q, .int .i64 f.hd, .int .i64 f.at_, wv, rv, ov] := by rw [hV]; exact Blk.new _ _ _ _ hb
  have z0 : V.drew.cell? ⟨b, 0, none⟩ = some (.int .i64 f.q) := bb.cell 0
  have z1 : V.drew.cell? ⟨b, 1, none⟩ = some (.int .i64 f.hd) := bb.cell 1
  have z2 : V.drew.cell? ⟨b, 2, none⟩ = some (.int .i64 f.at_) := bb.cell 2
  have z3 : V.drew.cell? ⟨b, 3, none⟩ = some wv := bb.cell 3
  have z4 : V.drew.cell? ⟨b, 4, none⟩ = some rv := bb.cell 4
  have z5 : V.drew.cell? ⟨b, 5, none⟩ = some ov := bb.cell 5
  have hXd : Ext w V.drew := hX.trans (Ext.drew _)
  have C1 := copyLists_c wv f.ws V.drew (h1.ext hXd) (fun x hx => by have := n5 x hx; omega) (by omega)
  have HB := Lib.hid hb
  have HN : Hid (f.ws.length = f.rs.length + 1 ∧ f.os.length = f.rs.length) := Lib.hid ⟨n3, n4⟩
  clear n3 n4
  go_enter Tryz.func70, Tryz.ntmps70
  go_wp2_with fail
  try rw [← hV]
  try rw [hb]
  clear hV hb
  refine wp_region_ordT 17 (readsT [0, 1, 2, 3, 4, 5, 6, 7, 9, 10, 12, 13] (.stir 8 (.stir 11 (.stir 14 (readsT [15] (.stir 16 .done)))))) (by kernel_rfl) (by kernel_rfl) (fun _ _ _ _ _ h => h) ?_
  simp only [readsT]
  iterate 12 (refine wpOrdT_read (v := ?_) (by rfl) (Or.inl ⟨by rfl, fun x hx => ?_⟩) ?_; rotate_left; (· have y0 := Ext.cell hx z0; have y1 := Ext.cell hx z1; have y2 := Ext.cell hx z2; have y3 := Ext.cell hx z3; have y4 := Ext.cell hx z4; have y5 := Ext.cell hx z5; go_simp; try with_reducible rfl); try simp only [Act.put, List.setIfInBounds_toArray, List.set_cons_zero, List.set_cons_succ])
  refine wpOrdT_stir (by rfl) (fun K hK => ?_)
  go_simp
  go_at_call 113
  refine C1.mono ?_
  rintro e w1 ⟨u1, rfl, o1, hx1⟩
  refine hK _ _ hx1 ?_
  clear hK K C1
  try simp only [Act.put, List.setIfInBounds_toArray, List.set_cons_zero, List.set_cons_succ]
  have C2 := copyLists_c rv f.rs w1 (h2.ext (hXd.trans hx1)) (fun x hx => by have := n6 x hx; omega) (by omega)
  refine wpOrdT_stir (by rfl) (fun K hK => ?_)
  go_simp
  go_at_call 113
  refine C2.mono ?_
  rintro e w2 ⟨u2, rfl, o2, hx2⟩
  refine hK _ _ hx2 ?_
  clear hK K C2
  try simp only [Act.put, List.setIfInBounds_toArray, List.set_cons_zero, List.set_cons_succ]
  have C3 := CloneF_c ov f.os w2 (h3.ext ((hXd.trans hx1).trans hx2)) h4 (by have := HN.out; omega)
  refine wpOrdT_stir (by rfl) (fun K hK => ?_)
  go_simp
  go_at_call 92
  refine C3.mono ?_
  rintro e w3 ⟨u3, rfl, o3, _, hx3⟩
  refine hK _ _ hx3 ?_
  clear hK K C3
  try simp only [Act.put, List.setIfInBounds_toArray, List.set_cons_zero, List.set_cons_succ]
  have hxd1 := hXd.trans hx1
  obtain ⟨vw, a1, a2⟩ := o1
  obtain ⟨vr, b1, b2⟩ := o2
  obtain ⟨gw, cw, rfl⟩ := own_some a1 (by have := HN.out; omega)
  obtain ⟨gr, cr, rfl⟩ := own_some b1 (by omega)
  obtain ⟨go, co, rfl⟩ := own_some o3 (by have := HN.out; omega)
  refine wpOrdT_read (v := ?_) (by rfl) (Or.inl ⟨by rfl, fun x hx => ?_⟩) ?_; rotate_left; (· go_simp; try with_reducible rfl); try simp only [Act.put, List.setIfInBounds_toArray, List.set_cons_zero, List.set_cons_succ]
  have s0 : w.heap.size ≤ V.drew.heap.size := hXd.size
  have s1 := hx1.size
  have s2 := hx2.size
  have s3 := hx3.size
  have l1 : gw < w1.heap.size := (World.ownsRow.lt a1 gw rfl).2
  have l2 := World.ownsRow.lt b1 gr rfl
  have l3 := World.ownsRow.lt o3 go rfl
  have hxa := ((hx2.trans hx3))
  obtain ⟨g, hg⟩ : ∃ g, w3.heap.size = g := ⟨_, rfl⟩
  obtain ⟨W3, hW3⟩ : ∃ W, W = w3.alloc (.cells #[.int .i64 f.q, .int .i64 f.hd, .int .i64 f.at_, .slice (some ⟨gw, 0, none⟩) f.ws.length cw, .slice (some ⟨gr, 0, none⟩) f.rs.length cr, .slice (some ⟨go, 0, none⟩) f.os.length co] 49) := ⟨_, rfl⟩
  have e3 : Ext w3 W3 := by rw [hW3]; exact Ext.alloc _ _
  have il : ∀ {u : Value} {xs : List Int} {B : Nat} {w' : World}, OwnInts B w' u xs → (w'.heap.size ≤ w2.heap.size) → Ext w' W3 → IL W3 go u xs := fun {u xs B w'} o hle he => by
    refine ⟨o.ints.ext he, o.flat, fun b hb => ?_⟩
    have hlt := (World.ownsRow.lt o b hb).2
    refine ⟨by omega, ?_⟩
    rcases o.2 with ⟨rfl, _⟩ | ⟨q, cap, cur, rfl, _, hh, _⟩
    · simp [Value.ownBlock] at hb
    · have e : q = b := by simpa [Value.ownBlock] using hb
      subst e
      exact ⟨cur, Blk.ext (show Blk w' q _ cur from hh) he⟩
  have HF : Hid (FoAt w.heap.size W3 g f gw gr go cw cr co vw vr) := Lib.hid
    ⟨by rw [hW3]; exact Blk.new _ _ _ _ hg, ownsRow_base (ownsRow_ext a1 (hxa.trans e3)) s0, ownsRow_base (ownsRow_ext b1 (hx3.trans e3)) (by omega), ownsRow_base (ownsRow_ext o3 e3) (by omega),
      fun i hi => by obtain ⟨u, p, o⟩ := a2 i hi; exact ⟨u, p, il o s2 (hxa.trans e3)⟩, fun i hi => by obtain ⟨u, p, o⟩ := b2 i hi; exact ⟨u, p, il o (Nat.le_refl _) (hx3.trans e3)⟩, by omega, by omega⟩
  have HXX : Hid (Ext w W3) := Lib.hid ((hxd1.trans hxa).trans e3)
  clear il a1 a2 b1 b2 o3 l1 l2 l3 s0 s1 s2 s3 hxa e3
  refine wpOrdT_stir (by rfl) (fun K hK => ?_)
  go_simp
  try rw [← hW3]
  try rw [hg]
  refine hK _ _ (by rw [hW3]; exact Ext.alloc _ _) ?_
  clear hK K
  try simp only [Act.put, List.setIfInBounds_toArray, List.set_cons_zero, List.set_cons_succ]
  refine wpOrdT_done ?_
  try simp only [List.drop_succ_cons, List.drop_zero]
  clear hW3 hg
  go_wp2
  go_ret
  exact ⟨⟨g, gw, gr, go, cw, cr, co, vw, vr, rfl, HF.out⟩, HXX.out⟩
end Go.Proofs.YtojiammendjpkaaGreat
end
