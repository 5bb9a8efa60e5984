/- Plain words: the normal form of a formula tape stands for the same configuration.
How formula tapes lie in memory.
Contracts: copies of lists and of formula tapes. -/
import Derived.Test.YtapjofbjedpmgaaGreatC16
import Derived.Test.YtapjofbjedpmgaaGreatC08
import Derived.Test.YtapjofbjedpmgaaGreatC14
import Derived.Test.YtapjofbjedpmgaaGreatC11
import Derived.Test.YtapjofbjedpmgaaGreatC12
import Derived.Test.YtapjofbjedpmgaaGreatC04
import Derived.Test.YtapjofbjedpmgaaGreatC10
import Derived.Deep.DeepCutAuto
import Derived.Test.YtapjofbjedpmgaaGreatC07
section
set_option linter.unusedSimpArgs false
set_option linter.unusedVariables false
namespace Go.Proofs.YtapjofbjedpmgaaGreat
open Go Go.RowKit Go.Proofs
/-- The configuration for cells and a head. -/
def foCfg (q : Int) (l : List Int) (h : Int) : ConfD := if h < 0 then ⟨q, [], trim (0 :: l)⟩ else ⟨q, trim (l.take h.toNat).reverse, trim (l.drop h.toNat)⟩
end Go.Proofs.YtapjofbjedpmgaaGreat
end
section
set_option linter.unusedSimpArgs false
set_option linter.unusedVariables false
namespace Go.Proofs.YtapjofbjedpmgaaGreat
open Go Go.RowKit Go.Proofs
/-- A list of numbers in a block of numbers that is not the block go. -/
structure IL (w : World) (go : Nat) (u : Value) (xs : List Int) : Prop where
  ints : Ints w u xs
  flat : Flat u
  blk : ∀ b, u.ownBlock = some b → b ≠ go ∧ ∃ cs, Blk w b 2 cs
theorem IL.ext {w w' : World} {go : Nat} {u : Value} {xs : List Int} (h : IL w go u xs) (he : Ext w w') : IL w' go u xs :=
  ⟨h.ints.ext he, h.flat, fun b hb => by obtain ⟨a, cs, c⟩ := h.blk b hb; exact ⟨a, cs, c.ext he⟩⟩
theorem IL.set {w : World} {go : Nat} {u : Value} {xs : List Int} (h : IL w go u xs) {g : Nat} {t : TypeId} {cs : Array Value} (hb : Blk w g t cs) (ht : t ≠ 2) (i : Nat) (x : Value) : IL (w.setCell ⟨g, i, none⟩ x) go u xs := by
  have ne : ∀ b, u.ownBlock = some b → b ≠ g := fun b hu e => by
    obtain ⟨_, cs', hc⟩ := h.blk b hu
    subst e
    exact ht (blk_type hb hc)
  exact ⟨Row.far h.ints (p := ⟨g, i, none⟩) ne x, h.flat, fun b hu => by
    obtain ⟨a, cs', hc⟩ := h.blk b hu
    exact ⟨a, cs', hc.far (p := ⟨g, i, none⟩) (ne b hu) x⟩⟩
theorem IL.own {w : World} {go base : Nat} {u : Value} {xs : List Int} (h : OwnInts base w u xs) (hg : go < base) : IL w go u xs := by
  refine ⟨h.ints, h.flat, fun b hb => ?_⟩
  have h1 := h.lt b hb
  refine ⟨by omega, ?_⟩
  rcases h.2 with ⟨rfl, _⟩ | ⟨g, cap, cur, rfl, _, hh, _⟩
  · simp [Value.ownBlock] at hb
  · have e : g = b := by simpa [Value.ownBlock] using hb
    subst e
    exact ⟨cur, hh⟩
/-- A part of such a list. -/
theorem IL.take {w : World} {go c n : Nat} {A : Option Addr} {xs : List Int} (h : IL w go (.slice A n c) xs) {k : Nat} (hk : k ≤ xs.length) : IL w go (.slice A k c) (xs.take k) := by
  obtain ⟨A', c', e, _, _⟩ := h.ints.form
  injection e with e1 e2 e3
  subst e1 e2 e3
  refine ⟨Ints.take h.ints k hk, ?_, fun b hb => h.blk b (by cases A with | none => simp [Value.ownBlock] at hb | some p => simpa [Value.ownBlock] using hb)⟩
  rcases h.flat with e | ⟨b, off, n, c'', e⟩
  · injection e with e1 e2 e3
    subst e1 e3
    have : k = 0 := by omega
    subst this
    exact .inl rfl
  · injection e with e1 e2 e3
    exact .inr ⟨b, off, k, c, by rw [e1]⟩
theorem IL.drop {w : World} {go c n b off : Nat} {xs : List Int} (h : IL w go (.slice (some ⟨b, off, none⟩) n c) xs) {k : Nat} (hk : k ≤ xs.length) : IL w go (.slice (some ⟨b, off + k, none⟩) (n - k) (c - k)) (xs.drop k) := by
  obtain ⟨A', c', e, h1, h2⟩ := h.ints.form
  injection e with e1 e2 e3
  subst e1 e2 e3
  refine ⟨⟨some ⟨b, off + k, none⟩, c - k, by rw [List.length_drop], by rw [List.length_drop]; omega, by omega, by rw [ivs_length]; simp, fun hn => ⟨b, off + k, rfl, fun j hj => ?_⟩⟩, .inr ⟨b, off + k, _, _, rfl⟩, h.blk⟩
  rw [ivs_length, List.length_drop] at hj
  have hp : 0 < xs.length := by omega
  obtain ⟨b', off', e, hc⟩ := h.ints.at hp
  injection e with e
  injection e with e1 e2
  subst e1 e2
  have := hc (k + j) (by omega)
  rw [show off + k + j = off + (k + j) by omega, this, ivs_get _ j (by rw [List.length_drop]; omega), List.getElem_drop]
end Go.Proofs.YtapjofbjedpmgaaGreat
end
section
set_option linter.unusedSimpArgs false
set_option linter.unusedVariables false
namespace Go.Proofs.YtapjofbjedpmgaaGreat
open Go Go.RowKit Go.Proofs
set_option maxHeartbeats 400000
/-- Lists that can be read. -/
def Lists (w : World) (v : Value) (xss : List (List Int)) : Prop := ∃ vs, Row w 1 v xss.length vs ∧ ∀ i, (h : i < xss.length) → ∃ u, vs[i]? = some u ∧ Ints w u xss[i] ∧ Flat u
theorem Lists.ext {w w' : World} {v : Value} {xss : List (List Int)} (h : Lists w v xss) (he : Ext w w') : Lists w' v xss := by
  obtain ⟨vs, a, b⟩ := h
  exact ⟨vs, Row.ext a he, fun i hi => by obtain ⟨u, c, d, e⟩ := b i hi; exact ⟨u, c, d.ext he, e⟩⟩
theorem Lists.form {w : World} {v : Value} {xss : List (List Int)} (h : Lists w v xss) : ∃ A c, v = .slice A xss.length c ∧ xss.length ≤ c ∧ c ≤ 9223372036854775807 := by
  obtain ⟨vs, a, _⟩ := h
  obtain ⟨A, c, e, h1, h2, _⟩ := a.form
  exact ⟨A, c, e, h1, h2⟩
theorem Lists.at {w : World} {A : Option Addr} {c : Nat} {xss : List (List Int)} (h : Lists w (.slice A xss.length c) xss) {k : Nat} (hk : k < xss.length) : ∃ b off u, A = some ⟨b, off, none⟩ ∧ w.cell? ⟨b, off + k, none⟩ = some u ∧ Ints w u xss[k] ∧ Flat u := by
  obtain ⟨vs, a, b⟩ := h
  obtain ⟨bb, off, e, hc⟩ := Row.at a hk
  obtain ⟨u, c, d, f⟩ := b k hk
  exact ⟨bb, off, u, e, (hc k (by omega)).trans c, d, f⟩
/-- Lists in blocks of the call's own. -/
def OwnLists (base : Nat) (w : World) (v : Value) (xss : List (List Int)) : Prop := ∃ vs, w.ownsRow base 27 1 v xss.length vs ∧ ∀ i, (h : i < xss.length) → ∃ u, vs[i]? = some u ∧ OwnInts base w u xss[i]
theorem OwnLists.ext {base : Nat} {w w' : World} {v : Value} {xss : List (List Int)} (h : OwnLists base w v xss) (he : Ext w w') : OwnLists base w' v xss := by
  obtain ⟨vs, a, b⟩ := h
  exact ⟨vs, ownsRow_ext a he, fun i hi => by obtain ⟨u, c, d⟩ := b i hi; exact ⟨u, c, ownsRow_ext d he⟩⟩
theorem OwnLists.lists {base : Nat} {w : World} {v : Value} {xss : List (List Int)} (h : OwnLists base w v xss) : Lists w v xss := by
  obtain ⟨vs, a, b⟩ := h
  exact ⟨vs, ownsRow_row a, fun i hi => by obtain ⟨u, c, d⟩ := b i hi; exact ⟨u, c, d.ints, d.flat⟩⟩
theorem OwnLists.snoc {base : Nat} {w w' : World} {v v' u : Value} {xss : List (List Int)} {xs : List Int} {vs : List Value} (h1 : w.ownsRow base 27 1 v xss.length vs) (h2 : ∀ i, (h : i < xss.length) → ∃ u, vs[i]? = some u ∧ OwnInts base w u xss[i])
    (hu : OwnInts base w u xs) (ho : w'.ownsRow base 27 1 v' (xss.length + 1) (vs ++ [u])) (hg : w.grownBy w' v.ownBlock) : OwnLists base w' v' (xss ++ [xs]) := by
  have hl := h1.1
  have keep : ∀ {x : Value} {zs : List Int}, OwnInts base w x zs → OwnInts base w' x zs := fun hx => World.ownsRow.kept hx hg (own_ne hx h1 (by decide))
  refine ⟨vs ++ [u], by simpa using ho, fun i hi => ?_⟩
  by_cases h : i < xss.length
  · obtain ⟨x, e, hx⟩ := h2 i h
    exact ⟨x, by rw [List.getElem?_append_left (by omega), e], by rw [List.getElem_append_left h]; exact keep hx⟩
  · have hie : i = xss.length := by simp at hi; omega
    subst hie
    exact ⟨u, by rw [List.getElem?_append_right (by omega)]; simp [hl], by simpa using keep hu⟩
set_option maxRecDepth 20000 in
set_option maxHeartbeats 4000000 in
theorem copyLists_c (v : Value) (xss : List (List Int)) (w : World) (h : Lists w v xss) (hn : ∀ x ∈ xss, x.length ≤ 1048576) (hl : xss.length ≤ 1000) :
    Calls Tryz.prog 89 #[v] w fun e w' => ∃ u, e = .returned u ∧ OwnLists w.heap.size w' u xss ∧ Ext w w' := by
  obtain ⟨r0i, hri, rz0, rz1, rz2⟩ := info_parts rowInfo
  obtain ⟨A, c, rfl, _, _⟩ := h.form
  have H := Lib.hid h
  obtain ⟨W, hW⟩ : ∃ W, W = w.alloc (.cells #[] 27) := ⟨_, rfl⟩
  have hX : Ext w W := by rw [hW]; exact Ext.alloc _ _
  obtain ⟨g, hg⟩ : ∃ g, w.heap.size = g := ⟨_, rfl⟩
  have o0 : OwnLists g W (.slice (some ⟨g, 0, none⟩) 0 0) [] := ⟨[], ⟨by simp, .inr ⟨g, 0, #[], rfl, Nat.le_refl _, by rw [hW, ← hg]; exact heap_alloc_new w _, by simp, by unfold maxLen; omega, rfl, by simp⟩⟩, fun i hi => by simp at hi⟩
  have HG := Lib.hid hg
  clear h
  go_enter Tryz.func89, Tryz.ntmps89
  go_wp2
  try rw [← hW]
  try rw [hg]
  clear hW hg
  go_loopw [3, 9] (fun u i wr => ∃ (k : Nat) (uv : Value), k ≤ xss.length ∧ i = .int .i64 (k : Int) ∧ uv = u ∧ OwnLists g wr uv (xss.take k) ∧ Ext w wr) (fun _ i _ => xss.length - (intOf i).toNat)
  case atStart => exact ⟨0, _, Nat.zero_le _, rfl, rfl, o0, hX⟩
  case round =>
    clear o0 hX
    obtain ⟨k, uv, hk, rfl, rfl, ho, hx⟩ := hrel
    obtain ⟨P, hP⟩ : ∃ P, xss.take k = P := ⟨_, rfl⟩
    rw [hP] at ho
    have HP := Lib.hid hP
    have HPL : Hid (P.length = k) := Lib.hid (by rw [← hP, List.length_take]; omega)
    have hpl : P.length ≤ 1000 := by have := HPL.out; omega
    clear hP
    by_cases hlt : k < xss.length
    · have hd : decide ((k : Int) < (xss.length : Int)) = true := decide_eq_true (by omega)
      obtain ⟨b, off, u, rfl, c0, hu, hf⟩ := Lists.at H.out hlt
      have c0 := hx.cell c0
      have hu := hu.ext hx
      have hul := hn _ (List.getElem_mem hlt)
      have HT := Lib.hid (List.take_succ_eq_append_getElem hlt)
      have CL := CloneF_c u xss[k] wr hu hf hul
      obtain ⟨Au, cu, rfl, _, _⟩ := hu.form
      generalize xss[k] = x at *
      clear hu hf
      go_wp2_with fail
      refine CL.mono ?_
      rintro e w1 ⟨z, rfl, oz, _, hx1⟩
      obtain ⟨vs, p1, p2⟩ := ho
      obtain ⟨Aw, cw, hwv, _, _, _⟩ := (ownsRow_row p1).form
      subst hwv
      have e1 := Ext.alloc w1 (.cells #[z] 27)
      have q1 := ownsRow_ext p1 (hx1.trans e1)
      have q2 : ∀ i, (h : i < P.length) → ∃ u, vs[i]? = some u ∧ OwnInts g (w1.alloc (.cells #[z] 27)) u P[i] := fun i hi => by obtain ⟨u, a, b⟩ := p2 i hi; exact ⟨u, a, ownsRow_ext b (hx1.trans e1)⟩
      have hgw : g ≤ wr.heap.size := by have := hx.size; have := HG.out; omega
      have oz2 : OwnInts g (w1.alloc (.cells #[z] 27)) z x := ownsRow_base (ownsRow_ext oz e1) hgw
      have hxx := (hx.trans hx1).trans e1
      have hszb : g ≤ (w1.alloc (.cells #[z] 27)).heap.size := by have := hxx.size; have := HG.out; omega
      obtain ⟨Az, cz, rfl, _, _, _⟩ := (ownsRow_row oz).form
      have hq1 : (w1.alloc (.cells #[.slice Az x.length cz] 27)).ownsRow g 27 1 (.slice Aw P.length cw) P.length vs := q1
      have HOZ := Lib.hid oz2
      have HQ2 := Lib.hid q2
      clear p1 p2 oz oz2 q2 hx1 e1 CL
      generalize hxl : x.length = nx at *
      go_wp2_with (at_builtin; refine wpList_append_own_at _ rfl _ _ 32 rfl g 27 r0i (.slice none 0 0) 1 24 Tryz.underlying32 hri rz0 rz1 rz2 rfl (by decide) _ _ _ rfl hq1 ⟨w1.heap.size, 0, none⟩ 1 1 [.slice Az nx cz] rfl rfl (cell_one_new _ _ _) ?c2 ?c3 ?c4 ?c5 ?_)
      case c2 => intro u hu; simp at hu; subst hu; rfl
      case c3 => unfold maxLen; omega
      case c4 => omega
      case c5 => exact hszb
      intro v' w4 hown4 hg4 _ hloc
      have hx4 : Ext w w4 := hxx.grown hg4 (fun j hj => by have := (q1.lt j hj).1; have := HG.out; omega)
      have HS : Hid (OwnLists g w4 v' (xss.take (k + 1))) := Lib.hid (by rw [HT.out, HP.out]; exact OwnLists.snoc q1 HQ2.out HOZ.out hown4 hg4)
      clear hown4 hg4 q1 hq1
      go_wp2
      go_roundw
      case rel => exact ⟨k + 1, _, by omega, by go_num, rfl, HS.out, hx4⟩
      case measure => simp [intOf]; omega
    · have hd : decide ((k : Int) < (xss.length : Int)) = false := decide_eq_false (by omega)
      have HO : Hid (OwnLists w.heap.size wr uv xss) := Lib.hid (by have e := HP.out; rw [List.take_of_length_le (by omega)] at e; rw [HG.out, e]; exact ho)
      go_wp2
      go_ret
      exact ⟨_, rfl, HO.out, hx⟩
end Go.Proofs.YtapjofbjedpmgaaGreat
end
