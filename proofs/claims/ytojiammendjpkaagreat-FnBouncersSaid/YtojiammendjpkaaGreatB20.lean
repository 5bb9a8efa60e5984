/- The append of one list of numbers to another, by its run. No condition.
Words for what the reference's calls on configurations come to, and for a configuration in a block that has been made.
Plain words for the cells of a formula tape, and the contract of formulaAt. -/
import Derived.Test.YtojiammendjpkaaGreatB04
import Derived.Maps.AppendAt
import Derived.Laws.AppendOwnNone
import Derived.Test.YtojiammendjpkaaGreatB05
import Derived.Test.YtojiammendjpkaaGreatB10
import Derived.Test.YtojiammendjpkaaGreatB02
import Derived.Test.YtojiammendjpkaaGreatB19
import Derived.Test.YtojiammendjpkaaGreatB15
import Derived.Test.YtojiammendjpkaaGreatB14
import Derived.Deep.DeepCutAuto
section
set_option linter.unusedVariables false
set_option linter.unusedSimpArgs false
namespace Go.Proofs.YtojiammendjpkaaGreat
open Go Go.RowKit Go.Proofs
set_option maxHeartbeats 400000
def FlatS (v : Value) : Prop := v = .slice none 0 0 ∨ ∃ b off n c, v = .slice (some ⟨b, off, none⟩) n c
theorem OwnInts.flatS {base : Nat} {w : World} {v : Value} {zs : List Int} (h : OwnInts base w v zs) : FlatS v := by
  rcases h.2 with ⟨rfl, _⟩ | ⟨g, cap, cur, rfl, _⟩
  · exact .inl rfl
  · exact .inr ⟨g, 0, _, cap, rfl⟩
theorem run_append_ints (w : World) (base : Nat) (v u : Value) (xs news : List Int) (hown : OwnInts base w v xs) (hu : Ints w u news) (hf : FlatS u) (hl : xs.length + news.length ≤ 4194304) (hbase : base ≤ w.heap.size) :
    ∃ v' w', (Builtin.append_ #[27, 27] 27 #[v, u]).run Tryz.prog w = .ok v' w' ∧ OwnInts base w' v' (xs ++ news) ∧ w.grownBy w' v.ownBlock := by
  obtain ⟨i0, hi, hz0, hz1, hz2⟩ := info_parts intInfo
  obtain ⟨A, c, rfl, _, _⟩ := id hu.form
  rcases hf with hf | ⟨b, off, n, c', hf⟩
  · injection hf with e1 e2 e3
    subst e1 e3
    have hz : news = [] := List.length_eq_zero_iff.1 e2
    subst hz
    exact ⟨v, w, run_append_owned_none (P := Tryz.prog) (w := w) base 27 27 2 i0 1 Tryz.underlying27 hi v xs.length (ivs xs) hown, by simpa using hown, ⟨rfl, rfl, rfl, Nat.le_refl _, fun _ _ _ => rfl⟩⟩
  · injection hf with e1 e2 e3
    subst e1 e3
    have hc : ∀ j y, (ivs news)[j]? = some y → w.cell? ((⟨b, off, none⟩ : Addr).add j) = some y := by
      intro j y hj
      obtain ⟨hl, _⟩ := List.getElem?_eq_some_iff.1 hj
      rw [ivs_length] at hl
      obtain ⟨b', off', e', hc⟩ := hu.at hl
      cases e'
      have := hc j hl
      have e : y = .int .i64 news[j] := by
        have := ivs_get news j hl
        rw [hj] at this
        injection this
      by_cases hj0 : j = 0
      · subst hj0
        rw [e]
        first | (simp [Addr.add]; done) | (simpa [Addr.add] using hc 0 hl)
      · rw [e]
        first | (simp [Addr.add, hj0]; done) | (simpa [Addr.add, hj0] using this)
    have h1 : ∀ u ∈ ivs news, u.oneCell' = true := by
      intro u hu
      obtain ⟨z, _, rfl⟩ := List.mem_map.1 hu
      rfl
    obtain ⟨v', w', hr, h2, h3, _, _⟩ := run_append_own_at (P := Tryz.prog) w base 27 27 2 i0 (.int .i64 0) 1 8 Tryz.underlying27 hi hz0 hz1 hz2 rfl (by decide) v xs.length (ivs xs) hown ⟨b, off, none⟩ news.length c (ivs news) (by simp) hc h1 (by unfold maxLen; omega) (by omega) hbase
    exact ⟨v', w', hr, by unfold OwnInts; rw [ivs_append, List.length_append]; exact h2, h3⟩
end Go.Proofs.YtojiammendjpkaaGreat
end
section
set_option linter.unusedSimpArgs false
set_option linter.unusedVariables false
namespace Go.Proofs.YtojiammendjpkaaGreat
open Go Go.RowKit Go.Proofs
/-- A configuration and a code, as the reference's functions give them. -/
def SpecRes (w : World) (r : ConfD × Int) (e : Ending) (w' : World) : Prop :=
  (∃ lv rv base, e = .returned (.tuple #[.agg #[.int .i64 r.1.q, lv, rv], .int .i64 r.2]) ∧ OwnInts base w' lv r.1.l ∧ OwnInts base w' rv r.1.r) ∧ Ext w w'
theorem ints_far {base : Nat} {w : World} {v : Value} {zs : List Int} (h : OwnInts base w v zs) {p : Addr} (hp : ∀ k, v.ownBlock = some k → k ≠ p.block) (u : Value) : OwnInts base (w.setCell p u) v zs := ownsRow_far h hp u
theorem SpecRes.done {w w1 : World} {r : ConfD × Int} {b base : Nat} {lv rv : Value} (hb : w.heap.size ≤ b) (hX : Ext w w1)
    (hl : OwnInts base w1 lv r.1.l) (hr : OwnInts base w1 rv r.1.r) (n1 : ∀ g, lv.ownBlock = some g → g ≠ b) (n2 : ∀ g, rv.ownBlock = some g → g ≠ b) (x y z : Value) :
    SpecRes w r (.returned (.tuple #[.agg #[.int .i64 r.1.q, lv, rv], .int .i64 r.2])) (((w1.setCell ⟨b, 0, none⟩ x).setCell ⟨b, 1, none⟩ y).setCell ⟨b, 2, none⟩ z) :=
  ⟨⟨_, _, base, rfl, ints_far (ints_far (ints_far hl n1 _) n1 _) n1 _, ints_far (ints_far (ints_far hr n2 _) n2 _) n2 _⟩, ((hX.setCell hb _).setCell hb _).setCell hb _⟩
theorem SpecRes.none {w w1 : World} {k : Int} {b : Nat} (hb : w.heap.size ≤ b) (hX : Ext w w1) (x y z : Value) :
    SpecRes w (blankC, k) (.returned (.tuple #[.agg #[.int .i64 0, .slice none 0 0, .slice none 0 0], .int .i64 k])) (((w1.setCell ⟨b, 0, none⟩ x).setCell ⟨b, 1, none⟩ y).setCell ⟨b, 2, none⟩ z) :=
  SpecRes.done (r := (blankC, k)) (base := 0) hb hX (World.ownsRow_nil ..) (World.ownsRow_nil ..) (fun g hg => by simp [Value.ownBlock] at hg) (fun g hg => by simp [Value.ownBlock] at hg) x y z
/-- A configuration in a block that has been made: its state and its sides. -/
def CutK (w0 : World) (q : Int) (l r : List Int) (s : Value) (w : World) : Prop := ∃ g lv rv bl br, s = .pointer (some ⟨g, 0, none⟩) ∧ Blk w g 29 #[.int .i64 q, lv, rv] ∧ Ext w0 w ∧ w0.heap.size ≤ g ∧ OwnInts bl w lv l ∧ OwnInts br w rv r ∧ w0.heap.size ≤ bl ∧ w0.heap.size ≤ br
theorem CutK.late {w0 wC : World} {q : Int} {l r : List Int} {lv rv : Value} {bl br : Nat} (hx : Ext w0 wC) (h1 : OwnInts bl wC lv l) (h2 : OwnInts br wC rv r) (b1 : w0.heap.size ≤ bl) (b2 : w0.heap.size ≤ br) :
    CutK w0 q l r (.pointer (some ⟨wC.heap.size, 0, none⟩)) (wC.alloc (.cells #[.int .i64 q, lv, rv] 29)) :=
  ⟨_, lv, rv, bl, br, rfl, Blk.new _ _ _ _ rfl, hx.trans (Ext.alloc _ _), hx.size, h1.ext (Ext.alloc _ _), h2.ext (Ext.alloc _ _), b1, b2⟩
theorem CutK.early {w0 wC : World} {q : Int} {l r : List Int} {lv rv : Value} {bl br g : Nat} (hx : Ext w0 wC) (h1 : OwnInts bl wC lv l) (h2 : OwnInts br wC rv r) (b1 : w0.heap.size ≤ bl) (b2 : w0.heap.size ≤ br) (hb : Blk wC g 29 #[.int .i64 0, .slice none 0 0, .slice none 0 0]) (hg : w0.heap.size ≤ g) :
    CutK w0 q l r (.pointer (some ⟨g, 0, none⟩)) (((wC.setCell ⟨g, 0, none⟩ (.int .i64 q)).setCell ⟨g, 1, none⟩ lv).setCell ⟨g, 2, none⟩ rv) := by
  have n1 : ∀ k, lv.ownBlock = some k → k ≠ g := fun k hk e => by
    subst e
    exact blk_ne_row hb h1 (by decide) hk.symm
  have n2 : ∀ k, rv.ownBlock = some k → k ≠ g := fun k hk e => by
    subst e
    exact blk_ne_row hb h2 (by decide) hk.symm
  exact ⟨g, lv, rv, bl, br, rfl, ((hb.set_ 0 _).set_ 1 _).set_ 2 _, ((hx.setCell hg _).setCell hg _).setCell hg _, hg, ints_far (ints_far (ints_far h1 n1 _) n1 _) n1 _, ints_far (ints_far (ints_far h2 n2 _) n2 _) n2 _, b1, b2⟩
end Go.Proofs.YtojiammendjpkaaGreat
end
section
set_option linter.unusedSimpArgs false
set_option linter.unusedVariables false
namespace Go.Proofs.YtojiammendjpkaaGreat
open Go Go.RowKit Go.Proofs
set_option maxHeartbeats 400000
theorem take_get {α : Type} {xs : List α} {k : Nat} (h : k < xs.length) : xs.take (k + 1) = xs.take k ++ [xs[k]] := List.take_succ_eq_append_getElem h
theorem preF_step {ws rs : List (List Int)} {es : List Nat} (h1 : ws.length = rs.length + 1) (h2 : es.length = rs.length) {k : Nat} (hk : k < rs.length) :
    preF (ws.take (k + 1)) (rs.take (k + 1)) (es.take (k + 1)) = preF (ws.take k) (rs.take k) (es.take k) ++ ws.getD k [] ++ repL (rs.getD k []) (es.getD k 0) := by
  rw [take_get (show k < ws.length by omega), take_get hk, take_get (show k < es.length by omega), preF_append _ _ _ _ _ _ (by simp; omega) (by simp; omega), getD_get (show k < ws.length by omega), getD_get hk, getD_get (show k < es.length by omega)]
  simp [preF]
theorem tapeF_last {ws rs : List (List Int)} {es : List Nat} (h1 : ws.length = rs.length + 1) (h2 : es.length = rs.length) :
    tapeF ws rs es = preF (ws.take rs.length) (rs.take rs.length) (es.take rs.length) ++ ws.getD rs.length [] := by
  have e1 : ws = ws.take rs.length ++ [ws.getD rs.length []] := by
    rw [getD_get (show rs.length < ws.length by omega), ← take_get (show rs.length < ws.length by omega), List.take_of_length_le (by omega)]
  have e2 : rs = rs.take rs.length ++ [] := by simp
  have e3 : es = es.take rs.length ++ [] := by rw [← h2]; simp
  have := tapeF_append (ws.take rs.length) (rs.take rs.length) (es.take rs.length) [ws.getD rs.length []] [] [] (by simp; omega) (by simp; omega)
  rw [← e1, ← e2, ← e3] at this
  exact this
/-- The cells behind k walls. -/
def celF (ws rs : List (List Int)) (es : List Nat) (k : Nat) : List Int := if k ≤ rs.length then preF (ws.take k) (rs.take k) (es.take k) else tapeF ws rs es
theorem celF_zero (ws rs : List (List Int)) (es : List Nat) : celF ws rs es 0 = [] := by simp [celF, preF]
theorem celF_step {ws rs : List (List Int)} {es : List Nat} (h1 : ws.length = rs.length + 1) (h2 : es.length = rs.length) {k : Nat} (hk : k < rs.length) :
    celF ws rs es (k + 1) = celF ws rs es k ++ ws.getD k [] ++ repL (rs.getD k []) (es.getD k 0) := by
  unfold celF
  rw [if_pos (by omega), if_pos (by omega), preF_step h1 h2 hk]
theorem celF_last {ws rs : List (List Int)} {es : List Nat} (h1 : ws.length = rs.length + 1) (h2 : es.length = rs.length) :
    celF ws rs es (rs.length + 1) = celF ws rs es rs.length ++ ws.getD rs.length [] := by
  unfold celF
  rw [if_neg (by omega), if_pos (Nat.le_refl _), tapeF_last h1 h2]
theorem celF_mono {ws rs : List (List Int)} {es : List Nat} (h1 : ws.length = rs.length + 1) (h2 : es.length = rs.length) : ∀ (d k : Nat), k + d ≤ rs.length + 1 → (celF ws rs es k).length ≤ (celF ws rs es (k + d)).length
  | 0, k, _ => Nat.le_refl _
  | d + 1, k, h => by
    refine Nat.le_trans (celF_mono h1 h2 d k (by omega)) ?_
    by_cases c : k + d < rs.length
    · rw [show k + (d + 1) = (k + d) + 1 by omega, celF_step h1 h2 c, List.length_append, List.length_append]; omega
    · have e : k + d = rs.length := by omega
      rw [show k + (d + 1) = (k + d) + 1 by omega, e, celF_last h1 h2, List.length_append]; omega
theorem celF_small {ws rs : List (List Int)} {es : List Nat} (h1 : ws.length = rs.length + 1) (h2 : es.length = rs.length) (hw : ∀ x ∈ ws, x.length ≤ 1000) (hr : ∀ k, k < rs.length → es.getD k 0 * (rs.getD k []).length ≤ 100000) :
    ∀ (k : Nat), k ≤ rs.length + 1 → (celF ws rs es k).length ≤ k * 101000
  | 0, _ => by rw [celF_zero]; simp
  | k + 1, h => by
    have ih := celF_small h1 h2 hw hr k (by omega)
    have a : (ws.getD k []).length ≤ 1000 := by rw [getD_get (show k < ws.length by omega)]; exact hw _ (List.getElem_mem _)
    by_cases c : k < rs.length
    · have b := hr k c
      rw [celF_step h1 h2 c, List.length_append, List.length_append, repL_length]; omega
    · have e : k = rs.length := by omega
      rw [e, celF_last h1 h2, List.length_append, ← e]; omega
theorem hoff_cel {ws rs : List (List Int)} {es : List Nat} {k : Nat} (hk : k ≤ rs.length) : hoff ws rs es k = (celF ws rs es k).length := by
  unfold hoff celF
  rw [if_pos hk]
theorem tape_cel (ws rs : List (List Int)) (es : List Nat) : tapeF ws rs es = celF ws rs es (rs.length + 1) := by
  unfold celF
  rw [if_neg (by omega)]
theorem esF_getD : ∀ (cs os : List Int) (k : Nat), cs.length = os.length → (esF cs os).getD k 0 = (cs.getD k 0 + os.getD k 0).toNat
  | [], [], k, _ => by simp [esF]
  | c :: cs, o :: os, 0, _ => rfl
  | c :: cs, o :: os, k + 1, h => by
    have := esF_getD cs os k (by simpa using h)
    simpa [esF] using this
theorem atOk_iff {f : FoD} (h : atOk f = true) : (0 ≤ f.at_ ∧ f.at_ < ((f.ws.getD f.hd.toNat []).length : Int)) ∨ (f.at_ = ((f.ws.getD f.hd.toNat []).length : Int) ∧ f.hd < (f.rs.length : Int)) ∨ (f.at_ = -1 ∧ 0 < f.hd) := by
  unfold atOk at h
  simp only [Bool.or_eq_true, Bool.and_eq_true, decide_eq_true_eq] at h
  rcases h with (h | h) | h
  · have := inB_iff.1 h; exact .inl (by omega)
  · exact .inr (.inl h)
  · exact .inr (.inr h)
theorem foOk_parts {m : MachD} {f : FoD} (h : foOk m f = true) : (1 ≤ f.rs.length ∧ f.rs.length ≤ 3) ∧ f.ws.length = f.rs.length + 1 ∧ f.os.length = f.rs.length ∧ (∀ x ∈ f.ws, x.length ≤ 100) ∧ (∀ r ∈ f.rs, 1 ≤ r.length ∧ r.length ≤ 20) ∧ (∀ o ∈ f.os, -1000 ≤ o ∧ o ≤ 1000) ∧ atOk f = true := by
  unfold foOk at h
  simp only [Bool.and_eq_true, decide_eq_true_eq, List.all_eq_true] at h
  obtain ⟨⟨⟨⟨⟨⟨⟨⟨_, a⟩, b⟩, c⟩, d⟩, e⟩, o⟩, _⟩, t⟩ := h
  refine ⟨by have := inB_iff.1 a; omega, b, c, fun x hx => ?_, fun r hr => ?_, fun z hz => by have := inB_iff.1 (o z hz); omega, t⟩
  · have := d x hx
    simp only [wordIn, Bool.and_eq_true, decide_eq_true_eq] at this
    exact this.1
  · have := e r hr
    simp only [repIn, wordIn, Bool.and_eq_true, decide_eq_true_eq] at this
    exact ⟨this.1, this.2.1⟩
theorem foOk_hd {m : MachD} {f : FoD} (h : foOk m f = true) : 0 ≤ f.hd ∧ f.hd ≤ (f.rs.length : Int) := by
  unfold foOk at h
  simp only [Bool.and_eq_true, decide_eq_true_eq, List.all_eq_true] at h
  obtain ⟨⟨_, h⟩, _⟩ := h
  exact inB_iff.1 h
/-- The head is on the cells, or just behind them. -/
theorem head_ok {f : FoD} {cs : List Int} (h : ShapeF f cs) (ha : atOk f = true) (hne : ∀ r ∈ f.rs, r ≠ []) (hp : ∀ k, k < f.rs.length → 1 ≤ cs.getD k 0 + f.os.getD k 0) : 0 ≤ headO f cs ∧ headO f cs ≤ ((tapeO f cs).length : Int) := by
  have hel : (esF cs f.os).length = f.rs.length := by rw [esF_length _ _ (by rw [h.cn, h.os]), h.os]
  obtain ⟨k, hk⟩ : ∃ k : Nat, f.hd = k := Int.eq_ofNat_of_zero_le h.h0
  have hkn : k ≤ f.rs.length := by have := h.h1; omega
  have hA := atOk_iff ha
  have ex1 : ∀ k, k < f.rs.length → 1 ≤ (repL (f.rs.getD k []) ((esF cs f.os).getD k 0)).length := fun k hk => by
    rw [repL_length, esF_getD _ _ _ (by rw [h.cn, h.os])]
    have a : 1 ≤ (f.rs.getD k []).length := by
      rw [getD_get hk]
      exact List.length_pos_iff.2 (hne _ (List.getElem_mem _))
    have b := hp k hk
    exact Nat.mul_pos (by omega) (by omega)
  have up : ∀ k, k < f.rs.length → (celF f.ws f.rs (esF cs f.os) k).length + (f.ws.getD k []).length + 1 ≤ (celF f.ws f.rs (esF cs f.os) (k + 1)).length := fun k hk => by
    have := ex1 k hk
    rw [celF_step h.ws hel hk, List.length_append, List.length_append]; omega
  unfold headO tapeO
  rw [hk, Int.toNat_natCast, hoff_cel hkn, tape_cel]
  rw [hk, Int.toNat_natCast] at hA
  by_cases c : k < f.rs.length
  · have u := up k c
    have mo := celF_mono h.ws hel (f.rs.length - k) (k + 1) (by omega)
    rw [show k + 1 + (f.rs.length - k) = f.rs.length + 1 by omega] at mo
    have lo : f.at_ = -1 → 1 ≤ (celF f.ws f.rs (esF cs f.os) k).length := fun e => by
      have k0 : 0 < k := by omega
      have := up (k - 1) (by omega)
      rw [show k - 1 + 1 = k by omega] at this
      omega
    omega
  · have e : k = f.rs.length := by omega
    have lo : f.at_ = -1 → 1 ≤ (celF f.ws f.rs (esF cs f.os) k).length := fun e => by
      have k0 : 0 < k := by omega
      have := up (k - 1) (by omega)
      rw [show k - 1 + 1 = k by omega] at this
      omega
    have cl := celF_last h.ws hel
    rw [← e] at cl ⊢
    rw [cl, List.length_append]
    omega
end Go.Proofs.YtojiammendjpkaaGreat
end
