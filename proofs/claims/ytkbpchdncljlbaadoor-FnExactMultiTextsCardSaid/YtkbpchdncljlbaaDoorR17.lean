/- Contract of the program's judgement of a configuration with several tapes, where the machine, the state and the number of tapes are right.
Contract of the program's run of a machine with several tapes, from a configuration that is valid.
A block that is known whole, as a full row. No condition. -/
import Derived.Test.YtkbpchdncljlbaaDoorR16
import Derived.Test.YtkbpchdncljlbaaDoorR08
section
set_option linter.unusedVariables false
set_option linter.unusedSimpArgs false
namespace Go.Proofs.YtkbpchdncljlbaaDoor
open Go Go.RowKit Go.Proofs Go.Maps
set_option maxHeartbeats 400000
end Go.Proofs.YtkbpchdncljlbaaDoor
end
section
set_option linter.unusedVariables false
set_option linter.unusedSimpArgs false
namespace Go.Proofs.YtkbpchdncljlbaaDoor
open Go Go.RowKit Go.Proofs Go.Maps
set_option maxHeartbeats 400000
/-- Tapes in memory from an address on, whose sides may be copied. -/
def TapF (w : World) (b off : Nat) (ts : List TapeD) : Prop :=
  ∀ i, (h : i < ts.length) → ∃ vl vr, w.cell? ⟨b, off + i * 2, none⟩ = some vl ∧ w.cell? ⟨b, off + i * 2 + 1, none⟩ = some vr ∧ Ints w vl ts[i].l ∧ Ints w vr ts[i].r ∧ Flat vl ∧ Flat vr ∧ ts[i].l.length ≤ 1000 ∧ ts[i].r.length ≤ 1000
theorem TapF.ext {w w' : World} {b off : Nat} {ts : List TapeD} (h : TapF w b off ts) (he : Ext w w') : TapF w' b off ts := fun i hi => by
  obtain ⟨vl, vr, c0, c1, i1, i2, r⟩ := h i hi
  exact ⟨vl, vr, he.cell c0, he.cell c1, i1.ext he, i2.ext he, r⟩
theorem TapF.tapes {w : World} {b off cap : Nat} {ts : List TapeD} (h : TapF w b off ts) (h1 : ts.length ≤ cap) (h2 : cap ≤ 9223372036854775807) : Tapes w (.slice (some ⟨b, off, none⟩) ts.length cap) ts :=
  ⟨_, cap, rfl, h1, h2, fun _ => ⟨b, off, rfl, fun i hi => by
    obtain ⟨vl, vr, c0, c1, i1, i2, _⟩ := h i hi
    exact ⟨vl, vr, c0, c1, i1, i2⟩⟩⟩
/-- Tapes in a block that is known whole. -/
def TapB (w : World) (g : Nat) (ts : List TapeD) : Prop :=
  ∃ cs, Blk w g 79 cs ∧ ∀ i, (h : i < ts.length) → ∃ lv rv, cs[i * 2]? = some lv ∧ cs[i * 2 + 1]? = some rv ∧ Side 0 w lv ts[i].l ∧ Side 0 w rv ts[i].r ∧ ts[i].l.length ≤ 1000 ∧ ts[i].r.length ≤ 1000
theorem TapB.tapF {w : World} {g : Nat} {ts : List TapeD} (h : TapB w g ts) : TapF w g 0 ts := fun i hi => by
  obtain ⟨cs, hb, hc⟩ := h
  obtain ⟨lv, rv, e1, e2, s1, s2, l1, l2⟩ := hc i hi
  exact ⟨lv, rv, by rw [Nat.zero_add]; exact (hb.cell _).trans e1, by rw [Nat.zero_add]; exact (hb.cell _).trans e2, s1.ints, s2.ints, s1.flat, s2.flat, l1, l2⟩
theorem TapB.far {w : World} {g gO : Nat} {ts : List TapeD} {co : Array Value} (h : TapB w g ts) (hO : Blk w gO 50 co) (i : Nat) (u : Value) : TapB (w.setCell ⟨gO, i, none⟩ u) g ts := by
  obtain ⟨cs, hb, hc⟩ := h
  refine ⟨cs, hb.far (by exact blk_ne hb hO (by decide)) _, fun j hj => ?_⟩
  obtain ⟨lv, rv, e1, e2, s1, s2, l1, l2⟩ := hc j hj
  exact ⟨lv, rv, e1, e2, s1.far (s1.neT hO (by decide)) _, s2.far (s2.neT hO (by decide)) _, l1, l2⟩
theorem MAt.tapB {w0 w : World} {K : Nat → Prop} {bc gT cap : Nat} {cs : Array Value} {c : MConfD} (h : MAt w0 K w bc gT cap cs c) (hr : roomM c = true) : TapB w gT c.tapes := ⟨cs, h.tblk, fun i hi => by
  obtain ⟨lv, rv, e1, e2, s1, s2⟩ := h.side i hi
  have := List.all_eq_true.1 hr _ (List.getElem_mem hi)
  simp only [roomT, Bool.and_eq_true, decide_eq_true_eq] at this
  exact ⟨lv, rv, e1, e2, s1.low (Nat.zero_le _), s2.low (Nat.zero_le _), by omega, by omega⟩⟩
theorem side_len {xs : List Int} {sy : Int} (h : sideOk xs sy 200 = true) : xs.length ≤ 200 ∧ ∀ z ∈ xs, 0 ≤ z ∧ z ≤ sy - 1 := by
  simp only [sideOk, Bool.and_eq_true, decide_eq_true_eq, List.all_eq_true] at h
  exact ⟨by omega, fun z hz => inB_iff.1 (h.1.2 z hz)⟩
theorem tape_len {m : MultiD} {t : TapeD} (h : tapeOk m t = true) : roomT t = true ∧ (∀ z ∈ t.l, 0 ≤ z ∧ z ≤ m.sy - 1) ∧ ∀ z ∈ t.r, 0 ≤ z ∧ z ≤ m.sy - 1 := by
  simp only [tapeOk, Bool.and_eq_true] at h
  have h1 := side_len h.1
  have h2 := side_len h.2
  exact ⟨by simp [roomT, h1.1, h2.1], h1.2, h2.2⟩
theorem room_of_ok {m : MultiD} {c : MConfD} (h : c.tapes.all (tapeOk m) = true) : roomM c = true :=
  List.all_eq_true.2 fun t ht => (tape_len (List.all_eq_true.1 h t ht)).1
theorem good_of_ok {m : MultiD} {c : MConfD} (hm : multiOk m = true) (hq : inB c.q 0 (m.st - 1) = true) (hn : (c.tapes.length : Int) = m.tp) (h : c.tapes.all (tapeOk m) = true) : GoodM m c := by
  obtain ⟨_, ⟨s1, s2⟩, ⟨q1, q2⟩, _, _⟩ := multi_all hm
  obtain ⟨q3, q4⟩ := inB_iff.1 hq
  refine ⟨by unfold smallZ; omega, hn, fun t ht => ?_⟩
  obtain ⟨_, h1, h2⟩ := tape_len (List.all_eq_true.1 h t ht)
  exact ⟨fun z hz => by have := h1 z hz; unfold smallZ; omega, fun z hz => by have := h2 z hz; unfold smallZ; omega⟩
/-- What a run of a machine with several tapes gives. -/
def RunRM (rs : List MRuleD) (c : MConfD) (N : Nat) (e : Ending) (w' : World) : Prop :=
  (∃ i g cap, MEnd rs c N i ∧ e = .returned (.tuple #[.agg #[.int .i64 (cfgM rs c i).q, .slice (some ⟨g, 0, none⟩) c.tapes.length cap], .int .i64 (i : Int), .bool (lookM rs (cfgM rs c i)).isNone, .int .i64 0]) ∧
    c.tapes.length ≤ cap ∧ cap ≤ 9223372036854775807 ∧ TapF w' g 0 (cfgM rs c i).tapes) ∨
  (∃ i, MFull rs c N i ∧ e = .returned (.tuple #[.agg #[.int .i64 0, .slice none 0 0], .int .i64 0, .bool false, .int .i64 5]))
end Go.Proofs.YtkbpchdncljlbaaDoor
end
section
namespace Go.Proofs.YtkbpchdncljlbaaDoor
open Go Go.RowKit Go.Proofs
theorem ownsRow_blk {w : World} {base g : Nat} {e : TypeId} {cs : Array Value} (size n : Nat) (hb : Blk w g e cs) (hg : base ≤ g) (hs : cs.size = n * size) (hm : n ≤ 1000000) : w.ownsRow base e size (.slice (some ⟨g, 0, none⟩) n n) n cs.toList :=
  ⟨by simp [hs], .inr ⟨g, n, cs, rfl, hg, hb, Nat.le_refl _, by unfold maxLen; omega, hs, List.take_of_length_le (by simp [hs])⟩⟩
end Go.Proofs.YtkbpchdncljlbaaDoor
end
