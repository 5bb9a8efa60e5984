/- Contract of the program's copy of a configuration with several tapes.
The copy of a configuration with several tapes, behind a pointer. No program runs here.
Contract of the program's run of a machine with several tapes, from a configuration that is valid. -/
import Derived.Test.YtfghojbbofobeaaGreatDoorW18
import Derived.Test.YtfghojbbofobeaaGreatDoorW16
import Derived.Test.YtfghojbbofobeaaGreatDoorW07
import Derived.Maps.AppendAt
section
set_option linter.unusedVariables false
set_option linter.unusedSimpArgs false
namespace Go.Proofs.YtfghojbbofobeaaGreatDoor
open Go Go.RowKit Go.Proofs Go.Maps
set_option maxHeartbeats 400000
/-- Copies of the first k tapes, in rows of their own that are apart. -/
structure CpM (w : World) (ts : List TapeD) (k : Nat) (v : Value) (cl : List Value) (wr : World) : Prop where
  own : wr.ownsRow w.heap.size 110 2 v k cl
  len : cl.length = k * 2
  side : ∀ i, (h : i < ts.length) → i < k → ∃ lv rv, cl[i * 2]? = some lv ∧ cl[i * 2 + 1]? = some rv ∧ OwnInts w.heap.size wr lv ts[i].l ∧ OwnInts w.heap.size wr rv ts[i].r
  ap : ∀ (i j : Nat) (u v : Value) (g : Nat), i ≠ j → cl[i]? = some u → cl[j]? = some v → u.ownBlock = some g → v.ownBlock ≠ some g
section
variable {w wr w' : World} {ts : List TapeD} {k : Nat} {v v' : Value} {cl : List Value}
theorem CpM.same (h : CpM w ts k v cl wr) (hs : ∀ g, g < wr.heap.size → (v.ownBlock = some g ∨ ∃ cs, Blk wr g 2 cs) → w'.heap[g]? = wr.heap[g]?) : CpM w ts k v cl w' := by
  have hi : ∀ {u : Value} {zs : List Int}, OwnInts w.heap.size wr u zs → OwnInts w.heap.size w' u zs := fun {u zs} o => own_same o (fun g hg => hs g (o.lt g hg).2 (.inr (by
    rcases o.2 with ⟨rfl, _⟩ | ⟨g', cap, cur, rfl, _, hh, _⟩
    · simp [Value.ownBlock] at hg
    · simp [Value.ownBlock] at hg
      subst hg
      exact ⟨_, hh⟩)))
  refine ⟨own_same h.own (fun g hg => hs g (h.own.lt g hg).2 (.inl hg)), h.len, fun i hi1 hi2 => ?_, h.ap⟩
  obtain ⟨lv, rv, e1, e2, o1, o2⟩ := h.side i hi1 hi2
  exact ⟨lv, rv, e1, e2, hi o1, hi o2⟩
theorem CpM.ext (h : CpM w ts k v cl wr) (he : Ext wr w') : CpM w ts k v cl w' := h.same fun g hg _ => Below.block he g hg
theorem CpM.set (h : CpM w ts k v cl wr) {g : Nat} {cs : Array Value} (hb : Blk wr g 68 cs) (i : Nat) (u : Value) : CpM w ts k v cl (wr.setCell ⟨g, i, none⟩ u) :=
  h.same fun q hq hr => Below.heap_setCell wr _ u q (fun e => by
    have e : q = g := e
    subst e
    rcases hr with e | ⟨cs', e⟩
    · exact blk_ne_row hb h.own (by decide) e.symm
    · exact blk_ne e hb (by decide) rfl)
theorem CpM.lt (h : CpM w ts k v cl wr) (hk : k ≤ ts.length) {j : Nat} {u : Value} {g : Nat} (hj : cl[j]? = some u) (hg : u.ownBlock = some g) : g < wr.heap.size := by
  have hl := h.len
  have hj2 : j < cl.length := (List.getElem?_eq_some_iff.1 hj).1
  obtain ⟨lv, rv, e1, e2, o1, o2⟩ := h.side (j / 2) (by omega) (by omega)
  by_cases hp : j = j / 2 * 2
  · rw [← hp, hj] at e1
    injection e1 with e1
    subst e1
    exact (o1.lt g hg).2
  · have hp2 : j = j / 2 * 2 + 1 := by omega
    rw [← hp2, hj] at e2
    injection e2 with e2
    subst e2
    exact (o2.lt g hg).2
theorem CpM.push (h : CpM w ts k v cl wr) {lv rv : Value} (hk : k < ts.length) (hg : wr.grownBy w' v.ownBlock) (ho : w'.ownsRow w.heap.size 110 2 v' (k + 1) (cl ++ [lv, rv])) (hl : OwnInts w.heap.size wr lv ts[k].l) (hr : OwnInts w.heap.size wr rv ts[k].r)
    (hap : ∀ g, lv.ownBlock = some g → rv.ownBlock ≠ some g) (hfr : ∀ (j : Nat) (u : Value) (g : Nat), cl[j]? = some u → u.ownBlock = some g → lv.ownBlock ≠ some g ∧ rv.ownBlock ≠ some g) : CpM w ts (k + 1) v' (cl ++ [lv, rv]) w' := by
  have hi : ∀ {u : Value} {zs : List Int}, OwnInts w.heap.size wr u zs → OwnInts w.heap.size w' u zs := fun {u zs} o => own_same o (fun g hgu => hg.block g (o.lt g hgu).2 (fun e => by
    rcases own_ne o h.own (by decide) with e' | e'
    · rw [e'] at hgu; cases hgu
    · exact e' (hgu.trans e)))
  have hlen := h.len
  have key : ∀ (j : Nat) (u : Value), (cl ++ [lv, rv])[j]? = some u → (j < k * 2 ∧ cl[j]? = some u) ∨ (j = k * 2 ∧ u = lv) ∨ (j = k * 2 + 1 ∧ u = rv) := by
    intro j u hj
    by_cases h1 : j < cl.length
    · rw [List.getElem?_append_left h1] at hj
      exact .inl ⟨by omega, hj⟩
    · rw [List.getElem?_append_right (by omega)] at hj
      obtain ⟨d, hd⟩ : ∃ d, j - cl.length = d := ⟨_, rfl⟩
      rw [hd] at hj
      match d, hd with
      | 0, hd => simp at hj; exact .inr (.inl ⟨by omega, hj.symm⟩)
      | 1, hd => simp at hj; exact .inr (.inr ⟨by omega, hj.symm⟩)
      | d + 2, hd => simp at hj
  refine ⟨ho, by simp; omega, fun i hi1 hi2 => ?_, fun i j u u' g hij hu hv hgu hgv => ?_⟩
  · by_cases hik : i < k
    · obtain ⟨l1, r1, e1, e2, o1, o2⟩ := h.side i hi1 hik
      exact ⟨l1, r1, by rw [List.getElem?_append_left (by omega)]; exact e1, by rw [List.getElem?_append_left (by omega)]; exact e2, hi o1, hi o2⟩
    · obtain rfl : i = k := by omega
      exact ⟨lv, rv, by rw [List.getElem?_append_right (by omega)]; simp [hlen], by rw [List.getElem?_append_right (by omega)]; simp [hlen], hi hl, hi hr⟩
  · rcases key i u hu with ⟨a1, a2⟩ | ⟨a1, rfl⟩ | ⟨a1, rfl⟩ <;> rcases key j u' hv with ⟨b1, b2⟩ | ⟨b1, rfl⟩ | ⟨b1, rfl⟩
    · exact h.ap i j u u' g hij a2 b2 hgu hgv
    · exact (hfr i u g a2 hgu).1 hgv
    · exact (hfr i u g a2 hgu).2 hgv
    · exact (hfr j u' g b2 hgv).1 hgu
    · omega
    · exact hap g hgu hgv
    · exact (hfr j u' g b2 hgv).2 hgu
    · exact hap g hgv hgu
    · omega
end
theorem tapeInfo : (Tryz.prog.info? 110).map (fun i => (i.zero, i.size, i.bytes)) = some (some (.agg #[.slice none 0 0, .slice none 0 0]), 2, 48) := by kernel_rfl
end Go.Proofs.YtfghojbbofobeaaGreatDoor
end
section
set_option linter.unusedVariables false
set_option linter.unusedSimpArgs false
namespace Go.Proofs.YtfghojbbofobeaaGreatDoor
open Go Go.RowKit Go.Proofs Go.Maps
theorem CpM.at {w w1 : World} {c : MConfD} {v : Value} {cl : List Value} (h : CpM w c.tapes c.tapes.length v cl w1) (hx : Ext w w1) (h0 : 0 < c.tapes.length) :
    ∃ gT cap cs, v = .slice (some ⟨gT, 0, none⟩) c.tapes.length cap ∧ MAt w (fun k => k < w.heap.size) (w1.alloc (.cells #[.int .i64 c.q, v] 68)) w1.heap.size gT cap cs c := by
  have hA := Ext.alloc w1 (.cells #[.int .i64 c.q, v] 68)
  have hlen := h.len
  have hlt := fun (j : Nat) (u : Value) (g : Nat) (hj : cl[j]? = some u) (hg : u.ownBlock = some g) => h.lt (Nat.le_refl _) hj hg
  have hlow : ∀ (j : Nat) (u : Value) (g : Nat), cl[j]? = some u → u.ownBlock = some g → w.heap.size ≤ g := by
    intro j u g hj hg
    have hj2 : j < cl.length := (List.getElem?_eq_some_iff.1 hj).1
    obtain ⟨lv, rv, e1, e2, o1, o2⟩ := h.side (j / 2) (by omega) (by omega)
    by_cases hp : j = j / 2 * 2
    · rw [← hp, hj] at e1
      injection e1 with e1
      subst e1
      exact (o1.lt g hg).1
    · have hp2 : j = j / 2 * 2 + 1 := by omega
      rw [← hp2, hj] at e2
      injection e2 with e2
      subst e2
      exact (o2.lt g hg).1
  have hs := hx.size
  rcases h.own.2 with ⟨_, e⟩ | ⟨g, cap, cur, e, hb, hh, hnc, hcm, hcs, htk⟩
  · omega
  · subst e
    have hget : ∀ j, j < c.tapes.length * 2 → cur[j]? = cl[j]? := fun j hj => by
      rw [← htk, List.getElem?_take, if_pos (by omega)]
      simp
    have hB : Blk w1 g 110 cur := hh
    refine ⟨g, cap, cur, rfl, ⟨hx.trans hA, fun k hk => ?_, hs, ?_, hb, ?_, hnc, by unfold maxLen at hcm; omega, Blk.new _ _ _ _ rfl, hB.ext hA, fun i hi => ?_, fun j u q hjn hj hq => ?_, fun j u q hjn hj hq => ?_, fun i j u u' q hin hjn hij hu hv hqu hqv => ?_⟩⟩
    · exact Nat.lt_of_lt_of_le hk (hx.trans hA).size
    · simp; omega
    · simp; omega
    · obtain ⟨lv, rv, e1, e2, o1, o2⟩ := h.side i hi hi
      exact ⟨lv, rv, by rw [hget _ (by omega)]; exact e1, by rw [hget _ (by omega)]; exact e2, Side.ofOwn (o1.ext hA), Side.ofOwn (o2.ext hA)⟩
    · rw [hget j hjn] at hj
      have := hlow j u q hj (ownS_own hq)
      simp; omega
    · rw [hget j hjn] at hj
      have a := hlow j u q hj (ownS_own hq)
      have b := hlt j u q hj (ownS_own hq)
      exact ⟨a, Nat.lt_of_lt_of_le b hA.size⟩
    · rw [hget i hin] at hu
      rw [hget j hjn] at hv
      exact h.ap i j u u' q hij hu hv (ownS_own hqu) (ownS_own hqv)
end Go.Proofs.YtfghojbbofobeaaGreatDoor
end
section
set_option linter.unusedVariables false
set_option linter.unusedSimpArgs false
namespace Go.Proofs.YtfghojbbofobeaaGreatDoor
open Go Go.RowKit Go.Proofs Go.Maps
set_option maxHeartbeats 400000
/-- Tapes in memory from an address on, whose sides may be copied. -/
def TapF (w : World) (b off : Nat) (ts : List TapeD) : Prop :=
  ∀ i, (h : i < ts.length) → ∃ vl vr, w.cell? ⟨b, off + i * 2, none⟩ = some vl ∧ w.cell? ⟨b, off + i * 2 + 1, none⟩ = some vr ∧ Ints w vl ts[i].l ∧ Ints w vr ts[i].r ∧ Flat vl ∧ Flat vr ∧ ts[i].l.length ≤ 1000 ∧ ts[i].r.length ≤ 1000
theorem TapF.ext {w w' : World} {b off : Nat} {ts : List TapeD} (h : TapF w b off ts) (he : Ext w w') : TapF w' b off ts := fun i hi => by
  obtain ⟨vl, vr, c0, c1, i1, i2, r⟩ := h i hi
  exact ⟨vl, vr, he.cell c0, he.cell c1, i1.ext he, i2.ext he, r⟩
theorem TapF.tapes {w : World} {b off cap : Nat} {ts : List TapeD} (h : TapF w b off ts) (h1 : ts.length ≤ cap) (h2 : cap ≤ 9223372036854775807) : Tapes w (.slice (some ⟨b, off, none⟩) ts.length cap) ts :=
  ⟨_, cap, rfl, h1, h2, fun _ => ⟨b, off, rfl, fun i hi => by
    obtain ⟨vl, vr, c0, c1, i1, i2, _⟩ := h i hi
    exact ⟨vl, vr, c0, c1, i1, i2⟩⟩⟩
/-- Tapes in a block that is known whole. -/
def TapB (w : World) (g : Nat) (ts : List TapeD) : Prop :=
  ∃ cs, Blk w g 110 cs ∧ ∀ i, (h : i < ts.length) → ∃ lv rv, cs[i * 2]? = some lv ∧ cs[i * 2 + 1]? = some rv ∧ Side 0 w lv ts[i].l ∧ Side 0 w rv ts[i].r ∧ ts[i].l.length ≤ 1000 ∧ ts[i].r.length ≤ 1000
theorem TapB.tapF {w : World} {g : Nat} {ts : List TapeD} (h : TapB w g ts) : TapF w g 0 ts := fun i hi => by
  obtain ⟨cs, hb, hc⟩ := h
  obtain ⟨lv, rv, e1, e2, s1, s2, l1, l2⟩ := hc i hi
  exact ⟨lv, rv, by rw [Nat.zero_add]; exact (hb.cell _).trans e1, by rw [Nat.zero_add]; exact (hb.cell _).trans e2, s1.ints, s2.ints, s1.flat, s2.flat, l1, l2⟩
theorem TapB.far {w : World} {g gO : Nat} {ts : List TapeD} {co : Array Value} (h : TapB w g ts) (hO : Blk w gO 68 co) (i : Nat) (u : Value) : TapB (w.setCell ⟨gO, i, none⟩ u) g ts := by
  obtain ⟨cs, hb, hc⟩ := h
  refine ⟨cs, hb.far (by exact blk_ne hb hO (by decide)) _, fun j hj => ?_⟩
  obtain ⟨lv, rv, e1, e2, s1, s2, l1, l2⟩ := hc j hj
  exact ⟨lv, rv, e1, e2, s1.far (s1.neT hO (by decide)) _, s2.far (s2.neT hO (by decide)) _, l1, l2⟩
end Go.Proofs.YtfghojbbofobeaaGreatDoor
end
