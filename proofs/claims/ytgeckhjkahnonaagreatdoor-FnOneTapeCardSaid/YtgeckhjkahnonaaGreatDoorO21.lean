/- The copy of a configuration with several tapes, behind a pointer. No program runs here.
Contract of the program's run of a machine with several tapes, from a configuration that is valid.
Contracts of the program's rules of two tapes, of the rules that copy, and of the copier. -/
import Derived.Test.YtgeckhjkahnonaaGreatDoorO20
import Derived.Test.YtgeckhjkahnonaaGreatDoorO18
import Derived.Test.YtgeckhjkahnonaaGreatDoorO16
section
set_option linter.unusedVariables false
set_option linter.unusedSimpArgs false
namespace Go.Proofs.YtgeckhjkahnonaaGreatDoor
open Go Go.RowKit Go.Proofs Go.Maps
theorem CpM.at {w w1 : World} {c : MConfD} {v : Value} {cl : List Value} (h : CpM w c.tapes c.tapes.length v cl w1) (hx : Ext w w1) (h0 : 0 < c.tapes.length) :
    ∃ gT cap cs, v = .slice (some ⟨gT, 0, none⟩) c.tapes.length cap ∧ MAt w (fun k => k < w.heap.size) (w1.alloc (.cells #[.int .i64 c.q, v] 48)) w1.heap.size gT cap cs c := by
  have hA := Ext.alloc w1 (.cells #[.int .i64 c.q, v] 48)
  have hlen := h.len
  have hlt := fun (j : Nat) (u : Value) (g : Nat) (hj : cl[j]? = some u) (hg : u.ownBlock = some g) => h.lt (Nat.le_refl _) hj hg
  have hlow : ∀ (j : Nat) (u : Value) (g : Nat), cl[j]? = some u → u.ownBlock = some g → w.heap.size ≤ g := by
    intro j u g hj hg
    have hj2 : j < cl.length := (List.getElem?_eq_some_iff.1 hj).1
    obtain ⟨lv, rv, e1, e2, o1, o2⟩ := h.side (j / 2) (by omega) (by omega)
    by_cases hp : j = j / 2 * 2
    · rw [← hp, hj] at e1
      injection e1 with e1
      subst e1
      exact (o1.lt g hg).1
    · have hp2 : j = j / 2 * 2 + 1 := by omega
      rw [← hp2, hj] at e2
      injection e2 with e2
      subst e2
      exact (o2.lt g hg).1
  have hs := hx.size
  rcases h.own.2 with ⟨_, e⟩ | ⟨g, cap, cur, e, hb, hh, hnc, hcm, hcs, htk⟩
  · omega
  · subst e
    have hget : ∀ j, j < c.tapes.length * 2 → cur[j]? = cl[j]? := fun j hj => by
      rw [← htk, List.getElem?_take, if_pos (by omega)]
      simp
    have hB : Blk w1 g 91 cur := hh
    refine ⟨g, cap, cur, rfl, ⟨hx.trans hA, fun k hk => ?_, hs, ?_, hb, ?_, hnc, by unfold maxLen at hcm; omega, Blk.new _ _ _ _ rfl, hB.ext hA, fun i hi => ?_, fun j u q hjn hj hq => ?_, fun j u q hjn hj hq => ?_, fun i j u u' q hin hjn hij hu hv hqu hqv => ?_⟩⟩
    · exact Nat.lt_of_lt_of_le hk (hx.trans hA).size
    · simp; omega
    · simp; omega
    · obtain ⟨lv, rv, e1, e2, o1, o2⟩ := h.side i hi hi
      exact ⟨lv, rv, by rw [hget _ (by omega)]; exact e1, by rw [hget _ (by omega)]; exact e2, Side.ofOwn (o1.ext hA), Side.ofOwn (o2.ext hA)⟩
    · rw [hget j hjn] at hj
      have := hlow j u q hj (ownS_own hq)
      simp; omega
    · rw [hget j hjn] at hj
      have a := hlow j u q hj (ownS_own hq)
      have b := hlt j u q hj (ownS_own hq)
      exact ⟨a, Nat.lt_of_lt_of_le b hA.size⟩
    · rw [hget i hin] at hu
      rw [hget j hjn] at hv
      exact h.ap i j u u' q hij hu hv (ownS_own hqu) (ownS_own hqv)
end Go.Proofs.YtgeckhjkahnonaaGreatDoor
end
section
set_option linter.unusedVariables false
set_option linter.unusedSimpArgs false
namespace Go.Proofs.YtgeckhjkahnonaaGreatDoor
open Go Go.RowKit Go.Proofs Go.Maps
set_option maxHeartbeats 400000
/-- Tapes in memory from an address on, whose sides may be copied. -/
def TapF (w : World) (b off : Nat) (ts : List TapeD) : Prop :=
  ∀ i, (h : i < ts.length) → ∃ vl vr, w.cell? ⟨b, off + i * 2, none⟩ = some vl ∧ w.cell? ⟨b, off + i * 2 + 1, none⟩ = some vr ∧ Ints w vl ts[i].l ∧ Ints w vr ts[i].r ∧ Flat vl ∧ Flat vr ∧ ts[i].l.length ≤ 1000 ∧ ts[i].r.length ≤ 1000
theorem TapF.ext {w w' : World} {b off : Nat} {ts : List TapeD} (h : TapF w b off ts) (he : Ext w w') : TapF w' b off ts := fun i hi => by
  obtain ⟨vl, vr, c0, c1, i1, i2, r⟩ := h i hi
  exact ⟨vl, vr, he.cell c0, he.cell c1, i1.ext he, i2.ext he, r⟩
theorem TapF.tapes {w : World} {b off cap : Nat} {ts : List TapeD} (h : TapF w b off ts) (h1 : ts.length ≤ cap) (h2 : cap ≤ 9223372036854775807) : Tapes w (.slice (some ⟨b, off, none⟩) ts.length cap) ts :=
  ⟨_, cap, rfl, h1, h2, fun _ => ⟨b, off, rfl, fun i hi => by
    obtain ⟨vl, vr, c0, c1, i1, i2, _⟩ := h i hi
    exact ⟨vl, vr, c0, c1, i1, i2⟩⟩⟩
/-- Tapes in a block that is known whole. -/
def TapB (w : World) (g : Nat) (ts : List TapeD) : Prop :=
  ∃ cs, Blk w g 91 cs ∧ ∀ i, (h : i < ts.length) → ∃ lv rv, cs[i * 2]? = some lv ∧ cs[i * 2 + 1]? = some rv ∧ Side 0 w lv ts[i].l ∧ Side 0 w rv ts[i].r ∧ ts[i].l.length ≤ 1000 ∧ ts[i].r.length ≤ 1000
theorem TapB.tapF {w : World} {g : Nat} {ts : List TapeD} (h : TapB w g ts) : TapF w g 0 ts := fun i hi => by
  obtain ⟨cs, hb, hc⟩ := h
  obtain ⟨lv, rv, e1, e2, s1, s2, l1, l2⟩ := hc i hi
  exact ⟨lv, rv, by rw [Nat.zero_add]; exact (hb.cell _).trans e1, by rw [Nat.zero_add]; exact (hb.cell _).trans e2, s1.ints, s2.ints, s1.flat, s2.flat, l1, l2⟩
theorem TapB.far {w : World} {g gO : Nat} {ts : List TapeD} {co : Array Value} (h : TapB w g ts) (hO : Blk w gO 48 co) (i : Nat) (u : Value) : TapB (w.setCell ⟨gO, i, none⟩ u) g ts := by
  obtain ⟨cs, hb, hc⟩ := h
  refine ⟨cs, hb.far (by exact blk_ne hb hO (by decide)) _, fun j hj => ?_⟩
  obtain ⟨lv, rv, e1, e2, s1, s2, l1, l2⟩ := hc j hj
  exact ⟨lv, rv, e1, e2, s1.far (s1.neT hO (by decide)) _, s2.far (s2.neT hO (by decide)) _, l1, l2⟩
theorem MAt.tapB {w0 w : World} {K : Nat → Prop} {bc gT cap : Nat} {cs : Array Value} {c : MConfD} (h : MAt w0 K w bc gT cap cs c) (hr : roomM c = true) : TapB w gT c.tapes := ⟨cs, h.tblk, fun i hi => by
  obtain ⟨lv, rv, e1, e2, s1, s2⟩ := h.side i hi
  have := List.all_eq_true.1 hr _ (List.getElem_mem hi)
  simp only [roomT, Bool.and_eq_true, decide_eq_true_eq] at this
  exact ⟨lv, rv, e1, e2, s1.low (Nat.zero_le _), s2.low (Nat.zero_le _), by omega, by omega⟩⟩
theorem side_len {xs : List Int} {sy : Int} (h : sideOk xs sy 200 = true) : xs.length ≤ 200 ∧ ∀ z ∈ xs, 0 ≤ z ∧ z ≤ sy - 1 := by
  simp only [sideOk, Bool.and_eq_true, decide_eq_true_eq, List.all_eq_true] at h
  exact ⟨by omega, fun z hz => inB_iff.1 (h.1.2 z hz)⟩
theorem tape_len {m : MultiD} {t : TapeD} (h : tapeOk m t = true) : roomT t = true ∧ (∀ z ∈ t.l, 0 ≤ z ∧ z ≤ m.sy - 1) ∧ ∀ z ∈ t.r, 0 ≤ z ∧ z ≤ m.sy - 1 := by
  simp only [tapeOk, Bool.and_eq_true] at h
  have h1 := side_len h.1
  have h2 := side_len h.2
  exact ⟨by simp [roomT, h1.1, h2.1], h1.2, h2.2⟩
theorem room_of_ok {m : MultiD} {c : MConfD} (h : c.tapes.all (tapeOk m) = true) : roomM c = true :=
  List.all_eq_true.2 fun t ht => (tape_len (List.all_eq_true.1 h t ht)).1
theorem good_of_ok {m : MultiD} {c : MConfD} (hm : multiOk m = true) (hq : inB c.q 0 (m.st - 1) = true) (hn : (c.tapes.length : Int) = m.tp) (h : c.tapes.all (tapeOk m) = true) : GoodM m c := by
  obtain ⟨_, ⟨s1, s2⟩, ⟨q1, q2⟩, _, _⟩ := multi_all hm
  obtain ⟨q3, q4⟩ := inB_iff.1 hq
  refine ⟨by unfold smallZ; omega, hn, fun t ht => ?_⟩
  obtain ⟨_, h1, h2⟩ := tape_len (List.all_eq_true.1 h t ht)
  exact ⟨fun z hz => by have := h1 z hz; unfold smallZ; omega, fun z hz => by have := h2 z hz; unfold smallZ; omega⟩
end Go.Proofs.YtgeckhjkahnonaaGreatDoor
end
section
set_option linter.unusedVariables false
set_option linter.unusedSimpArgs false
namespace Go.Proofs.YtgeckhjkahnonaaGreatDoor
open Go Go.RowKit Go.Proofs Go.Maps
set_option maxHeartbeats 400000
/-- The cells of rules, whose lists are a row's own. -/
def MCells (base : Nat) (w : World) (cl : List Value) (rs : List MRuleD) : Prop :=
  cl.length = rs.length * 5 ∧ ∀ i, (h : i < rs.length) → ∃ vr vw vm, cl[i * 5]? = some (.int .i64 rs[i].st) ∧ cl[i * 5 + 1]? = some vr ∧ cl[i * 5 + 2]? = some vw ∧ cl[i * 5 + 3]? = some vm ∧ cl[i * 5 + 4]? = some (.int .i64 rs[i].nx) ∧
    OwnInts base w vr rs[i].rd ∧ OwnInts base w vw rs[i].wr ∧ OwnInts base w vm rs[i].mv
def mcell (r : MRuleD) (vr vw vm : Value) : List Value := [.int .i64 r.st, vr, vw, vm, .int .i64 r.nx]
theorem MCells.nil (base : Nat) (w : World) : MCells base w [] [] := ⟨rfl, fun i h => by simp at h⟩
theorem MCells.one {base : Nat} {w : World} {r : MRuleD} {vr vw vm : Value} (h1 : OwnInts base w vr r.rd) (h2 : OwnInts base w vw r.wr) (h3 : OwnInts base w vm r.mv) : MCells base w (mcell r vr vw vm) [r] :=
  ⟨rfl, fun i h => by
    obtain rfl : i = 0 := by simp at h; omega
    exact ⟨vr, vw, vm, rfl, rfl, rfl, rfl, rfl, h1, h2, h3⟩⟩
theorem MCells.append {base : Nat} {w : World} {cl cl' : List Value} {rs rs' : List MRuleD} (h : MCells base w cl rs) (h' : MCells base w cl' rs') : MCells base w (cl ++ cl') (rs ++ rs') := by
  obtain ⟨a, b⟩ := h
  obtain ⟨a', b'⟩ := h'
  refine ⟨by simp [a, a']; omega, fun i hi => ?_⟩
  by_cases hlt : i < rs.length
  · obtain ⟨vr, vw, vm, c0, c1, c2, c3, c4, o⟩ := b i hlt
    refine ⟨vr, vw, vm, ?_, ?_, ?_, ?_, ?_, ?_⟩
    · rw [List.getElem?_append_left (by omega), c0, List.getElem_append_left hlt]
    · rw [List.getElem?_append_left (by omega), c1]
    · rw [List.getElem?_append_left (by omega), c2]
    · rw [List.getElem?_append_left (by omega), c3]
    · rw [List.getElem?_append_left (by omega), c4, List.getElem_append_left hlt]
    · rw [List.getElem_append_left hlt]; exact o
  · have hi' : i - rs.length < rs'.length := by simp at hi; omega
    obtain ⟨vr, vw, vm, c0, c1, c2, c3, c4, o⟩ := b' (i - rs.length) hi'
    have e : ∀ k, i * 5 + k - cl.length = (i - rs.length) * 5 + k := fun k => by omega
    have e0 : i * 5 - cl.length = (i - rs.length) * 5 := by omega
    refine ⟨vr, vw, vm, ?_, ?_, ?_, ?_, ?_, ?_⟩
    · rw [List.getElem?_append_right (by omega), e0, c0, List.getElem_append_right (by omega)]
    · rw [List.getElem?_append_right (by omega), e, c1]
    · rw [List.getElem?_append_right (by omega), e, c2]
    · rw [List.getElem?_append_right (by omega), e, c3]
    · rw [List.getElem?_append_right (by omega), e, c4, List.getElem_append_right (by omega)]
    · rw [List.getElem_append_right (by omega)]; exact o
theorem MCells.ext {base : Nat} {w w' : World} {cl : List Value} {rs : List MRuleD} (h : MCells base w cl rs) (he : Ext w w') : MCells base w' cl rs :=
  ⟨h.1, fun i hi => by
    obtain ⟨vr, vw, vm, c0, c1, c2, c3, c4, o1, o2, o3⟩ := h.2 i hi
    exact ⟨vr, vw, vm, c0, c1, c2, c3, c4, OwnInts.ext o1 he, OwnInts.ext o2 he, OwnInts.ext o3 he⟩⟩
theorem MCells.base {base base' : Nat} {w : World} {cl : List Value} {rs : List MRuleD} (h : MCells base w cl rs) (hb : base' ≤ base) : MCells base' w cl rs :=
  ⟨h.1, fun i hi => by
    obtain ⟨vr, vw, vm, c0, c1, c2, c3, c4, o1, o2, o3⟩ := h.2 i hi
    exact ⟨vr, vw, vm, c0, c1, c2, c3, c4, ownsRow_base o1 hb, ownsRow_base o2 hb, ownsRow_base o3 hb⟩⟩
/-- Behind a change of one block that holds no numbers. -/
theorem MCells.same {base : Nat} {w w' : World} {cl : List Value} {rs : List MRuleD} (h : MCells base w cl rs) (hs : ∀ g cs, Blk w g 2 cs → w'.heap[g]? = w.heap[g]?) : MCells base w' cl rs := by
  have hi : ∀ {u : Value} {zs : List Int}, OwnInts base w u zs → OwnInts base w' u zs := fun {u zs} o => own_same o (fun g hg => by
    rcases o.2 with ⟨rfl, _⟩ | ⟨g', cap, cur, rfl, _, hh, _⟩
    · simp [Value.ownBlock] at hg
    · simp [Value.ownBlock] at hg
      subst hg
      exact hs _ _ hh)
  refine ⟨h.1, fun i hi' => ?_⟩
  obtain ⟨vr, vw, vm, c0, c1, c2, c3, c4, o1, o2, o3⟩ := h.2 i hi'
  exact ⟨vr, vw, vm, c0, c1, c2, c3, c4, hi o1, hi o2, hi o3⟩
/-- Rules in a row of their own. -/
def OwnMR (base : Nat) (w : World) (v : Value) (rs : List MRuleD) : Prop := ∃ cl, w.ownsRow base 43 5 v rs.length cl ∧ MCells base w cl rs
theorem OwnMR.ext {base : Nat} {w w' : World} {v : Value} {rs : List MRuleD} (h : OwnMR base w v rs) (he : Ext w w') : OwnMR base w' v rs := by
  obtain ⟨cl, h1, h2⟩ := h
  exact ⟨cl, ownsRow_ext h1 he, h2.ext he⟩
theorem OwnMR.base {base base' : Nat} {w : World} {v : Value} {rs : List MRuleD} (h : OwnMR base w v rs) (hb : base' ≤ base) : OwnMR base' w v rs := by
  obtain ⟨cl, h1, h2⟩ := h
  exact ⟨cl, ownsRow_base h1 hb, h2.base hb⟩
theorem OwnMR.form {base : Nat} {w : World} {v : Value} {rs : List MRuleD} (h : OwnMR base w v rs) : ∃ A c, v = .slice A rs.length c ∧ rs.length ≤ c ∧ c ≤ 9223372036854775807 := by
  obtain ⟨cl, h1, h2⟩ := h
  obtain ⟨A, c, e, a, b, _⟩ := (ownsRow_row h1).form
  exact ⟨A, c, e, a, b⟩
theorem OwnMR.rules {base : Nat} {w : World} {v : Value} {rs : List MRuleD} (h : OwnMR base w v rs) : MRules w v rs := by
  obtain ⟨cl, h1, h2⟩ := h
  obtain ⟨A, c, rfl, a, b, hr⟩ := ownsRow_row h1
  refine ⟨A, c, rfl, a, b, fun hn => ?_⟩
  obtain ⟨g, off, rfl, hc⟩ := hr.2 hn
  refine ⟨g, off, rfl, fun i hi => ?_⟩
  obtain ⟨vr, vw, vm, c0, c1, c2, c3, c4, o1, o2, o3⟩ := h2.2 i hi
  have hl := h2.1
  exact ⟨vr, vw, vm, (hc _ (by omega)).trans c0, by rw [Nat.add_assoc]; exact (hc _ (by omega)).trans c1, by rw [Nat.add_assoc]; exact (hc _ (by omega)).trans c2, by rw [Nat.add_assoc]; exact (hc _ (by omega)).trans c3, by rw [Nat.add_assoc]; exact (hc _ (by omega)).trans c4, o1.ints, o2.ints, o3.ints⟩
theorem OwnMR.push {base : Nat} {w w' : World} {v v' : Value} {cl nl : List Value} {rs ns : List MRuleD} {n : Nat} (h1 : w.ownsRow base 43 5 v rs.length cl) (h2 : MCells base w cl rs) (h3 : MCells base w nl ns)
    (hn : n = rs.length + ns.length) (ho : w'.ownsRow base 43 5 v' n (cl ++ nl)) (hg : w.grownBy w' v.ownBlock) : OwnMR base w' v' (rs ++ ns) := by
  subst hn
  refine ⟨_, by simpa using ho, (h2.append h3).same fun g cs hb => hg.block g hb.lt (blk_ne_row hb h1 (by decide))⟩
theorem OwnMR.far {base : Nat} {w : World} {v : Value} {rs : List MRuleD} (h : OwnMR base w v rs) {g : Nat} {t : TypeId} {cs : Array Value} (hb : Blk w g t cs) (h1 : t ≠ 43) (h2 : t ≠ 2) (i : Nat) (u : Value) : OwnMR base (w.setCell ⟨g, i, none⟩ u) v rs := by
  obtain ⟨cl, ho, hc⟩ := h
  exact ⟨cl, own_kept ho (grownBy_setCell w ⟨g, i, none⟩ u) (blk_ne_row hb ho h1), hc.same fun q cs' hq => Below.heap_setCell w _ u q (by exact blk_ne hq hb (fun e => h2 e.symm))⟩
theorem mruleInfo : (Tryz.prog.info? 43).map (fun i => (i.zero, i.size, i.bytes)) = some (some (.agg #[.int .i64 0, .slice none 0 0, .slice none 0 0, .slice none 0 0, .int .i64 0]), 5, 88) := by kernel_rfl
theorem own2 {w : World} {base g : Nat} {a b : Int} (hb : Blk w g 2 #[.int .i64 a, .int .i64 b]) (hg : base ≤ g) : OwnInts base w (.slice (some ⟨g, 0, none⟩) 2 2) [a, b] :=
  ownsRow_blk 1 2 hb hg rfl (by omega)
/-- A rule of two tapes as a value of its own. -/
def OwnRul (base : Nat) (w : World) (v : Value) (r : MRuleD) : Prop := ∃ vr vw vm, v = .agg (mcell r vr vw vm).toArray ∧ OwnInts base w vr r.rd ∧ OwnInts base w vw r.wr ∧ OwnInts base w vm r.mv
end Go.Proofs.YtgeckhjkahnonaaGreatDoor
end
