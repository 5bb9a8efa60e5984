/- Contracts of the program's rules of two tapes, of the rules that copy, and of the copier.
Worlds that keep the blocks from one on. -/
import Derived.Test.YtkbpchdncljlbaaU10
import Derived.Test.YtkbpchdncljlbaaU22
import Derived.Test.YtkbpchdncljlbaaU06
section
set_option linter.unusedVariables false
set_option linter.unusedSimpArgs false
namespace Go.Proofs.Ytkbpchdncljlbaa
open Go Go.RowKit Go.Proofs Go.Maps
set_option maxHeartbeats 400000
/-- The cells of rules, whose lists are a row's own. -/
def MCells (base : Nat) (w : World) (cl : List Value) (rs : List MRuleD) : Prop :=
  cl.length = rs.length * 5 ∧ ∀ i, (h : i < rs.length) → ∃ vr vw vm, cl[i * 5]? = some (.int .i64 rs[i].st) ∧ cl[i * 5 + 1]? = some vr ∧ cl[i * 5 + 2]? = some vw ∧ cl[i * 5 + 3]? = some vm ∧ cl[i * 5 + 4]? = some (.int .i64 rs[i].nx) ∧
    OwnInts base w vr rs[i].rd ∧ OwnInts base w vw rs[i].wr ∧ OwnInts base w vm rs[i].mv
def mcell (r : MRuleD) (vr vw vm : Value) : List Value := [.int .i64 r.st, vr, vw, vm, .int .i64 r.nx]
theorem MCells.nil (base : Nat) (w : World) : MCells base w [] [] := ⟨rfl, fun i h => by simp at h⟩
theorem MCells.one {base : Nat} {w : World} {r : MRuleD} {vr vw vm : Value} (h1 : OwnInts base w vr r.rd) (h2 : OwnInts base w vw r.wr) (h3 : OwnInts base w vm r.mv) : MCells base w (mcell r vr vw vm) [r] :=
  ⟨rfl, fun i h => by
    obtain rfl : i = 0 := by simp at h; omega
    exact ⟨vr, vw, vm, rfl, rfl, rfl, rfl, rfl, h1, h2, h3⟩⟩
theorem MCells.append {base : Nat} {w : World} {cl cl' : List Value} {rs rs' : List MRuleD} (h : MCells base w cl rs) (h' : MCells base w cl' rs') : MCells base w (cl ++ cl') (rs ++ rs') := by
  obtain ⟨a, b⟩ := h
  obtain ⟨a', b'⟩ := h'
  refine ⟨by simp [a, a']; omega, fun i hi => ?_⟩
  by_cases hlt : i < rs.length
  · obtain ⟨vr, vw, vm, c0, c1, c2, c3, c4, o⟩ := b i hlt
    refine ⟨vr, vw, vm, ?_, ?_, ?_, ?_, ?_, ?_⟩
    · rw [List.getElem?_append_left (by omega), c0, List.getElem_append_left hlt]
    · rw [List.getElem?_append_left (by omega), c1]
    · rw [List.getElem?_append_left (by omega), c2]
    · rw [List.getElem?_append_left (by omega), c3]
    · rw [List.getElem?_append_left (by omega), c4, List.getElem_append_left hlt]
    · rw [List.getElem_append_left hlt]; exact o
  · have hi' : i - rs.length < rs'.length := by simp at hi; omega
    obtain ⟨vr, vw, vm, c0, c1, c2, c3, c4, o⟩ := b' (i - rs.length) hi'
    have e : ∀ k, i * 5 + k - cl.length = (i - rs.length) * 5 + k := fun k => by omega
    have e0 : i * 5 - cl.length = (i - rs.length) * 5 := by omega
    refine ⟨vr, vw, vm, ?_, ?_, ?_, ?_, ?_, ?_⟩
    · rw [List.getElem?_append_right (by omega), e0, c0, List.getElem_append_right (by omega)]
    · rw [List.getElem?_append_right (by omega), e, c1]
    · rw [List.getElem?_append_right (by omega), e, c2]
    · rw [List.getElem?_append_right (by omega), e, c3]
    · rw [List.getElem?_append_right (by omega), e, c4, List.getElem_append_right (by omega)]
    · rw [List.getElem_append_right (by omega)]; exact o
theorem MCells.ext {base : Nat} {w w' : World} {cl : List Value} {rs : List MRuleD} (h : MCells base w cl rs) (he : Ext w w') : MCells base w' cl rs :=
  ⟨h.1, fun i hi => by
    obtain ⟨vr, vw, vm, c0, c1, c2, c3, c4, o1, o2, o3⟩ := h.2 i hi
    exact ⟨vr, vw, vm, c0, c1, c2, c3, c4, OwnInts.ext o1 he, OwnInts.ext o2 he, OwnInts.ext o3 he⟩⟩
theorem MCells.base {base base' : Nat} {w : World} {cl : List Value} {rs : List MRuleD} (h : MCells base w cl rs) (hb : base' ≤ base) : MCells base' w cl rs :=
  ⟨h.1, fun i hi => by
    obtain ⟨vr, vw, vm, c0, c1, c2, c3, c4, o1, o2, o3⟩ := h.2 i hi
    exact ⟨vr, vw, vm, c0, c1, c2, c3, c4, ownsRow_base o1 hb, ownsRow_base o2 hb, ownsRow_base o3 hb⟩⟩
/-- Behind a change of one block that holds no numbers. -/
theorem MCells.same {base : Nat} {w w' : World} {cl : List Value} {rs : List MRuleD} (h : MCells base w cl rs) (hs : ∀ g cs, Blk w g 2 cs → w'.heap[g]? = w.heap[g]?) : MCells base w' cl rs := by
  have hi : ∀ {u : Value} {zs : List Int}, OwnInts base w u zs → OwnInts base w' u zs := fun {u zs} o => own_same o (fun g hg => by
    rcases o.2 with ⟨rfl, _⟩ | ⟨g', cap, cur, rfl, _, hh, _⟩
    · simp [Value.ownBlock] at hg
    · simp [Value.ownBlock] at hg
      subst hg
      exact hs _ _ hh)
  refine ⟨h.1, fun i hi' => ?_⟩
  obtain ⟨vr, vw, vm, c0, c1, c2, c3, c4, o1, o2, o3⟩ := h.2 i hi'
  exact ⟨vr, vw, vm, c0, c1, c2, c3, c4, hi o1, hi o2, hi o3⟩
/-- Rules in a row of their own. -/
def OwnMR (base : Nat) (w : World) (v : Value) (rs : List MRuleD) : Prop := ∃ cl, w.ownsRow base 70 5 v rs.length cl ∧ MCells base w cl rs
theorem OwnMR.ext {base : Nat} {w w' : World} {v : Value} {rs : List MRuleD} (h : OwnMR base w v rs) (he : Ext w w') : OwnMR base w' v rs := by
  obtain ⟨cl, h1, h2⟩ := h
  exact ⟨cl, ownsRow_ext h1 he, h2.ext he⟩
theorem OwnMR.base {base base' : Nat} {w : World} {v : Value} {rs : List MRuleD} (h : OwnMR base w v rs) (hb : base' ≤ base) : OwnMR base' w v rs := by
  obtain ⟨cl, h1, h2⟩ := h
  exact ⟨cl, ownsRow_base h1 hb, h2.base hb⟩
theorem OwnMR.form {base : Nat} {w : World} {v : Value} {rs : List MRuleD} (h : OwnMR base w v rs) : ∃ A c, v = .slice A rs.length c ∧ rs.length ≤ c ∧ c ≤ 9223372036854775807 := by
  obtain ⟨cl, h1, h2⟩ := h
  obtain ⟨A, c, e, a, b, _⟩ := (ownsRow_row h1).form
  exact ⟨A, c, e, a, b⟩
theorem OwnMR.rules {base : Nat} {w : World} {v : Value} {rs : List MRuleD} (h : OwnMR base w v rs) : MRules w v rs := by
  obtain ⟨cl, h1, h2⟩ := h
  obtain ⟨A, c, rfl, a, b, hr⟩ := ownsRow_row h1
  refine ⟨A, c, rfl, a, b, fun hn => ?_⟩
  obtain ⟨g, off, rfl, hc⟩ := hr.2 hn
  refine ⟨g, off, rfl, fun i hi => ?_⟩
  obtain ⟨vr, vw, vm, c0, c1, c2, c3, c4, o1, o2, o3⟩ := h2.2 i hi
  have hl := h2.1
  exact ⟨vr, vw, vm, (hc _ (by omega)).trans c0, by rw [Nat.add_assoc]; exact (hc _ (by omega)).trans c1, by rw [Nat.add_assoc]; exact (hc _ (by omega)).trans c2, by rw [Nat.add_assoc]; exact (hc _ (by omega)).trans c3, by rw [Nat.add_assoc]; exact (hc _ (by omega)).trans c4, o1.ints, o2.ints, o3.ints⟩
theorem OwnMR.push {base : Nat} {w w' : World} {v v' : Value} {cl nl : List Value} {rs ns : List MRuleD} {n : Nat} (h1 : w.ownsRow base 70 5 v rs.length cl) (h2 : MCells base w cl rs) (h3 : MCells base w nl ns)
    (hn : n = rs.length + ns.length) (ho : w'.ownsRow base 70 5 v' n (cl ++ nl)) (hg : w.grownBy w' v.ownBlock) : OwnMR base w' v' (rs ++ ns) := by
  subst hn
  refine ⟨_, by simpa using ho, (h2.append h3).same fun g cs hb => hg.block g hb.lt (blk_ne_row hb h1 (by decide))⟩
theorem OwnMR.far {base : Nat} {w : World} {v : Value} {rs : List MRuleD} (h : OwnMR base w v rs) {g : Nat} {t : TypeId} {cs : Array Value} (hb : Blk w g t cs) (h1 : t ≠ 70) (h2 : t ≠ 2) (i : Nat) (u : Value) : OwnMR base (w.setCell ⟨g, i, none⟩ u) v rs := by
  obtain ⟨cl, ho, hc⟩ := h
  exact ⟨cl, own_kept ho (grownBy_setCell w ⟨g, i, none⟩ u) (blk_ne_row hb ho h1), hc.same fun q cs' hq => Below.heap_setCell w _ u q (by exact blk_ne hq hb (fun e => h2 e.symm))⟩
theorem mruleInfo : (Try.prog.info? 70).map (fun i => (i.zero, i.size, i.bytes)) = some (some (.agg #[.int .i64 0, .slice none 0 0, .slice none 0 0, .slice none 0 0, .int .i64 0]), 5, 88) := by kernel_rfl
theorem own2 {w : World} {base g : Nat} {a b : Int} (hb : Blk w g 2 #[.int .i64 a, .int .i64 b]) (hg : base ≤ g) : OwnInts base w (.slice (some ⟨g, 0, none⟩) 2 2) [a, b] :=
  ownsRow_blk 1 2 hb hg rfl (by omega)
/-- A rule of two tapes as a value of its own. -/
def OwnRul (base : Nat) (w : World) (v : Value) (r : MRuleD) : Prop := ∃ vr vw vm, v = .agg (mcell r vr vw vm).toArray ∧ OwnInts base w vr r.rd ∧ OwnInts base w vw r.wr ∧ OwnInts base w vm r.mv
set_option maxRecDepth 20000 in
theorem twoTapes_c (q a b x y n : Int) (w : World) : Calls Try.prog 37 #[.int .i64 q, .int .i64 a, .int .i64 b, .int .i64 x, .int .i64 y, .int .i64 n] w fun e w' =>
    ∃ v, e = .returned v ∧ OwnRul w.heap.size w' v (twoT q a b x y n) ∧ Ext w w' := by
  obtain ⟨V, hV⟩ : ∃ V, V = (((w.alloc (.cells #[.int .i64 q, .slice (some ⟨w.heap.size + 1, 0, none⟩) 2 2, .slice (some ⟨w.heap.size + 1 + 1, 0, none⟩) 2 2, .slice (some ⟨w.heap.size + 1 + 1 + 1, 0, none⟩) 2 2, .int .i64 n] 70)).alloc
    (.cells #[.int .i64 a, .int .i64 b] 2)).alloc (.cells #[.int .i64 a, .int .i64 b] 2)).alloc (.cells #[.int .i64 x, .int .i64 y] 2) := ⟨_, rfl⟩
  have hX : Ext w V := by rw [hV]; exact (((Ext.alloc _ _).trans (Ext.alloc _ _)).trans (Ext.alloc _ _)).trans (Ext.alloc _ _)
  have bR : Blk V w.heap.size 70 #[.int .i64 q, .slice (some ⟨w.heap.size + 1, 0, none⟩) 2 2, .slice (some ⟨w.heap.size + 1 + 1, 0, none⟩) 2 2, .slice (some ⟨w.heap.size + 1 + 1 + 1, 0, none⟩) 2 2, .int .i64 n] := by rw [hV]; exact (((Blk.new _ _ _ _ rfl).alloc _).alloc _).alloc _
  have b1 : Blk V (w.heap.size + 1) 2 #[.int .i64 a, .int .i64 b] := by rw [hV]; exact ((Blk.new _ _ _ _ (by simp)).alloc _).alloc _
  have b2 : Blk V (w.heap.size + 1 + 1) 2 #[.int .i64 a, .int .i64 b] := by rw [hV]; exact (Blk.new _ _ _ _ (by simp)).alloc _
  have b3 : Blk V (w.heap.size + 1 + 1 + 1) 2 #[.int .i64 x, .int .i64 y] := by rw [hV]; exact Blk.new _ _ _ _ (by simp)
  have ob := bR.cell
  have H := Lib.hid (⟨own2 b1 (by omega), own2 b2 (by omega), own2 b3 (by omega), hX⟩ : OwnInts w.heap.size V (.slice (some ⟨w.heap.size + 1, 0, none⟩) 2 2) [a, b] ∧ OwnInts w.heap.size V (.slice (some ⟨w.heap.size + 1 + 1, 0, none⟩) 2 2) [a, b] ∧ OwnInts w.heap.size V (.slice (some ⟨w.heap.size + 1 + 1 + 1, 0, none⟩) 2 2) [x, y] ∧ Ext w V)
  clear b1 b2 b3 hX bR
  go_enter Try.func37, Try.ntmps37
  go_wp2_with fail
  rw [← hV]
  exact bodyPost_ret (v := .agg #[.int .i64 q, .slice (some ⟨w.heap.size + 1, 0, none⟩) 2 2, .slice (some ⟨w.heap.size + 1 + 1, 0, none⟩) 2 2, .slice (some ⟨w.heap.size + 1 + 1 + 1, 0, none⟩) 2 2, .int .i64 n]) (by simp [results, Try.results37, go_sem, ob]) rfl
    ⟨_, rfl, ⟨_, _, _, rfl, H.out.1, H.out.2.1, H.out.2.2.1⟩, H.out.2.2.2⟩
theorem copyRs_succ (k : Nat) : copyRs (k + 1) = copyRs k ++ [copyR ((k : Int) + 1)] := by
  unfold copyRs
  rw [List.range_succ, List.map_append]
  rfl
theorem copyRs_len (k : Nat) : (copyRs k).length = k := by simp [copyRs]
set_option maxRecDepth 20000 in
set_option maxHeartbeats 1000000 in
theorem copyRules_c (n : Nat) (w : World) (h1 : 1 ≤ n) (h2 : n ≤ 1000) : Calls Try.prog 23 #[.int .i64 (n : Int)] w fun e w' => ∃ v, e = .returned v ∧ OwnMR w.heap.size w' v (copyRs (n - 1)) ∧ Ext w w' := by
  obtain ⟨i0, hi, hz0, hz1, hz2⟩ := info_parts mruleInfo
  obtain ⟨W, hW⟩ : ∃ W, W = w.alloc (.cells #[] 70) := ⟨_, rfl⟩
  have hX : Ext w W := by rw [hW]; exact Ext.alloc _ _
  have st0 : OwnMR w.heap.size W (.slice (some ⟨w.heap.size, 0, none⟩) 0 0) (copyRs 0) :=
    ⟨[], ⟨by simp [copyRs], .inr ⟨w.heap.size, 0, #[], rfl, Nat.le_refl _, by rw [hW]; exact heap_alloc_new w _, by simp [copyRs], by unfold maxLen; omega, rfl, by simp [copyRs]⟩⟩, MCells.nil _ _⟩
  go_enter Try.func23, Try.ntmps23
  go_wp2_with fail
  try rw [← hW]
  clear hW
  go_loopw [3, 4] (fun u i wr => ∃ k : Nat, k + 1 ≤ n ∧ i = .int .i64 ((k + 1 : Nat) : Int) ∧ OwnMR w.heap.size wr u (copyRs k) ∧ Ext w wr) (fun _ i _ => n - (intOf i).toNat)
  case atStart => exact ⟨0, by omega, rfl, st0, hX⟩
  case round =>
    clear st0 hX
    obtain ⟨k, hk, rfl, st, hx⟩ := hrel
    obtain ⟨Au, cu, rfl, _, _⟩ := st.form
    by_cases hlt : k + 1 < n
    · have TT := twoTapes_c 0 ((k + 1 : Nat) : Int) 0 1 1 0 wr
      obtain ⟨cl, ho, hcl⟩ := st
      rw [copyRs_len] at ho
      have hs := hx.size
      rw [copyRs_len]
      go_wp2_with fail
      refine TT.mono ?_
      rintro e w1 ⟨_, rfl, ⟨vr, vw, vm, rfl, o1, o2, o3⟩, hx1⟩
      have o1' : OwnInts wr.heap.size w1 vr [((k + 1 : Nat) : Int), 0] := o1
      have o2' : OwnInts wr.heap.size w1 vw [((k + 1 : Nat) : Int), 0] := o2
      have o3' : OwnInts wr.heap.size w1 vm [1, 1] := o3
      clear o1 o2 o3
      obtain ⟨R1, r1, rfl, _, _⟩ := o1'.ints.form
      obtain ⟨R2, r2, rfl, _, _⟩ := o2'.ints.form
      obtain ⟨R3, r3, rfl, _, _⟩ := o3'.ints.form
      simp only [mcell, twoT, List.length_cons, List.length_nil] at o1' o2' o3' ⊢
      obtain ⟨gb, hgb⟩ : ∃ gb, w1.heap.size = gb := ⟨_, rfl⟩
      clear TT
      obtain ⟨W3, hW3⟩ : ∃ W3, W3 = ((w1.alloc (.cells #[.int .i64 0, .slice R1 2 r1, .slice (some ⟨gb + 1, 0, none⟩) 2 2, .slice R3 2 r3, .int .i64 0] 70)).alloc (.cells #[.int .i64 ((k : Int) + 1), .int .i64 ((k : Int) + 1)] 2)).alloc
        (.cells #[.int .i64 0, .slice R1 2 r1, .slice (some ⟨gb + 1, 0, none⟩) 2 2, .slice R3 2 r3, .int .i64 0] 70) := ⟨_, rfl⟩
      have hx3 : Ext w1 W3 := by rw [hW3]; exact ((Ext.alloc _ _).trans (Ext.alloc _ _)).trans (Ext.alloc _ _)
      have bN : Blk W3 (gb + 1 + 1) 70 #[.int .i64 0, .slice R1 2 r1, .slice (some ⟨gb + 1, 0, none⟩) 2 2, .slice R3 2 r3, .int .i64 0] := by rw [hW3]; exact Blk.new _ _ _ _ (by simp [hgb])
      have bS : Blk W3 (gb + 1) 2 #[.int .i64 ((k : Int) + 1), .int .i64 ((k : Int) + 1)] := by rw [hW3]; exact (Blk.new _ _ _ _ (by simp [hgb])).alloc _
      have hwr : wr.heap.size ≤ gb := by rw [← hgb]; exact hx1.size
      have hX3 := hx.trans (hx1.trans hx3)
      have ho3 := ownsRow_ext ho (hx1.trans hx3)
      have hNL : MCells w.heap.size W3 (mcell (copyR ((k : Int) + 1)) (.slice R1 2 r1) (.slice (some ⟨gb + 1, 0, none⟩) 2 2) (.slice R3 2 r3)) [copyR ((k : Int) + 1)] :=
        MCells.one (ownsRow_base (OwnInts.ext o1' hx3) hs) (own2 bS (by omega)) (ownsRow_base (OwnInts.ext o3' hx3) hs)
      have hs3 := hX3.size
      go_wp2_with (at_builtin; rw [← hW3]; refine wpList_append_own_at _ rfl _ _ 27 rfl w.heap.size 70 i0 (.agg #[.int .i64 0, .slice none 0 0, .slice none 0 0, .slice none 0 0, .int .i64 0]) 5 88 Try.underlying27 hi hz0 hz1 hz2 rfl (by decide) _ _ cl rfl ho3 ⟨gb + 1 + 1, 0, none⟩ 1 1 (mcell (copyR ((k : Int) + 1)) (.slice R1 2 r1) (.slice (some ⟨gb + 1, 0, none⟩) 2 2) (.slice R3 2 r3)) rfl rfl (World.news_of_block bN) ?c2 ?c3 ?c4 ?c5 ?_)
      case c2 => intro u hu; simp [mcell, copyR] at hu; rcases hu with rfl | rfl | rfl | rfl | rfl <;> rfl
      case c3 => unfold maxLen; omega
      case c4 => omega
      case c5 => exact hs3
      intro v' w5 hown5 hg5 _ _
      try rw [← hW3] at hg5
      have HS : Hid (OwnMR w.heap.size w5 v' (copyRs (k + 1))) := by
        unfold Hid
        rw [copyRs_succ]
        exact OwnMR.push (by rw [copyRs_len]; exact ho3) (hcl.ext (hx1.trans hx3)) hNL (by rw [copyRs_len]; rfl) hown5 hg5
      have HX := Lib.hid (hX3.grown hg5 (fun q hq => (ho3.lt q hq).1))
      obtain ⟨A5, c5, rfl, _, _, _⟩ := (ownsRow_row hown5).form
      clear hW3 hx3 bN bS hX3 ho3 hNL hown5 hg5 o1' o2' o3' hx1 hx ho hcl
      go_wp2_with fail
      go_roundw
      case rel => exact ⟨k + 1, by omega, by go_num, HS.out, HX.out⟩
      case measure => simp [intOf]; omega
    · obtain rfl : n = k + 1 := by omega
      have HS := Lib.hid st
      have HX := Lib.hid hx
      rw [copyRs_len]
      go_wp2_with fail
      go_ret
      exact ⟨_, rfl, by have := HS.out; rw [copyRs_len] at this; exact this, HX.out⟩
theorem copier_rules : copyRs 2 = copyRs3 := by decide +kernel
set_option maxRecDepth 20000 in
theorem CopyMulti_c (n : Nat) (w : World) (h1 : 2 ≤ n) (h2 : n ≤ 3) : Calls Try.prog 7 #[.int .i64 (n : Int)] w fun e w' => ∃ v, e = .returned (.tuple #[.agg #[.int .i64 2, .int .i64 (n : Int), .int .i64 1, v], .int .i64 0]) ∧ MRules w' v (copyRs (n - 1)) ∧ Ext w w' := by
  obtain ⟨V, hV⟩ : ∃ V, V = w.alloc (.cells #[.int .i64 0, .int .i64 0, .int .i64 0, .slice none 0 0] 29) := ⟨_, rfl⟩
  have hX : Ext w V := by rw [hV]; exact Ext.alloc _ _
  have bV : Blk V w.heap.size 29 #[.int .i64 0, .int .i64 0, .int .i64 0, .slice none 0 0] := by rw [hV]; exact Blk.new _ _ _ _ rfl
  have WI := fun w => within_c (n : Int) 2 3 w
  have hb : inB (n : Int) 2 3 = true := inB_iff.2 ⟨by omega, by omega⟩
  rw [hb] at WI
  go_enter Try.func7, Try.ntmps7
  go_wp2_with fail
  try rw [← hV]
  clear hV
  refine (WI V).mono ?_
  rintro e _ ⟨rfl, rfl⟩
  have CR := copyRules_c n V (by omega) (by omega)
  clear WI
  go_wp2_with fail
  refine CR.mono ?_
  rintro e w1 ⟨v, rfl, ho, hx1⟩
  have bV1 := bV.ext hx1
  have ob := bV1.cell
  have of_ := bV1.frozen
  have hX1 := hX.trans hx1
  have HR : Hid (∀ u0 u1 u2 u3, MRules ((((w1.setCell ⟨w.heap.size, 0, none⟩ u0).setCell ⟨w.heap.size, 1, none⟩ u1).setCell ⟨w.heap.size, 2, none⟩ u2).setCell ⟨w.heap.size, 3, none⟩ u3) v (copyRs (n - 1))) := Lib.hid fun u0 u1 u2 u3 => by
    have hz := ho.far bV1 (by decide) (by decide) 0 u0
    have bz := bV1.set_ 0 u0
    have hz1 := hz.far bz (by decide) (by decide) 1 u1
    have bz1 := bz.set_ 1 u1
    have hz2 := hz1.far bz1 (by decide) (by decide) 2 u2
    have bz2 := bz1.set_ 2 u2
    exact (hz2.far bz2 (by decide) (by decide) 3 u3).rules
  have HXX : Hid (∀ u0 u1 u2 u3, Ext w ((((w1.setCell ⟨w.heap.size, 0, none⟩ u0).setCell ⟨w.heap.size, 1, none⟩ u1).setCell ⟨w.heap.size, 2, none⟩ u2).setCell ⟨w.heap.size, 3, none⟩ u3)) := Lib.hid fun u0 u1 u2 u3 =>
    (((hX1.setCell (p := ⟨w.heap.size, 0, none⟩) (Nat.le_refl _) u0).setCell (p := ⟨w.heap.size, 1, none⟩) (Nat.le_refl _) u1).setCell (p := ⟨w.heap.size, 2, none⟩) (Nat.le_refl _) u2).setCell (p := ⟨w.heap.size, 3, none⟩) (Nat.le_refl _) u3
  obtain ⟨A5, c5, rfl, _, _⟩ := ho.form
  clear ho CR
  go_wp2_with fail
  exact bodyPost_ret (v := .tuple #[.agg #[.int .i64 2, .int .i64 (n : Int), .int .i64 1, .slice A5 (copyRs (n - 1)).length c5], .int .i64 0]) (by simp [results, Try.results7, go_sem, ob]) rfl ⟨_, rfl, HR.out _ _ _ _, HXX.out _ _ _ _⟩
end Go.Proofs.Ytkbpchdncljlbaa
end
section
set_option linter.unusedSimpArgs false
set_option linter.unusedVariables false
namespace Go.Proofs.Ytkbpchdncljlbaa
open Go Go.RowKit Go.Proofs
/-- The blocks from base on are as they were. -/
def KeepB (base : Nat) (w W : World) : Prop := w.heap.size ≤ W.heap.size ∧ ∀ k, base ≤ k → k < w.heap.size → W.heap[k]? = w.heap[k]?
theorem KeepB.refl (base : Nat) (w : World) : KeepB base w w := ⟨Nat.le_refl _, fun _ _ _ => rfl⟩
theorem KeepB.trans {base : Nat} {a b c : World} (h : KeepB base a b) (k : KeepB base b c) : KeepB base a c :=
  ⟨Nat.le_trans h.1 k.1, fun i hi hl => (k.2 i hi (by have := h.1; omega)).trans (h.2 i hi hl)⟩
theorem KeepB.of_ext {base : Nat} {w W : World} (h : Ext w W) : KeepB base w W := ⟨h.size, fun k _ hl => Below.block h k hl⟩
theorem KeepB.setCell {base : Nat} (w : World) {p : Addr} (hp : p.block < base) (v : Value) : KeepB base w (w.setCell p v) := by
  refine ⟨by simp [World.setCell], fun k hk hl => Below.heap_setCell w p v k ?_⟩
  omega
theorem KeepB.cell {base : Nat} {w W : World} (h : KeepB base w W) {p : Addr} {v : Value} (hb : base ≤ p.block) (hp : w.cell? p = some v) : W.cell? p = some v := by
  have hl := World.block_lt_of_cell? w p hp
  have e := h.2 p.block hb hl
  rw [← hp]
  unfold World.cell?
  rw [e]
theorem ownsRow_keepB {w W : World} {base : Nat} {e : TypeId} {size : Nat} {v : Value} {n : Nat} {xs : List Value} (h : w.ownsRow base e size v n xs) (hk : KeepB base w W) : W.ownsRow base e size v n xs := by
  obtain ⟨h1, h2⟩ := h
  refine ⟨h1, ?_⟩
  rcases h2 with h2 | ⟨g, cap, cur, hv, hb, hh, r⟩
  · exact .inl h2
  · exact .inr ⟨g, cap, cur, hv, hb, (hk.2 g hb (Array.getElem?_eq_some_iff.1 hh).1).trans hh, r⟩
end Go.Proofs.Ytkbpchdncljlbaa
end
