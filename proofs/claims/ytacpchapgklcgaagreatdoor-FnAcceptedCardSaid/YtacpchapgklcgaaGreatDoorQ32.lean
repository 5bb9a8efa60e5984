/- Contracts of the reference's draws of machines, continued: a machine that is valid, one that may be bent.
Contracts of the reference's draws of machines, continued: a machine is bent.
Contracts of the reference's draws of machines, continued: any machine, a small machine, a machine that is decided.
Contract of the reference's draw of a machine that is decided.
Contracts of the reference's step of a machine. -/
import Derived.Test.YtacpchapgklcgaaGreatDoorQ22
import Derived.Deep.RegionLaw
import Derived.Deep.RegionHeld3
import Derived.Test.YtacpchapgklcgaaGreatDoorQ04
import Derived.Test.YtacpchapgklcgaaGreatDoorQ18
import Derived.Test.YtacpchapgklcgaaGreatDoorQ06
import Derived.Test.YtacpchapgklcgaaGreatDoorQ23
section
namespace Go.Proofs.YtacpchapgklcgaaGreatDoor
open Go Go.RowKit Go.Proofs
set_option maxHeartbeats 400000
/-- The end of a draw: the machine is stored as the result. -/
theorem MRes.of {B b n n' c g : Nat} {w w2 : World} {m : MachD} {rv : Value} {base : Nat} {cs : Array Value} (hs : Src B w2 b n') (hn : n' ≤ n + c) (hg : w.grownBy w2 (some b)) (hB : B ≤ g) (hbl : b < g) (hgw : w.heap.size = g) (ho : OwnRules base w2 rv m.rules) (hbase : g ≤ base) (hb : Blk w2 g 26 cs) (hl : 0 < m.rules.length ∧ m.rules.length ≤ 600 ∧ machOk m = true) :
    MRes B w b n c (.returned (.agg #[.int .i64 m.sy, .int .i64 m.st, rv])) (((w2.setCell ⟨g, 0, none⟩ (.int .i64 m.sy)).setCell ⟨g, 1, none⟩ (.int .i64 m.st)).setCell ⟨g, 2, none⟩ rv) := by
  obtain ⟨r1, r2, r3⟩ := done3 hs hg hB hbl hgw ho hb (.int .i64 m.sy) (.int .i64 m.st) rv
  exact ⟨⟨m, rv, rfl, ownsRow_base r3 (by omega), hl.1, hl.2.1, hl.2.2⟩, r1.mono hn, r2⟩
set_option maxHeartbeats 2000000 in
theorem l05DrawOk_c (B b n : Nat) (w : World) (h : Src B w b n) (hB : B ≤ w.heap.size) (hn : n ≤ 100000000) :
    Calls Tryz.prog 74 #[.pointer (some ⟨b, 0, none⟩)] w (MRes B w b n 600) := by
  have hbl := h.lt
  obtain ⟨W, hW⟩ : ∃ W, W = w.alloc (.cells #[.int .i64 0, .int .i64 0, .slice none 0 0] 26) := ⟨_, rfl⟩
  have hX : Ext w W := by rw [hW]; exact Ext.alloc _ _
  have bR : Blk W w.heap.size 26 #[.int .i64 0, .int .i64 0, .slice none 0 0] := by rw [hW]; exact Blk.new _ _ _ _ rfl
  have hsW := h.ext hX
  go_enter Tryz.func74, Tryz.ntmps74
  go_wp2_with fail
  rw [← hW]
  clear hW
  refine (one_c B b n 4 W hsW (by omega)).mono ?_
  rintro e w1 ⟨⟨q, rfl⟩, hs1, hg1⟩
  have hW1 : w.grownBy w1 (some b) := grownBy_trans (ext_grownBy hX _) hg1
  have b1 := blk_src hsW hg1 bR (by decide)
  have z1 := hW1.size
  generalize hg : w.heap.size = g at *
  have HG := Lib.hid hg
  clear hg
  cases q with
  | true =>
    go_wp2_with fail
    refine (l05Known_c B b (n + 2) w1 hs1 (by omega) (by omega)).mono ?_
    rintro e w2 ⟨⟨m, rv, rfl, ho, hl⟩, hs2, hg2⟩
    have b2 := blk_src hs1 hg2 b1 (by decide)
    have d := b2.cell
    have f := b2.frozen
    obtain ⟨A, c, rfl, _, _, _⟩ := (ownsRow_row ho).form
    go_wp2
    refine bodyPost_ret (v := .agg #[.int .i64 m.sy, .int .i64 m.st, .slice A m.rules.length c]) ?_ rfl (MRes.of hs2 (by omega) (grownBy_trans hW1 hg2) hB hbl HG.out ho (by omega) b2 hl)
    simp [results, Tryz.results74, go_sem, d]
  | false =>
    go_wp2_with fail
    refine (one_c B b _ 4 w1 hs1 (by omega)).mono ?_
    rintro e w2 ⟨⟨q, rfl⟩, hs2, hg2⟩
    have b2 := blk_src hs1 hg2 b1 (by decide)
    have hW2 := grownBy_trans hW1 hg2
    have z2 := hg2.size
    cases q with
    | true =>
      go_wp2_with fail
      refine (pick_c B b _ 3 w2 hs2 (by omega)).mono ?_
      rintro e w3 ⟨⟨x, rfl, x0, _, x2⟩, hs3, hg3⟩
      have x3 := x2 (by omega)
      have b3 := blk_src hs2 hg3 b2 (by decide)
      have hW3 := grownBy_trans hW2 hg3
      have z3 := hg3.size
      go_wp2_with fail
      refine (pick_c B b _ 4 w3 hs3 (by omega)).mono ?_
      rintro e w4 ⟨⟨y, rfl, y0, _, y2⟩, hs4, hg4⟩
      have y3 := y2 (by omega)
      have b4 := blk_src hs3 hg4 b3 (by decide)
      have hW4 := grownBy_trans hW3 hg4
      have z4 := hg4.size
      go_wp2_with fail
      refine (l05DrawSize_m B b _ (2 + x) (1 + y) w4 hs4 (by omega) (by omega) (by omega) (by omega) (by omega) (by omega)).mono ?_
      rintro e w5 ⟨⟨m, rv, rfl, ho, hl⟩, hs5, hg5⟩
      have b5 := blk_src hs4 hg5 b4 (by decide)
      have d := b5.cell
      have f := b5.frozen
      obtain ⟨A, c, rfl, _, _, _⟩ := (ownsRow_row ho).form
      go_wp2
      refine bodyPost_ret (v := .agg #[.int .i64 m.sy, .int .i64 m.st, .slice A m.rules.length c]) ?_ rfl (MRes.of hs5 (by omega) (grownBy_trans hW4 hg5) hB hbl HG.out ho (by omega) b5 hl)
      simp [results, Tryz.results74, go_sem, d]
    | false =>
      go_wp2_with fail
      refine (pick_c B b _ 4 w2 hs2 (by omega)).mono ?_
      rintro e w4 ⟨⟨y, rfl, y0, _, y2⟩, hs4, hg4⟩
      have y3 := y2 (by omega)
      have b4 := blk_src hs2 hg4 b2 (by decide)
      have hW4 := grownBy_trans hW2 hg4
      have z4 := hg4.size
      go_wp2_with fail
      refine (l05DrawSize_m B b _ 2 (1 + y) w4 hs4 (by omega) (by omega) (by omega) (by omega) (by omega) (by omega)).mono ?_
      rintro e w5 ⟨⟨m, rv, rfl, ho, hl⟩, hs5, hg5⟩
      have b5 := blk_src hs4 hg5 b4 (by decide)
      have d := b5.cell
      have f := b5.frozen
      obtain ⟨A, c, rfl, _, _, _⟩ := (ownsRow_row ho).form
      go_wp2
      refine bodyPost_ret (v := .agg #[.int .i64 m.sy, .int .i64 m.st, .slice A m.rules.length c]) ?_ rfl (MRes.of hs5 (by omega) (grownBy_trans hW4 hg5) hB hbl HG.out ho (by omega) b5 hl)
      simp [results, Tryz.results74, go_sem, d]
set_option maxRecDepth 20000 in
set_option maxHeartbeats 2000000 in
theorem l05Own_c (b : Nat) (m : MachD) (rv : Value) (w : World) (hM : MachBlk w b m rv) (hr : Rules w rv m.rules) (h0 : 0 < m.rules.length) (h1 : m.rules.length ≤ 600) :
    Calls Tryz.prog 105 #[.pointer (some ⟨b, 0, none⟩)] w fun e w' => (∃ rv', e = .returned (.agg #[.int .i64 m.sy, .int .i64 m.st, rv']) ∧ OwnRules w.heap.size w' rv' m.rules) ∧ Ext w w' := by
  obtain ⟨i0, hi, hz0, hz1, hz2⟩ := info_parts ruleInfo2
  obtain ⟨A, c, rfl, k1, k2⟩ := hr.form
  obtain ⟨br, off, rfl, hc⟩ := Row.at hr h0
  obtain ⟨W, hW⟩ : ∃ W, W = w.alloc (.cells #[.int .i64 0, .int .i64 0, .slice none 0 0] 26) := ⟨_, rfl⟩
  have hX : Ext w W := by rw [hW]; exact Ext.alloc _ _
  have bR : Blk W w.heap.size 26 #[.int .i64 0, .int .i64 0, .slice none 0 0] := by rw [hW]; exact Blk.new _ _ _ _ rfl
  have bM := Blk.ext hM hX
  have c0 := bM.cell 0
  have c1 := bM.cell 1
  have c2 := bM.cell 2
  simp only [List.getElem?_toArray, List.getElem?_cons_zero, List.getElem?_cons_succ] at c0 c1 c2
  have hcW : ∀ j u, (rvs m.rules)[j]? = some u → W.cell? ((⟨br, off, none⟩ : Addr).add j) = some u := by
    intro j u hj
    have hadd : (⟨br, off, none⟩ : Addr).add j = ⟨br, off + j, none⟩ := by unfold Addr.add; split <;> simp_all
    have hlt := (List.getElem?_eq_some_iff.1 hj).1
    rw [rvs_length] at hlt
    rw [hadd]
    exact hX.cell ((hc j hlt).trans hj)
  have HC := Lib.hid hcW
  have hone : ∀ u ∈ rvs m.rules, u.oneCell' = true := by
    intro u hu
    simp only [rvs, List.mem_flatMap] at hu
    obtain ⟨r, _, hu⟩ := hu
    simp at hu
    rcases hu with rfl | rfl | rfl <;> rfl
  have HO := Lib.hid hone
  have hsz := bR.lt
  have hbl := Blk.lt hM
  have hbg : b ≠ w.heap.size := by omega
  have rl := rvs_length m.rules
  have HRL := Lib.hid rl
  clear hcW hone hc rl
  generalize hg : w.heap.size = g at *
  have HG := Lib.hid hg
  go_enter Tryz.func105, Tryz.ntmps105
  go_wp2_with fail
  rw [← hW]
  clear hW hg
  have hown0 : (W.drew.alloc (.cells #[] 38)).ownsRow g 38 3 (.slice (some ⟨W.heap.size, 0, none⟩) 0 0) 0 [] :=
    World.ownsRow_made (base := g) (e := 38) (size := 3) W.drew #[] 0 (by show g ≤ W.heap.size; omega) (by unfold maxLen; omega) (by simp)
  go_region_held3 (fun w' => w'.cell? ⟨b, 0, none⟩ = some (.int .i64 m.sy) ∧ w'.cell? ⟨b, 1, none⟩ = some (.int .i64 m.st) ∧ w'.cell? ⟨b, 2, none⟩ = some (.slice (some ⟨br, off, none⟩) m.rules.length c))
    (first | go_keep | exact ⟨t0, t1, t2⟩ | exact ⟨u0, u1, u2⟩)
    ((refine step_append_lies _ (by rfl) _ _ _ (by rfl) g 38 i0 _ 3 24 Tryz.underlying24 hi hz0 hz1 hz2 rfl (by omega) _ _ [] (by rfl) hown0 ⟨br, off, none⟩ m.rules.length c (rvs m.rules) (by rfl) HRL.out (fun j u hj => (Ext.alloc _ _).cell (HC.out j u hj)) HO.out (by omega) (by unfold maxLen; omega) (by omega) (by simp; omega) (W.heap.size + 1) (by simp) ?_; intro gg cap w3 hown3 hgrow hat hlt3; have bM3 := Blk.apart (bM.drew.alloc (.cells #[] 38)) hown0 (by decide) hgrow; have bR3 := Blk.apart (bR.drew.alloc (.cells #[] 38)) hown0 (by decide) hgrow; have t0 := bM3.cell 0; have t1 := bM3.cell 1; have t2 := bM3.cell 2; have r0 := bR3.cell 0; have r1 := bR3.cell 1; have r2 := bR3.cell 2; have f0 := bR3.frozen 0; have f1 := bR3.frozen 1; have f2 := bR3.frozen 2; have bM4 := ((bM3.far (p := ⟨g, 0, none⟩) hbg (.int .i64 m.sy)).far (p := ⟨g, 1, none⟩) hbg (.int .i64 m.st)).far (p := ⟨g, 2, none⟩) hbg (.slice (some ⟨gg, 0, none⟩) m.rules.length cap); have u0 := bM4.cell 0; have u1 := bM4.cell 1; have u2 := bM4.cell 2; simp only [List.getElem?_toArray, List.getElem?_cons_zero, List.getElem?_cons_succ] at t0 t1 t2 r0 r1 r2 u0 u1 u2))
  all_goals
    have d := (((bR3.set_ 0 (.int .i64 m.sy)).set_ 1 (.int .i64 m.st)).set_ 2 (.slice (some ⟨gg, 0, none⟩) m.rules.length cap)).cell
    have hgw : w.heap.size ≤ g := Nat.le_of_eq HG.out
    have hX3 : Ext w w3 := ((hX.trans (Ext.drew _)).trans (Ext.alloc _ _)).grown hgrow (fun k hk => by have := (hown0.lt k hk).1; omega)
    have ho3 : OwnRules g w3 (.slice (some ⟨gg, 0, none⟩) m.rules.length cap) m.rules := by simpa [OwnRules] using hown3
    have hfar := own_far_blk ho3 bR3 (by decide)
    go_wp2
    refine bodyPost_ret (v := .agg #[.int .i64 m.sy, .int .i64 m.st, .slice (some ⟨gg, 0, none⟩) m.rules.length cap]) (by simp [results, Tryz.results105, go_sem, d]) rfl ⟨⟨_, rfl, ?_⟩, ?_⟩
    · first | exact ownsRow_far (ownsRow_far (ownsRow_far ho3 hfar _) hfar _) hfar _ | (rw [HG.out]; exact ownsRow_far (ownsRow_far (ownsRow_far ho3 hfar _) hfar _) hfar _)
    · exact ((hX3.setCell hgw _).setCell hgw _).setCell hgw _
end Go.Proofs.YtacpchapgklcgaaGreatDoor
namespace Go.Proofs.YtacpchapgklcgaaGreatDoor
open Go Go.RowKit Go.Proofs
set_option maxHeartbeats 400000
/-- A machine that is drawn, of any length. -/
def MRes0 (B : Nat) (w : World) (b n c : Nat) (e : Ending) (w' : World) : Prop :=
  (∃ (m : MachD) (rv : Value), e = .returned (.agg #[.int .i64 m.sy, .int .i64 m.st, rv]) ∧ OwnRules w.heap.size w' rv m.rules) ∧ Src B w' b (n + c) ∧ w.grownBy w' (some b)
theorem MRes.zero {B : Nat} {w : World} {b n c c' : Nat} {e : Ending} {w' : World} (h : MRes B w b n c e w') (hc : c ≤ c') : MRes0 B w b n c' e w' := by
  obtain ⟨⟨m, rv, he, ho, _, _⟩, hs, hg⟩ := h
  exact ⟨⟨m, rv, he, ho⟩, hs.mono (by omega), hg⟩
theorem MRes0.of {B b n n' c g : Nat} {w w2 : World} {sy st : Int} {rs : List RuleD} {rv : Value} {base : Nat} {cs : Array Value} (hs : Src B w2 b n') (hn : n' ≤ n + c) (hg : w.grownBy w2 (some b)) (hB : B ≤ g) (hbl : b < g) (hgw : w.heap.size ≤ g) (ho : OwnRules base w2 rv rs) (hbase : w.heap.size ≤ base) (hb : Blk w2 g 26 cs) :
    MRes0 B w b n c (.returned (.agg #[.int .i64 sy, .int .i64 st, rv])) (((w2.setCell ⟨g, 0, none⟩ (.int .i64 sy)).setCell ⟨g, 1, none⟩ (.int .i64 st)).setCell ⟨g, 2, none⟩ rv) := by
  have e : ∀ k, some g = some k → B ≤ k ∧ k ≠ b := fun k hk => by injection hk with hk; subst hk; exact ⟨hB, by omega⟩
  have e' : ∀ k, some g = some k → w.heap.size ≤ k ∨ some b = some k := fun k hk => by injection hk with hk; subst hk; exact .inl hgw
  have hfar := own_far_blk ho hb (by decide)
  have r1 := ((hs.kept (set_grownBy w2 ⟨g, 0, none⟩ (.int .i64 sy)) e).kept (set_grownBy _ ⟨g, 1, none⟩ (.int .i64 st)) e).kept (set_grownBy _ ⟨g, 2, none⟩ rv) e
  have r2 := grownBy_step (grownBy_step (grownBy_step hg (set_grownBy w2 ⟨g, 0, none⟩ (.int .i64 sy)) e') (set_grownBy _ ⟨g, 1, none⟩ (.int .i64 st)) e') (set_grownBy _ ⟨g, 2, none⟩ rv) e'
  have r3 := ownsRow_far (p := ⟨g, 2, none⟩) (ownsRow_far (p := ⟨g, 1, none⟩) (ownsRow_far (p := ⟨g, 0, none⟩) ho hfar (.int .i64 sy)) hfar (.int .i64 st)) hfar rv
  exact ⟨⟨⟨sy, st, rs⟩, rv, rfl, ownsRow_base r3 hbase⟩, r1.mono hn, r2⟩
/-- What is known while a machine is bent: the result's block, the machine's block, its rules. -/
structure BendSt (B b g go : Nat) (w0 : World) (n : Nat) (sy st : Int) (rs : List RuleD) (rv : Value) (w : World) : Prop where
  res : Blk w g 26 #[.int .i64 0, .int .i64 0, .slice none 0 0]
  mac : Blk w go 26 #[.int .i64 sy, .int .i64 st, rv]
  own : OwnRules w0.heap.size w rv rs
  src : Src B w b n
  grown : w0.grownBy w (some b)
theorem BendSt.src' {B b g go : Nat} {w0 : World} {n n' : Nat} {sy st : Int} {rs : List RuleD} {rv : Value} {w w' : World} (h : BendSt B b g go w0 n sy st rs rv w) (hs : Src B w' b n') (hg : w.grownBy w' (some b)) : BendSt B b g go w0 n' sy st rs rv w' :=
  ⟨blk_src h.src hg h.res (by decide), blk_src h.src hg h.mac (by decide), own_src h.src hg h.own (by decide), hs, grownBy_trans h.grown hg⟩
theorem BendSt.ext {B b g go : Nat} {w0 : World} {n : Nat} {sy st : Int} {rs : List RuleD} {rv : Value} {w w' : World} (h : BendSt B b g go w0 n sy st rs rv w) (he : Ext w w') : BendSt B b g go w0 n sy st rs rv w' :=
  ⟨h.res.ext he, h.mac.ext he, OwnRules.ext h.own he, h.src.ext he, grownBy_trans h.grown (ext_grownBy he _)⟩
theorem own_lits {w : World} {base : Nat} (zs : List Int) (hb : base ≤ w.heap.size) (hl : zs.length ≤ 100) : OwnInts base (w.alloc (.cells (ivs zs).toArray 2)) (.slice (some ⟨w.heap.size, 0, none⟩) zs.length zs.length) zs :=
  ⟨by simp, .inr ⟨w.heap.size, zs.length, (ivs zs).toArray, rfl, hb, heap_alloc_new w _, Nat.le_refl _, by unfold maxLen; omega, by simp, by simp [List.take_of_length_le]⟩⟩
theorem rvs_set0 : ∀ (rs : List RuleD) (k : Nat) (z : Int) (h : k < rs.length), (rvs rs).set (k * 3) (.int .i64 z) = rvs (rs.set k ⟨z, rs[k].m, rs[k].n⟩)
  | r :: rs, 0, z, _ => by simp [rvs]
  | r :: rs, k + 1, z, h => by
    have ih := rvs_set0 rs k z (by simpa using h)
    simp only [rvs, List.flatMap_cons, List.set_cons_succ, List.getElem_cons_succ] at ih ⊢
    rw [show (k + 1) * 3 = k * 3 + 1 + 1 + 1 by omega]
    simp only [List.cons_append, List.nil_append, List.set_cons_succ]
    rw [ih]
theorem rvs_set1 : ∀ (rs : List RuleD) (k : Nat) (z : Int) (h : k < rs.length), (rvs rs).set (k * 3 + 1) (.int .i64 z) = rvs (rs.set k ⟨rs[k].w, z, rs[k].n⟩)
  | r :: rs, 0, z, _ => by simp [rvs]
  | r :: rs, k + 1, z, h => by
    have ih := rvs_set1 rs k z (by simpa using h)
    simp only [rvs, List.flatMap_cons, List.set_cons_succ, List.getElem_cons_succ] at ih ⊢
    rw [show (k + 1) * 3 + 1 = k * 3 + 1 + 1 + 1 + 1 by omega]
    simp only [List.cons_append, List.nil_append, List.set_cons_succ]
    rw [ih]
theorem rvs_set2 : ∀ (rs : List RuleD) (k : Nat) (z : Int) (h : k < rs.length), (rvs rs).set (k * 3 + 2) (.int .i64 z) = rvs (rs.set k ⟨rs[k].w, rs[k].m, z⟩)
  | r :: rs, 0, z, _ => by simp [rvs]
  | r :: rs, k + 1, z, h => by
    have ih := rvs_set2 rs k z (by simpa using h)
    simp only [rvs, List.flatMap_cons, List.set_cons_succ, List.getElem_cons_succ] at ih ⊢
    rw [show (k + 1) * 3 + 2 = k * 3 + 2 + 1 + 1 + 1 by omega]
    simp only [List.cons_append, List.nil_append, List.set_cons_succ]
    rw [ih]
theorem rvs_take (rs : List RuleD) (k : Nat) : (rvs rs).take (k * 3) = rvs (rs.take k) := by
  induction rs generalizing k with
  | nil => simp [rvs]
  | cons r rs ih =>
    cases k with
    | zero => simp [rvs]
    | succ k =>
      have := ih k
      simp only [rvs, List.flatMap_cons, List.take_succ_cons] at this ⊢
      rw [show (k + 1) * 3 = k * 3 + 1 + 1 + 1 by omega]
      simp only [List.cons_append, List.nil_append, List.take_succ_cons]
      rw [this]
/-- A shorter slice of the same row. -/
theorem OwnRules.cut {base : Nat} {w : World} {A : Option Addr} {c : Nat} {rs : List RuleD} (h : OwnRules base w (.slice A rs.length c) rs) {k : Nat} (hk : k ≤ rs.length) (h0 : 0 < rs.length) : OwnRules base w (.slice A k c) (rs.take k) := by
  have hl : (rs.take k).length = k := by simp; omega
  unfold OwnRules
  rw [hl, ← rvs_take]
  refine ⟨by rw [List.length_take, rvs_length]; omega, ?_⟩
  rcases h.2 with ⟨_, h1⟩ | ⟨g, cap, cur, hv, h1, h2, h3, h4, h5, h6⟩
  · omega
  · injection hv with e1 e2 e3
    subst e1
    subst e3
    refine .inr ⟨g, c, cur, rfl, h1, h2, by omega, h4, h5, ?_⟩
    rw [← h6, List.take_take]
    congr 1
    omega
section
variable {B b g go : Nat} {w0 : World} {n : Nat} {sy st : Int} {rs : List RuleD} {rv : Value} {w : World}
theorem BendSt.putAny (h : BendSt B b g go w0 n sy st rs rv w) (h1 : b ≠ go) (h2 : B ≤ go) (h3 : w0.heap.size ≤ go) (h4 : g ≠ go) (j : Nat) (u : Value) :
    Blk (w.setCell ⟨go, j, none⟩ u) g 26 #[.int .i64 0, .int .i64 0, .slice none 0 0] ∧ Src B (w.setCell ⟨go, j, none⟩ u) b n ∧ w0.grownBy (w.setCell ⟨go, j, none⟩ u) (some b) ∧
      (∀ {base : Nat} {v : Value} {qs : List RuleD}, OwnRules base w v qs → OwnRules base (w.setCell ⟨go, j, none⟩ u) v qs) :=
  ⟨h.res.far (by simpa using h4) _, h.src.kept (set_grownBy _ _ _) (fun k hk => by injection hk with hk; subst hk; exact ⟨h2, fun e => h1 e.symm⟩),
   grownBy_step h.grown (set_grownBy _ _ _) (fun k hk => by injection hk with hk; subst hk; exact .inl h3), fun ho => ownsRow_far (p := ⟨go, j, none⟩) ho (own_far_blk ho h.mac (by decide)) _⟩
theorem BendSt.put0 (h : BendSt B b g go w0 n sy st rs rv w) (h1 : b ≠ go) (h2 : B ≤ go) (h3 : w0.heap.size ≤ go) (h4 : g ≠ go) (z : Int) : BendSt B b g go w0 n z st rs rv (w.setCell ⟨go, 0, none⟩ (.int .i64 z)) := by
  obtain ⟨a1, a2, a3, a4⟩ := h.putAny h1 h2 h3 h4 0 (.int .i64 z)
  exact ⟨a1, h.mac.set_ 0 _, a4 h.own, a2, a3⟩
theorem BendSt.put1 (h : BendSt B b g go w0 n sy st rs rv w) (h1 : b ≠ go) (h2 : B ≤ go) (h3 : w0.heap.size ≤ go) (h4 : g ≠ go) (z : Int) : BendSt B b g go w0 n sy z rs rv (w.setCell ⟨go, 1, none⟩ (.int .i64 z)) := by
  obtain ⟨a1, a2, a3, a4⟩ := h.putAny h1 h2 h3 h4 1 (.int .i64 z)
  exact ⟨a1, h.mac.set_ 1 _, a4 h.own, a2, a3⟩
theorem BendSt.put2 (h : BendSt B b g go w0 n sy st rs rv w) (h1 : b ≠ go) (h2 : B ≤ go) (h3 : w0.heap.size ≤ go) (h4 : g ≠ go) {rv' : Value} {qs : List RuleD} (ho : OwnRules w0.heap.size w rv' qs) : BendSt B b g go w0 n sy st qs rv' (w.setCell ⟨go, 2, none⟩ rv') := by
  obtain ⟨a1, a2, a3, a4⟩ := h.putAny h1 h2 h3 h4 2 rv'
  exact ⟨a1, h.mac.set_ 2 _, a4 ho, a2, a3⟩
/-- A field of a rule is written. -/
theorem BendSt.field {gr c : Nat} {qs : List RuleD} (h : BendSt B b g go w0 n sy st rs (.slice (some ⟨gr, 0, none⟩) rs.length c) w) (hbw : b < w0.heap.size) (hB : B ≤ w0.heap.size) (j : Nat) (u : Value) (hq : (rvs rs).set j u = rvs qs) (hl : qs.length = rs.length) :
    BendSt B b g go w0 n sy st qs (.slice (some ⟨gr, 0, none⟩) rs.length c) (w.setCell ⟨gr, j, none⟩ u) := by
  have hlt := h.own.lt gr rfl
  have n1 := own_far_blk h.own h.res (by decide) gr rfl
  have n2 := own_far_blk h.own h.mac (by decide) gr rfl
  refine ⟨h.res.far (by simpa using fun e => n1 e.symm) _, h.mac.far (by simpa using fun e => n2 e.symm) _, ?_, h.src.kept (set_grownBy _ _ _) (fun k hk => by injection hk with hk; subst hk; exact ⟨by simp; omega, by simp; omega⟩), grownBy_step h.grown (set_grownBy _ _ _) (fun k hk => by injection hk with hk; subst hk; exact .inl (by simp; omega))⟩
  have := (World.ownsRow.stored h.own j u).1
  rw [hq] at this
  unfold OwnRules
  rw [hl]
  exact this
end
set_option maxRecDepth 20000 in
set_option maxHeartbeats 4000000 in
theorem l05Bend_c (B b n : Nat) (m : MachD) (rv : Value) (w : World) (h : Src B w b n) (hB : B ≤ w.heap.size) (hn : n ≤ 100000000) (hr : Rules w rv m.rules) (h0 : 0 < m.rules.length) (h1 : m.rules.length ≤ 600) :
    Calls Tryz.prog 75 #[.pointer (some ⟨b, 0, none⟩), .agg #[.int .i64 m.sy, .int .i64 m.st, rv]] w (MRes0 B w b n 20) := by
  have hbl := h.lt
  obtain ⟨Ar, cr, rfl, k1, k2⟩ := hr.form
  obtain ⟨W, hW⟩ : ∃ W, W = (w.alloc (.cells #[.int .i64 m.sy, .int .i64 m.st, .slice Ar m.rules.length cr] 26)).alloc (.cells #[.int .i64 0, .int .i64 0, .slice none 0 0] 26) := ⟨_, rfl⟩
  have hX : Ext w W := by rw [hW]; exact (Ext.alloc _ _).trans (Ext.alloc _ _)
  have bM : Blk W w.heap.size 26 #[.int .i64 m.sy, .int .i64 m.st, .slice Ar m.rules.length cr] := by rw [hW]; exact (Blk.new _ _ _ _ rfl).alloc _
  have bR : Blk W (w.heap.size + 1) 26 #[.int .i64 0, .int .i64 0, .slice none 0 0] := by rw [hW]; exact Blk.new _ _ _ _ (by simp)
  have hsW := h.ext hX
  go_enter Tryz.func75, Tryz.ntmps75
  go_wp2_with fail
  rw [← hW]
  clear hW
  refine (l05Own_c w.heap.size m _ W bM (hr.ext hX) h0 h1).mono ?_
  rintro e w1 ⟨⟨rv1, rfl, ho1⟩, hx1⟩
  obtain ⟨A1, c1, rfl, _, _, _⟩ := (ownsRow_row ho1).form
  obtain ⟨W1, hW1⟩ : ∃ V, V = w1.alloc (.cells #[.int .i64 m.sy, .int .i64 m.st, .slice A1 m.rules.length c1] 26) := ⟨_, rfl⟩
  have hXW1 : Ext w1 W1 := by rw [hW1]; exact Ext.alloc _ _
  have st1 : BendSt B b (w.heap.size + 1) w1.heap.size w n m.sy m.st m.rules (.slice A1 m.rules.length c1) W1 :=
    ⟨bR.ext (hx1.trans hXW1), by rw [hW1]; exact Blk.new _ _ _ _ rfl, OwnRules.ext (ownsRow_base ho1 hX.size) hXW1, hsW.ext (hx1.trans hXW1), ext_grownBy (hX.trans (hx1.trans hXW1)) _⟩
  have z1 : w.heap.size + 1 < w1.heap.size := (bR.ext hx1).lt
  go_wp2_with fail
  rw [← hW1]
  clear hW1 ho1 bM bR
  refine (one_c B b n 10 W1 st1.src (by omega)).mono ?_
  rintro e w2 ⟨⟨q, rfl⟩, hs2, hg2⟩
  have st2 := st1.src' hs2 hg2
  generalize hgo : w1.heap.size = go at *
  generalize hg : w.heap.size + 1 = g at *
  have hgw : w.heap.size < g := by omega
  have hBg : B ≤ g := by omega
  have hbg : b < g := by omega
  have hne : g ≠ go := by omega
  have hbgo : b ≠ go := by omega
  have hBgo : B ≤ go := by omega
  have hwgo : w.heap.size ≤ go := by omega
  clear hgo hg st1
  cases q with
  | false =>
    have c0 := st2.mac.cell 0
    have cc1 := st2.mac.cell 1
    have c2 := st2.mac.cell 2
    simp only [List.getElem?_toArray, List.getElem?_cons_zero, List.getElem?_cons_succ] at c0 cc1 c2
    have d := st2.res.cell
    have f := st2.res.frozen
    go_wp2
    refine bodyPost_ret (v := .agg #[.int .i64 m.sy, .int .i64 m.st, .slice A1 m.rules.length c1]) ?_ rfl (MRes0.of st2.src (by omega) st2.grown hBg hbg (by omega) st2.own (Nat.le_refl _) st2.res)
    simp [results, Tryz.results75, go_sem, d]
  | true =>
    obtain ⟨gr, rfl, hgr1, hgr2⟩ := own_at st2.own h0
    have c2 := st2.mac.cell 2
    simp only [List.getElem?_toArray, List.getElem?_cons_zero, List.getElem?_cons_succ] at c2
    go_wp2_with fail
    refine (pick_c B b _ m.rules.length w2 st2.src (by omega)).mono ?_
    rintro e w3 ⟨⟨x, rfl, x0, x1, x2⟩, hs3, hg3⟩
    have st3 := st2.src' hs3 hg3
    obtain ⟨k, rfl⟩ : ∃ k : Nat, x = (k : Int) := ⟨x.toNat, by omega⟩
    have hk : k < m.rules.length := by
      by_cases c : (m.rules.length : Int) ≤ 1
      · have := x1 c; omega
      · have := x2 (by omega); omega
    clear c2 x0 x1 x2
    go_wp2_with fail
    refine (pick_c B b _ 6 w3 st3.src (by omega)).mono ?_
    rintro e w4 ⟨⟨y, rfl, y0, _, y2⟩, hs4, hg4⟩
    have st4 := st3.src' hs4 hg4
    have y3 := y2 (by omega)
    clear y2 st3 st2
    have c0 := st4.mac.cell 0
    have cc1 := st4.mac.cell 1
    have c2 := st4.mac.cell 2
    simp only [List.getElem?_toArray, List.getElem?_cons_zero, List.getElem?_cons_succ] at c0 cc1 c2
    have hgw4 : g ≤ w4.heap.size := by have := st4.mac.lt; omega
    have f0 := st4.mac.frozen 0
    have f1 := st4.mac.frozen 1
    have f2 := st4.mac.frozen 2
    obtain rfl | rfl | rfl | rfl | rfl | rfl : y = 0 ∨ y = 1 ∨ y = 2 ∨ y = 3 ∨ y = 4 ∨ y = 5 := by omega
    · have oL : OwnInts g (w4.alloc (.cells #[.int .i64 (1), .int .i64 (7), .int .i64 (0), .int .i64 (wrap64 (m.sy + 1))] 2)) (.slice (some ⟨w4.heap.size, 0, none⟩) 4 4) [1, 7, 0, wrap64 (m.sy + 1)] := own_lits [1, 7, 0, wrap64 (m.sy + 1)] hgw4 (by simp)
      have st4a := st4.ext (Ext.alloc w4 (.cells #[.int .i64 (1), .int .i64 (7), .int .i64 (0), .int .i64 (wrap64 (m.sy + 1))] 2))
      go_wp2_with fail
      refine (among_c B g b _ _ [1, 7, 0, wrap64 (m.sy + 1)] _ st4a.src oL (by simp) (by omega)).mono ?_
      rintro e w5 ⟨⟨z, rfl, _⟩, hs5, hg5⟩
      have st5 := st4a.src' hs5 hg5
      have e0 := st5.mac.cell 0
      have ff := st5.mac.frozen 0
      simp only [List.getElem?_toArray, List.getElem?_cons_zero] at e0
      have st6 := st5.put0 hbgo hBgo hwgo hne z
      clear c0 cc1 c2 f0 f1 f2
      have c0 := st6.mac.cell 0
      have cc1 := st6.mac.cell 1
      have c2 := st6.mac.cell 2
      simp only [List.getElem?_toArray, List.getElem?_cons_zero, List.getElem?_cons_succ] at c0 cc1 c2
      have d := st6.res.cell
      have f := st6.res.frozen
      have c0' := st5.mac.cell 0
      have cc1' := st5.mac.cell 1
      have c2' := st5.mac.cell 2
      have d' := st5.res.cell
      have f' := st5.res.frozen
      simp only [List.getElem?_toArray, List.getElem?_cons_zero, List.getElem?_cons_succ] at c0' cc1' c2'
      go_wp2
      refine bodyPost_ret (v := .agg #[.int .i64 z, .int .i64 m.st, .slice (some ⟨gr, 0, none⟩) m.rules.length c1]) ?_ rfl (MRes0.of st6.src (by omega) st6.grown hBg hbg (by omega) st6.own (Nat.le_refl _) st6.res)
      simp [results, Tryz.results75, go_sem, d]
    · have oL : OwnInts g (w4.alloc (.cells #[.int .i64 (0), .int .i64 (1001), .int .i64 (wrap64 (m.st + 1)), .int .i64 (-1)] 2)) (.slice (some ⟨w4.heap.size, 0, none⟩) 4 4) [0, 1001, wrap64 (m.st + 1), -1] := own_lits [0, 1001, wrap64 (m.st + 1), -1] hgw4 (by simp)
      have st4a := st4.ext (Ext.alloc w4 (.cells #[.int .i64 (0), .int .i64 (1001), .int .i64 (wrap64 (m.st + 1)), .int .i64 (-1)] 2))
      go_wp2_with fail
      refine (among_c B g b _ _ [0, 1001, wrap64 (m.st + 1), -1] _ st4a.src oL (by simp) (by omega)).mono ?_
      rintro e w5 ⟨⟨z, rfl, _⟩, hs5, hg5⟩
      have st5 := st4a.src' hs5 hg5
      have e0 := st5.mac.cell 1
      have ff := st5.mac.frozen 1
      simp only [List.getElem?_toArray, List.getElem?_cons_zero, List.getElem?_cons_succ] at e0
      have st6 := st5.put1 hbgo hBgo hwgo hne z
      clear c0 cc1 c2 f0 f1 f2
      have c0 := st6.mac.cell 0
      have cc1 := st6.mac.cell 1
      have c2 := st6.mac.cell 2
      simp only [List.getElem?_toArray, List.getElem?_cons_zero, List.getElem?_cons_succ] at c0 cc1 c2
      have d := st6.res.cell
      have f := st6.res.frozen
      have c0' := st5.mac.cell 0
      have cc1' := st5.mac.cell 1
      have c2' := st5.mac.cell 2
      have d' := st5.res.cell
      have f' := st5.res.frozen
      simp only [List.getElem?_toArray, List.getElem?_cons_zero, List.getElem?_cons_succ] at c0' cc1' c2'
      go_wp2
      refine bodyPost_ret (v := .agg #[.int .i64 m.sy, .int .i64 z, .slice (some ⟨gr, 0, none⟩) m.rules.length c1]) ?_ rfl (MRes0.of st6.src (by omega) st6.grown hBg hbg (by omega) st6.own (Nat.le_refl _) st6.res)
      simp [results, Tryz.results75, go_sem, d]
    · have oL : OwnInts g (w4.alloc (.cells #[.int .i64 (-1), .int .i64 (m.sy), .int .i64 (1)] 2)).drew (.slice (some ⟨w4.heap.size, 0, none⟩) 3 3) [-1, m.sy, 1] := OwnInts.ext (own_lits (w := w4) [-1, m.sy, 1] hgw4 (by simp)) (Ext.drew _)
      have st4a := (st4.ext (Ext.alloc w4 (.cells #[.int .i64 (-1), .int .i64 (m.sy), .int .i64 (1)] 2))).ext (Ext.drew _)
      have HSET := Lib.hid (fun z => rvs_set0 m.rules k z hk)
      have i1 : (0 : Int) ≤ (k : Int) := by omega
      have i2 : (k : Int) < (m.rules.length : Int) := by omega
      clear f0 f1 f2
      go_wp2_with fail
      go_region_held3 (fun w' => w'.cell? ⟨go, 0, none⟩ = some (.int .i64 m.sy) ∧ w'.cell? ⟨go, 2, none⟩ = some (.slice (some ⟨gr, 0, none⟩) m.rules.length c1))
        (first | go_keep | exact ⟨t0, t2⟩ | exact ⟨u0, u2⟩)
        ((go_at_call 106; ((with_reducible refine (among_c B g b _ _ [-1, m.sy, 1] _ st4a.src oL (by simp) (by omega)).mono ?_)); rintro e w5 ⟨⟨z, rfl, _⟩, hs5, hg5⟩; have st5 := st4a.src' hs5 hg5; have st6 := st5.field hbl hB (k * 3) (.int .i64 z) (HSET.out z) (by simp); have t2 := st5.mac.cell 2; have u2 := st6.mac.cell 2; have t0 := st5.mac.cell 0; have u0 := st6.mac.cell 0; have q0 := st5.own.cellAt (k * 3) (by omega); have qf := st5.own.frozenAt (k * 3); rw [List.getElem?_eq_getElem (by rw [rvs_length]; omega)] at q0; simp only [List.getElem?_toArray, List.getElem?_cons_zero, List.getElem?_cons_succ] at t0 t2 u0 u2))
      all_goals
        clear c0 cc1 c2
        have c0 := st6.mac.cell 0
        have cc1 := st6.mac.cell 1
        have c2 := st6.mac.cell 2
        simp only [List.getElem?_toArray, List.getElem?_cons_zero, List.getElem?_cons_succ] at c0 cc1 c2
        have d := st6.res.cell
        have f := st6.res.frozen
        go_wp2
        refine bodyPost_ret (v := .agg #[.int .i64 m.sy, .int .i64 m.st, .slice (some ⟨gr, 0, none⟩) m.rules.length c1]) ?_ rfl (MRes0.of st6.src (by omega) st6.grown hBg hbg (by omega) st6.own (Nat.le_refl _) st6.res)
        simp [results, Tryz.results75, go_sem, d]
    · have oL : OwnInts g (w4.alloc (.cells #[.int .i64 (0), .int .i64 (2), .int .i64 (-2), .int .i64 (1)] 2)).drew (.slice (some ⟨w4.heap.size, 0, none⟩) 4 4) [0, 2, -2, 1] := OwnInts.ext (own_lits (w := w4) [0, 2, -2, 1] hgw4 (by simp)) (Ext.drew _)
      have st4a := (st4.ext (Ext.alloc w4 (.cells #[.int .i64 (0), .int .i64 (2), .int .i64 (-2), .int .i64 (1)] 2))).ext (Ext.drew _)
      have HSET := Lib.hid (fun z => rvs_set1 m.rules k z hk)
      have i1 : (0 : Int) ≤ (k : Int) := by omega
      have i2 : (k : Int) < (m.rules.length : Int) := by omega
      clear f0 f1 f2
      go_wp2_with fail
      go_region_held3 (fun w' => w'.cell? ⟨go, 2, none⟩ = some (.slice (some ⟨gr, 0, none⟩) m.rules.length c1))
        (first | go_keep | exact t2 | exact u2)
        ((go_at_call 106; ((with_reducible refine (among_c B g b _ _ [0, 2, -2, 1] _ st4a.src oL (by simp) (by omega)).mono ?_)); rintro e w5 ⟨⟨z, rfl, _⟩, hs5, hg5⟩; have st5 := st4a.src' hs5 hg5; have st6 := st5.field hbl hB (k * 3 + 1) (.int .i64 z) (HSET.out z) (by simp); have t2 := st5.mac.cell 2; have u2 := st6.mac.cell 2; have q0 := st5.own.cellAt (k * 3 + 1) (by omega); have qf := st5.own.frozenAt (k * 3 + 1); rw [List.getElem?_eq_getElem (by rw [rvs_length]; omega)] at q0; simp only [List.getElem?_toArray, List.getElem?_cons_zero, List.getElem?_cons_succ] at t2 u2))
      all_goals
        clear c0 cc1 c2
        have c0 := st6.mac.cell 0
        have cc1 := st6.mac.cell 1
        have c2 := st6.mac.cell 2
        simp only [List.getElem?_toArray, List.getElem?_cons_zero, List.getElem?_cons_succ] at c0 cc1 c2
        have d := st6.res.cell
        have f := st6.res.frozen
        go_wp2
        refine bodyPost_ret (v := .agg #[.int .i64 m.sy, .int .i64 m.st, .slice (some ⟨gr, 0, none⟩) m.rules.length c1]) ?_ rfl (MRes0.of st6.src (by omega) st6.grown hBg hbg (by omega) st6.own (Nat.le_refl _) st6.res)
        simp [results, Tryz.results75, go_sem, d]
    · have oL : OwnInts g (w4.alloc (.cells #[.int .i64 (-1), .int .i64 (m.st), .int .i64 (0), .int .i64 (-2)] 2)).drew (.slice (some ⟨w4.heap.size, 0, none⟩) 4 4) [-1, m.st, 0, -2] := OwnInts.ext (own_lits (w := w4) [-1, m.st, 0, -2] hgw4 (by simp)) (Ext.drew _)
      have st4a := (st4.ext (Ext.alloc w4 (.cells #[.int .i64 (-1), .int .i64 (m.st), .int .i64 (0), .int .i64 (-2)] 2))).ext (Ext.drew _)
      have HSET := Lib.hid (fun z => rvs_set2 m.rules k z hk)
      have i1 : (0 : Int) ≤ (k : Int) := by omega
      have i2 : (k : Int) < (m.rules.length : Int) := by omega
      clear f0 f1 f2
      go_wp2_with fail
      go_region_held3 (fun w' => w'.cell? ⟨go, 1, none⟩ = some (.int .i64 m.st) ∧ w'.cell? ⟨go, 2, none⟩ = some (.slice (some ⟨gr, 0, none⟩) m.rules.length c1))
        (first | go_keep | exact ⟨t1, t2⟩ | exact ⟨u1, u2⟩)
        ((go_at_call 106; ((with_reducible refine (among_c B g b _ _ [-1, m.st, 0, -2] _ st4a.src oL (by simp) (by omega)).mono ?_)); rintro e w5 ⟨⟨z, rfl, _⟩, hs5, hg5⟩; have st5 := st4a.src' hs5 hg5; have st6 := st5.field hbl hB (k * 3 + 2) (.int .i64 z) (HSET.out z) (by simp); have t2 := st5.mac.cell 2; have u2 := st6.mac.cell 2; have t1 := st5.mac.cell 1; have u1 := st6.mac.cell 1; have q0 := st5.own.cellAt (k * 3 + 2) (by omega); have qf := st5.own.frozenAt (k * 3 + 2); rw [List.getElem?_eq_getElem (by rw [rvs_length]; omega)] at q0; simp only [List.getElem?_toArray, List.getElem?_cons_zero, List.getElem?_cons_succ] at t1 t2 u1 u2))
      all_goals
        clear c0 cc1 c2
        have c0 := st6.mac.cell 0
        have cc1 := st6.mac.cell 1
        have c2 := st6.mac.cell 2
        simp only [List.getElem?_toArray, List.getElem?_cons_zero, List.getElem?_cons_succ] at c0 cc1 c2
        have d := st6.res.cell
        have f := st6.res.frozen
        go_wp2
        refine bodyPost_ret (v := .agg #[.int .i64 m.sy, .int .i64 m.st, .slice (some ⟨gr, 0, none⟩) m.rules.length c1]) ?_ rfl (MRes0.of st6.src (by omega) st6.grown hBg hbg (by omega) st6.own (Nat.le_refl _) st6.res)
        simp [results, Tryz.results75, go_sem, d]
    · have oc := st4.own.cut (k := k) (by omega) h0
      have st6 := st4.put2 hbgo hBgo hwgo hne oc
      have i1 : (0 : Int) ≤ (k : Int) := by omega
      have i2 : (k : Int) ≤ (m.rules.length : Int) := by omega
      have i3 : (k : Int) ≤ (c1 : Int) := by omega
      have d' := st4.res.cell
      have f' := st4.res.frozen
      have e0 := st6.mac.cell 0
      have ee1 := st6.mac.cell 1
      have e2 := st6.mac.cell 2
      simp only [List.getElem?_toArray, List.getElem?_cons_zero, List.getElem?_cons_succ] at e0 ee1 e2
      have d := st6.res.cell
      have f := st6.res.frozen
      go_wp2
      refine bodyPost_ret (v := .agg #[.int .i64 m.sy, .int .i64 m.st, .slice (some ⟨gr, 0, none⟩) k c1]) ?_ rfl (MRes0.of st6.src (by omega) st6.grown hBg hbg (by omega) st6.own (Nat.le_refl _) st6.res)
      simp [results, Tryz.results75, go_sem, d]
end Go.Proofs.YtacpchapgklcgaaGreatDoor
namespace Go.Proofs.YtacpchapgklcgaaGreatDoor
open Go Go.RowKit Go.Proofs
set_option maxHeartbeats 400000
set_option maxHeartbeats 1000000 in
theorem l05Draw_c (B b n : Nat) (w : World) (h : Src B w b n) (hB : B ≤ w.heap.size) (hn : n ≤ 10000000) :
    Calls Tryz.prog 42 #[.pointer (some ⟨b, 0, none⟩)] w (MRes0 B w b n 620) := by
  have hbl := h.lt
  obtain ⟨W, hW⟩ : ∃ W, W = w.alloc (.cells #[.int .i64 0, .int .i64 0, .slice none 0 0] 26) := ⟨_, rfl⟩
  have hX : Ext w W := by rw [hW]; exact Ext.alloc _ _
  have bR : Blk W w.heap.size 26 #[.int .i64 0, .int .i64 0, .slice none 0 0] := by rw [hW]; exact Blk.new _ _ _ _ rfl
  have hsW := h.ext hX
  have zW := hX.size
  go_enter Tryz.func42, Tryz.ntmps42
  go_wp2_with fail
  rw [← hW]
  clear hW
  refine (l05DrawOk_c B b n W hsW (by omega) (by omega)).mono ?_
  rintro e w1 ⟨⟨m, rv, rfl, ho1, l1, l2, _⟩, hs1, hg1⟩
  have hW1 : w.grownBy w1 (some b) := grownBy_trans (ext_grownBy hX _) hg1
  have b1 := blk_src hsW hg1 bR (by decide)
  have z1 := hg1.size
  obtain ⟨A1, c1, rfl, _, _, _⟩ := (ownsRow_row ho1).form
  obtain ⟨V, hV⟩ : ∃ V, V = w1.alloc (.cells #[.int .i64 m.sy, .int .i64 m.st, .slice A1 m.rules.length c1] 26) := ⟨_, rfl⟩
  have hXV : Ext w1 V := by rw [hV]; exact Ext.alloc _ _
  have bV := b1.ext hXV
  have zV := hXV.size
  go_wp2_with fail
  rw [← hV]
  clear hV
  refine (l05Bend_c B b (n + 600) m _ V (hs1.ext hXV) (by omega) (by omega) (OwnRules.rules (ho1.ext hXV)) l1 l2).mono ?_
  rintro e w2 ⟨⟨m2, rv2, rfl, ho2⟩, hs2, hg2⟩
  have hW2 := grownBy_trans (grownBy_trans hW1 (ext_grownBy hXV _)) hg2
  have b2 := blk_src (hs1.ext hXV) hg2 bV (by decide)
  have d := b2.cell
  have f := b2.frozen
  obtain ⟨A2, c2, rfl, _, _, _⟩ := (ownsRow_row ho2).form
  go_wp2
  refine bodyPost_ret (v := .agg #[.int .i64 m2.sy, .int .i64 m2.st, .slice A2 m2.rules.length c2]) ?_ rfl (MRes0.of hs2 (by omega) hW2 hB hbl (Nat.le_refl _) ho2 (by omega) b2)
  simp [results, Tryz.results42, go_sem, d]
theorem BendSt.fieldN {B b g go : Nat} {w0 : World} {n : Nat} {sy st : Int} {rs : List RuleD} {w : World} {gr c N : Nat} {qs : List RuleD} (hN : rs.length = N) (h : BendSt B b g go w0 n sy st rs (.slice (some ⟨gr, 0, none⟩) N c) w) (hbw : b < w0.heap.size) (hB : B ≤ w0.heap.size) (j : Nat) (u : Value) (hq : (rvs rs).set j u = rvs qs) (hl : qs.length = N) :
    BendSt B b g go w0 n sy st qs (.slice (some ⟨gr, 0, none⟩) N c) (w.setCell ⟨gr, j, none⟩ u) := by
  subst hN
  exact h.field hbw hB j u hq hl
/-- A rule is written whole. -/
theorem BendSt.rule {B b g go : Nat} {w0 : World} {n : Nat} {sy st : Int} {rs : List RuleD} {w : World} {gr c N : Nat} (hN : rs.length = N) (h : BendSt B b g go w0 n sy st rs (.slice (some ⟨gr, 0, none⟩) N c) w) (hbw : b < w0.heap.size) (hB : B ≤ w0.heap.size) (k : Nat) (hk : k < N) (x y z : Int) :
    BendSt B b g go w0 n sy st (rs.set k ⟨x, y, z⟩) (.slice (some ⟨gr, 0, none⟩) N c) (((w.setCell ⟨gr, k * 3, none⟩ (.int .i64 x)).setCell ⟨gr, k * 3 + 1, none⟩ (.int .i64 y)).setCell ⟨gr, k * 3 + 2, none⟩ (.int .i64 z)) := by
  have s1 := BendSt.fieldN hN h hbw hB (k * 3) (.int .i64 x) (rvs_set0 rs k x (by omega)) (by simpa using hN)
  have l1 : (rs.set k ⟨x, rs[k].m, rs[k].n⟩).length = N := by simpa using hN
  have s2 := BendSt.fieldN l1 s1 hbw hB (k * 3 + 1) (.int .i64 y) (rvs_set1 _ k y (by omega)) (by simpa using hN)
  have l2 : ((rs.set k ⟨x, rs[k].m, rs[k].n⟩).set k ⟨((rs.set k ⟨x, rs[k].m, rs[k].n⟩)[k]'(by omega)).w, y, ((rs.set k ⟨x, rs[k].m, rs[k].n⟩)[k]'(by omega)).n⟩).length = N := by simpa using hN
  have s3 := BendSt.fieldN l2 s2 hbw hB (k * 3 + 2) (.int .i64 z) (rvs_set2 _ k z (by omega)) (by simpa using hN)
  simpa [List.set_set] using s3
set_option maxRecDepth 20000 in
set_option maxHeartbeats 4000000 in
theorem l26DrawMachine_c (B b n : Nat) (w : World) (h : Src B w b n) (hB : B ≤ w.heap.size) (hn : n ≤ 1000000) :
    Calls Tryz.prog 17 #[.pointer (some ⟨b, 0, none⟩)] w (MRes0 B w b n 3000) := by
  have hbl := h.lt
  obtain ⟨W, hW⟩ : ∃ W, W = w.alloc (.cells #[.int .i64 0, .int .i64 0, .slice none 0 0] 26) := ⟨_, rfl⟩
  have hX : Ext w W := by rw [hW]; exact Ext.alloc _ _
  have bR : Blk W w.heap.size 26 #[.int .i64 0, .int .i64 0, .slice none 0 0] := by rw [hW]; exact Blk.new _ _ _ _ rfl
  have hsW := h.ext hX
  have zW := hX.size
  go_enter Tryz.func17, Tryz.ntmps17
  go_wp2_with fail
  rw [← hW]
  clear hW
  refine (one_c B b n 8 W hsW (by omega)).mono ?_
  rintro e w1 ⟨⟨q, rfl⟩, hs1, hg1⟩
  have hW1 : w.grownBy w1 (some b) := grownBy_trans (ext_grownBy hX _) hg1
  have b1 := blk_src hsW hg1 bR (by decide)
  have z1 := hg1.size
  cases q with
  | true =>
    go_wp2_with fail
    refine (l05Draw_c B b _ w1 hs1 (by omega) (by omega)).mono ?_
    rintro e w2 ⟨⟨m2, rv2, rfl, ho2⟩, hs2, hg2⟩
    have b2 := blk_src hs1 hg2 b1 (by decide)
    have d := b2.cell
    have f := b2.frozen
    obtain ⟨A2, c2, rfl, _, _, _⟩ := (ownsRow_row ho2).form
    go_wp2
    refine bodyPost_ret (v := .agg #[.int .i64 m2.sy, .int .i64 m2.st, .slice A2 m2.rules.length c2]) ?_ rfl (MRes0.of hs2 (by omega) (grownBy_trans hW1 hg2) hB hbl (Nat.le_refl _) ho2 (by omega) b2)
    simp [results, Tryz.results17, go_sem, d]
  | false =>
    go_wp2_with fail
    refine (pick_c B b _ 3 w1 hs1 (by omega)).mono ?_
    rintro e w2 ⟨⟨x, rfl, x0, _, x2⟩, hs2, hg2⟩
    have x3 := x2 (by omega)
    have b2 := blk_src hs1 hg2 b1 (by decide)
    have z2 := hg2.size
    go_wp2_with fail
    refine (l05DrawSize_m B b _ 2 (1 + x) w2 hs2 (by omega) (by omega) (by omega) (by omega) (by omega) (by omega)).mono ?_
    rintro e w3 ⟨⟨m, rv, rfl, ho3, l1, l2, _⟩, hs3, hg3⟩
    have b3 := blk_src hs2 hg3 b2 (by decide)
    have z3 := hg3.size
    have hW3 := grownBy_trans (grownBy_trans hW1 hg2) hg3
    obtain ⟨A1, c1, rfl, _, _, _⟩ := (ownsRow_row ho3).form
    obtain ⟨gr, rfl, hgr1, hgr2⟩ := own_at ho3 l1
    obtain ⟨V, hV⟩ : ∃ V, V = w3.alloc (.cells #[.int .i64 m.sy, .int .i64 m.st, .slice (some ⟨gr, 0, none⟩) m.rules.length c1] 26) := ⟨_, rfl⟩
    have hXV : Ext w3 V := by rw [hV]; exact Ext.alloc _ _
    have st0 : BendSt B b w.heap.size w3.heap.size w (n + 504) m.sy m.st m.rules (.slice (some ⟨gr, 0, none⟩) m.rules.length c1) V :=
      ⟨b3.ext hXV, by rw [hV]; exact Blk.new _ _ _ _ rfl, OwnRules.ext (ownsRow_base ho3 (by omega)) hXV, (hs3.ext hXV).mono (by omega), grownBy_trans hW3 (ext_grownBy hXV _)⟩
    have hgo : w.heap.size < w3.heap.size := b3.lt
    go_wp2
    rw [← hV]
    clear hV
    generalize w3.heap.size = go at *
    generalize hN : m.rules.length = N at *
    have HN := Lib.hid hN
    clear hN
    go_loopw [4, 5] (fun fr i wr => ∃ (j f : Nat) (rs : List RuleD), j ≤ N ∧ f ≤ j ∧ i = .int .i64 j ∧ fr = .int .i64 f ∧ rs.length = N ∧ BendSt B b w.heap.size go w (n + 504 + 4 * j) m.sy m.st rs (.slice (some ⟨gr, 0, none⟩) N c1) wr) (fun _ i _ => N - (intOf i).toNat)
    case atStart => exact ⟨0, 0, m.rules, Nat.zero_le _, Nat.le_refl _, rfl, rfl, HN.out, st0⟩
    case round =>
      clear st0
      obtain ⟨j, fr, rs, hj, hf, rfl, rfl, hl, hst⟩ := hrel
      have c2 := hst.mac.cell 2
      simp only [List.getElem?_toArray, List.getElem?_cons_zero, List.getElem?_cons_succ] at c2
      by_cases hlt : j < N
      · obtain ⟨ru, hru⟩ : ∃ ru, rs[j]? = some ru := ⟨_, List.getElem?_eq_getElem (by omega)⟩
        have hjr : j < rs.length := by omega
        have hget : rs[j] = ru := by rw [List.getElem?_eq_getElem hjr] at hru; injection hru
        have hgg := rvs_get rs j hjr
        rw [hget] at hgg
        have ow : wr.ownsRow w.heap.size 38 3 (.slice (some ⟨gr, 0, none⟩) N c1) N (rvs rs) := by
          have := hst.own
          unfold OwnRules at this
          rwa [hl] at this
        have c0 := (ow.cellAt (j * 3) (by omega)).trans hgg.1
        have c1' := (ow.cellAt (j * 3 + 1) (by omega)).trans hgg.2.1
        have c2' := (ow.cellAt (j * 3 + 2) (by omega)).trans hgg.2.2
        have d0 := cellR c0
        have d1 := cellR c1'
        have d2 := cellR c2'
        have dM := cellR c2
        have rn := ruleNeq_run
        have HGET := Lib.hid hget
        clear hgg hget hru c0 c1' c2' ow
        have heb : ∀ q, rEq ru noR = q → rEq ⟨ru.w, ru.m, ru.n⟩ ⟨0, 0, -1⟩ = q := fun _ h => h
        have i1 : (0 : Int) ≤ (j : Int) := by omega
        have i2 : (j : Int) < (N : Int) := by omega
        by_cases he : ru = noR
        · have H := heb true (by simp [rEq, he])
          clear heb he
          go_wp2
          refine wp_region_ext (by kernel_rfl) (by kernel_rfl) ?_
          repeat (go_big_quiet_step ((go_at_call 43; exact Calls.extR (l05None_c _))))
          refine wpQuiet_nil ?_
          intro w4 hx4
          clear d0 d1 d2 dM rn H
          have st4 := hst.ext hx4
          have hs4n := st4.src
          by_cases hf1 : fr = 0
          · subst hf1
            go_wp2
            go_roundw
            case rel => exact ⟨j + 1, 1, rs, by omega, by omega, by go_num, by go_num, hl, ⟨st4.res, st4.mac, st4.own, st4.src.mono (by omega), st4.grown⟩⟩
            case measure => simp [intOf]; omega
          · have hgt : decide ((1 : Int) < (fr : Int) + 1) = true := by simp; omega
            have m1 := st4.mac.cell 1
            have m2 := st4.mac.cell 2
            simp only [List.getElem?_toArray, List.getElem?_cons_zero, List.getElem?_cons_succ] at m1 m2
            have st4d := st4.ext (Ext.drew w4)
            go_wp2_with fail
            go_region_held3 (fun w' => w'.cell? ⟨go, 1, none⟩ = some (.int .i64 m.st) ∧ w'.cell? ⟨go, 2, none⟩ = some (.slice (some ⟨gr, 0, none⟩) N c1))
              (first | go_keep | exact ⟨t1, t2⟩ | exact ⟨u1, u2⟩ | exact ⟨v1, v2⟩)
              (first
                | (go_at_call 30; ((with_reducible refine (pick_c B b _ 2 _ st4d.src (by omega)).mono ?_)); rintro e w5 ⟨⟨x5, rfl, _, _, _⟩, hs5, hg5⟩; have st5 := st4d.src' hs5 hg5; have t1 := st5.mac.cell 1; have t2 := st5.mac.cell 2; simp only [List.getElem?_toArray, List.getElem?_cons_zero, List.getElem?_cons_succ] at t1 t2)
                | (go_at_call 30; ((with_reducible refine (pick_c B b _ m.st _ st5.src (by omega)).mono ?_)); rintro e w6 ⟨⟨x6, rfl, _, _, _⟩, hs6, hg6⟩; have st6 := st5.src' hs6 hg6; have u1 := st6.mac.cell 1; have u2 := st6.mac.cell 2; have st7 := BendSt.rule hl st6 hbl hB j hlt x5 1 x6; have v1 := st7.mac.cell 1; have v2 := st7.mac.cell 2; have ow6 : w6.ownsRow w.heap.size 38 3 (.slice (some ⟨gr, 0, none⟩) N c1) N (rvs rs) := (by have := st6.own; unfold OwnRules at this; rwa [hl] at this); have q0 := ow6.cellAt (j * 3) (by omega); have q1 := ow6.cellAt (j * 3 + 1) (by omega); have q2 := ow6.cellAt (j * 3 + 2) (by omega); have qf0 := ow6.frozenAt (j * 3); have qf1 := ow6.frozenAt (j * 3 + 1); have qf2 := ow6.frozenAt (j * 3 + 2); rw [List.getElem?_eq_getElem (by rw [rvs_length]; omega)] at q0 q1 q2; simp only [List.getElem?_toArray, List.getElem?_cons_zero, List.getElem?_cons_succ] at u1 u2 v1 v2))
            all_goals
              have ST := Lib.hid st7
              clear q0 q1 q2 qf0 qf1 qf2 u1 u2 v1 v2 t1 t2 m1 m2 st7 st6 st5 ow6
              try go_wp2
              go_roundw
              · exact ⟨j + 1, fr + 1, rs.set j ⟨x5, 1, x6⟩, by omega, by omega, by go_num, by go_num, by simpa using hl, ⟨ST.out.res, ST.out.mac, ST.out.own, ST.out.src.mono (by omega), ST.out.grown⟩⟩
              · simp [intOf]; omega
        · have H := heb false (by simp [rEq, he])
          clear heb he
          go_wp2
          refine wp_region_ext (by kernel_rfl) (by kernel_rfl) ?_
          repeat (go_big_quiet_step ((go_at_call 43; exact Calls.extR (l05None_c _))))
          refine wpQuiet_nil ?_
          intro w4 hx4
          clear d0 d1 d2 dM rn H
          have st4 := hst.ext hx4
          go_wp2
          go_roundw
          case rel => exact ⟨j + 1, fr, rs, by omega, by omega, by go_num, rfl, hl, ⟨st4.res, st4.mac, st4.own, st4.src.mono (by omega), st4.grown⟩⟩
          case measure => simp [intOf]; omega
      · have hge : decide (j < N) = false := by simp [hlt]
        have c0 := hst.mac.cell 0
        have cc1 := hst.mac.cell 1
        simp only [List.getElem?_toArray, List.getElem?_cons_zero, List.getElem?_cons_succ] at c0 cc1
        have d := hst.res.cell
        have f := hst.res.frozen
        have hne : w.heap.size ≠ go := by omega
        have hw : w.grownBy wr (some b) := hst.grown
        have hjN : j ≤ 600 := by omega
        go_wp2
        refine bodyPost_ret (v := .agg #[.int .i64 m.sy, .int .i64 m.st, .slice (some ⟨gr, 0, none⟩) N c1]) ?_ rfl (MRes0.of hst.src (by omega) hw hB hbl (Nat.le_refl _) hst.own (Nat.le_refl _) hst.res)
        simp [results, Tryz.results17, go_sem, d]
end Go.Proofs.YtacpchapgklcgaaGreatDoor
namespace Go.Proofs.YtacpchapgklcgaaGreatDoor
open Go Go.RowKit Go.Proofs
set_option maxHeartbeats 400000
structure DecSt (w : World) (b n : Nat) (wr : World) : Prop where
  res : Blk wr w.heap.size 26 #[.int .i64 0, .int .i64 0, .slice none 0 0]
  src : Src (w.heap.size + 1) wr b n
  ext : Ext w wr
theorem DecSt.done {w : World} {b n base : Nat} {wr : World} {m : MachD} {rv : Value} (h : DecSt w b n wr) (ho : OwnRules base wr rv m.rules) (hbase : w.heap.size ≤ base) :
    OwnRules w.heap.size (((wr.setCell ⟨w.heap.size, 0, none⟩ (.int .i64 m.sy)).setCell ⟨w.heap.size, 1, none⟩ (.int .i64 m.st)).setCell ⟨w.heap.size, 2, none⟩ rv) rv m.rules ∧
    Ext w (((wr.setCell ⟨w.heap.size, 0, none⟩ (.int .i64 m.sy)).setCell ⟨w.heap.size, 1, none⟩ (.int .i64 m.st)).setCell ⟨w.heap.size, 2, none⟩ rv) := by
  have hfar := own_far_blk ho h.res (by decide)
  refine ⟨ownsRow_base (ownsRow_far (ownsRow_far (ownsRow_far ho hfar _) hfar _) hfar _) hbase, ?_⟩
  exact ((h.ext.setCell (Nat.le_refl _) _).setCell (Nat.le_refl _) _).setCell (Nat.le_refl _) _
set_option maxRecDepth 20000 in
set_option maxHeartbeats 4000000 in
theorem B10Decided_v (v : Value) (bs : List Int) (w : World) (h : Bytes w v bs) :
    Calls Tryz.prog 6 #[v] w fun e w' => (∃ (m : MachD) (rv : Value), e = .returned (.agg #[.int .i64 m.sy, .int .i64 m.st, rv]) ∧ OwnRules w.heap.size w' rv m.rules ∧ machOk m = true ∧ m.sy = 2 ∧ m.st < 4) ∧ Ext w w' := by
  obtain ⟨W, hW⟩ : ∃ W, W = w.alloc (.cells #[.int .i64 0, .int .i64 0, .slice none 0 0] 26) := ⟨_, rfl⟩
  have hX : Ext w W := by rw [hW]; exact Ext.alloc _ _
  have bR : Blk W w.heap.size 26 #[.int .i64 0, .int .i64 0, .slice none 0 0] := by rw [hW]; exact Blk.new _ _ _ _ rfl
  have zW : W.heap.size = w.heap.size + 1 := by rw [hW]; simp
  go_enter Tryz.func6, Tryz.ntmps6
  go_wp2_with fail
  rw [← hW]
  clear hW
  refine (from_c v bs W (h.ext hX)).mono ?_
  rintro e w1 ⟨⟨b, rfl, hb, hs1⟩, hx1⟩
  rw [zW] at hs1 hb
  have st1 : DecSt w b 0 w1 := ⟨bR.ext hx1, hs1, hX.trans hx1⟩
  go_wp2
  go_loopw [4] (fun i wr => ∃ k : Nat, k ≤ 4 ∧ i = .int .i64 k ∧ DecSt w b (3000 * k) wr) (fun i _ => 4 - (intOf i).toNat)
  case atStart => exact ⟨0, by omega, rfl, st1⟩
  case round =>
    clear st1
    obtain ⟨k, hk, rfl, hst⟩ := hrel
    have hbl := hst.src.lt
    have hgl := hst.res.lt
    by_cases hlt : k < 4
    · have i1 : (k : Int) < 4 := by omega
      go_wp2_with fail
      refine (l26DrawMachine_c (w.heap.size + 1) b _ wr hst.src (by omega) (by omega)).mono ?_
      rintro e w2 ⟨⟨m, rv, rfl, ho2⟩, hs2, hg2⟩
      have b2 := blk_src hst.src hg2 hst.res (by decide)
      have hx2 : Ext w w2 := hst.ext.grown hg2 (fun k hk => by injection hk with hk; omega)
      obtain ⟨Ar, cr, rfl, _, _, _⟩ := (ownsRow_row ho2).form
      obtain ⟨V, hV⟩ : ∃ V, V = w2.alloc (.cells #[.int .i64 m.sy, .int .i64 m.st, .slice Ar m.rules.length cr] 26) := ⟨_, rfl⟩
      have hXV : Ext w2 V := by rw [hV]; exact Ext.alloc _ _
      have bV : Blk V w2.heap.size 26 #[.int .i64 m.sy, .int .i64 m.st, .slice Ar m.rules.length cr] := by rw [hV]; exact Blk.new _ _ _ _ rfl
      have c0 := bV.cell 0
      have c1 := bV.cell 1
      have c2 := bV.cell 2
      simp only [List.getElem?_toArray, List.getElem?_cons_zero, List.getElem?_cons_succ] at c0 c1 c2
      have hMA : MachAt V w2.heap.size m := ⟨_, c0, c1, c2, OwnRules.rules (ho2.ext hXV)⟩
      go_wp2_with fail
      rw [← hV]
      clear hV c0 c1 c2
      refine (l05Is_c _ m V hMA).mono ?_
      rintro e w3 ⟨rfl, hx3⟩
      have b3 := bV.ext hx3
      have c0 := b3.cell 0
      have c1 := b3.cell 1
      have c2 := b3.cell 2
      simp only [List.getElem?_toArray, List.getElem?_cons_zero, List.getElem?_cons_succ] at c0 c1 c2
      have st3 : DecSt w b (3000 * k + 3000) w3 := ⟨(b2.ext hXV).ext hx3, (hs2.ext hXV).ext hx3, (hx2.trans hXV).trans hx3⟩
      have o3 : OwnRules wr.heap.size w3 (.slice Ar m.rules.length cr) m.rules := (ho2.ext hXV).ext hx3
      have hne : w.heap.size ≠ w2.heap.size := by have := b2.lt; omega
      by_cases q1 : machOk m = true
      · have HQ1 := Lib.hid q1
        rw [q1]
        by_cases q2 : m.sy = 2
        · have Q2 : decide (m.sy = 2) = true := by simp [q2]
          have HQ2 := Lib.hid q2
          by_cases q3 : m.st < 4
          · have HQ3 := Lib.hid q3
            have d := st3.res.cell
            have f := st3.res.frozen
            obtain ⟨r1, r2⟩ := st3.done (m := m) o3 (by have := hst.ext.size; omega)
            rw [q2] at r1 r2 c0
            clear Q2
            go_wp2
            refine bodyPost_ret (v := .agg #[.int .i64 2, .int .i64 m.st, .slice Ar m.rules.length cr]) ?_ rfl ⟨⟨m, _, by rw [q2], r1, HQ1.out, HQ2.out, HQ3.out⟩, r2⟩
            simp [results, Tryz.results6, go_sem, d]
          · have Q3 : decide (m.st < 4) = false := by simp [q3]
            rw [q2] at c0
            clear Q2
            go_wp2
            go_roundw
            case rel => exact ⟨k + 1, by omega, by go_num, st3.res, st3.src.mono (by omega), st3.ext⟩
            case measure => simp [intOf]; omega
        · have Q2 : decide (m.sy = 2) = false := by simp [q2]
          go_wp2
          go_roundw
          case rel => exact ⟨k + 1, by omega, by go_num, st3.res, st3.src.mono (by omega), st3.ext⟩
          case measure => simp [intOf]; omega
      · have q1' : machOk m = false := by simpa using q1
        rw [q1']
        go_wp2
        go_roundw
        case rel => exact ⟨k + 1, by omega, by go_num, st3.res, st3.src.mono (by omega), st3.ext⟩
        case measure => simp [intOf]; omega
    · obtain rfl : k = 4 := by omega
      go_wp2_with fail
      refine (l05DrawSize_c (w.heap.size + 1) b _ 2 2 wr hst.src (by omega) (by omega) (by omega) (by omega) (by omega) (by omega)).mono ?_
      rintro e w2 ⟨⟨rv, rs, rfl, ho2, hrl, hok⟩, hs2, hg2⟩
      have HMO : Hid (machOk ⟨2, 2, rs⟩ = true) := Lib.hid (by
        simp only [machOk, inB, Bool.and_eq_true, decide_eq_true_eq, List.all_eq_true]
        exact ⟨⟨⟨by decide, by decide⟩, hrl⟩, hok⟩)
      clear hrl hok
      have b2 := blk_src hst.src hg2 hst.res (by decide)
      have st2 : DecSt w b _ w2 := ⟨b2, hs2, hst.ext.grown hg2 (fun k hk => by injection hk with hk; omega)⟩
      have d := st2.res.cell
      have f := st2.res.frozen
      obtain ⟨r1, r2⟩ := st2.done (m := ⟨2, 2, rs⟩) ho2 (by have := hst.ext.size; omega)
      obtain ⟨Ar, cr, rfl, _, _, _⟩ := (ownsRow_row ho2).form
      go_wp2
      refine bodyPost_ret (v := .agg #[.int .i64 2, .int .i64 2, .slice Ar rs.length cr]) ?_ rfl ⟨⟨⟨2, 2, rs⟩, _, rfl, r1, HMO.out, rfl, (by decide : (2 : Int) < 4)⟩, r2⟩
      simp [results, Tryz.results6, go_sem, d]
theorem B10Decided_c (v : Value) (bs : List Int) (w : World) (h : Bytes w v bs) :
    Calls Tryz.prog 6 #[v] w fun e w' => (∃ (m : MachD) (rv : Value), e = .returned (.agg #[.int .i64 m.sy, .int .i64 m.st, rv]) ∧ OwnRules w.heap.size w' rv m.rules) ∧ Ext w w' :=
  (B10Decided_v v bs w h).mono fun _ _ ⟨⟨m, rv, he, ho, _⟩, hx⟩ => ⟨⟨m, rv, he, ho⟩, hx⟩
end Go.Proofs.YtacpchapgklcgaaGreatDoor
end
section
namespace Go.Proofs.YtacpchapgklcgaaGreatDoor
open Go Go.RowKit Go.Proofs
set_option maxHeartbeats 400000
/-- What a configuration must be for a step. -/
structure COk (m : MachD) (c : ConfR) (k : Nat) : Prop where
  q0 : 0 ≤ c.q
  q1 : c.q ≤ 1000
  s0 : 2 ≤ m.sy
  s1 : m.sy ≤ 6
  r0 : 0 ≤ hdR c.r
  r1 : hdR c.r ≤ 6
  kl : k < m.rules.length
  ke : c.q * m.sy + hdR c.r = (k : Int)
  ll : c.l.length ≤ 1000
  rl : c.r.length ≤ 1000
theorem l05AtK_c (b bc : Nat) (m : MachD) (c : ConfR) (k : Nat) (w : World) (hm : MachAt w b m) (h : ConfAt w bc c) (ok : COk m c k) :
    Calls Tryz.prog 77 #[.pointer (some ⟨b, 0, none⟩), .pointer (some ⟨bc, 0, none⟩)] w fun e w' => e = .returned (.int .i64 (k : Int)) ∧ Ext w w' := by
  rw [← ok.ke]
  exact l05At_c b bc m c w hm h ok.q0 ok.q1 ok.s0 ok.s1 ok.r0 ok.r1
set_option maxRecDepth 20000 in
theorem l05Halts_c (b bc : Nat) (m : MachD) (c : ConfR) (k : Nat) (w : World) (hm : MachAt w b m) (h : ConfAt w bc c) (ok : COk m c k) :
    Calls Tryz.prog 48 #[.pointer (some ⟨b, 0, none⟩), .pointer (some ⟨bc, 0, none⟩)] w fun e w' => e = .returned (.bool (decide (m.rules[k]'ok.kl = noR))) ∧ Ext w w' := by
  have hM := hm
  obtain ⟨rv, p0, p1, p2, hr⟩ := hm
  obtain ⟨A, cap, rfl, h2, h2'⟩ := hr.form
  obtain ⟨b', off, rfl, hc⟩ := hr.at ok.kl
  obtain ⟨c0, c1, c2⟩ := hc k ok.kl
  have d0 := cellR c0
  have d1 := cellR c1
  have d2 := cellR c2
  have dM := cellR p2
  have rn := ruleEql_run
  have i1 : (0 : Int) ≤ (k : Int) := by omega
  have i2 : (k : Int) < (m.rules.length : Int) := by have := ok.kl; omega
  have HE : Hid (∀ q, rEq ⟨(m.rules[k]'ok.kl).w, (m.rules[k]'ok.kl).m, (m.rules[k]'ok.kl).n⟩ ⟨0, 0, -1⟩ = q → decide (m.rules[k]'ok.kl = noR) = q) := fun q h => by rw [← h]; rfl
  generalize m.rules[k]'ok.kl = ru at *
  clear c0 c1 c2 hc
  cases hq : rEq ⟨ru.w, ru.m, ru.n⟩ ⟨0, 0, -1⟩
  · go_enter Tryz.func48, Tryz.ntmps48
    go_wp2
    refine wp_region_ext (by kernel_rfl) (by kernel_rfl) ?_
    repeat (go_big_quiet_step ((first | (go_at_call 43; exact Calls.extR (l05None_c _)) | (go_at_call 77; exact Calls.extR (l05AtK_c _ _ m c k _ (hM.ext (below_regrown _ _ _)) (h.ext (below_regrown _ _ _)) ok)))))
    refine wpQuiet_nil ?_
    intro w2 hx2
    go_wp2
    go_ret
    exact ⟨by rw [HE.out _ hq]; rfl, hx2⟩
  · go_enter Tryz.func48, Tryz.ntmps48
    go_wp2
    refine wp_region_ext (by kernel_rfl) (by kernel_rfl) ?_
    repeat (go_big_quiet_step ((first | (go_at_call 43; exact Calls.extR (l05None_c _)) | (go_at_call 77; exact Calls.extR (l05AtK_c _ _ m c k _ (hM.ext (below_regrown _ _ _)) (h.ext (below_regrown _ _ _)) ok)))))
    refine wpQuiet_nil ?_
    intro w2 hx2
    go_wp2
    go_ret
    exact ⟨by rw [HE.out _ hq]; rfl, hx2⟩
/-- The configuration after a step. -/
def stepC (ru : RuleD) (c : ConfR) : ConfR :=
  if 0 < ru.m then ⟨ru.n, trim (ru.w :: c.l), c.r.drop 1⟩ else ⟨ru.n, c.l.drop 1, trim (hdR c.l :: trim (ru.w :: c.r.drop 1))⟩
def ConfV (w : World) (v : Value) (c : ConfR) : Prop := ∃ lv rv bl br, v = .agg #[.int .i64 c.q, lv, rv] ∧ OwnInts bl w lv c.l ∧ OwnInts br w rv c.r
theorem ConfV.ext {w w' : World} {v : Value} {c : ConfR} (h : ConfV w v c) (he : Ext w w') : ConfV w' v c := by
  obtain ⟨lv, rv, bl, br, hv, h1, h2⟩ := h
  exact ⟨lv, rv, bl, br, hv, h1.ext he, h2.ext he⟩
theorem conf_done {w X : World} {g bl br : Nat} {cs : Array Value} {n : Int} {lv rv : Value} {L R : List Int} (hx : Ext w X) (hg : w.heap.size ≤ g) (bR : Blk X g 30 cs) (oL : OwnInts bl X lv L) (oR : OwnInts br X rv R) :
    ConfV (((X.setCell ⟨g, 0, none⟩ (.int .i64 n)).setCell ⟨g, 1, none⟩ lv).setCell ⟨g, 2, none⟩ rv) (.agg #[.int .i64 n, lv, rv]) ⟨n, L, R⟩ ∧ Ext w (((X.setCell ⟨g, 0, none⟩ (.int .i64 n)).setCell ⟨g, 1, none⟩ lv).setCell ⟨g, 2, none⟩ rv) := by
  have fL := own_far_blk oL bR (by decide)
  have fR := own_far_blk oR bR (by decide)
  have e1 : OwnInts bl (((X.setCell ⟨g, 0, none⟩ (.int .i64 n)).setCell ⟨g, 1, none⟩ lv).setCell ⟨g, 2, none⟩ rv) lv L := ownsRow_far (ownsRow_far (ownsRow_far oL fL _) fL _) fL _
  have e2 : OwnInts br (((X.setCell ⟨g, 0, none⟩ (.int .i64 n)).setCell ⟨g, 1, none⟩ lv).setCell ⟨g, 2, none⟩ rv) rv R := ownsRow_far (ownsRow_far (ownsRow_far oR fR _) fR _) fR _
  exact ⟨⟨_, _, _, _, rfl, e1, e2⟩, ((hx.setCell hg _).setCell hg _).setCell hg _⟩
set_option maxRecDepth 20000 in
set_option maxHeartbeats 4000000 in
theorem l05Step_c (b bc : Nat) (m : MachD) (c : ConfR) (k : Nat) (w : World) (hm : MachAt w b m) (h : ConfAt w bc c) (ok : COk m c k) (hl9 : c.l.length ≤ 200) :
    Calls Tryz.prog 49 #[.pointer (some ⟨b, 0, none⟩), .pointer (some ⟨bc, 0, none⟩)] w fun e w' => ∃ v, e = .returned (.tuple #[v, .bool (decide ((stepC (m.rules[k]'ok.kl) c).l.length ≤ 200) && decide ((stepC (m.rules[k]'ok.kl) c).r.length ≤ 200))]) ∧ ConfV w' v (stepC (m.rules[k]'ok.kl) c) ∧ Ext w w' := by
  obtain ⟨W, hW⟩ : ∃ W, W = w.alloc (.cells #[.int .i64 0, .slice none 0 0, .slice none 0 0] 30) := ⟨_, rfl⟩
  have hX : Ext w W := by rw [hW]; exact Ext.alloc _ _
  have bR : Blk W w.heap.size 30 #[.int .i64 0, .slice none 0 0, .slice none 0 0] := by rw [hW]; exact Blk.new _ _ _ _ rfl
  have hM := hm.ext hX
  have hC := h.ext hX
  have hM0 := hM
  have hM1 := hM.ext (Ext.drew _)
  have hC1 := hC.ext (Ext.drew _)
  have hM2 := (hM.ext (Ext.alloc _ (.cells #[.int .i64 0, .int .i64 0, .int .i64 0] 38))).ext (Ext.drew _)
  have hC2 := (hC.ext (Ext.alloc _ (.cells #[.int .i64 0, .int .i64 0, .int .i64 0] 38))).ext (Ext.drew _)
  obtain ⟨rv, p0, p1, p2, hr⟩ := hM
  obtain ⟨A, cap, rfl, h2, h2'⟩ := hr.form
  obtain ⟨b', off, rfl, hc⟩ := hr.at ok.kl
  obtain ⟨c0, c1, c2⟩ := hc k ok.kl
  have i1 : (0 : Int) ≤ (k : Int) := by omega
  have i2 : (k : Int) < (m.rules.length : Int) := by have := ok.kl; omega
  generalize m.rules[k]'ok.kl = ru at *
  clear hc
  go_enter Tryz.func49, Tryz.ntmps49
  go_wp2_with fail
  rw [← hW]
  clear hW
  go_region_held3 (fun w' => w'.cell? ⟨b, 2, none⟩ = some (.slice (some ⟨b', off, none⟩) m.rules.length cap) ∧ w'.cell? ⟨b', off + k * 3, none⟩ = some (.int .i64 ru.w) ∧ w'.cell? ⟨b', off + k * 3 + 1, none⟩ = some (.int .i64 ru.m) ∧ w'.cell? ⟨b', off + k * 3 + 2, none⟩ = some (.int .i64 ru.n))
    (first | go_keep | exact ⟨t0, t1, t2, t3⟩ | exact ⟨HX3.cell p2, HX3.cell c0, HX3.cell c1, HX3.cell c2⟩)
    (first
      | (go_at_call 77; ((with_reducible refine (l05AtK_c _ _ m c k _ hM1 hC1 ok).mono ?_)); rintro e w2 ⟨rfl, hx2⟩; have HX2 := (Ext.drew W).trans hx2; have t0 := HX2.cell p2; have t1 := HX2.cell c0; have t2 := HX2.cell c1; have t3 := HX2.cell c2)
      | (go_at_call 77; ((with_reducible refine (l05AtK_c _ _ m c k _ hM2 hC2 ok).mono ?_)); rintro e w2 ⟨rfl, hx2⟩; have HX2 := ((Ext.alloc W _).trans (Ext.drew _)).trans hx2; have bU := Blk.ext (Blk.ext (Blk.new W W.heap.size 38 #[.int .i64 0, .int .i64 0, .int .i64 0] rfl) (Ext.drew _)) hx2; have u0 := bU.cell 0; have u1 := bU.cell 1; have u2 := bU.cell 2; have f0 := bU.frozen 0; have f1 := bU.frozen 1; have f2 := bU.frozen 2; simp only [List.getElem?_toArray, List.getElem?_cons_zero, List.getElem?_cons_succ] at u0 u1 u2; have HX3 := ((HX2.setCell (p := ⟨W.heap.size, 0, none⟩) (Nat.le_refl _) (.int .i64 ru.w)).setCell (p := ⟨W.heap.size, 1, none⟩) (Nat.le_refl _) (.int .i64 ru.m)).setCell (p := ⟨W.heap.size, 2, none⟩) (Nat.le_refl _) (.int .i64 ru.n); have bV := ((bU.set_ 0 (.int .i64 ru.w)).set_ 1 (.int .i64 ru.m)).set_ 2 (.int .i64 ru.n); have t0 := HX2.cell p2; have t1 := HX2.cell c0; have t2 := HX2.cell c1; have t3 := HX2.cell c2))
  all_goals
    first
      | (show Exit.then _ _ _ _ (w2.alloc _); have HX3 := HX2.trans (Ext.alloc w2 (.cells #[.int .i64 ru.w, .int .i64 ru.m, .int .i64 ru.n] 38)); have bV := Blk.new w2 w2.heap.size 38 #[.int .i64 ru.w, .int .i64 ru.m, .int .i64 ru.n] rfl; generalize w2.alloc (.cells #[.int .i64 ru.w, .int .i64 ru.m, .int .i64 ru.n] 38) = V at *; generalize w2.heap.size = gr at *)
      | (generalize ((w2.setCell ⟨W.heap.size, 0, none⟩ (.int .i64 ru.w)).setCell ⟨W.heap.size, 1, none⟩ (.int .i64 ru.m)).setCell ⟨W.heap.size, 2, none⟩ (.int .i64 ru.n) = V at *; have bV' : Blk V W.heap.size 38 #[.int .i64 ru.w, .int .i64 ru.m, .int .i64 ru.n] := bV; clear bV; have bV := bV'; clear bV' bU u0 u1 u2 f0 f1 f2; generalize W.heap.size = gr at *)
    have hCV := hC.ext HX3
    have bRV := bR.ext HX3
    have hXV := hX.trans HX3
    have hgV := bRV.lt
    clear t0 t1 t2 t3 hM1 hM2 hC1 hC2 p0 p1 p2 c0 c1 c2 hr hx2 HX2 HX3
    obtain ⟨lv, rv, q0, q1, q2, hL, hR⟩ := hCV
    obtain ⟨AL, cL, rfl, _, _⟩ := hL.form
    obtain ⟨AR, cR, rfl, _, _⟩ := hR.form
    have g0 := bV.cell 0
    have g1 := bV.cell 1
    have g2 := bV.cell 2
    simp only [List.getElem?_toArray, List.getElem?_cons_zero, List.getElem?_cons_succ] at g0 g1 g2
    have ll := hl9
    have rl := ok.rl
    have hbc : bc < V.heap.size := World.block_lt_of_cell? V _ q0
    have hgr : gr < V.heap.size := bV.lt
    obtain ⟨V2, hV2⟩ : ∃ X, X = V.alloc (.cells #[.int .i64 ru.n, .slice none 0 0, .slice none 0 0] 30) := ⟨_, rfl⟩
    have EX2 : Ext V V2 := by rw [hV2]; exact Ext.alloc _ _
    have bO2 : Blk V2 V.heap.size 30 #[.int .i64 ru.n, .slice none 0 0, .slice none 0 0] := by rw [hV2]; exact Blk.new _ _ _ _ rfl
    have q2' := EX2.cell q2
    go_wp2_with fail
    rw [← hV2]
    clear hV2
    refine (l05Rest_c _ _ _ (hR.ext EX2) (by omega)).mono ?_
    rintro e w3 ⟨ur, rfl, ho3, hx3⟩
    obtain ⟨dr, hdr⟩ : ∃ d, d = List.drop 1 c.r := ⟨_, rfl⟩
    have hdl : dr.length ≤ 1000 := by rw [hdr]; simp; omega
    rw [← hdr] at ho3
    have HDR := Lib.hid hdr
    clear hdr
    have EX3 := EX2.trans hx3
    have bO3 := bO2.ext hx3
    obtain ⟨Au, cu, rfl, _, _⟩ := ho3.ints.form
    clear q2'
    by_cases hmv : 0 < ru.m
    · have e1 := EX3.cell g1
      have e0 := EX3.cell g0
      have eq1 := EX3.cell q1
      have hL4 := (hL.ext EX3).ext (Ext.drew _)
      have ne1 : gr ≠ V.heap.size := by omega
      have ne2 : bc ≠ V.heap.size := by omega
      go_wp2_with fail
      go_region_held3 (fun w' => w'.cell? ⟨gr, 0, none⟩ = some (.int .i64 ru.w) ∧ w'.cell? ⟨bc, 1, none⟩ = some (.slice AL c.l.length cL))
        (first | go_keep | exact ⟨EX4.cell g0, EX4.cell q1⟩ | exact ⟨EX5.cell g0, EX5.cell q1⟩)
        ((go_at_call 79; ((with_reducible refine (l05Push_c ru.w _ c.l _ hL4 (by omega)).mono ?_)); rintro e w4 ⟨ul, rfl, ho4, hx4⟩; obtain ⟨Al4, cl4, rfl, _, _⟩ := ho4.ints.form; have EX4 := (EX3.trans (Ext.drew w3)).trans hx4; have bO4 := Blk.ext (Blk.ext bO3 (Ext.drew w3)) hx4; have o1 := bO4.cell 1; have of1 := bO4.frozen 1; have EX5 := EX4.setCell (p := ⟨V.heap.size, 1, none⟩) (Nat.le_refl _) (.slice Al4 (trim (ru.w :: c.l)).length cl4); have bO5 := bO4.set_ 1 (.slice Al4 (trim (ru.w :: c.l)).length cl4); simp only [List.getElem?_toArray, List.getElem?_cons_zero, List.getElem?_cons_succ] at o1))
      all_goals
        have o4 : OwnInts _ _ _ _ := ownsRow_far ho4 (own_far_blk ho4 bO4 (by decide)) (.slice Al4 (trim (ru.w :: c.l)).length cl4) (p := ⟨V.heap.size, 1, none⟩)
        have o3 : OwnInts _ _ _ _ := ownsRow_far ((OwnInts.ext ho3 (Ext.drew w3)).ext hx4) (own_far_blk ((OwnInts.ext ho3 (Ext.drew w3)).ext hx4) bO4 (by decide)) (.slice Al4 (trim (ru.w :: c.l)).length cl4) (p := ⟨V.heap.size, 1, none⟩)
        have o4' : OwnInts _ _ _ (trim (ru.w :: c.l)) := ownsRow_far o4 (own_far_blk o4 bO5 (by decide)) (.slice Au dr.length cu) (p := ⟨V.heap.size, 2, none⟩)
        have o3' : OwnInts _ _ _ dr := ownsRow_far o3 (own_far_blk o3 bO5 (by decide)) (.slice Au dr.length cu) (p := ⟨V.heap.size, 2, none⟩)
        have EX := EX5.setCell (p := ⟨V.heap.size, 2, none⟩) (Nat.le_refl _) (.slice Au dr.length cu)
        have bO5' : Blk (w4.setCell ⟨V.heap.size, 1, none⟩ (.slice Al4 (trim (ru.w :: c.l)).length cl4)) V.heap.size 30 #[.int .i64 ru.n, .slice Al4 (trim (ru.w :: c.l)).length cl4, .slice none 0 0] := bO5
        have v0 := bO5'.cell 2
        have vf := bO5'.frozen 2
        simp only [List.getElem?_toArray, List.getElem?_cons_zero, List.getElem?_cons_succ] at v0
        have bO : Blk ((w4.setCell ⟨V.heap.size, 1, none⟩ (.slice Al4 (trim (ru.w :: c.l)).length cl4)).setCell ⟨V.heap.size, 2, none⟩ (.slice Au dr.length cu)) V.heap.size 30 #[.int .i64 ru.n, .slice Al4 (trim (ru.w :: c.l)).length cl4, .slice Au dr.length cu] := bO5'.set_ 2 (.slice Au dr.length cu)
        go_wp2_with fail
        generalize (w4.setCell ⟨V.heap.size, 1, none⟩ (.slice Al4 (trim (ru.w :: c.l)).length cl4)).setCell ⟨V.heap.size, 2, none⟩ (.slice Au dr.length cu) = X at *
        have hXX := hXV.trans EX
        have bRX := bRV.ext EX
        obtain ⟨D1, D2⟩ := conf_done (n := ru.n) hXX (Nat.le_refl _) bRX o4' o3'
        have HD1 : Hid (ConfV (((X.setCell ⟨w.heap.size, 0, none⟩ (.int .i64 ru.n)).setCell ⟨w.heap.size, 1, none⟩ (.slice Al4 (trim (ru.w :: c.l)).length cl4)).setCell ⟨w.heap.size, 2, none⟩ (.slice Au (dr).length cu)) (.agg #[.int .i64 ru.n, .slice Al4 (trim (ru.w :: c.l)).length cl4, .slice Au (dr).length cu]) (stepC ru c)) := by
          unfold Hid stepC
          rw [if_pos hmv, ← HDR.out]
          exact D1
        have HD2 := Lib.hid D2
        have HSL : Hid ((stepC ru c).l.length = (trim (ru.w :: c.l)).length) := by unfold Hid stepC; rw [if_pos hmv, ← HDR.out]
        have HSR : Hid ((stepC ru c).r.length = (dr).length) := by unfold Hid stepC; rw [if_pos hmv, ← HDR.out]
        have ln1 : (trim (ru.w :: c.l)).length ≤ 9223372036854775807 := by have := trim_len (ru.w :: c.l); simp at this; omega
        have ln2 : (dr).length ≤ 9223372036854775807 := by omega
        clear D1 D2 o4' o3'
        generalize (trim (ru.w :: c.l)).length = nl at *
        generalize (dr).length = nr at *
        have eO0 := bO.cell 0
        have eO1 := bO.cell 1
        have eO2 := bO.cell 2
        have r0 := bRX.cell 0
        have r1 := bRX.cell 1
        have r2 := bRX.cell 2
        have rf0 := bRX.frozen 0
        have rf1 := bRX.frozen 1
        have rf2 := bRX.frozen 2
        simp only [List.getElem?_toArray, List.getElem?_cons_zero, List.getElem?_cons_succ] at eO0 eO1 eO2 r0 r1 r2
        have neg : w.heap.size ≠ V.heap.size := by omega
        have bOf := ((bO.far (p := ⟨w.heap.size, 0, none⟩) neg.symm (.int .i64 ru.n)).far (p := ⟨w.heap.size, 1, none⟩) neg.symm (.slice Al4 nl cl4)).far (p := ⟨w.heap.size, 2, none⟩) neg.symm (.slice Au nr cu)
        have y0 := bOf.cell 0
        have y1 := bOf.cell 1
        have y2 := bOf.cell 2
        simp only [List.getElem?_toArray, List.getElem?_cons_zero, List.getElem?_cons_succ] at y0 y1 y2
        have d := (((bRX.set_ 0 (.int .i64 ru.n)).set_ 1 (.slice Al4 nl cl4)).set_ 2 (.slice Au nr cu)).cell
        by_cases hl1 : nl ≤ 200
        · have L1 : decide ((nl : Int) ≤ 200) = true := by simp; omega
          have L1' : decide (nl ≤ 200) = true := by simp; omega
          have HL1 := Lib.hid hl1
          clear hl1
          by_cases hl2 : nr ≤ 200
          · have L2 : decide ((nr : Int) ≤ 200) = true := by simp; omega
            have L2' : decide (nr ≤ 200) = true := by simp; omega
            have HL2 := Lib.hid hl2
            clear hl2
            go_region_held3 (fun w' => w'.cell? ⟨V.heap.size, 0, none⟩ = some (.int .i64 ru.n) ∧ w'.cell? ⟨V.heap.size, 1, none⟩ = some (.slice Al4 nl cl4) ∧ w'.cell? ⟨V.heap.size, 2, none⟩ = some (.slice Au nr cu)) (first | go_keep | exact ⟨y0, y1, y2⟩) (fail)
            all_goals
              go_wp2
              refine bodyPost_ret (v := .tuple #[.agg #[.int .i64 ru.n, .slice Al4 nl cl4, .slice Au nr cu], .bool true]) (by simp [results, Tryz.results49, go_sem, d]) rfl ⟨_, ?_, by first | exact HD1.out | exact HD1.out.ext (Ext.drew _), by first | exact HD2.out | exact HD2.out.trans (Ext.drew _)⟩
              simp [HSL.out, HSR.out, HL1.out, HL2.out]
          · have L2 : decide ((nr : Int) ≤ 200) = false := by simp; omega
            have L2' : decide (nr ≤ 200) = false := by simp; omega
            have HL2 := Lib.hid hl2
            clear hl2
            go_region_held3 (fun w' => w'.cell? ⟨V.heap.size, 0, none⟩ = some (.int .i64 ru.n) ∧ w'.cell? ⟨V.heap.size, 1, none⟩ = some (.slice Al4 nl cl4) ∧ w'.cell? ⟨V.heap.size, 2, none⟩ = some (.slice Au nr cu)) (first | go_keep | exact ⟨y0, y1, y2⟩) (fail)
            all_goals
              go_wp2
              refine bodyPost_ret (v := .tuple #[.agg #[.int .i64 ru.n, .slice Al4 nl cl4, .slice Au nr cu], .bool false]) (by simp [results, Tryz.results49, go_sem, d]) rfl ⟨_, ?_, by first | exact HD1.out | exact HD1.out.ext (Ext.drew _), by first | exact HD2.out | exact HD2.out.trans (Ext.drew _)⟩
              simp [HSL.out, HSR.out, HL1.out, HL2.out]
        · have L1 : decide ((nl : Int) ≤ 200) = false := by simp; omega
          have L1' : decide (nl ≤ 200) = false := by simp; omega
          have HL1 := Lib.hid hl1
          clear hl1
          refine wp_region_ordTS (fun w' => w'.cell? ⟨V.heap.size, 0, none⟩ = some (.int .i64 ru.n) ∧ w'.cell? ⟨V.heap.size, 1, none⟩ = some (.slice Al4 nl cl4) ∧ w'.cell? ⟨V.heap.size, 2, none⟩ = some (.slice Au nr cu)) 12 (readsT [0, 1, 2, 3, 4, 5, 6, 7, 8, 9, 10] (.stir 11 .done)) (by kernel_rfl) (by kernel_rfl) (fun _ _ _ _ _ h => h) ⟨eO0, eO1, eO2⟩ ?_
          simp only [readsT]
          iterate 6
            refine wpOrdT_read (v := ?_) (by rfl) (Or.inl ⟨by rfl, fun x hx => ?_⟩) ?_
            rotate_left
            · obtain ⟨a1, a2, a3⟩ := hx
              go_simp
              try simp only [L1]
              try with_reducible rfl
            try simp only [Act.put, List.setIfInBounds_toArray, List.set_cons_zero, List.set_cons_succ]
          iterate 4
            refine wpOrdT_read (v := undef) (by rfl) (Or.inr ⟨by rfl, by rfl⟩) ?_
            try simp only [Act.put, List.setIfInBounds_toArray, List.set_cons_zero, List.set_cons_succ]
          refine wpOrdT_read (v := ?_) (by rfl) (Or.inl ⟨by rfl, fun x hx => ?_⟩) ?_
          rotate_left
          · go_simp
            try with_reducible rfl
          try simp only [Act.put, List.setIfInBounds_toArray, List.set_cons_zero, List.set_cons_succ]
          refine wpOrdT_keep (by rfl) (fun K hK => ?_)
          go_simp
          refine hK _ _ ⟨y0, y1, y2⟩ ?_
          clear hK K
          refine wpOrdT_done ?_
          try simp only [List.drop_succ_cons, List.drop_zero]
          go_wp2
          refine bodyPost_ret (v := .tuple #[.agg #[.int .i64 ru.n, .slice Al4 nl cl4, .slice Au nr cu], .bool false]) (by simp [results, Tryz.results49, go_sem, d]) rfl ⟨_, ?_, by first | exact HD1.out | exact HD1.out.ext (Ext.drew _), by first | exact HD2.out | exact HD2.out.trans (Ext.drew _)⟩
          simp [HSL.out, HSR.out, HL1.out]
    · have e1 := EX3.cell g1
      have e0 := EX3.cell g0
      have eq1 := EX3.cell q1
      have hdm : decide (0 < ru.m) = false := by simp; omega
      have ho3l := dr.length
      by_cases hll : c.l.length = 0
      · have hz : c.l = [] := by simpa using hll
        have HN : Hid (hdR c.l = 0) := by unfold Hid; rw [hz]; rfl
        have hzd : decide ((0 : Int) < (c.l.length : Int)) = false := by simp; omega
        have hzd' : decide (0 < c.l.length) = false := by simp; omega
        clear hz hll
        go_wp2_with fail
        refine (l05Push_c ru.w _ dr _ ho3.ints (by omega)).mono ?_
        rintro e w4 ⟨u4, rfl, ho4, hx4⟩
        have hl4 := trim_len (ru.w :: dr)
        simp only [List.length_cons] at hl4
        obtain ⟨A4, c4, rfl, _, _⟩ := ho4.ints.form
        go_wp2_with fail
        refine (l05Push_c 0 _ _ _ ho4.ints (by omega)).mono ?_
        rintro e w5 ⟨u5, rfl, ho5, hx5⟩
        have hl5 := trim_len (0 :: trim (ru.w :: dr))
        simp only [List.length_cons] at hl5
        obtain ⟨A5, c5, rfl, _, _⟩ := ho5.ints.form
        have EX5 := (EX3.trans hx4).trans hx5
        have bO5 := (bO3.ext hx4).ext hx5
        generalize hrr : trim (0 :: trim (ru.w :: dr)) = rr at *
        have HRR := Lib.hid hrr
        clear hrr
        have v0 := bO5.cell 2
        have vf := bO5.frozen 2
        simp only [List.getElem?_toArray, List.getElem?_cons_zero, List.getElem?_cons_succ] at v0
        have o5 : OwnInts _ _ _ rr := ownsRow_far ho5 (own_far_blk ho5 bO5 (by decide)) (.slice A5 rr.length c5) (p := ⟨V.heap.size, 2, none⟩)
        have EX6 := EX5.setCell (p := ⟨V.heap.size, 2, none⟩) (Nat.le_refl _) (.slice A5 rr.length c5)
        have bO6 : Blk (w5.setCell ⟨V.heap.size, 2, none⟩ (.slice A5 rr.length c5)) V.heap.size 30 #[.int .i64 ru.n, .slice none 0 0, .slice A5 rr.length c5] := bO5.set_ 2 (.slice A5 rr.length c5)
        have eq6 := EX6.cell q1
        go_wp2_with fail
        generalize w5.setCell ⟨V.heap.size, 2, none⟩ (.slice A5 rr.length c5) = w6 at *
        refine (l05Rest_c _ _ _ (hL.ext EX6) (by omega)).mono ?_
        rintro e w7 ⟨u7, rfl, ho7, hx7⟩
        obtain ⟨dl, hdl'⟩ : ∃ d, d = List.drop 1 c.l := ⟨_, rfl⟩
        have hdll : dl.length ≤ 199 := by rw [hdl']; simp; omega
        rw [← hdl'] at ho7
        have HDL := Lib.hid hdl'
        clear hdl'
        obtain ⟨A7, c7, rfl, _, _⟩ := ho7.ints.form
        have EX7 := EX6.trans hx7
        have bO7 := bO6.ext hx7
        have o5' := OwnInts.ext o5 hx7
        have v1 := bO7.cell 1
        have vf1 := bO7.frozen 1
        simp only [List.getElem?_toArray, List.getElem?_cons_zero, List.getElem?_cons_succ] at v1
        have oL : OwnInts _ _ _ dl := ownsRow_far ho7 (own_far_blk ho7 bO7 (by decide)) (.slice A7 dl.length c7) (p := ⟨V.heap.size, 1, none⟩)
        have oR : OwnInts _ _ _ rr := ownsRow_far o5' (own_far_blk o5' bO7 (by decide)) (.slice A7 dl.length c7) (p := ⟨V.heap.size, 1, none⟩)
        have EX := EX7.setCell (p := ⟨V.heap.size, 1, none⟩) (Nat.le_refl _) (.slice A7 dl.length c7)
        have bO : Blk (w7.setCell ⟨V.heap.size, 1, none⟩ (.slice A7 dl.length c7)) V.heap.size 30 #[.int .i64 ru.n, .slice A7 dl.length c7, .slice A5 rr.length c5] := bO7.set_ 1 (.slice A7 dl.length c7)
        go_wp2_with fail
        generalize w7.setCell ⟨V.heap.size, 1, none⟩ (.slice A7 dl.length c7) = X at *
        have hXX := hXV.trans EX
        have bRX := bRV.ext EX
        obtain ⟨D1, D2⟩ := conf_done (n := ru.n) hXX (Nat.le_refl _) bRX oL oR
        have HD1 : Hid (ConfV (((X.setCell ⟨w.heap.size, 0, none⟩ (.int .i64 ru.n)).setCell ⟨w.heap.size, 1, none⟩ (.slice A7 (dl).length c7)).setCell ⟨w.heap.size, 2, none⟩ (.slice A5 (rr).length c5)) (.agg #[.int .i64 ru.n, .slice A7 (dl).length c7, .slice A5 (rr).length c5]) (stepC ru c)) := by
          unfold Hid stepC
          rw [if_neg (by omega), ← HDL.out, ← HDR.out, HN.out, HRR.out]
          exact D1
        have HD2 := Lib.hid D2
        have HSL : Hid ((stepC ru c).l.length = (dl).length) := by unfold Hid stepC; rw [if_neg (by omega), ← HDL.out, ← HDR.out, HN.out, HRR.out]
        have HSR : Hid ((stepC ru c).r.length = (rr).length) := by unfold Hid stepC; rw [if_neg (by omega), ← HDL.out, ← HDR.out, HN.out, HRR.out]
        have ln1 : (dl).length ≤ 9223372036854775807 := by omega
        have ln2 : (rr).length ≤ 9223372036854775807 := by omega
        have LN : (dl).length ≤ 200 := by omega
        clear D1 D2 oL oR
        generalize (dl).length = nl at *
        generalize (rr).length = nr at *
        have eO0 := bO.cell 0
        have eO1 := bO.cell 1
        have eO2 := bO.cell 2
        have r0 := bRX.cell 0
        have r1 := bRX.cell 1
        have r2 := bRX.cell 2
        have rf0 := bRX.frozen 0
        have rf1 := bRX.frozen 1
        have rf2 := bRX.frozen 2
        simp only [List.getElem?_toArray, List.getElem?_cons_zero, List.getElem?_cons_succ] at eO0 eO1 eO2 r0 r1 r2
        have neg : w.heap.size ≠ V.heap.size := by omega
        have bOf := ((bO.far (p := ⟨w.heap.size, 0, none⟩) neg.symm (.int .i64 ru.n)).far (p := ⟨w.heap.size, 1, none⟩) neg.symm (.slice A7 nl c7)).far (p := ⟨w.heap.size, 2, none⟩) neg.symm (.slice A5 nr c5)
        have y0 := bOf.cell 0
        have y1 := bOf.cell 1
        have y2 := bOf.cell 2
        simp only [List.getElem?_toArray, List.getElem?_cons_zero, List.getElem?_cons_succ] at y0 y1 y2
        have d := (((bRX.set_ 0 (.int .i64 ru.n)).set_ 1 (.slice A7 nl c7)).set_ 2 (.slice A5 nr c5)).cell
        by_cases hl1 : nl ≤ 200
        · have L1 : decide ((nl : Int) ≤ 200) = true := by simp; omega
          have L1' : decide (nl ≤ 200) = true := by simp; omega
          have HL1 := Lib.hid hl1
          clear hl1
          by_cases hl2 : nr ≤ 200
          · have L2 : decide ((nr : Int) ≤ 200) = true := by simp; omega
            have L2' : decide (nr ≤ 200) = true := by simp; omega
            have HL2 := Lib.hid hl2
            clear hl2
            go_region_held3 (fun w' => w'.cell? ⟨V.heap.size, 0, none⟩ = some (.int .i64 ru.n) ∧ w'.cell? ⟨V.heap.size, 1, none⟩ = some (.slice A7 nl c7) ∧ w'.cell? ⟨V.heap.size, 2, none⟩ = some (.slice A5 nr c5)) (first | go_keep | exact ⟨y0, y1, y2⟩) (fail)
            all_goals
              go_wp2
              refine bodyPost_ret (v := .tuple #[.agg #[.int .i64 ru.n, .slice A7 nl c7, .slice A5 nr c5], .bool true]) (by simp [results, Tryz.results49, go_sem, d]) rfl ⟨_, ?_, by first | exact HD1.out | exact HD1.out.ext (Ext.drew _), by first | exact HD2.out | exact HD2.out.trans (Ext.drew _)⟩
              simp [HSL.out, HSR.out, HL1.out, HL2.out]
          · have L2 : decide ((nr : Int) ≤ 200) = false := by simp; omega
            have L2' : decide (nr ≤ 200) = false := by simp; omega
            have HL2 := Lib.hid hl2
            clear hl2
            go_region_held3 (fun w' => w'.cell? ⟨V.heap.size, 0, none⟩ = some (.int .i64 ru.n) ∧ w'.cell? ⟨V.heap.size, 1, none⟩ = some (.slice A7 nl c7) ∧ w'.cell? ⟨V.heap.size, 2, none⟩ = some (.slice A5 nr c5)) (first | go_keep | exact ⟨y0, y1, y2⟩) (fail)
            all_goals
              go_wp2
              refine bodyPost_ret (v := .tuple #[.agg #[.int .i64 ru.n, .slice A7 nl c7, .slice A5 nr c5], .bool false]) (by simp [results, Tryz.results49, go_sem, d]) rfl ⟨_, ?_, by first | exact HD1.out | exact HD1.out.ext (Ext.drew _), by first | exact HD2.out | exact HD2.out.trans (Ext.drew _)⟩
              simp [HSL.out, HSR.out, HL1.out, HL2.out]
        · exact absurd LN hl1
      · obtain ⟨bl, ol, rfl, hcl⟩ := hL.at (k := 0) (by omega)
        have dl0 := EX3.cell (hcl 0 (by omega))
        simp only [Nat.add_zero] at dl0
        have HN : Hid (hdR c.l = c.l[0]) := by unfold Hid hdR; rw [List.getD_eq_getElem?_getD, List.getElem?_eq_getElem (by omega)]; rfl
        have hl0 : (0 : Int) < (c.l.length : Int) := by omega
        generalize c.l[0] = near at *
        clear hcl
        go_wp2_with fail
        refine (l05Push_c ru.w _ dr _ ho3.ints (by omega)).mono ?_
        rintro e w4 ⟨u4, rfl, ho4, hx4⟩
        have hl4 := trim_len (ru.w :: dr)
        simp only [List.length_cons] at hl4
        obtain ⟨A4, c4, rfl, _, _⟩ := ho4.ints.form
        go_wp2_with fail
        refine (l05Push_c near _ _ _ ho4.ints (by omega)).mono ?_
        rintro e w5 ⟨u5, rfl, ho5, hx5⟩
        have hl5 := trim_len (near :: trim (ru.w :: dr))
        simp only [List.length_cons] at hl5
        obtain ⟨A5, c5, rfl, _, _⟩ := ho5.ints.form
        have EX5 := (EX3.trans hx4).trans hx5
        have bO5 := (bO3.ext hx4).ext hx5
        generalize hrr : trim (near :: trim (ru.w :: dr)) = rr at *
        have HRR := Lib.hid hrr
        clear hrr
        have v0 := bO5.cell 2
        have vf := bO5.frozen 2
        simp only [List.getElem?_toArray, List.getElem?_cons_zero, List.getElem?_cons_succ] at v0
        have o5 : OwnInts _ _ _ rr := ownsRow_far ho5 (own_far_blk ho5 bO5 (by decide)) (.slice A5 rr.length c5) (p := ⟨V.heap.size, 2, none⟩)
        have EX6 := EX5.setCell (p := ⟨V.heap.size, 2, none⟩) (Nat.le_refl _) (.slice A5 rr.length c5)
        have bO6 : Blk (w5.setCell ⟨V.heap.size, 2, none⟩ (.slice A5 rr.length c5)) V.heap.size 30 #[.int .i64 ru.n, .slice none 0 0, .slice A5 rr.length c5] := bO5.set_ 2 (.slice A5 rr.length c5)
        have eq6 := EX6.cell q1
        go_wp2_with fail
        generalize w5.setCell ⟨V.heap.size, 2, none⟩ (.slice A5 rr.length c5) = w6 at *
        refine (l05Rest_c _ _ _ (hL.ext EX6) (by omega)).mono ?_
        rintro e w7 ⟨u7, rfl, ho7, hx7⟩
        obtain ⟨dl, hdl'⟩ : ∃ d, d = List.drop 1 c.l := ⟨_, rfl⟩
        have hdll : dl.length ≤ 199 := by rw [hdl']; simp; omega
        rw [← hdl'] at ho7
        have HDL := Lib.hid hdl'
        clear hdl'
        obtain ⟨A7, c7, rfl, _, _⟩ := ho7.ints.form
        have EX7 := EX6.trans hx7
        have bO7 := bO6.ext hx7
        have o5' := OwnInts.ext o5 hx7
        have v1 := bO7.cell 1
        have vf1 := bO7.frozen 1
        simp only [List.getElem?_toArray, List.getElem?_cons_zero, List.getElem?_cons_succ] at v1
        have oL : OwnInts _ _ _ dl := ownsRow_far ho7 (own_far_blk ho7 bO7 (by decide)) (.slice A7 dl.length c7) (p := ⟨V.heap.size, 1, none⟩)
        have oR : OwnInts _ _ _ rr := ownsRow_far o5' (own_far_blk o5' bO7 (by decide)) (.slice A7 dl.length c7) (p := ⟨V.heap.size, 1, none⟩)
        have EX := EX7.setCell (p := ⟨V.heap.size, 1, none⟩) (Nat.le_refl _) (.slice A7 dl.length c7)
        have bO : Blk (w7.setCell ⟨V.heap.size, 1, none⟩ (.slice A7 dl.length c7)) V.heap.size 30 #[.int .i64 ru.n, .slice A7 dl.length c7, .slice A5 rr.length c5] := bO7.set_ 1 (.slice A7 dl.length c7)
        go_wp2_with fail
        generalize w7.setCell ⟨V.heap.size, 1, none⟩ (.slice A7 dl.length c7) = X at *
        have hXX := hXV.trans EX
        have bRX := bRV.ext EX
        obtain ⟨D1, D2⟩ := conf_done (n := ru.n) hXX (Nat.le_refl _) bRX oL oR
        have HD1 : Hid (ConfV (((X.setCell ⟨w.heap.size, 0, none⟩ (.int .i64 ru.n)).setCell ⟨w.heap.size, 1, none⟩ (.slice A7 (dl).length c7)).setCell ⟨w.heap.size, 2, none⟩ (.slice A5 (rr).length c5)) (.agg #[.int .i64 ru.n, .slice A7 (dl).length c7, .slice A5 (rr).length c5]) (stepC ru c)) := by
          unfold Hid stepC
          rw [if_neg (by omega), ← HDL.out, ← HDR.out, HN.out, HRR.out]
          exact D1
        have HD2 := Lib.hid D2
        have HSL : Hid ((stepC ru c).l.length = (dl).length) := by unfold Hid stepC; rw [if_neg (by omega), ← HDL.out, ← HDR.out, HN.out, HRR.out]
        have HSR : Hid ((stepC ru c).r.length = (rr).length) := by unfold Hid stepC; rw [if_neg (by omega), ← HDL.out, ← HDR.out, HN.out, HRR.out]
        have ln1 : (dl).length ≤ 9223372036854775807 := by omega
        have ln2 : (rr).length ≤ 9223372036854775807 := by omega
        have LN : (dl).length ≤ 200 := by omega
        clear D1 D2 oL oR
        generalize (dl).length = nl at *
        generalize (rr).length = nr at *
        have eO0 := bO.cell 0
        have eO1 := bO.cell 1
        have eO2 := bO.cell 2
        have r0 := bRX.cell 0
        have r1 := bRX.cell 1
        have r2 := bRX.cell 2
        have rf0 := bRX.frozen 0
        have rf1 := bRX.frozen 1
        have rf2 := bRX.frozen 2
        simp only [List.getElem?_toArray, List.getElem?_cons_zero, List.getElem?_cons_succ] at eO0 eO1 eO2 r0 r1 r2
        have neg : w.heap.size ≠ V.heap.size := by omega
        have bOf := ((bO.far (p := ⟨w.heap.size, 0, none⟩) neg.symm (.int .i64 ru.n)).far (p := ⟨w.heap.size, 1, none⟩) neg.symm (.slice A7 nl c7)).far (p := ⟨w.heap.size, 2, none⟩) neg.symm (.slice A5 nr c5)
        have y0 := bOf.cell 0
        have y1 := bOf.cell 1
        have y2 := bOf.cell 2
        simp only [List.getElem?_toArray, List.getElem?_cons_zero, List.getElem?_cons_succ] at y0 y1 y2
        have d := (((bRX.set_ 0 (.int .i64 ru.n)).set_ 1 (.slice A7 nl c7)).set_ 2 (.slice A5 nr c5)).cell
        by_cases hl1 : nl ≤ 200
        · have L1 : decide ((nl : Int) ≤ 200) = true := by simp; omega
          have L1' : decide (nl ≤ 200) = true := by simp; omega
          have HL1 := Lib.hid hl1
          clear hl1
          by_cases hl2 : nr ≤ 200
          · have L2 : decide ((nr : Int) ≤ 200) = true := by simp; omega
            have L2' : decide (nr ≤ 200) = true := by simp; omega
            have HL2 := Lib.hid hl2
            clear hl2
            go_region_held3 (fun w' => w'.cell? ⟨V.heap.size, 0, none⟩ = some (.int .i64 ru.n) ∧ w'.cell? ⟨V.heap.size, 1, none⟩ = some (.slice A7 nl c7) ∧ w'.cell? ⟨V.heap.size, 2, none⟩ = some (.slice A5 nr c5)) (first | go_keep | exact ⟨y0, y1, y2⟩) (fail)
            all_goals
              go_wp2
              refine bodyPost_ret (v := .tuple #[.agg #[.int .i64 ru.n, .slice A7 nl c7, .slice A5 nr c5], .bool true]) (by simp [results, Tryz.results49, go_sem, d]) rfl ⟨_, ?_, by first | exact HD1.out | exact HD1.out.ext (Ext.drew _), by first | exact HD2.out | exact HD2.out.trans (Ext.drew _)⟩
              simp [HSL.out, HSR.out, HL1.out, HL2.out]
          · have L2 : decide ((nr : Int) ≤ 200) = false := by simp; omega
            have L2' : decide (nr ≤ 200) = false := by simp; omega
            have HL2 := Lib.hid hl2
            clear hl2
            go_region_held3 (fun w' => w'.cell? ⟨V.heap.size, 0, none⟩ = some (.int .i64 ru.n) ∧ w'.cell? ⟨V.heap.size, 1, none⟩ = some (.slice A7 nl c7) ∧ w'.cell? ⟨V.heap.size, 2, none⟩ = some (.slice A5 nr c5)) (first | go_keep | exact ⟨y0, y1, y2⟩) (fail)
            all_goals
              go_wp2
              refine bodyPost_ret (v := .tuple #[.agg #[.int .i64 ru.n, .slice A7 nl c7, .slice A5 nr c5], .bool false]) (by simp [results, Tryz.results49, go_sem, d]) rfl ⟨_, ?_, by first | exact HD1.out | exact HD1.out.ext (Ext.drew _), by first | exact HD2.out | exact HD2.out.trans (Ext.drew _)⟩
              simp [HSL.out, HSR.out, HL1.out, HL2.out]
        · exact absurd LN hl1
end Go.Proofs.YtacpchapgklcgaaGreatDoor
end
