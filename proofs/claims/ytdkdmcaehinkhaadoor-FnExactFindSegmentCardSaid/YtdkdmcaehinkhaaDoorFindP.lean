/- The reference's search for a proof by segments. No condition. -/
import Derived.Test.YtdkdmcaehinkhaaDoorSize
import Derived.Test.YtdkdmcaehinkhaaDoorProof
namespace Go.Proofs.YtdkdmcaehinkhaaDoor
open Go Go.RowKit Go.Proofs
set_option maxHeartbeats 400000
def noP : ProofD := ⟨0, [], []⟩
/-- The proof and the code that the search for a proof comes to. -/
def FsAns (m : MachD) (b : Int) (p : ProofD) (c : Int) : Prop :=
  (budC m b ≠ 0 ∧ p = noP ∧ c = budC m b) ∨ (budC m b = 0 ∧ ∃ s, SizeAns m 5 1 b s c ∧ p = if c = 0 then ⟨5, [s], []⟩ else noP)
theorem FsAns.unique {m : MachD} {b : Int} {p p' : ProofD} {c c' : Int} (h : FsAns m b p c) (h' : FsAns m b p' c') : p = p' ∧ c = c' := by
  rcases h with ⟨h1, rfl, rfl⟩ | ⟨h1, s, hs, rfl⟩ <;> rcases h' with ⟨g1, rfl, rfl⟩ | ⟨g1, s', hs', rfl⟩
  · exact ⟨rfl, rfl⟩
  · exact absurd g1 h1
  · exact absurd h1 g1
  · obtain ⟨rfl, rfl⟩ := hs.unique hs'
    exact ⟨rfl, rfl⟩
def FsRes (w : World) (m : MachD) (b : Int) (e : Ending) (w' : World) : Prop :=
  (∃ p c nv, e = .returned (.tuple #[.agg #[.int .i64 p.k, nv, .slice none 0 0], .int .i64 c]) ∧ FsAns m b p c ∧ p.ws = [] ∧ p.ns.length ≤ 1 ∧ OwnInts w.heap.size w' nv p.ns) ∧ Ext w w'
theorem own_nil (base : Nat) (w : World) : OwnInts base w (.slice none 0 0) [] := ⟨rfl, .inl ⟨rfl, rfl⟩⟩
theorem FsRes.no {w w' : World} {m : MachD} {b c : Int} (hx : Ext w w') (h : (budC m b ≠ 0 ∧ c = budC m b) ∨ (budC m b = 0 ∧ c ≠ 0 ∧ ∃ s, SizeAns m 5 1 b s c)) :
    FsRes w m b (.returned (.tuple #[.agg #[.int .i64 0, .slice none 0 0, .slice none 0 0], .int .i64 c])) w' := by
  refine ⟨⟨noP, c, .slice none 0 0, rfl, ?_, rfl, by simp [noP], own_nil _ _⟩, hx⟩
  rcases h with ⟨h1, rfl⟩ | ⟨h1, h2, s, hs⟩
  · exact .inl ⟨h1, rfl, rfl⟩
  · exact .inr ⟨h1, s, hs, by rw [if_neg h2]⟩
theorem FsRes.yes {w w' : World} {m : MachD} {b s : Int} {nv : Value} (hx : Ext w w') (h : budC m b = 0) (hs : SizeAns m 5 1 b s 0) (ho : OwnInts w.heap.size w' nv [s]) :
    FsRes w m b (.returned (.tuple #[.agg #[.int .i64 5, nv, .slice none 0 0], .int .i64 0])) w' :=
  ⟨⟨⟨5, [s], []⟩, 0, nv, rfl, .inr ⟨h, s, hs, by simp⟩, rfl, by simp, ho⟩, hx⟩
theorem store3 {w : World} {g : Nat} {t : TypeId} {a b c : Value} (h : Blk w g t #[a, b, c]) (x y z : Value) : Blk (((w.setCell ⟨g, 0, none⟩ x).setCell ⟨g, 1, none⟩ y).setCell ⟨g, 2, none⟩ z) g t #[x, y, z] := ((h.set_ 0 x).set_ 1 y).set_ 2 z
theorem own_one (w : World) (s : Int) {base g : Nat} (hb : base ≤ w.heap.size) (hg : w.heap.size = g) : OwnInts base (w.alloc (.cells #[.int .i64 s] 2)) (.slice (some ⟨g, 0, none⟩) 1 1) [s] := by
  subst hg
  refine ⟨by simp, .inr ⟨w.heap.size, 1, #[.int .i64 s], rfl, hb, heap_alloc_new w _, Nat.le_refl _, by unfold maxLen; simp, by simp, by simp [ivs]⟩⟩
set_option maxRecDepth 20000 in
set_option maxHeartbeats 1000000 in
theorem specFind_c (v : Value) (m : MachD) (b : Int) (w : World) (hm : Mach w v m) :
    Calls Tryd.prog 20 #[v, .int .i64 b] w (FsRes w m b) := by
  obtain ⟨rv, rfl, hr⟩ := hm
  obtain ⟨Ar, cr, rfl, h3, h3'⟩ := hr.form
  have hx0 := (Ext.alloc w (.cells #[.int .i64 m.sy, .int .i64 m.st, .slice Ar m.rules.length cr] 31)).trans (Ext.alloc _ (.cells #[.int .i64 0, .slice none 0 0, .slice none 0 0] 43))
  have bM := (Blk.new w w.heap.size 31 #[.int .i64 m.sy, .int .i64 m.st, .slice Ar m.rules.length cr] rfl).alloc (.cells #[.int .i64 0, .slice none 0 0, .slice none 0 0] 43)
  have bR := Blk.new (w.alloc (.cells #[.int .i64 m.sy, .int .i64 m.st, .slice Ar m.rules.length cr] 31)) (w.heap.size + 1) 43 #[.int .i64 0, .slice none 0 0, .slice none 0 0] (by simp)
  have c0 := bM.cell 0
  have c1 := bM.cell 1
  have c2 := bM.cell 2
  simp only [List.getElem?_toArray, List.getElem?_cons_zero, List.getElem?_cons_succ] at c0 c1 c2
  have HMA := Lib.hid (show MachAt _ w.heap.size m from ⟨_, c0, c1, c2, hr.ext hx0⟩)
  clear c0 c1 c2
  go_enter Tryd.func20, Tryd.ntmps20
  go_wp2_with fail
  refine (l05Is_c _ m _ HMA.out).mono ?_
  rintro e w1 ⟨rfl, hx1⟩
  have hX1 := hx0.trans hx1
  have bR1 := bR.ext hx1
  have d := bR1.cell
  have f := bR1.frozen
  have hlow : w.heap.size ≤ w.heap.size + 1 := by omega
  cases hmo : machOk m with
  | false =>
    have HB : Hid (budC m b = 1) := by unfold Hid; simp [budC, hmo]
    go_wp2
    refine bodyPost_ret (v := .tuple #[.agg #[.int .i64 0, .slice none 0 0, .slice none 0 0], .int .i64 1]) (by simp [results, Tryd.results20, go_sem, d]) rfl (FsRes.no ?_ (.inl ⟨by rw [HB.out]; simp, HB.out.symm⟩))
    exact (((hX1.setCell hlow _).setCell hlow _).setCell hlow _)
  | true =>
    go_wp2_with fail
    refine (l05Budget_c _ _).mono ?_
    rintro e w' ⟨rfl, rfl⟩
    cases hbo : inB b 1 20000 with
    | false =>
      have HB : Hid (budC m b = 2) := by unfold Hid; simp [budC, hmo, hbo]
      go_wp2
      refine bodyPost_ret (v := .tuple #[.agg #[.int .i64 0, .slice none 0 0, .slice none 0 0], .int .i64 2]) (by simp [results, Tryd.results20, go_sem, d]) rfl (FsRes.no ?_ (.inl ⟨by rw [HB.out]; simp, HB.out.symm⟩))
      exact (((hX1.setCell hlow _).setCell hlow _).setCell hlow _)
    | true =>
      have HB : Hid (budC m b = 0) := by unfold Hid; simp [budC, hmo, hbo]
      have hnn : 1 ≤ b ∧ b ≤ 20000 := by simpa [inB] using hbo
      have HMO := Lib.hid (MOk.of hmo)
      clear hmo hbo d f
      go_wp2_with fail
      refine (l26Size_c w.heap.size m _ b w1 (bM.ext hx1) (hr.ext hX1) HMO.out (by omega) hnn.2).mono ?_
      rintro e w2 ⟨⟨s, c, rfl, hs⟩, hx2⟩
      have HS := Lib.hid hs
      have hX2 := hX1.trans hx2
      have bR2 := bR1.ext hx2
      have d := bR2.cell
      have f := bR2.frozen
      by_cases hc : c = 0
      · subst hc
        have hb2 := bR2.lt
        go_wp2
        refine bodyPost_ret (v := .tuple #[.agg #[.int .i64 5, .slice (some ⟨w2.heap.size, 0, none⟩) 1 1, .slice none 0 0], .int .i64 0]) ?_ rfl ?_
        · have d' := ((store3 bR2 (.int .i64 5) (.slice (some ⟨w2.heap.size, 0, none⟩) 1 1) (.slice none 0 0)).alloc (.cells #[.int .i64 s] 2)).cell
          simp [results, Tryd.results20, go_sem, d']
        refine FsRes.yes ?_ HB.out HS.out ?_
        · exact (((hX2.setCell hlow _).setCell hlow _).setCell hlow _).trans (Ext.alloc _ _)
        · exact own_one _ _ (by have := hX2.size; simpa [World.setCell] using this) (by simp [World.setCell])
      · have hcn : (c != 0) = true := by simp [hc]
        have HC := Lib.hid hc
        clear hc
        go_wp2
        refine bodyPost_ret (v := .tuple #[.agg #[.int .i64 0, .slice none 0 0, .slice none 0 0], .int .i64 c]) (by simp [results, Tryd.results20, go_sem, d]) rfl (FsRes.no ?_ (.inr ⟨HB.out, HC.out, s, HS.out⟩))
        exact (((hX2.setCell hlow _).setCell hlow _).setCell hlow _)
end Go.Proofs.YtdkdmcaehinkhaaDoor
