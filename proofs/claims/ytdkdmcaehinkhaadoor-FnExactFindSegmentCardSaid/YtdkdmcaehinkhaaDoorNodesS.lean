/- Contract of the reference's list of the nodes that are found. -/
import Derived.Test.YtdkdmcaehinkhaaDoorFindS
import Derived.Test.YtdkdmcaehinkhaaDoorNodes
namespace Go.Proofs.YtdkdmcaehinkhaaDoor
open Go Go.RowKit Go.Proofs
set_option maxHeartbeats 400000
theorem ends_of_find {m : MachD} {n k : Nat} (h : FindEnds m n 2001 false k) : EndsS m n k := by
  obtain ⟨h1, h2⟩ := h
  refine ⟨fun j hj => ?_, fun hg => ?_⟩
  · obtain ⟨a, b⟩ := h1 j hj
    refine ⟨a, ?_⟩
    by_cases c : 2000 < (iterS m n j).1.length
    · exact absurd (.inr (.inl c)) b
    · omega
  · obtain ⟨g1, g2⟩ := hg
    rcases h2 with c | c
    · exact c g1
    · rcases c with ⟨_, c⟩ | c | c
      · cases c
      · omega
      · omega
set_option maxRecDepth 20000 in
set_option maxHeartbeats 4000000 in
theorem specNodes_c (v : Value) (m : MachD) (n : Int) (w : World) (h : Mach w v m) :
    Calls Tryd.prog 7 #[v, .int .i64 n] w (NodesRes w m n) := by
  obtain ⟨rv, rfl, hr⟩ := h
  obtain ⟨Ar, cr, rfl, h3, h3'⟩ := hr.form
  have bM := Blk.new w w.heap.size 31 #[.int .i64 m.sy, .int .i64 m.st, .slice Ar m.rules.length cr] rfl
  have hx0 := Ext.alloc w (.cells #[.int .i64 m.sy, .int .i64 m.st, .slice Ar m.rules.length cr] 31)
  have hr0 := hr.ext hx0
  have c0 := bM.cell 0
  have c1 := bM.cell 1
  have c2 := bM.cell 2
  simp only [List.getElem?_toArray, List.getElem?_cons_zero, List.getElem?_cons_succ] at c0 c1 c2
  have HMA : Hid (MachAt (w.alloc (.cells #[.int .i64 m.sy, .int .i64 m.st, .slice Ar m.rules.length cr] 31)) w.heap.size m) := ⟨_, c0, c1, c2, hr0⟩
  clear c0 c1 c2
  go_enter Tryd.func7, Tryd.ntmps7
  go_wp2_with fail
  refine (l05Is_c _ m _ HMA.out).mono ?_
  rintro e w1 ⟨rfl, hx1⟩
  cases hmo : machOk m with
  | false =>
    go_wp2
    go_ret3
    exact ⟨.inl ⟨hmo, rfl⟩, hx0.trans hx1⟩
  | true =>
    go_wp2_with fail
    refine (l00In_c _ _ _ _).mono ?_
    rintro e w' ⟨rfl, rfl⟩
    cases hno : inB n 1 9 with
    | false =>
      go_wp2
      go_ret3
      exact ⟨.inr (.inl ⟨hmo, hno, rfl⟩), hx0.trans hx1⟩
    | true =>
      have hmk := Lib.hid (MOk.of hmo)
      have hnn : 1 ≤ n ∧ n ≤ 9 := by simpa [inB] using hno
      have HMO := Lib.hid hmo
      have HNO := Lib.hid hno
      obtain ⟨nn, hnE⟩ : ∃ nn : Nat, n = (nn : Int) := ⟨n.toNat, by omega⟩
      subst hnE
      have n1 : 1 ≤ nn := by omega
      have n2 : nn ≤ 9 := by omega
      have bM1 := bM.ext hx1
      have hX1 := hx0.trans hx1
      have hr1 := hr0.ext hx1
      clear hmo hno bM hx0 hx1 hnn HMA
      go_wp2_with fail
      refine (l26Find_c w.heap.size m _ nn 2001 false w1 bM1 hr1 hmk.out n1 n2).mono ?_
      rintro e w2 ⟨k, hend, ⟨u, rfl, ho⟩, hx2⟩
      have HE := Lib.hid (ends_of_find hend)
      have hX2 := hX1.trans hx2
      obtain ⟨s, hs⟩ : ∃ s, iterS m nn k = s := ⟨_, rfl⟩
      have HS := Lib.hid hs
      rw [hs] at ho ⊢
      have hng : ¬ (k < s.1.length ∧ s.1.length ≤ 2000) := by rw [← hs]; exact HE.out.2
      have HO : Hid (OwnIntRows w.heap.size w2 u s.1) := by
        obtain ⟨vs, o1, o2, o3⟩ := ho
        exact ⟨vs, ownsRow_base o1 hX1.size, fun i hi => by obtain ⟨u, e, hu⟩ := o2 i hi; exact ⟨u, e, hu.base hX1.size⟩, o3⟩
      clear hs hend ho
      by_cases hl : s.1.length ≤ 2000
      · have hall : (!decide (k < s.1.length) && decide (s.1.length ≤ 2000)) = true := by simp; omega
        rw [hall]
        clear hall
        generalize (if k < s.1.length then (k : Int) else (s.1.length : Int)) = st
        go_wp2
        go_ret3
        refine ⟨.inr (.inr ⟨HMO.out, HNO.out, k, HE.out, .inr ⟨?_, u, ?_, ?_⟩⟩), hX2⟩
        · show (iterS m nn k).1.length ≤ 2000
          rw [HS.out]; exact hl
        · show _ = Ending.returned (.tuple #[_, .bool (!(iterS m nn k).2), _])
          rw [HS.out]; rfl
        · show OwnIntRows w.heap.size w2 _ (iterS m nn k).1
          rw [HS.out]; exact HO.out
      · have hall : (!decide (k < s.1.length) && decide (s.1.length ≤ 2000)) = false := by simp; omega
        rw [hall]
        clear hall
        generalize (if k < s.1.length then (k : Int) else (s.1.length : Int)) = st
        go_wp2
        go_ret3
        refine ⟨.inr (.inr ⟨HMO.out, HNO.out, k, HE.out, .inl ⟨?_, rfl⟩⟩), hX2⟩
        show 2000 < (iterS m nn k).1.length
        rw [HS.out]; omega
end Go.Proofs.YtdkdmcaehinkhaaDoor
