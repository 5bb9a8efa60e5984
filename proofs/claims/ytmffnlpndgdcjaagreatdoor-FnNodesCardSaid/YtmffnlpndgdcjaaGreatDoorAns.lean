/- Contract of the reference's list of the nodes that are found.
The answer of both lists of nodes, as plain data. -/
import Derived.Test.YtmffnlpndgdcjaaGreatDoorStarts
import Derived.Test.YtmffnlpndgdcjaaGreatDoorNodes
namespace Go.Proofs.YtmffnlpndgdcjaaGreatDoor
open Go Go.RowKit Go.Proofs
set_option maxHeartbeats 400000
theorem ends_of_find {m : MachD} {n k : Nat} (h : FindEnds m n 2001 false k) : EndsS m n k := by
  obtain ⟨h1, h2⟩ := h
  refine ⟨fun j hj => ?_, fun hg => ?_⟩
  · obtain ⟨a, b⟩ := h1 j hj
    refine ⟨a, ?_⟩
    by_cases c : 2000 < (iterS m n j).1.length
    · exact absurd (.inr (.inl c)) b
    · omega
  · obtain ⟨g1, g2⟩ := hg
    rcases h2 with c | c
    · exact c g1
    · rcases c with ⟨_, c⟩ | c | c
      · cases c
      · omega
      · omega
set_option maxRecDepth 20000 in
set_option maxHeartbeats 4000000 in
theorem specNodes_c (v : Value) (m : MachD) (n : Int) (w : World) (h : Mach w v m) :
    Calls Tryz.prog 8 #[v, .int .i64 n] w (NodesRes w m n) := by
  obtain ⟨rv, rfl, hr⟩ := h
  obtain ⟨Ar, cr, rfl, h3, h3'⟩ := hr.form
  have bM := Blk.new w w.heap.size 26 #[.int .i64 m.sy, .int .i64 m.st, .slice Ar m.rules.length cr] rfl
  have hx0 := Ext.alloc w (.cells #[.int .i64 m.sy, .int .i64 m.st, .slice Ar m.rules.length cr] 26)
  have hr0 := hr.ext hx0
  have c0 := bM.cell 0
  have c1 := bM.cell 1
  have c2 := bM.cell 2
  simp only [List.getElem?_toArray, List.getElem?_cons_zero, List.getElem?_cons_succ] at c0 c1 c2
  have HMA : Hid (MachAt (w.alloc (.cells #[.int .i64 m.sy, .int .i64 m.st, .slice Ar m.rules.length cr] 26)) w.heap.size m) := ⟨_, c0, c1, c2, hr0⟩
  clear c0 c1 c2
  go_enter Tryz.func8, Tryz.ntmps8
  go_wp2_with fail
  refine (l05Is_c _ m _ HMA.out).mono ?_
  rintro e w1 ⟨rfl, hx1⟩
  cases hmo : machOk m with
  | false =>
    go_wp2
    go_ret3
    exact ⟨.inl ⟨hmo, rfl⟩, hx0.trans hx1⟩
  | true =>
    go_wp2_with fail
    refine (l00In_c _ _ _ _).mono ?_
    rintro e w' ⟨rfl, rfl⟩
    cases hno : inB n 1 9 with
    | false =>
      go_wp2
      go_ret3
      exact ⟨.inr (.inl ⟨hmo, hno, rfl⟩), hx0.trans hx1⟩
    | true =>
      have hmk := Lib.hid (MOk.of hmo)
      have hnn : 1 ≤ n ∧ n ≤ 9 := by simpa [inB] using hno
      have HMO := Lib.hid hmo
      have HNO := Lib.hid hno
      obtain ⟨nn, hnE⟩ : ∃ nn : Nat, n = (nn : Int) := ⟨n.toNat, by omega⟩
      subst hnE
      have n1 : 1 ≤ nn := by omega
      have n2 : nn ≤ 9 := by omega
      have bM1 := bM.ext hx1
      have hX1 := hx0.trans hx1
      have hr1 := hr0.ext hx1
      clear hmo hno bM hx0 hx1 hnn HMA
      go_wp2_with fail
      refine (l26Find_c w.heap.size m _ nn 2001 false w1 bM1 hr1 hmk.out n1 n2).mono ?_
      rintro e w2 ⟨k, hend, ⟨u, rfl, ho⟩, hx2⟩
      have HE := Lib.hid (ends_of_find hend)
      have hX2 := hX1.trans hx2
      obtain ⟨s, hs⟩ : ∃ s, iterS m nn k = s := ⟨_, rfl⟩
      have HS := Lib.hid hs
      rw [hs] at ho ⊢
      have hng : ¬ (k < s.1.length ∧ s.1.length ≤ 2000) := by rw [← hs]; exact HE.out.2
      have HO : Hid (OwnIntRows w.heap.size w2 u s.1) := by
        obtain ⟨vs, o1, o2, o3⟩ := ho
        exact ⟨vs, ownsRow_base o1 hX1.size, fun i hi => by obtain ⟨u, e, hu⟩ := o2 i hi; exact ⟨u, e, hu.base hX1.size⟩, o3⟩
      clear hs hend ho
      by_cases hl : s.1.length ≤ 2000
      · have hall : (!decide (k < s.1.length) && decide (s.1.length ≤ 2000)) = true := by simp; omega
        rw [hall]
        clear hall
        generalize (if k < s.1.length then (k : Int) else (s.1.length : Int)) = st
        go_wp2
        go_ret3
        refine ⟨.inr (.inr ⟨HMO.out, HNO.out, k, HE.out, .inr ⟨?_, u, ?_, ?_⟩⟩), hX2⟩
        · show (iterS m nn k).1.length ≤ 2000
          rw [HS.out]; exact hl
        · show _ = Ending.returned (.tuple #[_, .bool (!(iterS m nn k).2), _])
          rw [HS.out]; rfl
        · show OwnIntRows w.heap.size w2 _ (iterS m nn k).1
          rw [HS.out]; exact HO.out
      · have hall : (!decide (k < s.1.length) && decide (s.1.length ≤ 2000)) = false := by simp; omega
        rw [hall]
        clear hall
        generalize (if k < s.1.length then (k : Int) else (s.1.length : Int)) = st
        go_wp2
        go_ret3
        refine ⟨.inr (.inr ⟨HMO.out, HNO.out, k, HE.out, .inl ⟨?_, rfl⟩⟩), hX2⟩
        show 2000 < (iterS m nn k).1.length
        rw [HS.out]; omega
end Go.Proofs.YtmffnlpndgdcjaaGreatDoor
namespace Go.Proofs.YtmffnlpndgdcjaaGreatDoor
open Go Go.RowKit Go.Proofs
set_option maxHeartbeats 400000
/-- The rows, the flag and the code that are the answer. -/
def NodesAns (m : MachD) (n : Int) (xs : List (List Int)) (b : Bool) (c : Int) : Prop :=
  (machOk m = false ∧ xs = [] ∧ b = false ∧ c = 1) ∨ (machOk m = true ∧ inB n 1 9 = false ∧ xs = [] ∧ b = false ∧ c = 2) ∨
  (machOk m = true ∧ inB n 1 9 = true ∧ ∃ k, EndsS m n.toNat k ∧ ((2000 < (iterS m n.toNat k).1.length ∧ xs = [] ∧ b = false ∧ c = 5) ∨
    ((iterS m n.toNat k).1.length ≤ 2000 ∧ xs = (iterS m n.toNat k).1 ∧ b = (!(iterS m n.toNat k).2) ∧ c = 0)))
theorem NodesAns.unique {m : MachD} {n : Int} {xs xs' : List (List Int)} {b b' : Bool} {c c' : Int} (h : NodesAns m n xs b c) (h' : NodesAns m n xs' b' c') : xs = xs' ∧ b = b' ∧ c = c' := by
  rcases h with ⟨h1, rfl, rfl, rfl⟩ | ⟨h1, h2, rfl, rfl, rfl⟩ | ⟨h1, h2, k, hk, h3⟩ <;> rcases h' with ⟨g1, rfl, rfl, rfl⟩ | ⟨g1, g2, rfl, rfl, rfl⟩ | ⟨g1, g2, k', hk', g3⟩
  · exact ⟨rfl, rfl, rfl⟩
  · rw [h1] at g1; cases g1
  · rw [h1] at g1; cases g1
  · rw [h1] at g1; cases g1
  · exact ⟨rfl, rfl, rfl⟩
  · rw [h2] at g2; cases g2
  · rw [h1] at g1; cases g1
  · rw [h2] at g2; cases g2
  · have e := hk.unique hk'
    subst e
    rcases h3 with ⟨a1, rfl, rfl, rfl⟩ | ⟨a1, rfl, rfl, rfl⟩ <;> rcases g3 with ⟨b1, rfl, rfl, rfl⟩ | ⟨b1, rfl, rfl, rfl⟩
    · exact ⟨rfl, rfl, rfl⟩
    · omega
    · omega
    · exact ⟨rfl, rfl, rfl⟩
theorem tot_le (xss : List (List Int)) (c : Nat) (h : ∀ x ∈ xss, x.length ≤ c) : tot xss ≤ xss.length * c := by
  induction xss with
  | nil => simp [tot]
  | cons a l ih =>
    have h1 := h a List.mem_cons_self
    have h2 := ih fun x hx => h x (List.mem_cons_of_mem _ hx)
    simp only [tot, List.map_cons, List.sum_cons, List.length_cons, Nat.add_mul, Nat.one_mul] at *
    omega
theorem NodesAns.tot {m : MachD} {n : Int} {xs : List (List Int)} {b : Bool} {c : Int} (h : NodesAns m n xs b c) : tot xs ≤ 22000 := by
  rcases h with ⟨_, rfl, _⟩ | ⟨_, _, rfl, _⟩ | ⟨h1, h2, k, hk, h3⟩
  · simp [Proofs.YtmffnlpndgdcjaaGreatDoor.tot]
  · simp [Proofs.YtmffnlpndgdcjaaGreatDoor.tot]
  · rcases h3 with ⟨_, rfl, _⟩ | ⟨a1, rfl, _⟩
    · simp [Proofs.YtmffnlpndgdcjaaGreatDoor.tot]
    · have hnn : 1 ≤ n ∧ n ≤ 9 := by simpa [inB] using h2
      have hok := iterS_ok (MOk.of h1) (n := n.toNat) (by omega) k (fun j hj => (hk.1 j hj).1)
      have := tot_le (iterS m n.toNat k).1 11 (fun x hx => by have := (hok x hx).len; omega)
      omega
theorem NodesRes.ans {w w' : World} {m : MachD} {n : Int} {e : Ending} (h : NodesRes w m n e w') :
    ∃ g xs b c, e = .returned (.tuple #[g, .bool b, .int .i64 c]) ∧ NodesAns m n xs b c ∧ OwnIntRows w.heap.size w' g xs ∧ Ext w w' := by
  obtain ⟨h, hx⟩ := h
  have hnil : OwnIntRows w.heap.size w' (.slice none 0 0) [] := ⟨[], ⟨by simp, .inl ⟨rfl, rfl⟩⟩, fun i hi => by simp at hi, fun i j u u' g hi => by simp at hi⟩
  rcases h with ⟨h1, rfl⟩ | ⟨h1, h2, rfl⟩ | ⟨h1, h2, k, hk, ⟨h3, rfl⟩ | ⟨h3, nv, rfl, ho⟩⟩
  · exact ⟨_, [], _, _, rfl, .inl ⟨h1, rfl, rfl, rfl⟩, hnil, hx⟩
  · exact ⟨_, [], _, _, rfl, .inr (.inl ⟨h1, h2, rfl, rfl, rfl⟩), hnil, hx⟩
  · exact ⟨_, [], _, _, rfl, .inr (.inr ⟨h1, h2, k, hk, .inl ⟨h3, rfl, rfl, rfl⟩⟩), hnil, hx⟩
  · exact ⟨_, _, _, _, rfl, .inr (.inr ⟨h1, h2, k, hk, .inr ⟨h3, rfl, rfl, rfl⟩⟩), ho, hx⟩
end Go.Proofs.YtmffnlpndgdcjaaGreatDoor
