/- Contract of the reference's list of the nodes that are found.
The answer of both lists of nodes, as plain data.
Contracts of the two checks of a proof by segments. No condition but the library's table. -/
import Derived.Test.YtacpchapgklcgaaGreatDoorQ14
import Derived.Test.YtacpchapgklcgaaGreatDoorQ10
import Derived.Test.YtacpchapgklcgaaGreatDoorQ11
import Derived.Deep.RegionLaw
section
namespace Go.Proofs.YtacpchapgklcgaaGreatDoor
open Go Go.RowKit Go.Proofs
set_option maxHeartbeats 400000
theorem ends_of_find {m : MachD} {n k : Nat} (h : FindEnds m n 2001 false k) : EndsS m n k := by
  obtain ⟨h1, h2⟩ := h
  refine ⟨fun j hj => ?_, fun hg => ?_⟩
  · obtain ⟨a, b⟩ := h1 j hj
    refine ⟨a, ?_⟩
    by_cases c : 2000 < (iterS m n j).1.length
    · exact absurd (.inr (.inl c)) b
    · omega
  · obtain ⟨g1, g2⟩ := hg
    rcases h2 with c | c
    · exact c g1
    · rcases c with ⟨_, c⟩ | c | c
      · cases c
      · omega
      · omega
end Go.Proofs.YtacpchapgklcgaaGreatDoor
namespace Go.Proofs.YtacpchapgklcgaaGreatDoor
open Go Go.RowKit Go.Proofs
set_option maxHeartbeats 400000
/-- The rows, the flag and the code that are the answer. -/
def NodesAns (m : MachD) (n : Int) (xs : List (List Int)) (b : Bool) (c : Int) : Prop :=
  (machOk m = false ∧ xs = [] ∧ b = false ∧ c = 1) ∨ (machOk m = true ∧ inB n 1 9 = false ∧ xs = [] ∧ b = false ∧ c = 2) ∨
  (machOk m = true ∧ inB n 1 9 = true ∧ ∃ k, EndsS m n.toNat k ∧ ((2000 < (iterS m n.toNat k).1.length ∧ xs = [] ∧ b = false ∧ c = 5) ∨
    ((iterS m n.toNat k).1.length ≤ 2000 ∧ xs = (iterS m n.toNat k).1 ∧ b = (!(iterS m n.toNat k).2) ∧ c = 0)))
theorem NodesAns.unique {m : MachD} {n : Int} {xs xs' : List (List Int)} {b b' : Bool} {c c' : Int} (h : NodesAns m n xs b c) (h' : NodesAns m n xs' b' c') : xs = xs' ∧ b = b' ∧ c = c' := by
  rcases h with ⟨h1, rfl, rfl, rfl⟩ | ⟨h1, h2, rfl, rfl, rfl⟩ | ⟨h1, h2, k, hk, h3⟩ <;> rcases h' with ⟨g1, rfl, rfl, rfl⟩ | ⟨g1, g2, rfl, rfl, rfl⟩ | ⟨g1, g2, k', hk', g3⟩
  · exact ⟨rfl, rfl, rfl⟩
  · rw [h1] at g1; cases g1
  · rw [h1] at g1; cases g1
  · rw [h1] at g1; cases g1
  · exact ⟨rfl, rfl, rfl⟩
  · rw [h2] at g2; cases g2
  · rw [h1] at g1; cases g1
  · rw [h2] at g2; cases g2
  · have e := hk.unique hk'
    subst e
    rcases h3 with ⟨a1, rfl, rfl, rfl⟩ | ⟨a1, rfl, rfl, rfl⟩ <;> rcases g3 with ⟨b1, rfl, rfl, rfl⟩ | ⟨b1, rfl, rfl, rfl⟩
    · exact ⟨rfl, rfl, rfl⟩
    · omega
    · omega
    · exact ⟨rfl, rfl, rfl⟩
theorem tot_le (xss : List (List Int)) (c : Nat) (h : ∀ x ∈ xss, x.length ≤ c) : tot xss ≤ xss.length * c := by
  induction xss with
  | nil => simp [tot]
  | cons a l ih =>
    have h1 := h a List.mem_cons_self
    have h2 := ih fun x hx => h x (List.mem_cons_of_mem _ hx)
    simp only [tot, List.map_cons, List.sum_cons, List.length_cons, Nat.add_mul, Nat.one_mul] at *
    omega
theorem NodesAns.tot {m : MachD} {n : Int} {xs : List (List Int)} {b : Bool} {c : Int} (h : NodesAns m n xs b c) : tot xs ≤ 22000 := by
  rcases h with ⟨_, rfl, _⟩ | ⟨_, _, rfl, _⟩ | ⟨h1, h2, k, hk, h3⟩
  · simp [Proofs.YtacpchapgklcgaaGreatDoor.tot]
  · simp [Proofs.YtacpchapgklcgaaGreatDoor.tot]
  · rcases h3 with ⟨_, rfl, _⟩ | ⟨a1, rfl, _⟩
    · simp [Proofs.YtacpchapgklcgaaGreatDoor.tot]
    · have hnn : 1 ≤ n ∧ n ≤ 9 := by simpa [inB] using h2
      have hok := iterS_ok (MOk.of h1) (n := n.toNat) (by omega) k (fun j hj => (hk.1 j hj).1)
      have := tot_le (iterS m n.toNat k).1 11 (fun x hx => by have := (hok x hx).len; omega)
      omega
theorem NodesRes.ans {w w' : World} {m : MachD} {n : Int} {e : Ending} (h : NodesRes w m n e w') :
    ∃ g xs b c, e = .returned (.tuple #[g, .bool b, .int .i64 c]) ∧ NodesAns m n xs b c ∧ OwnIntRows w.heap.size w' g xs ∧ Ext w w' := by
  obtain ⟨h, hx⟩ := h
  have hnil : OwnIntRows w.heap.size w' (.slice none 0 0) [] := ⟨[], ⟨by simp, .inl ⟨rfl, rfl⟩⟩, fun i hi => by simp at hi, fun i j u u' g hi => by simp at hi⟩
  rcases h with ⟨h1, rfl⟩ | ⟨h1, h2, rfl⟩ | ⟨h1, h2, k, hk, ⟨h3, rfl⟩ | ⟨h3, nv, rfl, ho⟩⟩
  · exact ⟨_, [], _, _, rfl, .inl ⟨h1, rfl, rfl, rfl⟩, hnil, hx⟩
  · exact ⟨_, [], _, _, rfl, .inr (.inl ⟨h1, h2, rfl, rfl, rfl⟩), hnil, hx⟩
  · exact ⟨_, [], _, _, rfl, .inr (.inr ⟨h1, h2, k, hk, .inl ⟨h3, rfl, rfl, rfl⟩⟩), hnil, hx⟩
  · exact ⟨_, _, _, _, rfl, .inr (.inr ⟨h1, h2, k, hk, .inr ⟨h3, rfl, rfl, rfl⟩⟩), ho, hx⟩
end Go.Proofs.YtacpchapgklcgaaGreatDoor
end
section
namespace Go.Proofs.YtacpchapgklcgaaGreatDoor
open Go Go.RowKit Go.Proofs
set_option maxHeartbeats 400000
/-- What is asked of a proof by segments, ahead of the search. -/
def chkPre (m : MachD) (p : ProofD) : Bool := machOk m && (p.k == 5) && ((p.ns.length : Int) == 1) && ((p.ws.length : Int) == 0) && inB (p.ns.getD 0 0) 1 9
def ChkAns (m : MachD) (p : ProofD) (r : Bool) : Prop :=
  (chkPre m p = false ∧ r = false) ∨ (chkPre m p = true ∧ ∃ k, EndsS m (p.ns.getD 0 0).toNat k ∧ r = (decide ((iterS m (p.ns.getD 0 0).toNat k).1.length ≤ 2000) && !(iterS m (p.ns.getD 0 0).toNat k).2))
theorem ChkAns.unique {m : MachD} {p : ProofD} {r r' : Bool} (h : ChkAns m p r) (h' : ChkAns m p r') : r = r' := by
  rcases h with ⟨h1, rfl⟩ | ⟨h1, k, hk, rfl⟩ <;> rcases h' with ⟨g1, rfl⟩ | ⟨g1, k', hk', rfl⟩
  · rfl
  · rw [h1] at g1; cases g1
  · rw [h1] at g1; cases g1
  · rw [hk.unique hk']
theorem chk_of_no {m : MachD} {p : ProofD} (h : pOfB m p 5 1 = false) : ChkAns m p false := by
  refine .inl ⟨?_, rfl⟩
  cases hc : chkPre m p with
  | false => rfl
  | true =>
    simp only [chkPre, Bool.and_eq_true, beq_iff_eq] at hc
    obtain ⟨⟨⟨⟨h1, h2⟩, h3⟩, h4⟩, h5⟩ := hc
    have hz : p.ws = [] := List.eq_nil_of_length_eq_zero (by omega)
    obtain ⟨z, hz1⟩ : ∃ z, p.ns = [z] := by
      match hn : p.ns with
      | [] => rw [hn] at h3; simp at h3
      | [z] => exact ⟨z, rfl⟩
      | _ :: _ :: _ => rw [hn] at h3; simp at h3; omega
    rw [hz1] at h5
    have hb : 1 ≤ z ∧ z ≤ 9 := by simpa [inB] using h5
    have hp : prfOk p = true := by
      simp [prfOk, h2, hz, hz1, inB]
      omega
    simp [pOfB, h1, hp, h2, h3, h4] at h
theorem chk_of_nodes {m : MachD} {p : ProofD} {xs : List (List Int)} {b : Bool} {c : Int} (h : pOfB m p 5 1 = true) (ha : NodesAns m (p.ns.getD 0 0) xs b c) : ChkAns m p ((c == 0) && b) := by
  simp only [pOfB, Bool.and_eq_true, beq_iff_eq] at h
  obtain ⟨⟨⟨⟨h1, h2⟩, h3⟩, h4⟩, h5⟩ := h
  have hc : chkPre m p = inB (p.ns.getD 0 0) 1 9 := by simp [chkPre, h1, h3, h4, h5]
  rcases ha with ⟨g1, _, rfl, rfl⟩ | ⟨g1, g2, _, rfl, rfl⟩ | ⟨g1, g2, k, hk, ⟨g3, _, rfl, rfl⟩ | ⟨g3, _, rfl, rfl⟩⟩
  · rw [h1] at g1; cases g1
  · exact .inl ⟨by rw [hc, g2], by simp⟩
  · exact .inr ⟨by rw [hc, g2], k, hk, by rw [decide_eq_false (by omega)]; rfl⟩
  · exact .inr ⟨by rw [hc, g2], k, hk, by rw [decide_eq_true g3]; rfl⟩
def ChkRes (w : World) (m : MachD) (p : ProofD) (e : Ending) (w' : World) : Prop := (∃ r, e = .returned (.bool r) ∧ ChkAns m p r) ∧ Ext w w'
set_option maxRecDepth 20000 in
set_option maxHeartbeats 1000000 in
theorem CheckSegment_c (v u : Value) (m : MachD) (p : ProofD) (w : World) (hm : Mach w v m) (hp : Prf w u p) (hT : Tab w) :
    Calls Tryz.prog 9 #[v, u] w (ChkRes w m p) := by
  obtain ⟨rv, rfl, hr⟩ := hm
  obtain ⟨nv, wv, rfl, hn, hw⟩ := hp
  obtain ⟨Ar, cr, rfl, _, _⟩ := hr.form
  obtain ⟨An, cn, rfl, _, _⟩ := hn.form
  obtain ⟨Aw, cw, rfl, _, _⟩ := hw.form
  have hx0 := (Ext.alloc w (.cells #[.int .i64 m.sy, .int .i64 m.st, .slice Ar m.rules.length cr] 26)).trans (Ext.alloc _ (.cells #[.int .i64 p.k, .slice An p.ns.length cn, .slice Aw p.ws.length cw] 36))
  have bM := (Blk.new w w.heap.size 26 #[.int .i64 m.sy, .int .i64 m.st, .slice Ar m.rules.length cr] rfl).alloc (.cells #[.int .i64 p.k, .slice An p.ns.length cn, .slice Aw p.ws.length cw] 36)
  have bP := Blk.new (w.alloc (.cells #[.int .i64 m.sy, .int .i64 m.st, .slice Ar m.rules.length cr] 26)) (w.heap.size + 1) 36 #[.int .i64 p.k, .slice An p.ns.length cn, .slice Aw p.ws.length cw] (by simp)
  go_enter Tryz.func9, Tryz.ntmps9
  go_wp2_with fail
  refine (proofOf_c _ _ m p 5 1 _ ⟨_, rfl, hr.ext hx0⟩ ⟨_, _, rfl, hn.ext hx0, hw.ext hx0⟩).mono ?_
  rintro e w1 ⟨rfl, hx1⟩
  have hX1 := hx0.trans hx1
  cases h1 : pOfB m p 5 1 with
  | false =>
    have HE := Lib.hid (chk_of_no h1)
    clear h1
    go_wp2
    go_ret
    exact ⟨⟨false, rfl, HE.out⟩, hX1⟩
  | true =>
    have H1 := Lib.hid h1
    have hl1 : p.ns.length = 1 := by
      simp only [pOfB, Bool.and_eq_true, beq_iff_eq] at h1
      omega
    have hl0 : 0 < p.ns.length := by omega
    clear h1
    obtain ⟨b', off, rfl, hc⟩ := (hn.ext hX1).at hl0
    have d0 : w1.cell? ⟨b', off, none⟩ = some (.int .i64 p.ns[0]) := hc 0 hl0
    have HZ : Hid (p.ns.getD 0 0 = p.ns[0]) := by unfold Hid; rw [List.getD_eq_getElem?_getD, List.getElem?_eq_getElem hl0]; rfl
    have hM1 : Mach w1.drew (.agg #[.int .i64 m.sy, .int .i64 m.st, .slice Ar m.rules.length cr]) m := ⟨_, rfl, (hr.ext hX1).ext (Ext.drew _)⟩
    have hT1 : Tab w1.drew := (hT.below hT.low hX1).ext (Ext.drew _)
    have bM1 := bM.ext hx1
    have bP1 := bP.ext hx1
    have c0 := bM1.cell 0
    have c1 := bM1.cell 1
    have c2 := bM1.cell 2
    have e1 := bP1.cell 1
    simp only [List.getElem?_toArray, List.getElem?_cons_zero, List.getElem?_cons_succ] at c0 c1 c2 e1
    have hi0 : (0 : Int) < (p.ns.length : Int) := by omega
    clear hc hl1
    generalize p.ns[0] = z at *
    go_wp2_with fail
    go_region_law
      (first
        | (go_simp; go_at_call 27; ((with_reducible refine (SegmentNodes_c _ m z _ hM1 hT1).mono ?_)); rintro e w5 hres; obtain ⟨g0, xs, gb, gc, rfl, hans, hg, hx5⟩ := hres.ans))
    all_goals
      rw [← HZ.out] at hans
      have HE := Lib.hid (chk_of_nodes H1.out hans)
      have hX5 := (hX1.trans (Ext.drew _)).trans hx5
      cases h0 : (gc == 0) with
      | false =>
        rw [h0] at HE
        go_wp2
        go_ret
        exact ⟨⟨false, rfl, HE.out⟩, hX5⟩
      | true =>
        rw [h0] at HE
        go_wp2
        go_ret
        exact ⟨⟨gb, rfl, by simpa using HE.out⟩, hX5⟩
end Go.Proofs.YtacpchapgklcgaaGreatDoor
end
