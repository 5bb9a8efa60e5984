/- Contracts of the two checks of a proof by segments. No condition but the library's table. -/
import Derived.Test.YtdkdmcaehinkhaaDoorWords
import Derived.Test.YtdkdmcaehinkhaaDoorAns
import Derived.Deep.RegionLaw
namespace Go.Proofs.YtdkdmcaehinkhaaDoor
open Go Go.RowKit Go.Proofs
set_option maxHeartbeats 400000
def pOfB (m : MachD) (p : ProofD) (kind n : Int) : Bool := machOk m && prfOk p && (p.k == kind) && ((p.ns.length : Int) == n) && ((p.ws.length : Int) == 0)
set_option maxHeartbeats 1000000 in
theorem proofOf_c (v u : Value) (m : MachD) (p : ProofD) (kind n : Int) (w : World) (hm : Mach w v m) (hp : Prf w u p) :
    Calls Tryd.prog 43 #[v, u, .int .i64 kind, .int .i64 n] w fun e w' => e = .returned (.bool (pOfB m p kind n)) ∧ Ext w w' := by
  obtain ⟨rv, rfl, hr⟩ := hm
  obtain ⟨nv, wv, rfl, hn, hw⟩ := hp
  obtain ⟨Ar, cr, rfl, _, _⟩ := hr.form
  obtain ⟨An, cn, rfl, _, _⟩ := hn.form
  obtain ⟨Aw, cw, rfl, _, _⟩ := hw.form
  have hx0 := (Ext.alloc w (.cells #[.int .i64 m.sy, .int .i64 m.st, .slice Ar m.rules.length cr] 31)).trans (Ext.alloc _ (.cells #[.int .i64 p.k, .slice An p.ns.length cn, .slice Aw p.ws.length cw] 43))
  have bP := Blk.new (w.alloc (.cells #[.int .i64 m.sy, .int .i64 m.st, .slice Ar m.rules.length cr] 31)) (w.heap.size + 1) 43 #[.int .i64 p.k, .slice An p.ns.length cn, .slice Aw p.ws.length cw] (by simp)
  have hpOf : ∀ a b c d : Bool, machOk m = a → prfOk p = b → (p.k == kind) = c → ((p.ns.length : Int) == n) = d → pOfB m p kind n = (a && b && c && d && ((p.ws.length : Int) == 0)) := by
    intro a b c d h1 h2 h3 h4
    simp only [pOfB, h1, h2, h3, h4]
  have HP := Lib.hid hpOf
  clear hpOf
  go_enter Tryd.func43, Tryd.ntmps43
  go_wp2_with fail
  refine (ValidMachine_c _ m _ ⟨_, rfl, hr.ext hx0⟩).mono ?_
  rintro e w1 ⟨rfl, hx1⟩
  have b1 := bP.ext hx1
  have q0 := b1.cell 0
  have q1 := b1.cell 1
  have q2 := b1.cell 2
  simp only [List.getElem?_toArray, List.getElem?_cons_zero, List.getElem?_cons_succ] at q0 q1 q2
  have hX1 := hx0.trans hx1
  cases h1 : machOk m with
  | false =>
    have HE : Hid (pOfB m p kind n = false) := by unfold Hid; simp [pOfB, h1]
    clear h1
    go_wp2
    go_ret
    exact ⟨by simp [HE.out], hX1⟩
  | true =>
    have H1 := Lib.hid h1
    clear h1
    go_wp2_with fail
    refine (ValidProof_c _ p _ ⟨_, _, rfl, hn.ext hX1, hw.ext hX1⟩).mono ?_
    rintro e w2 ⟨rfl, hx2⟩
    have hX2 := hX1.trans hx2
    have b2 := b1.ext hx2
    have c0 := b2.cell 0
    have c1 := b2.cell 1
    have c2 := b2.cell 2
    simp only [List.getElem?_toArray, List.getElem?_cons_zero, List.getElem?_cons_succ] at c0 c1 c2
    clear q0 q1 q2
    cases h2 : prfOk p with
    | false =>
      have HE : Hid (pOfB m p kind n = false) := by unfold Hid; simp [pOfB, h2]
      clear h2
      go_wp2
      go_ret
      exact ⟨by simp [HE.out], hX2⟩
    | true =>
      have H2 := Lib.hid h2
      clear h2
      cases h3 : (p.k == kind) with
      | false =>
        have HE : Hid (pOfB m p kind n = false) := by unfold Hid; simp [pOfB, h3]
        go_wp2
        go_ret
        exact ⟨by simp [HE.out], hX2⟩
      | true =>
        cases h4 : ((p.ns.length : Int) == n) with
        | false =>
          have HE : Hid (pOfB m p kind n = false) := by unfold Hid; simp [pOfB, h4]
          go_wp2
          go_ret
          exact ⟨by simp [HE.out], hX2⟩
        | true =>
          have HE : Hid (pOfB m p kind n = ((p.ws.length : Int) == 0)) := by unfold Hid; rw [HP.out _ _ _ _ H1.out H2.out h3 h4]; simp
          go_wp2
          go_ret
          exact ⟨by rw [HE.out]; simp, hX2⟩
/-- What is asked of a proof by segments, ahead of the search. -/
def chkPre (m : MachD) (p : ProofD) : Bool := machOk m && (p.k == 5) && ((p.ns.length : Int) == 1) && ((p.ws.length : Int) == 0) && inB (p.ns.getD 0 0) 1 9
def ChkAns (m : MachD) (p : ProofD) (r : Bool) : Prop :=
  (chkPre m p = false ∧ r = false) ∨ (chkPre m p = true ∧ ∃ k, EndsS m (p.ns.getD 0 0).toNat k ∧ r = (decide ((iterS m (p.ns.getD 0 0).toNat k).1.length ≤ 2000) && !(iterS m (p.ns.getD 0 0).toNat k).2))
theorem ChkAns.unique {m : MachD} {p : ProofD} {r r' : Bool} (h : ChkAns m p r) (h' : ChkAns m p r') : r = r' := by
  rcases h with ⟨h1, rfl⟩ | ⟨h1, k, hk, rfl⟩ <;> rcases h' with ⟨g1, rfl⟩ | ⟨g1, k', hk', rfl⟩
  · rfl
  · rw [h1] at g1; cases g1
  · rw [h1] at g1; cases g1
  · rw [hk.unique hk']
theorem chk_of_no {m : MachD} {p : ProofD} (h : pOfB m p 5 1 = false) : ChkAns m p false := by
  refine .inl ⟨?_, rfl⟩
  cases hc : chkPre m p with
  | false => rfl
  | true =>
    simp only [chkPre, Bool.and_eq_true, beq_iff_eq] at hc
    obtain ⟨⟨⟨⟨h1, h2⟩, h3⟩, h4⟩, h5⟩ := hc
    have hz : p.ws = [] := List.eq_nil_of_length_eq_zero (by omega)
    obtain ⟨z, hz1⟩ : ∃ z, p.ns = [z] := by
      match hn : p.ns with
      | [] => rw [hn] at h3; simp at h3
      | [z] => exact ⟨z, rfl⟩
      | _ :: _ :: _ => rw [hn] at h3; simp at h3; omega
    rw [hz1] at h5
    have hb : 1 ≤ z ∧ z ≤ 9 := by simpa [inB] using h5
    have hp : prfOk p = true := by
      simp [prfOk, h2, hz, hz1, inB]
      omega
    simp [pOfB, h1, hp, h2, h3, h4] at h
theorem chk_of_nodes {m : MachD} {p : ProofD} {xs : List (List Int)} {b : Bool} {c : Int} (h : pOfB m p 5 1 = true) (ha : NodesAns m (p.ns.getD 0 0) xs b c) : ChkAns m p ((c == 0) && b) := by
  simp only [pOfB, Bool.and_eq_true, beq_iff_eq] at h
  obtain ⟨⟨⟨⟨h1, h2⟩, h3⟩, h4⟩, h5⟩ := h
  have hc : chkPre m p = inB (p.ns.getD 0 0) 1 9 := by simp [chkPre, h1, h3, h4, h5]
  rcases ha with ⟨g1, _, rfl, rfl⟩ | ⟨g1, g2, _, rfl, rfl⟩ | ⟨g1, g2, k, hk, ⟨g3, _, rfl, rfl⟩ | ⟨g3, _, rfl, rfl⟩⟩
  · rw [h1] at g1; cases g1
  · exact .inl ⟨by rw [hc, g2], by simp⟩
  · exact .inr ⟨by rw [hc, g2], k, hk, by rw [decide_eq_false (by omega)]; rfl⟩
  · exact .inr ⟨by rw [hc, g2], k, hk, by rw [decide_eq_true g3]; rfl⟩
def ChkRes (w : World) (m : MachD) (p : ProofD) (e : Ending) (w' : World) : Prop := (∃ r, e = .returned (.bool r) ∧ ChkAns m p r) ∧ Ext w w'
set_option maxRecDepth 20000 in
set_option maxHeartbeats 1000000 in
theorem CheckSegment_c (v u : Value) (m : MachD) (p : ProofD) (w : World) (hm : Mach w v m) (hp : Prf w u p) (hT : Tab w) :
    Calls Tryd.prog 18 #[v, u] w (ChkRes w m p) := by
  obtain ⟨rv, rfl, hr⟩ := hm
  obtain ⟨nv, wv, rfl, hn, hw⟩ := hp
  obtain ⟨Ar, cr, rfl, _, _⟩ := hr.form
  obtain ⟨An, cn, rfl, _, _⟩ := hn.form
  obtain ⟨Aw, cw, rfl, _, _⟩ := hw.form
  have hx0 := (Ext.alloc w (.cells #[.int .i64 m.sy, .int .i64 m.st, .slice Ar m.rules.length cr] 31)).trans (Ext.alloc _ (.cells #[.int .i64 p.k, .slice An p.ns.length cn, .slice Aw p.ws.length cw] 43))
  have bM := (Blk.new w w.heap.size 31 #[.int .i64 m.sy, .int .i64 m.st, .slice Ar m.rules.length cr] rfl).alloc (.cells #[.int .i64 p.k, .slice An p.ns.length cn, .slice Aw p.ws.length cw] 43)
  have bP := Blk.new (w.alloc (.cells #[.int .i64 m.sy, .int .i64 m.st, .slice Ar m.rules.length cr] 31)) (w.heap.size + 1) 43 #[.int .i64 p.k, .slice An p.ns.length cn, .slice Aw p.ws.length cw] (by simp)
  go_enter Tryd.func18, Tryd.ntmps18
  go_wp2_with fail
  refine (proofOf_c _ _ m p 5 1 _ ⟨_, rfl, hr.ext hx0⟩ ⟨_, _, rfl, hn.ext hx0, hw.ext hx0⟩).mono ?_
  rintro e w1 ⟨rfl, hx1⟩
  have hX1 := hx0.trans hx1
  cases h1 : pOfB m p 5 1 with
  | false =>
    have HE := Lib.hid (chk_of_no h1)
    clear h1
    go_wp2
    go_ret
    exact ⟨⟨false, rfl, HE.out⟩, hX1⟩
  | true =>
    have H1 := Lib.hid h1
    have hl1 : p.ns.length = 1 := by
      simp only [pOfB, Bool.and_eq_true, beq_iff_eq] at h1
      omega
    have hl0 : 0 < p.ns.length := by omega
    clear h1
    obtain ⟨b', off, rfl, hc⟩ := (hn.ext hX1).at hl0
    have d0 : w1.cell? ⟨b', off, none⟩ = some (.int .i64 p.ns[0]) := hc 0 hl0
    have HZ : Hid (p.ns.getD 0 0 = p.ns[0]) := by unfold Hid; rw [List.getD_eq_getElem?_getD, List.getElem?_eq_getElem hl0]; rfl
    have hM1 : Mach w1.drew (.agg #[.int .i64 m.sy, .int .i64 m.st, .slice Ar m.rules.length cr]) m := ⟨_, rfl, (hr.ext hX1).ext (Ext.drew _)⟩
    have hT1 : Tab w1.drew := (hT.below hT.low hX1).ext (Ext.drew _)
    have bM1 := bM.ext hx1
    have bP1 := bP.ext hx1
    have c0 := bM1.cell 0
    have c1 := bM1.cell 1
    have c2 := bM1.cell 2
    have e1 := bP1.cell 1
    simp only [List.getElem?_toArray, List.getElem?_cons_zero, List.getElem?_cons_succ] at c0 c1 c2 e1
    have hi0 : (0 : Int) < (p.ns.length : Int) := by omega
    clear hc hl1
    generalize p.ns[0] = z at *
    go_wp2_with fail
    go_region_law
      (first
        | (go_simp; go_at_call 9; ((with_reducible refine (SegmentNodes_c _ m z _ hM1 hT1).mono ?_)); rintro e w5 hres; obtain ⟨g0, xs, gb, gc, rfl, hans, hg, hx5⟩ := hres.ans))
    all_goals
      rw [← HZ.out] at hans
      have HE := Lib.hid (chk_of_nodes H1.out hans)
      have hX5 := (hX1.trans (Ext.drew _)).trans hx5
      cases h0 : (gc == 0) with
      | false =>
        rw [h0] at HE
        go_wp2
        go_ret
        exact ⟨⟨false, rfl, HE.out⟩, hX5⟩
      | true =>
        rw [h0] at HE
        go_wp2
        go_ret
        exact ⟨⟨gb, rfl, by simpa using HE.out⟩, hX5⟩
end Go.Proofs.YtdkdmcaehinkhaaDoor
