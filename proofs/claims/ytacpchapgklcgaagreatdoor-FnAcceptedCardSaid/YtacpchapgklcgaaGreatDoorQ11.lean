/- Contract of the program's test whether a machine and a proof are valid and of a kind. No condition.
What a store into one block leaves of other blocks and rows. No condition. -/
import Derived.Test.YtacpchapgklcgaaGreatDoorQ10
import Derived.Test.YtacpchapgklcgaaGreatDoorQ01
section
set_option linter.unusedSimpArgs false
set_option linter.unusedVariables false
namespace Go.Proofs.YtacpchapgklcgaaGreatDoor
open Go Go.RowKit Go.Proofs
set_option maxHeartbeats 400000
def pOfB (m : MachD) (p : ProofD) (kind n : Int) : Bool := machOk m && prfOk p && (p.k == kind) && ((p.ns.length : Int) == n) && ((p.ws.length : Int) == 0)
set_option maxHeartbeats 1000000 in
theorem proofOf_c (v u : Value) (m : MachD) (p : ProofD) (kind n : Int) (w : World) (hm : Mach w v m) (hp : Prf w u p) :
    Calls Tryz.prog 23 #[v, u, .int .i64 kind, .int .i64 n] w fun e w' => e = .returned (.bool (pOfB m p kind n)) ∧ Ext w w' := by
  obtain ⟨rv, rfl, hr⟩ := hm
  obtain ⟨nv, wv, rfl, hn, hw⟩ := hp
  obtain ⟨Ar, cr, rfl, _, _⟩ := hr.form
  obtain ⟨An, cn, rfl, _, _⟩ := hn.form
  obtain ⟨Aw, cw, rfl, _, _⟩ := hw.form
  have hx0 := (Ext.alloc w (.cells #[.int .i64 m.sy, .int .i64 m.st, .slice Ar m.rules.length cr] 26)).trans (Ext.alloc _ (.cells #[.int .i64 p.k, .slice An p.ns.length cn, .slice Aw p.ws.length cw] 36))
  have bP := Blk.new (w.alloc (.cells #[.int .i64 m.sy, .int .i64 m.st, .slice Ar m.rules.length cr] 26)) (w.heap.size + 1) 36 #[.int .i64 p.k, .slice An p.ns.length cn, .slice Aw p.ws.length cw] (by simp)
  have hpOf : ∀ a b c d : Bool, machOk m = a → prfOk p = b → (p.k == kind) = c → ((p.ns.length : Int) == n) = d → pOfB m p kind n = (a && b && c && d && ((p.ws.length : Int) == 0)) := by
    intro a b c d h1 h2 h3 h4
    simp only [pOfB, h1, h2, h3, h4]
  have HP := Lib.hid hpOf
  clear hpOf
  go_enter Tryz.func23, Tryz.ntmps23
  go_wp2_with fail
  refine (ValidMachine_c _ m _ ⟨_, rfl, hr.ext hx0⟩).mono ?_
  rintro e w1 ⟨rfl, hx1⟩
  have b1 := bP.ext hx1
  have q0 := b1.cell 0
  have q1 := b1.cell 1
  have q2 := b1.cell 2
  simp only [List.getElem?_toArray, List.getElem?_cons_zero, List.getElem?_cons_succ] at q0 q1 q2
  have hX1 := hx0.trans hx1
  cases h1 : machOk m with
  | false =>
    have HE : Hid (pOfB m p kind n = false) := by unfold Hid; simp [pOfB, h1]
    clear h1
    go_wp2
    go_ret
    exact ⟨by simp [HE.out], hX1⟩
  | true =>
    have H1 := Lib.hid h1
    clear h1
    go_wp2_with fail
    refine (ValidProof_c _ p _ ⟨_, _, rfl, hn.ext hX1, hw.ext hX1⟩).mono ?_
    rintro e w2 ⟨rfl, hx2⟩
    have hX2 := hX1.trans hx2
    have b2 := b1.ext hx2
    have c0 := b2.cell 0
    have c1 := b2.cell 1
    have c2 := b2.cell 2
    simp only [List.getElem?_toArray, List.getElem?_cons_zero, List.getElem?_cons_succ] at c0 c1 c2
    clear q0 q1 q2
    cases h2 : prfOk p with
    | false =>
      have HE : Hid (pOfB m p kind n = false) := by unfold Hid; simp [pOfB, h2]
      clear h2
      go_wp2
      go_ret
      exact ⟨by simp [HE.out], hX2⟩
    | true =>
      have H2 := Lib.hid h2
      clear h2
      cases h3 : (p.k == kind) with
      | false =>
        have HE : Hid (pOfB m p kind n = false) := by unfold Hid; simp [pOfB, h3]
        go_wp2
        go_ret
        exact ⟨by simp [HE.out], hX2⟩
      | true =>
        cases h4 : ((p.ns.length : Int) == n) with
        | false =>
          have HE : Hid (pOfB m p kind n = false) := by unfold Hid; simp [pOfB, h4]
          go_wp2
          go_ret
          exact ⟨by simp [HE.out], hX2⟩
        | true =>
          have HE : Hid (pOfB m p kind n = ((p.ws.length : Int) == 0)) := by unfold Hid; rw [HP.out _ _ _ _ H1.out H2.out h3 h4]; simp
          go_wp2
          go_ret
          exact ⟨by rw [HE.out]; simp, hX2⟩
end Go.Proofs.YtacpchapgklcgaaGreatDoor
end
section
namespace Go.Proofs.YtacpchapgklcgaaGreatDoor
open Go Go.RowKit Go.Proofs
theorem Blk.kept {w w' : World} {g : Nat} {t : TypeId} {cs : Array Value} {row : Option Nat} (h : Blk w g t cs) (hg : w.grownBy w' row) (hne : some g ≠ row) : Blk w' g t cs := (hg.block g h.lt hne).trans h
theorem blk_ne_row {w : World} {g : Nat} {t : TypeId} {cs : Array Value} (hb : Blk w g t cs) {base : Nat} {e : TypeId} {size : Nat} {v : Value} {n : Nat} {xs : List Value} (ho : w.ownsRow base e size v n xs) (hne : t ≠ e) : some g ≠ v.ownBlock := by
  rcases ho.2 with ⟨rfl, _⟩ | ⟨g', cap, cur, rfl, _, hh, _⟩
  · simp [Value.ownBlock]
  · intro he
    have : g = g' := by simpa [Value.ownBlock] using he
    subst this
    unfold Blk at hb
    rw [hb] at hh
    injection hh with hh
    injection hh with _ ht
    exact hne ht
theorem own_kept {w w' : World} {base : Nat} {e : TypeId} {size : Nat} {v : Value} {n : Nat} {xs : List Value} {g : Nat} (h : w.ownsRow base e size v n xs) (hg : w.grownBy w' (some g)) (hne : some g ≠ v.ownBlock) : w'.ownsRow base e size v n xs := h.kept hg (.inr (Ne.symm hne))
theorem grownBy_setCell (w : World) (p : Addr) (u : Value) : w.grownBy (w.setCell p u) (some p.block) :=
  ⟨rfl, rfl, rfl, by simp [World.setCell], fun k _ hk => Below.heap_setCell w p u k (fun e => hk (by rw [e]))⟩
theorem blk_type {w : World} {g : Nat} {t t' : TypeId} {cs cs' : Array Value} (h : Blk w g t cs) (h' : Blk w g t' cs') : t = t' := by
  unfold Blk at h h'
  rw [h] at h'
  injection h' with h'
  injection h' with _ e
theorem blk_ne {w : World} {g g' : Nat} {t t' : TypeId} {cs cs' : Array Value} (h : Blk w g t cs) (h' : Blk w g' t' cs') (ht : t ≠ t') : g ≠ g' := by
  rintro rfl
  exact ht (blk_type h h')
end Go.Proofs.YtacpchapgklcgaaGreatDoor
end
