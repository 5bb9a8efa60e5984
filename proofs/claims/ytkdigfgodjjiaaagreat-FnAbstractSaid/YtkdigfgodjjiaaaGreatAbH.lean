/- Contract on a machine with two automata: all outlines that are reached. -/
import Derived.Test.YtkdigfgodjjiaaaGreatAbG
import Derived.StillTailTactics
set_option linter.unusedSimpArgs false
set_option linter.unusedVariables false
set_option linter.unusedSectionVars false
set_option maxHeartbeats 4000000
namespace Go.Proofs.YtkdigfgodjjiaaaGreat
open Go Go.RowKit Go.Proofs Go.Maps
/-- Each of the first k outlines has a rule. -/
def rulA (m : MachD) (L R : DfaD) (k : Nat) : Bool := ((rndA m L R k).take k).all fun a => isR (m.rules.getD (a.2.1 * m.sy + a.2.2.1).toNat noR)
theorem rndA_next {m : MachD} {L R : DfaD} {k : Nat} (h : k < (rndA m L R k).length) : rndA m L R (k + 1) = foldA (rndA m L R k) (succA m L R (rndA m L R k)[k]) := by
  rw [rndA, List.getElem?_eq_getElem h]
theorem rulA_next {m : MachD} {L R : DfaD} {k : Nat} (h : k < (rndA m L R k).length) : rulA m L R (k + 1) = (isR (m.rules.getD ((rndA m L R k)[k].2.1 * m.sy + (rndA m L R k)[k].2.2.1).toNat noR) && rulA m L R k) := by
  unfold rulA
  have hp := rndA_prefix m L R k
  have e : (rndA m L R (k + 1)).take (k + 1) = (rndA m L R k).take (k + 1) := by
    obtain ⟨t, ht⟩ := hp
    rw [← ht, List.take_append_of_le_length (by omega)]
  rw [e, List.take_succ_eq_append_getElem h, List.all_append, Bool.and_comm]
  simp
/-- What the closure answers. -/
def CloRes (w : World) (m : MachD) (L R : DfaD) (e : Ending) (w' : World) : Prop :=
  Ext w w' ∧ ((∃ K lv, (rndA m L R K).length ≤ K ∧ (rndA m L R K).length ≤ 3000 ∧ w'.ownsRow w.heap.size 68 4 lv (rndA m L R K).length (ovs (rndA m L R K)) ∧ e = .returned (.tuple #[lv, .bool (rulA m L R K), .bool true])) ∨
    (∃ K, 3000 < (rndA m L R K).length ∧ e = .returned (.tuple #[.slice none 0 0, .bool false, .bool false])))
theorem ovs_at {w : World} {base : Nat} {A : Option Addr} {c : Nat} {l : List Outl} (h : w.ownsRow base 68 4 (.slice A l.length c) l.length (ovs l)) {k : Nat} (hk : k < l.length) :
    ∃ g, A = some ⟨g, 0, none⟩ ∧ w.cell? ⟨g, k * 4, none⟩ = some (.int .i64 l[k].1) ∧ w.cell? ⟨g, k * 4 + 1, none⟩ = some (.int .i64 l[k].2.1) ∧ w.cell? ⟨g, k * 4 + 2, none⟩ = some (.int .i64 l[k].2.2.1) ∧ w.cell? ⟨g, k * 4 + 3, none⟩ = some (.int .i64 l[k].2.2.2) := by
  obtain ⟨g, hA, _, _⟩ := own_at h (by omega)
  obtain ⟨b, off, hA2, hc⟩ := Row.at (ownsRow_row h) hk
  rw [hA] at hA2
  injection hA2 with hA2
  injection hA2 with e1 e2 e3
  subst e1 e2
  have hv : ∀ (l : List Outl) (k : Nat) (hk : k < l.length), (ovs l)[k * 4]? = some (.int .i64 l[k].1) ∧ (ovs l)[k * 4 + 1]? = some (.int .i64 l[k].2.1) ∧ (ovs l)[k * 4 + 2]? = some (.int .i64 l[k].2.2.1) ∧ (ovs l)[k * 4 + 3]? = some (.int .i64 l[k].2.2.2) := by
    intro l
    induction l with
    | nil => intro k hk; simp at hk
    | cons a t ih =>
      intro k hk
      have e : ovs (a :: t) = .int .i64 a.1 :: .int .i64 a.2.1 :: .int .i64 a.2.2.1 :: .int .i64 a.2.2.2 :: ovs t := rfl
      cases k with
      | zero => rw [e]; exact ⟨rfl, rfl, rfl, rfl⟩
      | succ k =>
        have := ih k (by simpa using hk)
        rw [e]
        have e1 : (k + 1) * 4 = k * 4 + 1 + 1 + 1 + 1 := by omega
        rw [e1]
        simpa using this
  obtain ⟨v0, v1, v2, v3⟩ := hv l k hk
  refine ⟨g, hA, ?_, ?_, ?_, ?_⟩
  · have := hc (k * 4) (by omega); rw [Nat.zero_add] at this; rw [this, v0]
  · have := hc (k * 4 + 1) (by omega); rw [Nat.zero_add] at this; rw [this, v1]
  · have := hc (k * 4 + 2) (by omega); rw [Nat.zero_add] at this; rw [this, v2]
  · have := hc (k * 4 + 3) (by omega); rw [Nat.zero_add] at this; rw [this, v3]
set_option maxRecDepth 20000 in
theorem closure_c (v : Value) (m : MachD) (L R : DfaD) (w : World) (hA : Autos w v m L R) (hm : machOk m = true) (hL : dfaOk L m.sy = true) (hR : dfaOk R m.sy = true) :
    Calls Tryz.prog 24 #[v] w (CloRes w m L R) := by
  have hA0 := hA
  obtain ⟨rv, uv, tv, rfl, h1, h2, h3⟩ := hA
  obtain ⟨W, hW⟩ : ∃ W, W = (((w.alloc (.cells #[.int .i64 m.sy, .int .i64 m.st, rv, .int .i64 L.st, uv, .int .i64 R.st, tv] 62)).alloc (.cells #[.slice none 0 0] 64)).alloc (.map #[] 0)).alloc (.cells #[.map (some (w.heap.size + 1 + 1))] 94) := ⟨_, rfl⟩
  have hXW : Ext w W := by rw [hW]; exact (((Ext.alloc _ _).trans (Ext.alloc _ _)).trans (Ext.alloc _ _)).trans (Ext.alloc _ _)
  have bA : Blk W w.heap.size 62 #[.int .i64 m.sy, .int .i64 m.st, rv, .int .i64 L.st, uv, .int .i64 R.st, tv] := by rw [hW]; exact (((Blk.new _ _ _ _ rfl).ext (Ext.alloc _ _)).ext (Ext.alloc _ _)).ext (Ext.alloc _ _)
  have bL : Blk W (w.heap.size + 1) 64 #[.slice none 0 0] := by rw [hW]; exact ((Blk.new _ _ _ _ (by simp)).ext (Ext.alloc _ _)).ext (Ext.alloc _ _)
  have bS : Blk W (w.heap.size + 1 + 1 + 1) 94 #[.map (some (w.heap.size + 1 + 1))] := by rw [hW]; exact Blk.new _ _ _ _ (by simp)
  have hT : TblB Tryz.prog 68 4 outV W (w.heap.size + 1 + 1) 0 (fun _ => false) := by
    have := TblB.made Tryz.prog 68 4 outV ((w.alloc (.cells #[.int .i64 m.sy, .int .i64 m.st, rv, .int .i64 L.st, uv, .int .i64 R.st, tv] 62)).alloc (.cells #[.slice none 0 0] 64))
    simp only [World.size_alloc] at this
    rw [hW]
    exact this.ext (Ext.alloc _ _)
  have hF : FSt w.heap.size W (w.heap.size + 1 + 1 + 1) (w.heap.size + 1) [] (.slice none 0 0) (w.heap.size + 1 + 1) :=
    ⟨bS, bL, ⟨by simp [ovs], .inl ⟨rfl, rfl⟩⟩, hT, by omega, by omega, by omega⟩
  have hfind := find_c w.heap.size W _ _ [] (0, 0, 0, 0) _ _ hF hXW.size (by simp) ⟨by simp, by simp, by simp, by simp⟩
  simp only [outV] at hfind
  have hmm := @run_makeMap Tryz.prog
  generalize hg0 : w.heap.size = g0 at *
  go_enter Tryz.func24, Tryz.ntmps24
  go_wp2_with fail
  rw [← hW]
  clear hW
  refine hfind.mono ?_
  rintro e w1 ⟨rfl, hF1⟩
  have bA1 := hF1.2.2.2 _ _ _ bA (by decide) (by decide)
  have e00 : addA [] (0, 0, 0, 0) = rndA m L R 0 := rfl
  rw [e00] at hF1
  have hb0 : g0 ≤ w1.heap.size := by have := hXW.size; have := hF1.2.2.1; omega
  have HM := Lib.hid hm
  have HL := Lib.hid hL
  have HR := Lib.hid hR
  have HA := Lib.hid hA0
  have hX1 : Ext w w1 := hXW.trans' hF1.2.1 (by omega)
  obtain ⟨lv1, S1⟩ := hF1.1
  have hFr := FRes.refl S1 (Ext.refl _) hb0
  clear hfind hF bL bS hT bA hA0 hm hL hR h1 h2 h3 hmm e00 S1
  go_wp2_with fail
  go_loopw [7, 3] (fun i r wr => ∃ k : Nat, i = .int .i64 k ∧ r = .bool (rulA m L R k) ∧ k ≤ (rndA m L R k).length ∧ (rndA m L R k).length ≤ 3000 ∧ FRes g0 w1 (g0 + 1 + 1 + 1) (g0 + 1) (rndA m L R k) (g0 + 1 + 1) wr) (fun i _ _ => 3001 - (intOf i).toNat)
  case atStart => exact ⟨0, rfl, rfl, by simp [rndA], by simp [rndA], hFr⟩
  case round =>
    obtain ⟨k, rfl, rfl, hk, hlen, hFk⟩ := hrel
    obtain ⟨lv, S⟩ := hFk.1
    have bA2 := hFk.2.2.2 _ _ _ bA1 (by decide) (by decide)
    have bl2 := S.blkL.cell 0
    have fl2 := S.blkL.frozen 0
    have a0 := bA2.cell 0
    have a1 := bA2.cell 1
    have a2 := bA2.cell 2
    have a3 := bA2.cell 3
    have a4 := bA2.cell 4
    have a5 := bA2.cell 5
    have a6 := bA2.cell 6
    simp only [List.getElem?_toArray, List.getElem?_cons_zero, List.getElem?_cons_succ] at bl2 a0 a1 a2 a3 a4 a5 a6
    obtain ⟨Al, cl, rfl, _, _, _⟩ := (ownsRow_row S.own).form
    have hXk : Ext w wr := hX1.trans' hFk.2.1 (by omega)
    have hOwn := Lib.hid S.own
    by_cases hlt : k < (rndA m L R k).length
    · obtain ⟨gl, rfl, l0, l1, l2, l3⟩ := ovs_at S.own hlt
      have hnx := rndA_next (m := m) (L := L) (R := R) hlt
      have hrl := rulA_next (m := m) (L := L) (R := R) hlt
      have hok := rndA_ok HM.out HL.out HR.out k _ (List.getElem_mem hlt)
      have hsuc := successors_c g0 w wr.drew (g0 + 1 + 1 + 1) (g0 + 1) (rndA m L R k) _ (g0 + 1 + 1) _ m L R (rndA m L R k)[k] (S.ext (Ext.drew _)) HA.out (hXk.trans (Ext.drew _)) (by omega) (by omega) HM.out HL.out HR.out hok
      have hkn0 : Hid (k + 1 ≤ (rndA m L R (k + 1)).length) := Lib.hid (by
        have := (rndA_prefix m L R k).length_le
        omega)
      have hNX := Lib.hid hnx
      have hRL := Lib.hid hrl
      clear hnx hrl hok
      have hlN : Hid ((rndA m L R k).length ≤ 3000) := Lib.hid hlen
      simp only [outV] at hsuc
      rw [← hNX.out] at hsuc
      have hRL2 : Hid ((isR (m.rules.getD ((rndA m L R k)[k].2.1 * m.sy + (rndA m L R k)[k].2.2.1).toNat noR) && rulA m L R k) = rulA m L R (k + 1)) := Lib.hid hRL.out.symm
      generalize isR (m.rules.getD ((rndA m L R k)[k].2.1 * m.sy + (rndA m L R k)[k].2.2.1).toNat noR) = q at *
      generalize (rndA m L R k)[k] = x at *
      generalize rulA m L R k = rk at *
      generalize (rndA m L R k).length = n at *
      go_wp2_with fail
      go_still_tail 6, (by kernel_rfl)
      change wpList _ _ _ _ _ wr.drew
      go_wp2_with fail
      refine hsuc.mono ?_
      rintro e w2 ⟨rfl, hF2⟩
      have hF3 := (hFk.ext (Ext.drew _) hb0).trans hF2
      obtain ⟨lv2, S2⟩ := hF2.1
      obtain ⟨A2, c2, rfl, g2, g2', _⟩ := (ownsRow_row S2.own).form
      have u2 := S2.blkL.cell 0
      have f2 := S2.blkL.frozen 0
      simp only [List.getElem?_toArray, List.getElem?_cons_zero, List.getElem?_cons_succ] at u2
      have hs2 : Ext w w2 := hX1.trans' hF3.2.1 (by omega)
      clear bl2 fl2 a0 a1 a2 a3 a4 a5 a6 l0 l1 l2 l3 hF2 S2 S hsuc
      have hlt2 := Lib.hid hlt
      obtain ⟨n2, hn2⟩ : ∃ n2, n2 = (rndA m L R (k + 1)).length := ⟨_, rfl⟩
      rw [← hn2] at u2 g2
      have hN2 := Lib.hid hn2
      clear hn2
      have hkn : k + 1 ≤ n2 := by
        have := hkn0.out
        rw [← hN2.out] at this
        exact this
      by_cases h3 : 3000 < n2
      · have hi3 : (3000 : Int) < (n2 : Int) := by omega
        cases q <;> cases rk
        all_goals
          go_wp2
          refine bodyPost_ret (v := .tuple #[.slice none 0 0, .bool false, .bool false]) (by simp [results, Tryz.results24, go_sem, u2]) rfl ⟨?_, .inr ⟨k + 1, by rw [← hN2.out]; exact h3, rfl⟩⟩
          exact hs2.setCell (p := ⟨g0 + 1, 0, none⟩) (by simp; omega) _
      · have hi3 : ¬ (3000 : Int) < (n2 : Int) := by omega
        have hR2 := hRL2
        cases q <;> cases rk
        all_goals
          go_wp2
          go_roundw
          case rel => exact ⟨k + 1, by go_num, by rw [← hRL2.out]; rfl, by rw [← hN2.out]; exact hkn, by rw [← hN2.out]; omega, hF3⟩
          case measure => simp [intOf]; omega
    · have hk' : k = (rndA m L R k).length := by omega
      have hlN : Hid ((rndA m L R k).length ≤ 3000 ∧ (rndA m L R k).length ≤ k) := Lib.hid ⟨hlen, by omega⟩
      obtain ⟨n, hn⟩ : ∃ n, n = (rndA m L R k).length := ⟨_, rfl⟩
      have hOwn2 : Hid (wr.ownsRow w.heap.size 68 4 (.slice Al n cl) n (ovs (rndA m L R k))) := Lib.hid (by rw [hg0, hn]; exact hOwn.out)
      have hN := Lib.hid hn
      rw [← hn] at bl2 hk' hlt
      clear hlen hk hn
      have hS := Lib.hid S
      clear S
      go_wp2
      refine bodyPost_ret (v := .tuple #[.slice Al n cl, .bool (rulA m L R k), .bool true]) (by simp [results, Tryz.results24, go_sem, bl2]) rfl ?_
      have hE : (rulA m L R k) = rulA m L R k := rfl
      have hs3 : Ext w (wr.setCell ⟨g0 + 1, 0, none⟩ (.slice Al n cl)) := hXk.setCell (p := ⟨g0 + 1, 0, none⟩) (by simp; omega) _
      have hown : (wr.setCell ⟨g0 + 1, 0, none⟩ (.slice Al n cl)).ownsRow w.heap.size 68 4 (.slice Al n cl) n (ovs (rndA m L R k)) :=
        own_kept hOwn2.out (grownBy_setCell wr ⟨g0 + 1, 0, none⟩ (.slice Al n cl)) (blk_ne_row hS.out.blkL hOwn2.out (by decide))
      rw [hN.out] at hown ⊢
      refine ⟨by rw [hN.out] at hs3; exact hs3, .inl ⟨k, _, hlN.out.2, hlN.out.1, hown, rfl⟩⟩
end Go.Proofs.YtkdigfgodjjiaaaGreat
