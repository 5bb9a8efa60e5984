/- Contract of the reference's list of the partial configurations at which a machine halts. The machine is valid. -/
import Derived.Test.YtdkdmcaehinkhaaDoorHalt
namespace Go.Proofs.YtdkdmcaehinkhaaDoor
open Go Go.RowKit Go.Proofs
set_option maxHeartbeats 400000
theorem partsOf_yes {sy : Int} {rs : List RuleD} {k : Nat} (hk : k < rs.length) (h : rs[k] = noR) : partsOf sy (freeTo rs (k + 1)) = partsOf sy (freeTo rs k) ++ [((k : Int) / sy, (k : Int) % sy)] := by
  rw [freeTo_yes hk h]; simp [partsOf]
/-- A machine in a block of its own. -/
def MachBlk (w : World) (b : Nat) (m : MachD) (rv : Value) : Prop := Blk w b 31 #[.int .i64 m.sy, .int .i64 m.st, rv]
theorem l26Halting_c (b : Nat) (m : MachD) (rv : Value) (w : World) (hM : MachBlk w b m rv) (hr : Rules w rv m.rules) (hn : m.rules.length ≤ 6000) (h1 : 2 ≤ m.sy) (h2 : m.sy ≤ 6) :
    Calls Tryd.prog 70 #[.pointer (some ⟨b, 0, none⟩)] w fun e w' => ∃ u, e = .returned u ∧ OwnParts w.heap.size w' u (partsOf m.sy (freeTo m.rules m.rules.length)) ∧ Ext w w' := by
  obtain ⟨A, c, rfl, h3, h3'⟩ := hr.form
  obtain ⟨i0, hi, hz0, hz1, hz2⟩ := info_parts partInfo
  have hs0 : ¬ m.sy = 0 := by omega
  go_enter Tryd.func70, Tryd.ntmps70
  go_wp2
  have hown0 : (w.alloc (.cells #[] 104)).ownsRow w.heap.size 104 3 (.slice (some ⟨w.heap.size, 0, none⟩) 0 0) 0 [] :=
    World.ownsRow_made (base := w.heap.size) (e := 104) (size := 3) w #[] 0 (by simp) (by unfold maxLen; omega) (by simp)
  go_loopw [3, 4] (fun l i wr => ∃ k : Nat, k ≤ m.rules.length ∧ i = .int .i64 k ∧ Ext w wr ∧ OwnParts w.heap.size wr l (partsOf m.sy (freeTo m.rules k))) (fun _ i _ => m.rules.length - (intOf i).toNat)
  case atStart => exact ⟨0, Nat.zero_le _, rfl, Ext.alloc _ _, ⟨[], hown0, fun i hi => by simp [partsOf, freeTo] at hi⟩⟩
  case round =>
    clear hown0
    obtain ⟨k, hk, rfl, hX, ho⟩ := hrel
    obtain ⟨Al, cl, rfl, h6, h6'⟩ := ho.form
    have hpl := freeTo_length m.rules k
    have bM := Blk.ext hM hX
    have cM := bM.cell 0
    have cM2 := bM.cell 2
    simp only [List.getElem?_toArray, List.getElem?_cons_zero, List.getElem?_cons_succ] at cM cM2
    by_cases hlt : k < m.rules.length
    · obtain ⟨b', off, rfl, hc⟩ := hr.at hlt
      obtain ⟨c0, c1, c2⟩ := hc k hlt
      have c0 := cellR (hX.cell c0)
      have c1 := cellR (hX.cell c1)
      have c2 := cellR (hX.cell c2)
      have dM := cellR cM2
      have rn := ruleEql_run
      clear hc
      have heb : ∀ q, rEq m.rules[k] noR = q → rEq ⟨m.rules[k].w, m.rules[k].m, m.rules[k].n⟩ ⟨0, 0, -1⟩ = q := fun _ h => h
      by_cases he : m.rules[k] = noR
      · have H := heb true (by simp [rEq, he])
        have HP := Lib.hid (partsOf_yes (sy := m.sy) hlt he)
        clear heb he
        go_wp2
        refine wp_region_ext (by kernel_rfl) (by kernel_rfl) ?_
        repeat (go_big_quiet_step ((go_at_call 69; exact Calls.extR (l05None_c _))))
        refine wpQuiet_nil ?_
        intro w2 hx2
        clear c0 c1 c2 dM rn
        have ho := ho.ext hx2
        have hX := hX.trans hx2
        have bM := bM.ext hx2
        have cM := hx2.cell cM
        clear cM2
        obtain ⟨vs, o1, o2⟩ := ho
        obtain ⟨q1, hq1⟩ : ∃ q, (k : Int) / m.sy = q := ⟨_, rfl⟩
        obtain ⟨q2, hq2⟩ : ∃ q, (k : Int) % m.sy = q := ⟨_, rfl⟩
        have hw : IntKind.i64.wrap q1 = q1 := by
          have e1 : 0 ≤ (k : Int) / m.sy := Int.ediv_nonneg (by omega) (by omega)
          have e2 : (k : Int) / m.sy ≤ k := Int.ediv_le_self _ (by omega)
          exact IntWalk.i64_in _ (by omega)
        have hd : (k : Int).tdiv m.sy = q1 := by rw [Int.tdiv_eq_ediv_of_nonneg (by omega)]; exact hq1
        have hm : (k : Int).tmod m.sy = q2 := by rw [Int.tmod_eq_emod_of_nonneg (by omega)]; exact hq2
        rw [hq1, hq2] at HP
        have hsz := hX.size
        have hkl : (partsOf m.sy (freeTo m.rules k)).length ≤ 6000 := by simp [partsOf]; omega
        go_wp2_with fail
        set_option maxRecDepth 20000 in
        go_region_held3 (fun w' => w'.cell? ⟨b, 0, none⟩ = some (.int .i64 m.sy))
          (first | go_keep | exact hkeep)
          ((refine step_append_lies _ (by rfl) _ _ _ (by rfl) w.heap.size 104 i0 _ 3 40 Tryd.underlying101 hi hz0 hz1 hz2 rfl (by omega) _ _ vs (by rfl) (((o1.alloc _).alloc _).drew) ⟨w2.heap.size + 1, 0, none⟩ 1 1 [.int .i64 q1, .int .i64 0, .slice (some ⟨w2.heap.size, 0, none⟩) 1 1] (by rfl) (by rfl) (World.news_of_block (cs := #[.int .i64 q1, .int .i64 0, .slice (some ⟨w2.heap.size, 0, none⟩) 1 1]) (t := 104) (fr := (0, 0)) (Blk.new _ (w2.heap.size + 1) _ _ (by simp))) (by simp [Value.oneCell']) (by omega) (by unfold maxLen; omega) (by omega) (by simp; omega) (w2.heap.size + 1 + 1) (by simp) ?_; intro gg cap w3 hown3 hgrow hat hlt3; have bM3 := Blk.apart (((bM.alloc _).alloc _).drew) (((o1.alloc _).alloc _).drew) (by decide) hgrow; have hkeep := bM3.cell 0; simp only [List.getElem?_toArray, List.getElem?_cons_zero] at hkeep))
        have R : OwnParts w.heap.size w3 (.slice (some ⟨gg, 0, none⟩) ((partsOf m.sy (freeTo m.rules k)).length + 1) cap) (partsOf m.sy (freeTo m.rules (k + 1))) := by
          rw [HP.out]
          refine OwnParts.snoc (((o1.alloc _).alloc _).drew) (fun i hi => ?_) (((Blk.new w2 w2.heap.size _ _ rfl).alloc _).drew) hown3 hgrow
          obtain ⟨b, e0, e1, e2, hb⟩ := o2 i hi
          exact ⟨b, e0, e1, e2, ((hb.alloc _).alloc _).drew⟩
        have hX3 : Ext w w3 := (((hX.trans (Ext.alloc _ _)).trans (Ext.alloc _ _)).trans (Ext.drew _)).grown hgrow (fun b hb => (o1.lt b hb).1)
        clear o1 o2 hown3 hgrow hat cM hkeep bM
        go_wp2
        go_roundw
        case rel => exact ⟨k + 1, by omega, by go_num, hX3, R⟩
        case measure => simp [intOf]; omega
      · have H := heb false (by simp [rEq, he])
        have HP := Lib.hid (freeTo_no hlt he)
        clear heb he
        go_wp2
        refine wp_region_ext (by kernel_rfl) (by kernel_rfl) ?_
        repeat (go_big_quiet_step ((go_at_call 69; exact Calls.extR (l05None_c _))))
        refine wpQuiet_nil ?_
        intro w2 hx2
        clear c0 c1 c2 dM rn
        go_wp2
        go_roundw
        case rel => exact ⟨k + 1, by omega, by go_num, hX.trans hx2, by rw [HP.out]; exact ho.ext hx2⟩
        case measure => simp [intOf]; omega
    · have hke : k = m.rules.length := by omega
      have HK := Lib.hid hke
      clear hke hpl
      go_wp2
      go_ret
      exact ⟨_, rfl, by rw [← HK.out]; exact ho, hX⟩
end Go.Proofs.YtdkdmcaehinkhaaDoor
