/- Contracts of the program's list of the places without a rule. The machine has at most 6000 rules.
Contracts of the lists of the partial configurations at which a machine halts, the program's and the reference's. The machine is valid.
Contract of the reference's list of the partial configurations at which a machine halts. The machine is valid. -/
import Derived.Test.YtmffnlpndgdcjaaGreatDoorValid
import Derived.Test.YtmffnlpndgdcjaaGreatDoorLaws
import Derived.Deep.RegionHeld3
import Derived.Deep.AppendLies
namespace Go.Proofs.YtmffnlpndgdcjaaGreatDoor
open Go Go.RowKit Go.Proofs
set_option maxHeartbeats 400000
theorem intInfo : (Tryz.prog.info? 2).map (fun i => (i.zero, i.size, i.bytes)) = some (some (.int .i64 0), 1, 8) := by kernel_rfl
def freeTo (rs : List RuleD) (k : Nat) : List Int := (List.range k).filterMap fun (j : Nat) => if rs[j]? = some noR then some (Int.ofNat j) else none
theorem freeTo_yes {rs : List RuleD} {k : Nat} (hk : k < rs.length) (h : rs[k] = noR) : freeTo rs (k + 1) = freeTo rs k ++ [(k : Int)] := by
  simp [freeTo, List.range_succ, hk, h]
theorem freeTo_no {rs : List RuleD} {k : Nat} (hk : k < rs.length) (h : ¬ rs[k] = noR) : freeTo rs (k + 1) = freeTo rs k := by
  simp [freeTo, List.range_succ, hk, h]
theorem freeTo_length (rs : List RuleD) (k : Nat) : (freeTo rs k).length ≤ k := by
  unfold freeTo
  exact Nat.le_trans (List.length_filterMap_le _ _) (by simp)
theorem isR_mk (r : RuleD) : isR ⟨r.w, r.m, r.n⟩ = isR r := rfl
theorem freeRules_c (v : Value) (m : MachD) (w : World) (h : Mach w v m) (hn : m.rules.length ≤ 6000) :
    Calls Tryz.prog 71 #[v] w fun e w' => ∃ u, e = .returned u ∧ OwnInts w.heap.size w' u (freeTo m.rules m.rules.length) ∧ Ext w w' := by
  obtain ⟨rv, rfl, hr⟩ := h
  obtain ⟨A, c, rfl, h2, h2'⟩ := hr.form
  obtain ⟨i0, hi, hz0, hz1, hz2⟩ := info_parts intInfo
  go_enter Tryz.func71, Tryz.ntmps71
  go_wp2
  have hx0 := (Ext.alloc w (.cells #[.int .i64 m.sy, .int .i64 m.st, .slice A m.rules.length c] 26)).trans (Ext.alloc _ (.cells #[] 2))
  have hown0 : ((w.alloc (.cells #[.int .i64 m.sy, .int .i64 m.st, .slice A m.rules.length c] 26)).alloc (.cells #[] 2)).ownsRow w.heap.size 2 1 (.slice (some ⟨w.heap.size + 1, 0, none⟩) 0 0) 0 [] := by
    have := World.ownsRow_made (base := w.heap.size) (e := 2) (size := 1) (w.alloc (.cells #[.int .i64 m.sy, .int .i64 m.st, .slice A m.rules.length c] 26)) #[] 0 (by simp) (by unfold maxLen; omega) (by simp)
    simpa using this
  generalize hW : (w.alloc (.cells #[.int .i64 m.sy, .int .i64 m.st, .slice A m.rules.length c] 26)).alloc (.cells #[] 2) = W at *
  clear hW
  go_loopw [3, 10] (fun l i wr => ∃ k : Nat, k ≤ m.rules.length ∧ i = .int .i64 k ∧ Ext w wr ∧ OwnInts w.heap.size wr l (freeTo m.rules k)) (fun _ i _ => m.rules.length - (intOf i).toNat)
  case atStart => exact ⟨0, Nat.zero_le _, rfl, hx0, hown0⟩
  case round =>
    obtain ⟨k, hk, rfl, hx, ho⟩ := hrel
    obtain ⟨Al, cl, rfl, h3, h3'⟩ := ho.ints.form
    have hfl := freeTo_length m.rules k
    clear hown0 hx0
    by_cases hlt : k < m.rules.length
    · obtain ⟨b', off, rfl, hc⟩ := hr.at hlt
      obtain ⟨c0, c1, c2⟩ := hc k hlt
      have c0 := hx.cell c0
      have c1 := hx.cell c1
      have c2 := hx.cell c2
      clear hc
      go_wp2_with fail
      refine (isRule_c _ _ _ _).mono ?_
      rintro e w2 ⟨rfl, hx2⟩
      have hx2' := (Ext.alloc _ _).trans hx2
      rw [isR_mk]
      have ho2 := ho.ext hx2'
      have hX := hx.trans hx2'
      clear c0 c1 c2 hx2 hx2'
      by_cases he : m.rules[k] = noR
      · have H : isR m.rules[k] = false := by simp [isR, rEq, he]
        have HE := Lib.hid (freeTo_yes hlt he)
        clear he
        go_wp2_with (at_builtin; refine wpList_append_own _ rfl _ _ 35 rfl w.heap.size 2 i0 (.int .i64 0) 1 8 Tryz.underlying35 hi hz0 hz1 hz2 rfl (by decide) _ _ _ rfl (ho2.alloc _) ⟨w2.heap.size, 0, none⟩ 1 1 [.int .i64 k] rfl rfl ?c1 ?c2 ?c3 ?c4 ?c5 ?_)
        case c1 =>
          intro j u hj
          match j, hj with
          | 0, hj => simp at hj; subst hj; simp [Addr.add]
        case c2 => intro u hu; simp at hu; subst hu; rfl
        case c3 => unfold maxLen; omega
        case c4 => omega
        case c5 => have := hX.size; simp; omega
        intro v' w3 hown' hgrow _
        have hX3 : Ext w w3 := hX.grown (grownBy_trans (World.grownBy_alloc _ _ _) hgrow) (fun b hb => (ho2.lt b hb).1)
        have R : OwnInts w.heap.size w3 v' (freeTo m.rules (k + 1)) := by
          rw [HE.out]
          unfold OwnInts
          rw [ivs_append, List.length_append]
          exact hown'
        clear hown' hgrow ho2 ho
        go_wp2
        go_roundw
        case rel => exact ⟨k + 1, by omega, by go_num, hX3, R⟩
        case measure => simp [intOf]; omega
      · have H : isR m.rules[k] = true := by simp [isR, rEq, he]
        have HE := Lib.hid (freeTo_no hlt he)
        clear he
        go_wp2
        go_roundw
        case rel => exact ⟨k + 1, by omega, by go_num, hX, by rw [HE.out]; exact ho2⟩
        case measure => simp [intOf]; omega
    · have hke : k = m.rules.length := by omega
      go_wp2
      go_ret
      exact ⟨_, rfl, hke ▸ ho, hx⟩
end Go.Proofs.YtmffnlpndgdcjaaGreatDoor
namespace Go.Proofs.YtmffnlpndgdcjaaGreatDoor
open Go Go.RowKit Go.Proofs
set_option maxHeartbeats 400000
theorem partInfo : (Tryz.prog.info? 91).map (fun i => (i.zero, i.size, i.bytes)) = some (some (.agg #[.int .i64 0, .int .i64 0, .slice none 0 0]), 3, 40) := by kernel_rfl
/-- Partial configurations, each a state and one symbol, in memory of the call's own. -/
def OwnParts (base : Nat) (w : World) (v : Value) (ps : List (Int × Int)) : Prop :=
  ∃ vs, w.ownsRow base 91 3 v ps.length vs ∧ ∀ i, (h : i < ps.length) → ∃ b, vs[i * 3]? = some (.int .i64 ps[i].1) ∧ vs[i * 3 + 1]? = some (.int .i64 0) ∧ vs[i * 3 + 2]? = some (.slice (some ⟨b, 0, none⟩) 1 1) ∧ Blk w b 2 #[.int .i64 ps[i].2]
theorem OwnParts.ext {base : Nat} {w w' : World} {v : Value} {ps : List (Int × Int)} (h : OwnParts base w v ps) (he : Ext w w') : OwnParts base w' v ps := by
  obtain ⟨vs, h1, h2⟩ := h
  refine ⟨vs, ownsRow_ext h1 he, fun i hi => ?_⟩
  obtain ⟨b, e0, e1, e2, hb⟩ := h2 i hi
  exact ⟨b, e0, e1, e2, hb.ext he⟩
theorem OwnParts.form {base : Nat} {w : World} {v : Value} {ps : List (Int × Int)} (h : OwnParts base w v ps) : ∃ A c, v = .slice A ps.length c ∧ ps.length ≤ c ∧ c ≤ 9223372036854775807 := by
  obtain ⟨vs, h1, _⟩ := h
  obtain ⟨A, c, hv, h1, h2, _⟩ := (ownsRow_row h1).form
  exact ⟨A, c, hv, h1, h2⟩
theorem OwnParts.at {base : Nat} {w : World} {A : Option Addr} {c : Nat} {ps : List (Int × Int)} (h : OwnParts base w (.slice A ps.length c) ps) {k : Nat} (hk : k < ps.length) :
    ∃ g, A = some ⟨g, 0, none⟩ ∧ ∃ b, w.cell? ⟨g, k * 3, none⟩ = some (.int .i64 ps[k].1) ∧ w.cell? ⟨g, k * 3 + 1, none⟩ = some (.int .i64 0) ∧ w.cell? ⟨g, k * 3 + 2, none⟩ = some (.slice (some ⟨b, 0, none⟩) 1 1) ∧ Blk w b 2 #[.int .i64 ps[k].2] := by
  obtain ⟨vs, h1, h2⟩ := h
  obtain ⟨g, rfl, _, _⟩ := own_at h1 (by omega)
  obtain ⟨b, e0, e1, e2, hb⟩ := h2 k hk
  exact ⟨g, rfl, b, by rw [h1.cellAt _ (by omega), e0], by rw [h1.cellAt _ (by omega), e1], by rw [h1.cellAt _ (by omega), e2], hb⟩
theorem OwnParts.snoc {base : Nat} {w w' : World} {v v' : Value} {ps : List (Int × Int)} {b : Nat} {q s : Int} {vs : List Value} (h1 : w.ownsRow base 91 3 v ps.length vs)
    (h2 : ∀ i, (h : i < ps.length) → ∃ b, vs[i * 3]? = some (.int .i64 ps[i].1) ∧ vs[i * 3 + 1]? = some (.int .i64 0) ∧ vs[i * 3 + 2]? = some (.slice (some ⟨b, 0, none⟩) 1 1) ∧ Blk w b 2 #[.int .i64 ps[i].2])
    (hb : Blk w b 2 #[.int .i64 s]) (ho : w'.ownsRow base 91 3 v' (ps.length + 1) (vs ++ [.int .i64 q, .int .i64 0, .slice (some ⟨b, 0, none⟩) 1 1])) (hg : w.grownBy w' v.ownBlock) :
    OwnParts base w' v' (ps ++ [(q, s)]) := by
  have hl := h1.1
  have keep : ∀ {b : Nat} {cs : Array Value}, Blk w b 2 cs → Blk w' b 2 cs := by
    intro b cs hb
    refine (hg.block b hb.lt ?_).trans hb
    intro e
    rcases h1.2 with ⟨rfl, _⟩ | ⟨g, cap, cur, rfl, _, hh, _⟩
    · simp [Value.ownBlock] at e
    · have : b = g := by simpa [Value.ownBlock] using e
      subst this
      unfold Blk at hb
      rw [hb] at hh
      injection hh with hh
      injection hh with _ ht
      exact absurd ht (by decide)
  refine ⟨_, by simpa using ho, fun i hi => ?_⟩
  by_cases h : i < ps.length
  · obtain ⟨b', e0, e1, e2, hb'⟩ := h2 i h
    refine ⟨b', ?_, ?_, ?_, ?_⟩
    · rw [List.getElem?_append_left (by omega), e0, List.getElem_append_left h]
    · rw [List.getElem?_append_left (by omega), e1]
    · rw [List.getElem?_append_left (by omega), e2]
    · rw [List.getElem_append_left h]; exact keep hb'
  · have hie : i = ps.length := by simp at hi; omega
    subst hie
    refine ⟨b, ?_, ?_, ?_, by simpa using keep hb⟩
    · rw [List.getElem?_append_right (by omega), hl]; simp
    · rw [List.getElem?_append_right (by omega), hl]; simp
    · rw [List.getElem?_append_right (by omega), hl]; simp
/-- The states and symbols of indices. -/
def partsOf (sy : Int) (zs : List Int) : List (Int × Int) := zs.map fun z => (z / sy, z % sy)
theorem freeTo_get (rs : List RuleD) (k j : Nat) (h : j < (freeTo rs k).length) : 0 ≤ (freeTo rs k)[j] ∧ (freeTo rs k)[j] < k := by
  have hm := List.getElem_mem h
  generalize (freeTo rs k)[j] = z at *
  simp only [freeTo, List.mem_filterMap, List.mem_range] at hm
  obtain ⟨i, hi, e⟩ := hm
  split at e
  · injection e with e; subst e; simp; omega
  · cases e
theorem partsOf_take (sy : Int) (zs : List Int) (k : Nat) (h : k < zs.length) : partsOf sy (zs.take (k + 1)) = partsOf sy (zs.take k) ++ [(zs[k] / sy, zs[k] % sy)] := by
  unfold partsOf; rw [List.take_succ_eq_append_getElem h, List.map_append]; rfl
theorem haltingPartials_c (v : Value) (m : MachD) (w : World) (h : Mach w v m) (hn : m.rules.length ≤ 6000) (h1 : 2 ≤ m.sy) (h2 : m.sy ≤ 6) :
    Calls Tryz.prog 51 #[v] w fun e w' => ∃ u, e = .returned u ∧ OwnParts w.heap.size w' u (partsOf m.sy (freeTo m.rules m.rules.length)) ∧ Ext w w' := by
  obtain ⟨rv, rfl, hr⟩ := h
  obtain ⟨A, c, rfl, h3, h3'⟩ := hr.form
  obtain ⟨i0, hi, hz0, hz1, hz2⟩ := info_parts partInfo
  go_enter Tryz.func51, Tryz.ntmps51
  go_wp2_with fail
  refine (freeRules_c _ m _ ⟨_, rfl, hr.ext ((Ext.alloc _ _).trans (Ext.alloc _ _))⟩ hn).mono ?_
  rintro e w1 ⟨u, rfl, hu, hx1⟩
  have hX : Ext w w1 := ((Ext.alloc _ _).trans (Ext.alloc _ _)).trans hx1
  have bM := ((Blk.new w w.heap.size _ _ rfl).alloc (.cells #[] 91)).ext hx1
  have hown0 : w1.ownsRow w.heap.size 91 3 (.slice (some ⟨w.heap.size + 1, 0, none⟩) 0 0) 0 [] := by
    refine ownsRow_ext ?_ hx1
    have := World.ownsRow_made (base := w.heap.size) (e := 91) (size := 3) (w.alloc (.cells #[.int .i64 m.sy, .int .i64 m.st, .slice A m.rules.length c] 26)) #[] 0 (by simp) (by unfold maxLen; omega) (by simp)
    simpa using this
  have hfg := freeTo_get m.rules m.rules.length
  have hfl := freeTo_length m.rules m.rules.length
  generalize hZ : freeTo m.rules m.rules.length = zs at *
  have HZ := Lib.hid hZ
  clear hZ
  obtain ⟨Az, cz, rfl, h5, h5'⟩ := hu.ints.form
  clear hx1 hr
  obtain ⟨bz, hu⟩ : ∃ bz, OwnInts bz w1 (.slice Az zs.length cz) zs := ⟨_, hu⟩
  go_wp2
  go_loopw [3, 10] (fun l i wr => ∃ k : Nat, k ≤ zs.length ∧ i = .int .i64 k ∧ Ext w wr ∧ OwnInts bz wr (.slice Az zs.length cz) zs ∧ Blk wr w.heap.size 26 #[.int .i64 m.sy, .int .i64 m.st, .slice A m.rules.length c] ∧ OwnParts w.heap.size wr l (partsOf m.sy (zs.take k))) (fun _ i _ => zs.length - (intOf i).toNat)
  case atStart => exact ⟨0, Nat.zero_le _, rfl, hX, hu, bM, ⟨[], by simpa [partsOf] using hown0, fun i hi => by simp [partsOf] at hi⟩⟩
  case round =>
    clear hX hu bM hown0
    obtain ⟨k, hk, rfl, hX, hu, bM, ho⟩ := hrel
    obtain ⟨Al, cl, rfl, h6, h6'⟩ := ho.form
    have hpl : (partsOf m.sy (zs.take k)).length = k := by simp [partsOf]; omega
    by_cases hlt : k < zs.length
    · obtain ⟨b', off, rfl, hc⟩ := hu.ints.at hlt
      have c0 := hc k hlt
      have cM := bM.cell 0
      simp only [List.getElem?_toArray, List.getElem?_cons_zero] at cM
      obtain ⟨g0, g1⟩ := hfg k hlt
      have HP := Lib.hid (partsOf_take m.sy zs k hlt)
      obtain ⟨vs, o1, o2⟩ := ho
      have HL := Lib.hid hpl
      clear hc hfg
      have hsz := hX.size
      have hkl : (partsOf m.sy (zs.take k)).length ≤ 6000 := by omega
      clear hpl
      have hs0 : ¬ m.sy = 0 := by omega
      have hq : IntKind.i64.wrap (zs[k].tdiv m.sy) = zs[k] / m.sy := by
        have e1 : 0 ≤ zs[k] / m.sy := Int.ediv_nonneg g0 (by omega)
        have e2 : zs[k] / m.sy ≤ zs[k] := Int.ediv_le_self _ g0
        rw [Int.tdiv_eq_ediv_of_nonneg g0]; exact IntWalk.i64_in _ (by omega)
      have hm : zs[k].tmod m.sy = zs[k] % m.sy := Int.tmod_eq_emod_of_nonneg g0
      generalize zs[k] / m.sy = q1 at *
      generalize zs[k] % m.sy = q2 at *
      go_wp2_with fail
      set_option maxRecDepth 20000 in
      go_region_held3 (fun w' => w'.cell? ⟨w.heap.size, 0, none⟩ = some (.int .i64 m.sy))
        (first | go_keep | exact hkeep)
        ((refine step_append_lies _ (by rfl) _ _ _ (by rfl) w.heap.size 91 i0 _ 3 40 Tryz.underlying88 hi hz0 hz1 hz2 rfl (by omega) _ _ vs (by rfl) (((o1.alloc _).alloc _).drew) ⟨wr.heap.size + 1, 0, none⟩ 1 1 [.int .i64 q1, .int .i64 0, .slice (some ⟨wr.heap.size, 0, none⟩) 1 1] (by rfl) (by rfl) (World.news_of_block (cs := #[.int .i64 q1, .int .i64 0, .slice (some ⟨wr.heap.size, 0, none⟩) 1 1]) (t := 91) (fr := (0, 0)) (Blk.new _ (wr.heap.size + 1) _ _ (by simp))) (by simp [Value.oneCell']) (by omega) (by unfold maxLen; omega) (by omega) (by simp; omega) (wr.heap.size + 1 + 1) (by simp) ?_;intro gg cap w3 hown3 hgrow hat hlt3; have bM3 := Blk.apart (((bM.alloc _).alloc _).drew) (((o1.alloc _).alloc _).drew) (by decide) hgrow; have hkeep := bM3.cell 0; simp only [List.getElem?_toArray, List.getElem?_cons_zero] at hkeep))
      have R : OwnParts w.heap.size w3 (.slice (some ⟨gg, 0, none⟩) ((partsOf m.sy (zs.take k)).length + 1) cap) (partsOf m.sy (zs.take (k + 1))) := by
        rw [HP.out]
        refine OwnParts.snoc (((o1.alloc _).alloc _).drew) (fun i hi => ?_) (((Blk.new wr wr.heap.size _ _ rfl).alloc _).drew) hown3 hgrow
        obtain ⟨b, e0, e1, e2, hb⟩ := o2 i hi
        exact ⟨b, e0, e1, e2, ((hb.alloc _).alloc _).drew⟩
      have hX3 : Ext w w3 := (((hX.trans (Ext.alloc _ _)).trans (Ext.alloc _ _)).trans (Ext.drew _)).grown hgrow (fun b hb => (o1.lt b hb).1)
      have hu3 : OwnInts bz w3 (.slice (some ⟨b', off, none⟩) zs.length cz) zs := World.ownsRow.kept (((hu.alloc _).alloc _).drew) hgrow (own_ne hu o1 (by decide))
      clear o1 o2 hown3 hgrow hat hu c0 cM hkeep bM
      go_wp2
      go_roundw
      case rel => exact ⟨k + 1, by omega, by go_num, hX3, hu3, bM3, R⟩
      case measure => simp [intOf]; omega
    · have hke : zs.take k = zs := List.take_of_length_le (by omega)
      have HK := Lib.hid hke
      clear hke hpl
      go_wp2
      go_ret
      exact ⟨_, rfl, by rw [HZ.out]; have := ho; rw [HK.out] at this; rw [HK.out]; exact this, hX⟩
end Go.Proofs.YtmffnlpndgdcjaaGreatDoor
namespace Go.Proofs.YtmffnlpndgdcjaaGreatDoor
open Go Go.RowKit Go.Proofs
set_option maxHeartbeats 400000
theorem partsOf_yes {sy : Int} {rs : List RuleD} {k : Nat} (hk : k < rs.length) (h : rs[k] = noR) : partsOf sy (freeTo rs (k + 1)) = partsOf sy (freeTo rs k) ++ [((k : Int) / sy, (k : Int) % sy)] := by
  rw [freeTo_yes hk h]; simp [partsOf]
/-- A machine in a block of its own. -/
def MachBlk (w : World) (b : Nat) (m : MachD) (rv : Value) : Prop := Blk w b 26 #[.int .i64 m.sy, .int .i64 m.st, rv]
theorem l26Halting_c (b : Nat) (m : MachD) (rv : Value) (w : World) (hM : MachBlk w b m rv) (hr : Rules w rv m.rules) (hn : m.rules.length ≤ 6000) (h1 : 2 ≤ m.sy) (h2 : m.sy ≤ 6) :
    Calls Tryz.prog 68 #[.pointer (some ⟨b, 0, none⟩)] w fun e w' => ∃ u, e = .returned u ∧ OwnParts w.heap.size w' u (partsOf m.sy (freeTo m.rules m.rules.length)) ∧ Ext w w' := by
  obtain ⟨A, c, rfl, h3, h3'⟩ := hr.form
  obtain ⟨i0, hi, hz0, hz1, hz2⟩ := info_parts partInfo
  have hs0 : ¬ m.sy = 0 := by omega
  go_enter Tryz.func68, Tryz.ntmps68
  go_wp2
  have hown0 : (w.alloc (.cells #[] 91)).ownsRow w.heap.size 91 3 (.slice (some ⟨w.heap.size, 0, none⟩) 0 0) 0 [] :=
    World.ownsRow_made (base := w.heap.size) (e := 91) (size := 3) w #[] 0 (by simp) (by unfold maxLen; omega) (by simp)
  go_loopw [3, 4] (fun l i wr => ∃ k : Nat, k ≤ m.rules.length ∧ i = .int .i64 k ∧ Ext w wr ∧ OwnParts w.heap.size wr l (partsOf m.sy (freeTo m.rules k))) (fun _ i _ => m.rules.length - (intOf i).toNat)
  case atStart => exact ⟨0, Nat.zero_le _, rfl, Ext.alloc _ _, ⟨[], hown0, fun i hi => by simp [partsOf, freeTo] at hi⟩⟩
  case round =>
    clear hown0
    obtain ⟨k, hk, rfl, hX, ho⟩ := hrel
    obtain ⟨Al, cl, rfl, h6, h6'⟩ := ho.form
    have hpl := freeTo_length m.rules k
    have bM := Blk.ext hM hX
    have cM := bM.cell 0
    have cM2 := bM.cell 2
    simp only [List.getElem?_toArray, List.getElem?_cons_zero, List.getElem?_cons_succ] at cM cM2
    by_cases hlt : k < m.rules.length
    · obtain ⟨b', off, rfl, hc⟩ := hr.at hlt
      obtain ⟨c0, c1, c2⟩ := hc k hlt
      have c0 := cellR (hX.cell c0)
      have c1 := cellR (hX.cell c1)
      have c2 := cellR (hX.cell c2)
      have dM := cellR cM2
      have rn := ruleEql_run
      clear hc
      have heb : ∀ q, rEq m.rules[k] noR = q → rEq ⟨m.rules[k].w, m.rules[k].m, m.rules[k].n⟩ ⟨0, 0, -1⟩ = q := fun _ h => h
      by_cases he : m.rules[k] = noR
      · have H := heb true (by simp [rEq, he])
        have HP := Lib.hid (partsOf_yes (sy := m.sy) hlt he)
        clear heb he
        go_wp2
        refine wp_region_ext (by kernel_rfl) (by kernel_rfl) ?_
        repeat (go_big_quiet_step ((go_at_call 33; exact Calls.extR (l05None_c _))))
        refine wpQuiet_nil ?_
        intro w2 hx2
        clear c0 c1 c2 dM rn
        have ho := ho.ext hx2
        have hX := hX.trans hx2
        have bM := bM.ext hx2
        have cM := hx2.cell cM
        clear cM2
        obtain ⟨vs, o1, o2⟩ := ho
        obtain ⟨q1, hq1⟩ : ∃ q, (k : Int) / m.sy = q := ⟨_, rfl⟩
        obtain ⟨q2, hq2⟩ : ∃ q, (k : Int) % m.sy = q := ⟨_, rfl⟩
        have hw : IntKind.i64.wrap q1 = q1 := by
          have e1 : 0 ≤ (k : Int) / m.sy := Int.ediv_nonneg (by omega) (by omega)
          have e2 : (k : Int) / m.sy ≤ k := Int.ediv_le_self _ (by omega)
          exact IntWalk.i64_in _ (by omega)
        have hd : (k : Int).tdiv m.sy = q1 := by rw [Int.tdiv_eq_ediv_of_nonneg (by omega)]; exact hq1
        have hm : (k : Int).tmod m.sy = q2 := by rw [Int.tmod_eq_emod_of_nonneg (by omega)]; exact hq2
        rw [hq1, hq2] at HP
        have hsz := hX.size
        have hkl : (partsOf m.sy (freeTo m.rules k)).length ≤ 6000 := by simp [partsOf]; omega
        go_wp2_with fail
        set_option maxRecDepth 20000 in
        go_region_held3 (fun w' => w'.cell? ⟨b, 0, none⟩ = some (.int .i64 m.sy))
          (first | go_keep | exact hkeep)
          ((refine step_append_lies _ (by rfl) _ _ _ (by rfl) w.heap.size 91 i0 _ 3 40 Tryz.underlying88 hi hz0 hz1 hz2 rfl (by omega) _ _ vs (by rfl) (((o1.alloc _).alloc _).drew) ⟨w2.heap.size + 1, 0, none⟩ 1 1 [.int .i64 q1, .int .i64 0, .slice (some ⟨w2.heap.size, 0, none⟩) 1 1] (by rfl) (by rfl) (World.news_of_block (cs := #[.int .i64 q1, .int .i64 0, .slice (some ⟨w2.heap.size, 0, none⟩) 1 1]) (t := 91) (fr := (0, 0)) (Blk.new _ (w2.heap.size + 1) _ _ (by simp))) (by simp [Value.oneCell']) (by omega) (by unfold maxLen; omega) (by omega) (by simp; omega) (w2.heap.size + 1 + 1) (by simp) ?_; intro gg cap w3 hown3 hgrow hat hlt3; have bM3 := Blk.apart (((bM.alloc _).alloc _).drew) (((o1.alloc _).alloc _).drew) (by decide) hgrow; have hkeep := bM3.cell 0; simp only [List.getElem?_toArray, List.getElem?_cons_zero] at hkeep))
        have R : OwnParts w.heap.size w3 (.slice (some ⟨gg, 0, none⟩) ((partsOf m.sy (freeTo m.rules k)).length + 1) cap) (partsOf m.sy (freeTo m.rules (k + 1))) := by
          rw [HP.out]
          refine OwnParts.snoc (((o1.alloc _).alloc _).drew) (fun i hi => ?_) (((Blk.new w2 w2.heap.size _ _ rfl).alloc _).drew) hown3 hgrow
          obtain ⟨b, e0, e1, e2, hb⟩ := o2 i hi
          exact ⟨b, e0, e1, e2, ((hb.alloc _).alloc _).drew⟩
        have hX3 : Ext w w3 := (((hX.trans (Ext.alloc _ _)).trans (Ext.alloc _ _)).trans (Ext.drew _)).grown hgrow (fun b hb => (o1.lt b hb).1)
        clear o1 o2 hown3 hgrow hat cM hkeep bM
        go_wp2
        go_roundw
        case rel => exact ⟨k + 1, by omega, by go_num, hX3, R⟩
        case measure => simp [intOf]; omega
      · have H := heb false (by simp [rEq, he])
        have HP := Lib.hid (freeTo_no hlt he)
        clear heb he
        go_wp2
        refine wp_region_ext (by kernel_rfl) (by kernel_rfl) ?_
        repeat (go_big_quiet_step ((go_at_call 33; exact Calls.extR (l05None_c _))))
        refine wpQuiet_nil ?_
        intro w2 hx2
        clear c0 c1 c2 dM rn
        go_wp2
        go_roundw
        case rel => exact ⟨k + 1, by omega, by go_num, hX.trans hx2, by rw [HP.out]; exact ho.ext hx2⟩
        case measure => simp [intOf]; omega
    · have hke : k = m.rules.length := by omega
      have HK := Lib.hid hke
      clear hke hpl
      go_wp2
      go_ret
      exact ⟨_, rfl, by rw [← HK.out]; exact ho, hX⟩
end Go.Proofs.YtmffnlpndgdcjaaGreatDoor
