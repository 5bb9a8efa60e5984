/- Contract of the program's step to the next level of backward search.
Contracts of the program's levels of backward search.
Contracts of the program's runner of a machine: what it looks at. The machine is valid and the configuration is one of its. -/
import Derived.Test.YtacpchapgklcgaaGreatDoorR26
import Derived.Test.YtacpchapgklcgaaGreatDoorR17
import Derived.Test.YtacpchapgklcgaaGreatDoorR10
import Derived.Test.YtacpchapgklcgaaGreatDoorR07
import Derived.Test.YtacpchapgklcgaaGreatDoorR13
import Derived.Maps.AppendAt
import Derived.Deep.RegionLaw
import Derived.Deep.RegionHeld3
section
set_option linter.unusedSimpArgs false
set_option linter.unusedVariables false
namespace Go.Proofs.YtacpchapgklcgaaGreatDoor
open Go Go.RowKit Go.Proofs
set_option maxHeartbeats 400000
theorem gb_ext {w a c : World} {r : Option Nat} (h : w.grownBy a r) (k : Ext a c) : w.grownBy c r := grownBy_step h (ext_grownBy k r) (fun j hj => .inr hj)
theorem gb_set {w a : World} {b : Nat} (h : w.grownBy a (some b)) (i : Nat) (v : Value) : w.grownBy (a.setCell ⟨b, i, none⟩ v) (some b) := grownBy_step h (grownBy_setCell a ⟨b, i, none⟩ v) (fun j hj => .inr hj)
theorem gb_new {w a c : World} {r r' : Option Nat} (h : w.grownBy a r) (k : a.grownBy c r') (hr : ∀ j, r' = some j → w.heap.size ≤ j) : w.grownBy c r := grownBy_step h k (fun j hj => .inl (hr j hj))
theorem gb_size {w a : World} {r : Option Nat} (h : w.grownBy a r) : w.heap.size ≤ a.heap.size := h.size
theorem PdAt.keptB {ib : Nat} {w w' : World} {b : Nat} {t : TypeId} {cs : Array Value} {vs : List Value} {xs : List PartD} (h : PdAt ib w vs xs) (hb : Blk w b t cs) (ht : t ≠ 2) (hg : w.grownBy w' (some b)) : PdAt ib w' vs xs := fun i hi => by
  obtain ⟨u, e0, e1, e2, hu⟩ := h i hi
  exact ⟨u, e0, e1, e2, own_kept hu hg (blk_ne_row hb hu ht)⟩
theorem OwnPD.keptB {base : Nat} {w w' : World} {b : Nat} {t : TypeId} {cs : Array Value} {v : Value} {xs : List PartD} (h : OwnPD base w v xs) (hb : Blk w b t cs) (ht : t ≠ 2) (ht' : t ≠ 101) (hg : w.grownBy w' (some b)) : OwnPD base w' v xs := by
  obtain ⟨vs, h1, h2⟩ := h
  exact ⟨vs, own_kept h1 hg (blk_ne_row hb h1 ht'), h2.keptB hb ht hg⟩
/-- A map's block is no list's. -/
theorem OwnPD.keptM {base : Nat} {w w' : World} {bm n : Nat} {S : List UInt8 → Bool} {v : Value} {xs : List PartD} (h : OwnPD base w v xs) (hs : Seen w bm n S) (hg : w.grownBy w' (some bm)) : OwnPD base w' v xs := by
  obtain ⟨vs, h1, h2⟩ := h
  exact ⟨vs, own_kept h1 hg (hs.ne_row h1), fun i hi => by
    obtain ⟨u, e0, e1, e2, hu⟩ := h2 i hi
    exact ⟨u, e0, e1, e2, own_kept hu hg (hs.ne_row hu)⟩⟩
/-- The step's state: the level's block, the new list, the map of what has been seen. -/
structure LvSt (w : World) (b : Nat) (m : MachD) (mv lv : Value) (s : Int) (acc : List PartD) (av : Value) (bm : Nat) (wr : World) : Prop where
  grown : w.grownBy wr (some b)
  blk : Blk wr b 104 #[.int .i64 m.sy, .int .i64 m.st, mv, lv, .int .i64 s]
  own : OwnPD w.heap.size wr av acc
  seen : Seen wr bm acc.length (keysB acc)
  lowM : w.heap.size ≤ bm
theorem LvSt.ext {w : World} {b : Nat} {m : MachD} {mv lv : Value} {s : Int} {acc : List PartD} {av : Value} {bm : Nat} {wr w' : World} (h : LvSt w b m mv lv s acc av bm wr) (he : Ext wr w') : LvSt w b m mv lv s acc av bm w' :=
  ⟨gb_ext h.grown he, h.blk.ext he, h.own.ext he, h.seen.ext he, h.lowM⟩
theorem LvSt.steps {w : World} {b : Nat} {m : MachD} {mv lv : Value} {s : Int} {acc : List PartD} {av : Value} {bm : Nat} {wr : World} (h : LvSt w b m mv lv s acc av bm wr) (s' : Int) : LvSt w b m mv lv s' acc av bm (wr.setCell ⟨b, 4, none⟩ (.int .i64 s')) :=
  ⟨gb_set h.grown 4 _, h.blk.set_ 4 _, h.own.keptB h.blk (by decide) (by decide) (grownBy_setCell wr ⟨b, 4, none⟩ _), h.seen.setCell (a := ⟨b, 4, none⟩) (h.seen.ne_blk h.blk) _, h.lowM⟩
/-- What the step gives. -/
def LvRes (w : World) (b : Nat) (m : MachD) (mv : Value) (o : Option (List PartD × Int)) (e : Ending) (w' : World) : Prop :=
  w.grownBy w' (some b) ∧ ((o = none ∧ e = .returned (.int .i64 5)) ∨ ∃ l' s' lv', o = some (l', s') ∧ e = .returned (.int .i64 0) ∧ Blk w' b 104 #[.int .i64 m.sy, .int .i64 m.st, mv, lv', .int .i64 s'] ∧ OwnPD w.heap.size w' lv' l' ∧ l'.length ≤ 300)
theorem nextGo_cons (m : MachD) (x : PartD) (xs acc : List PartD) (s : Int) : nextGo m (x :: xs) acc s = if longP m x = true ∨ s - 1 < 0 then none else if 300 < ((predsP m x).foldl addB acc).length then none else nextGo m xs ((predsP m x).foldl addB acc) (s - 1) := rfl
set_option maxRecDepth 20000 in
set_option maxHeartbeats 4000000 in
theorem level_c (w0 : World) (B b : Nat) (m : MachD) (mv lv : Value) (l : List PartD) (s : Int) (w : World) (hb : Blk w b 104 #[.int .i64 m.sy, .int .i64 m.st, mv, lv, .int .i64 s]) (hr : Rules w0 mv m.rules) (hx0 : Ext w0 w) (hb0 : w0.heap.size ≤ b)
    (hl : OwnPD B w lv l) (hok : ∀ x ∈ l, PartOk m x) (hm : machOk m = true) (hT : Tab w0) (hn : l.length ≤ 6000) (s0 : -100000 ≤ s) (s1 : s ≤ 20000) :
    Calls Tryz.prog 54 #[.pointer (some ⟨b, 0, none⟩)] w (LvRes w b m mv (nextP m l s)) := by
  have mok := MOk.of hm
  obtain ⟨i0, hi, hz0, hz1, hz2⟩ := info_parts partInfo
  obtain ⟨Am, cm, rfl, _, _⟩ := hr.form
  obtain ⟨Al, cl, rfl, hl1, hl2⟩ := hl.form
  obtain ⟨W1, hW1⟩ : ∃ W, w.alloc (.map #[] 0) = W := ⟨_, rfl⟩
  have E1 : Ext w W1 := by rw [← hW1]; exact Ext.alloc _ _
  have hs1 : W1.heap.size = w.heap.size + 1 := by rw [← hW1]; simp
  obtain ⟨W2, hW2⟩ : ∃ W, W1.alloc (.cells #[] 101) = W := ⟨_, rfl⟩
  have E2 : Ext W1 W2 := by rw [← hW2]; exact Ext.alloc _ _
  have sn : Seen W2 w.heap.size 0 (keysB []) := by
    have h1 : Seen W1 w.heap.size 0 (fun _ => false) := by rw [← hW1]; exact Seen.made w
    have h2 : keysB [] = fun _ => false := by funext k; simp [keysB]
    rw [h2]
    exact h1.ext E2
  have st0 : LvSt w b m (.slice Am m.rules.length cm) (.slice Al l.length cl) s [] (.slice (some ⟨w.heap.size + 1, 0, none⟩) 0 0) w.heap.size W2 := by
    refine ⟨ext_grownBy (E1.trans E2) _, hb.ext (E1.trans E2), ⟨[], ?_, fun i hi => by simp at hi⟩, sn, Nat.le_refl _⟩
    rw [← hW2]
    have := World.ownsRow_made (base := w.heap.size) (e := 101) (size := 3) W1 #[] 0 (by omega) (by unfold maxLen; omega) (by simp)
    rw [hs1] at this
    simpa using this
  have b3 := (hb.ext (E1.trans E2)).cell 3
  simp only [List.getElem?_toArray, List.getElem?_cons_zero, List.getElem?_cons_succ] at b3
  have hgrow0 : w0.heap.size ≤ w.heap.size := hx0.size
  have HOK := Lib.hid hok
  have HT := Lib.hid hT
  have HR := Lib.hid hr
  have HW1 := Lib.hid hW1
  have HW2 := Lib.hid hW2
  have HS1 := Lib.hid hs1
  rw [← hW2, ← hW1] at b3
  clear hok hT hr hW1 hW2 sn hs1
  have hmm := @run_makeMap Tryz.prog
  go_enter Tryz.func54, Tryz.ntmps54
  go_wp2_with fail
  rw [HW1.out, HW2.out]
  clear b3 hmm
  go_loopw [4, 19] (fun a i wr => ∃ (k : Nat) (acc : List PartD), k ≤ l.length ∧ i = .int .i64 (k : Int) ∧ LvSt w b m (.slice Am m.rules.length cm) (.slice Al l.length cl) (s - (k : Int)) acc a w.heap.size wr ∧ Hid (nextP m l s = nextGo m (l.drop k) acc (s - (k : Int))) ∧ Hid (∀ y ∈ acc, PartOk m y) ∧ acc.length ≤ 300) (fun _ i _ => l.length - (intOf i).toNat)
  case atStart => exact ⟨0, [], Nat.zero_le _, rfl, by simpa using st0, Lib.hid (by simp [nextP]), Lib.hid (fun y hy => by cases hy), by simp⟩
  case round =>
    clear st0
    obtain ⟨k, acc, hk, rfl, st, HN, HAC, hacc⟩ := hrel
    obtain ⟨Aa, ca, rfl, _, _⟩ := st.own.form
    by_cases hlt : k < l.length
    · have hlr := hl.keptB hb (by decide) (by decide) st.grown
      obtain ⟨gl, ux, rfl, q0, q1, q2, hux⟩ := hlr.at hlt
      have hxok := HOK.out _ (List.getElem_mem hlt)
      have hdr : l.drop k = l[k] :: l.drop (k + 1) := List.drop_eq_getElem_cons hlt
      obtain ⟨x, hx⟩ : ∃ x, l[k] = x := ⟨_, rfl⟩
      rw [hx] at q0 q1 hux hxok hdr
      have HDR : Hid (nextP m l s = if longP m x = true ∨ s - (k : Int) - 1 < 0 then none else if 300 < ((predsP m x).foldl addB acc).length then none else nextGo m (l.drop (k + 1)) ((predsP m x).foldl addB acc) (s - (k : Int) - 1)) := Lib.hid (by rw [HN.out, hdr]; rfl)
      clear hx hdr HN
      have hux := OwnInts.base hux (Nat.zero_le B)
      obtain ⟨Ax, cx, rfl, _, _⟩ := hux.ints.form
      have hw1 : IntKind.i64.wrap (s - (k : Int) - 1) = s - (k : Int) - 1 := IntWalk.i64_in _ (by omega)
      obtain ⟨s', hs'⟩ : ∃ z, s - (k : Int) = z := ⟨_, rfl⟩
      rw [hs'] at HDR hw1 st
      obtain ⟨sk, hsk⟩ : ∃ z, s' - 1 = z := ⟨_, rfl⟩
      rw [hsk] at HDR
      have hw2 : IntKind.i64.wrap (s' - 1) = sk := by rw [← hsk]; exact hw1
      have HS' := Lib.hid hs'
      have HSK := Lib.hid hsk
      have hsk0 : -200000 ≤ sk := by omega
      clear hs' hsk hw1
      obtain ⟨n6, hn6⟩ : ∃ n, wr.heap.size = n := ⟨_, rfl⟩
      have eA := Ext.alloc wr (.cells #[.int .i64 x.q, .int .i64 (x.p : Int), .slice Ax x.cs.length cx] 101)
      have hltb := st.blk.lt
      have stA := st.ext eA
      have stS := st.steps sk
      obtain ⟨V1, hV1⟩ : ∃ V, (wr.setCell ⟨b, 4, none⟩ (.int .i64 sk)).alloc (.cells #[.int .i64 x.q, .int .i64 (x.p : Int), .slice Ax x.cs.length cx] 101) = V := ⟨_, rfl⟩
      have eS := Ext.alloc (wr.setCell ⟨b, 4, none⟩ (.int .i64 sk)) (.cells #[.int .i64 x.q, .int .i64 (x.p : Int), .slice Ax x.cs.length cx] 101)
      have st1 := stS.ext eS
      have gV : wr.grownBy V1 (some b) := by rw [← hV1]; exact gb_ext (grownBy_setCell wr ⟨b, 4, none⟩ _) eS
      rw [hV1] at st1
      have bx : Blk V1 n6 101 #[.int .i64 x.q, .int .i64 (x.p : Int), .slice Ax x.cs.length cx] := by rw [← hV1]; exact Blk.new _ _ _ _ (by rw [← hn6]; simp [World.setCell])
      have huxV : OwnInts 0 V1 (.slice Ax x.cs.length cx) x.cs := own_kept hux gV (blk_ne_row st.blk hux (by decide))
      have p4 := stA.blk.cell 4
      have pf := stA.blk.frozen 4
      simp only [List.getElem?_toArray, List.getElem?_cons_zero, List.getElem?_cons_succ] at p4
      have HV1 := Lib.hid hV1
      have HN6 := Lib.hid hn6
      clear hV1 hn6
      have i1 : (0 : Int) ≤ (k : Int) := by omega
      have i2 : (k : Int) < (l.length : Int) := by omega
      go_upto_region 6 with fail
      rw [HV1.out, HN6.out]
      have e1 := bx.drew.cell 0
      have e2 := bx.drew.cell 1
      have e3 := bx.drew.cell 2
      have e4 := st1.blk.drew.cell 0
      have e5 := st1.blk.drew.cell 1
      have e6 := st1.blk.drew.cell 2
      simp only [List.getElem?_toArray, List.getElem?_cons_zero, List.getElem?_cons_succ] at e1 e2 e3 e4 e5 e6
      have stD := st1.ext (Ext.drew V1)
      have hEx : Ext w0 V1.drew := by
        have hg := grownBy_step (r := none) (ext_grownBy hx0 none) stD.grown (fun j hj => by injection hj with hj; subst hj; exact .inl hb0)
        exact ⟨hg.os, hg.tape, hg.output, hg.size, fun i hi => hg.block i hi (by simp)⟩
      have hprd := predecessors_c m x (.slice Am m.rules.length cm) (.slice Ax x.cs.length cx) V1.drew (HR.out.ext hEx) (huxV.ext (Ext.drew _)) hxok.p (by have := hxok.len; omega) hm
      refine wp_region_ordT 10 (readsT [0, 1, 2, 3, 4] (.stir 5 (readsT [6, 7, 8, 9] .done))) (by kernel_rfl) (by kernel_rfl) (fun _ _ _ _ _ h => h) ?_
      simp only [readsT]
      repeat (refine wpOrdT_read (v := ?_) (by rfl) (Or.inl ⟨by rfl, fun x hx => ?_⟩) ?_; rotate_left; (· have a1 := hx.cell e1; have a2 := hx.cell e2; have a3 := hx.cell e3; have a4 := hx.cell e4; have a5 := hx.cell e5; have a6 := hx.cell e6; go_simp; try with_reducible rfl); try simp only [Act.put, List.setIfInBounds_toArray, List.set_cons_zero, List.set_cons_succ])
      refine wpOrdT_keep (by rfl) (fun K hK => ?_)
      go_simp
      go_at_call 87
      refine hprd.mono ?_
      rintro e w3 ⟨hx3, ⟨hlo, rfl⟩ | ⟨hlo, fv, rfl, hfv⟩⟩
      · have HDN : Hid (nextP m l s = none) := Lib.hid (by rw [HDR.out, if_pos (.inl hlo)])
        refine hK _ _ hx3 ?_
        clear hK K
        repeat (refine wpOrdT_read (v := ?_) (by rfl) (Or.inl ⟨by rfl, fun x hx => ?_⟩) ?_; rotate_left; (· go_simp; try with_reducible rfl); try simp only [Act.put, List.setIfInBounds_toArray, List.set_cons_zero, List.set_cons_succ])
        refine wpOrdT_done ?_
        try simp only [List.drop_succ_cons, List.drop_zero]
        have st3 := Lib.hid (stD.ext hx3)
        go_wp2_with fail
        go_ret
        exact ⟨st3.out.grown, .inl ⟨HDN.out, by simp⟩⟩
      · obtain ⟨Af, cf, rfl, hf1, hf2⟩ := hfv.form
        have hpo := predsP_ok hm hxok hlo
        have hpl := predsP_len m x
        have HPO := Lib.hid hpo
        have HLO := Lib.hid hlo
        obtain ⟨ps, hps⟩ : ∃ ps, predsP m x = ps := ⟨_, rfl⟩
        rw [hps] at HDR HPO hfv hpl
        have hml := mok.len2
        have hpl2 : ps.length ≤ 6000 := by omega
        rw [hps]
        clear hf1 hpo hlo hps hpl
        have st3 := stD.ext hx3
        refine hK _ _ hx3 ?_
        clear hK K
        repeat (refine wpOrdT_read (v := ?_) (by rfl) (Or.inl ⟨by rfl, fun x hx => ?_⟩) ?_; rotate_left; (· go_simp; try with_reducible rfl); try simp only [Act.put, List.setIfInBounds_toArray, List.set_cons_zero, List.set_cons_succ])
        refine wpOrdT_done ?_
        try simp only [List.drop_succ_cons, List.drop_zero]
        have y4 := st3.blk.cell 4
        simp only [List.getElem?_toArray, List.getElem?_cons_zero, List.getElem?_cons_succ] at y4
        clear e1 e2 e3 e4 e5 e6 p4 pf hprd
        by_cases hneg : sk < 0
        · have HDN : Hid (nextP m l s = none) := Lib.hid (by rw [HDR.out, if_pos (.inr hneg)])
          have ST3 := Lib.hid st3
          go_wp2_with fail
          go_ret
          exact ⟨ST3.out.grown, .inl ⟨HDN.out, by simp⟩⟩
        · have HDN : Hid (nextP m l s = if 300 < (ps.foldl addB acc).length then none else nextGo m (l.drop (k + 1)) (ps.foldl addB acc) sk) := Lib.hid (by rw [HDR.out, if_neg (by rw [HLO.out]; simp; omega)])
          have hne0 : (Value.slice Aa acc.length ca).ownBlock = none ∨ (Value.slice Aa acc.length ca).ownBlock ≠ (Value.slice Af ps.length cf).ownBlock := by
            obtain ⟨vsa, owa, _⟩ := st1.own
            obtain ⟨vsf, owf, _⟩ := hfv
            rcases owa.2 with ⟨e, h0⟩ | ⟨ga, cpa, cua, e, hba, hha, _⟩
            · left; rw [e]; rfl
            · right
              rw [e]
              intro he
              have := owf.lt ga he.symm
              have h2 := (Array.getElem?_eq_some_iff.1 hha).1
              simp only [World.drew] at this
              omega
          have hB3 : w.heap.size ≤ V1.drew.heap.size := gb_size stD.grown
          clear HDR
          have HX3 := Lib.hid hEx
          go_wp2_with fail
          clear y4
          go_loopw [4, 50] (fun a i wr => ∃ (j : Nat), j ≤ ps.length ∧ i = .int .i64 (j : Int) ∧ LvSt w b m (.slice Am m.rules.length cm) (.slice (some ⟨gl, 0, none⟩) l.length cl) sk ((ps.take j).foldl addB acc) a w.heap.size wr ∧ OwnPD V1.drew.heap.size wr (.slice Af ps.length cf) ps ∧ (a.ownBlock = none ∨ a.ownBlock ≠ (Value.slice Af ps.length cf).ownBlock)) (fun _ i _ => ps.length - (intOf i).toNat)
          case atStart => exact ⟨0, Nat.zero_le _, rfl, by simpa using st3, hfv, hne0⟩
          case round =>
            clear st3 hfv hne0
            obtain ⟨j, hj, rfl, stj, hfj, hnej⟩ := hrel
            obtain ⟨Aj, cj, rfl, _, _⟩ := stj.own.form
            by_cases hjl : j < ps.length
            · obtain ⟨gf, uy, rfl, q0, q1, q2, huy⟩ := hfj.at hjl
              have hyok := HPO.out _ (List.getElem_mem hjl)
              have hfd := foldB_take acc ps j hjl
              obtain ⟨y, hy⟩ : ∃ y, ps[j] = y := ⟨_, rfl⟩
              rw [hy] at q0 q1 huy hyok hfd
              have HFD := Lib.hid hfd
              have hty := PartOk.text mok hyok
              have hall : ∀ z ∈ (ps.take j).foldl addB acc, PartOk m z := foldB_all HAC.out (fun z hz => HPO.out z (List.mem_of_mem_take hz))
              have hki := keysB_iff (fun z hz => (hall z hz).text mok) hty
              have hlj := foldB_len (ps.take j) acc
              have hlj2 : ((ps.take j).foldl addB acc).length ≤ 7000 := by simp only [List.length_take] at hlj; omega
              obtain ⟨accj, hacj⟩ : ∃ L, (ps.take j).foldl addB acc = L := ⟨_, rfl⟩
              rw [hacj] at stj HFD hall hki hlj2 hnej ⊢
              clear hfd hy hacj hlj
              obtain ⟨Ay, cy, rfl, _, _⟩ := huy.ints.form
              have j1 : (0 : Int) ≤ (j : Int) := by omega
              have j2 : (j : Int) < (ps.length : Int) := by omega
              obtain ⟨n10, hn10⟩ : ∃ n, wr.heap.size = n := ⟨_, rfl⟩
              obtain ⟨X1, hX1⟩ : ∃ X, wr.alloc (.cells #[.int .i64 y.q, .int .i64 (y.p : Int), .slice Ay y.cs.length cy] 101) = X := ⟨_, rfl⟩
              have eX : Ext wr X1 := by rw [← hX1]; exact Ext.alloc _ _
              have bY : Blk X1 n10 101 #[.int .i64 y.q, .int .i64 (y.p : Int), .slice Ay y.cs.length cy] := by rw [← hX1]; exact Blk.new _ _ _ _ hn10
              have z0 := bY.cell 0
              have z1 := bY.cell 1
              have z2 := bY.cell 2
              simp only [List.getElem?_toArray, List.getElem?_cons_zero, List.getElem?_cons_succ] at z0 z1 z2
              have hXj : Ext w0 X1 := by
                have hg := grownBy_step (r := none) (ext_grownBy hx0 none) (stj.ext eX).grown (fun j hj => by injection hj with hj; subst hj; exact .inl hb0)
                exact ⟨hg.os, hg.tape, hg.output, hg.size, fun i hi => hg.block i hi (by simp)⟩
              have hpt := partialText_c y (.slice Ay y.cs.length cy) X1 (OwnInts.base (huy.ext eX) (Nat.zero_le _)) hty (HT.out.ext hXj)
              have HX1 := Lib.hid hX1
              have HN10 := Lib.hid hn10
              have HST := Lib.hid (stj.ext eX)
              have HFJ := Lib.hid (hfj.ext eX)
              have HUY := Lib.hid (huy.ext eX)
              have hnej' := Lib.hid hnej
              have HPS := Lib.hid hall
              rw [← hX1, ← hn10] at z0 z1 z2
              clear hX1 hn10 stj hfj huy hnej hall
              go_wp2_with fail
              rw [HX1.out, HN10.out]
              refine hpt.mono ?_
              rintro e w5 ⟨rfl, hx5⟩
              have st5 := HST.out.ext hx5
              have hks : (⟨(keyP y).toArray⟩ : ByteArray).size ≤ maxLen := by
                have := keyP_len hty
                show (keyP y).toArray.size ≤ maxLen
                simp only [List.size_toArray]
                unfold maxLen; omega
              have hlook := st5.seen.lookup ⟨(keyP y).toArray⟩ hks
              have hk2 : keysB accj (⟨(keyP y).toArray⟩ : ByteArray).data.toList = decide (y ∈ accj) := hki
              rw [hk2] at hlook
              clear z0 z1 z2 hpt
              by_cases hin : y ∈ accj
              · have hin' : decide (y ∈ accj) = true := by simp [hin]
                rw [hin'] at hlook
                have HA : Hid (addB accj y = accj) := Lib.hid (by unfold addB; rw [if_pos hin])
                have HS5 := Lib.hid st5
                have HF5 := Lib.hid (HFJ.out.ext hx5)
                clear hin hin' hk2 hks st5
                go_wp2_with fail
                go_roundw
                case rel => exact ⟨j + 1, by omega, by go_num, by rw [HFD.out, HA.out]; exact HS5.out, HF5.out, hnej'.out⟩
                case measure => simp [intOf]; omega
              · have hin' : decide (y ∈ accj) = false := by simp [hin]
                rw [hin'] at hlook
                have HA : Hid (addB accj y = accj ++ [y]) := Lib.hid (by unfold addB; rw [if_neg hin])
                obtain ⟨w6, hupd, hseen6, hg6⟩ := st5.seen.update (by unfold maxLen; omega) ⟨(keyP y).toArray⟩ hks
                have hmb : some b ≠ some w.heap.size := by
                  have := st5.seen.ne_blk st5.blk
                  simp; omega
                have blk6 := st5.blk.kept hg6 hmb
                have own6 := st5.own.keptM st5.seen hg6
                have fv6 := (HFJ.out.ext hx5).keptM st5.seen hg6
                have huy6 : OwnInts V1.drew.heap.size w6 (.slice Ay y.cs.length cy) y.cs := own_kept (HUY.out.ext hx5) hg6 (st5.seen.ne_row (HUY.out.ext hx5))
                have gr6 : w.grownBy w6 (some b) := gb_new st5.grown hg6 (fun j hj => by injection hj with hj; omega)
                have hsn6 : Seen w6 w.heap.size (accj.length + 1) (keysB (accj ++ [y])) := by
                  have : keysB (accj ++ [y]) = fun k => decide (k = (⟨(keyP y).toArray⟩ : ByteArray).data.toList) || keysB accj k := by funext k; exact keysB_snoc accj y k
                  rw [this]
                  exact hseen6
                have bY5 := bY.ext hx5
                have bY6 := bY5.kept hg6 (by
                  have := st5.seen.ne_blk bY5
                  simp; omega)
                have z0 := bY6.cell 0
                have z1 := bY6.cell 1
                have z2 := bY6.cell 2
                simp only [List.getElem?_toArray, List.getElem?_cons_zero, List.getElem?_cons_succ] at z0 z1 z2
                obtain ⟨vs, ow6, pd6⟩ := own6
                have eB := Ext.alloc w6 (.cells #[.int .i64 y.q, .int .i64 (y.p : Int), .slice Ay y.cs.length cy] 101)
                have how := ownsRow_ext ow6 eB
                have hgs6 := gb_size gr6
                have hfv8 := fv6.ext eB
                have HPD := Lib.hid (pd6.ext eB)
                have HUY8 := Lib.hid (huy6.ext eB)
                have HSN8 := Lib.hid (hsn6.ext eB)
                have HBL8 := Lib.hid (blk6.ext eB)
                have HGR8 := Lib.hid (gb_ext gr6 eB)
                have hflt : ∀ g', (Value.slice (some ⟨gf, 0, none⟩) ps.length cf).ownBlock = some g' → g' < w6.heap.size := fun g' hg' => by
                  obtain ⟨vsf, owf, _⟩ := fv6
                  exact (owf.lt g' hg').2
                clear hin hin' hk2 hks st5 ow6 pd6 huy6 hsn6 blk6 gr6 hseen6 fv6 bY5 bY6
                go_wp2_with (at_builtin; refine wpList_append_own_at _ rfl _ _ 102 rfl w.heap.size 101 i0 (.agg #[.int .i64 0, .int .i64 0, .slice none 0 0]) 3 40 Tryz.underlying102 hi hz0 hz1 hz2 rfl (by decide) _ _ vs rfl how ⟨w6.heap.size, 0, none⟩ 1 1 [.int .i64 y.q, .int .i64 (y.p : Int), .slice Ay y.cs.length cy] rfl rfl (World.news_of_block (heap_alloc_new w6 _)) ?c2 ?c3 ?c4 ?c5 ?_)
                case c2 => first | exact ⟨rfl, rfl, rfl⟩ | (intro u hu; simp at hu; rcases hu with rfl | rfl | rfl <;> rfl)
                case c3 => unfold maxLen; omega
                case c4 => omega
                case c5 => simp; omega
                intro v' w9 hown9 hg9 _ hloc
                have hS9 : LvSt w b m (.slice Am m.rules.length cm) (.slice (some ⟨gl, 0, none⟩) l.length cl) sk (accj ++ [y]) v' w.heap.size w9 := by
                  refine ⟨gb_new HGR8.out hg9 (fun j hj => (how.lt j hj).1), Blk.apart HBL8.out how (by decide) hg9, ⟨vs ++ [.int .i64 y.q, .int .i64 (y.p : Int), .slice Ay y.cs.length cy], by simpa using hown9, ?_⟩, ?_, Nat.le_refl _⟩
                  · exact PdAt.kept (HPD.out.snoc how.1 (OwnInts.base HUY8.out hB3)) how hg9
                  · have := HSN8.out.kept hg9 (HSN8.out.ne_row how)
                    simpa using this
                have hF9 : OwnPD V1.drew.heap.size w9 (.slice (some ⟨gf, 0, none⟩) ps.length cf) ps := by
                  obtain ⟨vsf, owf, pdf⟩ := hfv8
                  refine ⟨vsf, World.ownsRow.kept owf hg9 ?_, PdAt.kept pdf how hg9⟩
                  rcases hnej'.out with h | h
                  · exact .inr (by rw [h]; simp [Value.ownBlock])
                  · exact .inr (fun e => h e.symm)
                have hne9 : v'.ownBlock = none ∨ v'.ownBlock ≠ (Value.slice (some ⟨gf, 0, none⟩) ps.length cf).ownBlock := by
                  rcases hloc with h | h
                  · rw [h]; exact hnej'.out
                  · right
                    rw [h]
                    intro e
                    have := hflt _ e.symm
                    first | omega | (simp at this; done) | (simp at this; omega)
                have HS9 := Lib.hid hS9
                have HF9 := Lib.hid hF9
                have HNE9 := Lib.hid hne9
                obtain ⟨A9, c9, rfl, _, _⟩ := hS9.own.form
                clear hown9 hg9 hS9 hF9 hne9 how hfv8 hloc
                go_wp2
                go_roundw
                case rel => exact ⟨j + 1, by omega, by go_num, by rw [HFD.out, HA.out]; exact HS9.out, HF9.out, HNE9.out⟩
                case measure => simp [intOf]; omega
            · have hje : ps.take j = ps := List.take_of_length_le (by omega)
              rw [hje] at stj hnej ⊢
              have HS := Lib.hid stj
              have hall : ∀ z ∈ ps.foldl addB acc, PartOk m z := foldB_all HAC.out HPO.out
              have HALL := Lib.hid hall
              obtain ⟨acc', hacc'⟩ : ∃ L, ps.foldl addB acc = L := ⟨_, rfl⟩
              rw [hacc'] at HS HALL HDN ⊢
              clear hje hacc' hall stj hnej hfj
              by_cases h300 : 300 < acc'.length
              · have HNN : Hid (nextP m l s = none) := Lib.hid (by rw [HDN.out, if_pos h300])
                have hd : (300 : Int) < (acc'.length : Int) := by omega
                go_wp2_with fail
                go_ret
                exact ⟨HS.out.grown, .inl ⟨HNN.out, by simp⟩⟩
              · have HNN : Hid (nextP m l s = nextGo m (l.drop (k + 1)) acc' sk) := Lib.hid (by rw [HDN.out, if_neg h300])
                have hd : ¬ (300 : Int) < (acc'.length : Int) := by omega
                have hsk2 : Hid (s - ((k + 1 : Nat) : Int) = sk) := Lib.hid (by have := HS'.out; have := HSK.out; omega)
                go_wp2_with fail
                go_roundw
                case rel => exact ⟨k + 1, acc', by omega, by go_num, by rw [hsk2.out]; exact HS.out, by rw [hsk2.out]; exact HNN, HALL, by omega⟩
                case measure => simp [intOf]; omega
    · have hke : k = l.length := by omega
      have hdr : l.drop k = [] := List.drop_eq_nil_of_le (by omega)
      have HNF : Hid (nextP m l s = some (acc, s - (k : Int))) := Lib.hid (by rw [HN.out, hdr]; rfl)
      obtain ⟨s', hs'⟩ : ∃ z, s - (k : Int) = z := ⟨_, rfl⟩
      rw [hs'] at st HNF
      clear hs' hdr hke HN
      have p3 := st.blk.cell 3
      have pf := st.blk.frozen 3
      simp only [List.getElem?_toArray, List.getElem?_cons_zero, List.getElem?_cons_succ] at p3
      have hfin : LvRes w b m (.slice Am m.rules.length cm) (nextP m l s) (.returned (.int .i64 0)) (wr.setCell ⟨b, 3, none⟩ (.slice Aa acc.length ca)) := by
        refine ⟨gb_set st.grown 3 _, .inr ⟨acc, s', .slice Aa acc.length ca, HNF.out, rfl, st.blk.set_ 3 _, st.own.keptB st.blk (by decide) (by decide) (grownBy_setCell wr ⟨b, 3, none⟩ _), hacc⟩⟩
      have HFIN := Lib.hid hfin
      clear hfin
      go_wp2_with fail
      go_ret
      exact HFIN.out
end Go.Proofs.YtacpchapgklcgaaGreatDoor
end
section
set_option linter.unusedSimpArgs false
set_option linter.unusedVariables false
namespace Go.Proofs.YtacpchapgklcgaaGreatDoor
open Go Go.RowKit Go.Proofs
set_option maxHeartbeats 400000
theorem haltP_parts (m : MachD) : haltP m = (partsOf m.sy (freeTo m.rules m.rules.length)).map fun p => ⟨p.1, 0, [p.2]⟩ := by
  unfold haltP partsOf
  rw [List.map_map]
  rfl
theorem parts_PD {base : Nat} {w : World} {v : Value} {ps : List (Int × Int)} (h : OwnParts base w v ps) : OwnPD 0 w v (ps.map fun p => ⟨p.1, 0, [p.2]⟩) := by
  obtain ⟨vs, h1, h2⟩ := h
  refine ⟨vs, by simpa using ownsRow_base h1 (Nat.zero_le _), fun i hi => ?_⟩
  have hi' : i < ps.length := by simpa using hi
  obtain ⟨b, e0, e1, e2, hb⟩ := h2 i hi'
  exact ⟨_, by simpa using e0, by simpa using e1, e2, by simpa using ownOne hb⟩
theorem haltP_len (m : MachD) : (haltP m).length ≤ m.rules.length := by
  unfold haltP
  have := freeTo_length m.rules m.rules.length
  simpa using this
/-- The level 0. -/
def HlRes (w : World) (m : MachD) (mv : Value) (s : Int) (e : Ending) (w' : World) : Prop :=
  Ext w w' ∧ ∃ bl lv, e = .returned (.tuple #[.pointer (some ⟨bl, 0, none⟩), .bool (decide ((haltP m).length ≤ 300))]) ∧ Blk w' bl 104 #[.int .i64 m.sy, .int .i64 m.st, mv, lv, .int .i64 s] ∧ OwnPD 0 w' lv (haltP m) ∧ w.heap.size ≤ bl
set_option maxRecDepth 20000 in
set_option maxHeartbeats 4000000 in
theorem haltingLevel_c (m : MachD) (mv : Value) (s : Int) (w : World) (hr : Rules w mv m.rules) (hm : machOk m = true) :
    Calls Tryz.prog 52 #[.agg #[.int .i64 m.sy, .int .i64 m.st, mv], .int .i64 s] w (HlRes w m mv s) := by
  have mok := MOk.of hm
  obtain ⟨Am, cm, rfl, _, _⟩ := hr.form
  obtain ⟨W, hW⟩ : ∃ W, w.alloc (.cells #[.int .i64 m.sy, .int .i64 m.st, .slice Am m.rules.length cm] 26) = W := ⟨_, rfl⟩
  have hX : Ext w W := by rw [← hW]; exact Ext.alloc _ _
  have bM : Blk W w.heap.size 26 #[.int .i64 m.sy, .int .i64 m.st, .slice Am m.rules.length cm] := by rw [← hW]; exact Blk.new _ _ _ _ rfl
  generalize hg0 : w.heap.size = g at *
  have e1 := bM.drew.cell 0
  have e2 := bM.drew.cell 1
  have e3 := bM.drew.cell 2
  simp only [List.getElem?_toArray, List.getElem?_cons_zero, List.getElem?_cons_succ] at e1 e2 e3
  have hXD := hX.trans (Ext.drew W)
  have hhp := haltingPartials_c (.agg #[.int .i64 m.sy, .int .i64 m.st, .slice Am m.rules.length cm]) m W.drew ⟨_, rfl, hr.ext hXD⟩ mok.len2 mok.sy1 mok.sy2
  have HW := Lib.hid hW
  clear hW
  go_enter Tryz.func52, Tryz.ntmps52
  go_wp2_with fail
  rw [HW.out]
  refine wp_region_ordT 6 (readsT [0, 1, 3] (.stir 2 (readsT [4] (.stir 5 .done)))) (by kernel_rfl) (by kernel_rfl) (fun _ _ _ _ _ h => h) ?_
  simp only [readsT]
  repeat (refine wpOrdT_read (v := ?_) (by rfl) (Or.inl ⟨by rfl, fun x hx => ?_⟩) ?_; rotate_left; (· have a1 := hx.cell e1; have a2 := hx.cell e2; have a3 := hx.cell e3; go_simp; try with_reducible rfl); try simp only [Act.put, List.setIfInBounds_toArray, List.set_cons_zero, List.set_cons_succ])
  refine wpOrdT_keep (by rfl) (fun K hK => ?_)
  go_simp
  go_at_call 86
  refine hhp.mono ?_
  rintro e w3 ⟨uh, rfl, hph, hx3⟩
  have hpd := parts_PD hph
  rw [← haltP_parts] at hpd
  obtain ⟨Ah, ch, rfl, _, _⟩ := hpd.form
  refine hK _ _ hx3 ?_
  clear hK K
  repeat (refine wpOrdT_read (v := ?_) (by rfl) (Or.inl ⟨by rfl, fun x hx => ?_⟩) ?_; rotate_left; (· go_simp; try with_reducible rfl); try simp only [Act.put, List.setIfInBounds_toArray, List.set_cons_zero, List.set_cons_succ])
  refine wpOrdT_keep (by rfl) (fun K hK => ?_)
  go_simp
  have eL := Ext.alloc w3 (.cells #[.int .i64 m.sy, .int .i64 m.st, .slice Am m.rules.length cm, .slice Ah (haltP m).length ch, .int .i64 s] 104)
  obtain ⟨W4, hW4⟩ : ∃ W, w3.alloc (.cells #[.int .i64 m.sy, .int .i64 m.st, .slice Am m.rules.length cm, .slice Ah (haltP m).length ch, .int .i64 s] 104) = W := ⟨_, rfl⟩
  obtain ⟨nl, hnl⟩ : ∃ n, w3.heap.size = n := ⟨_, rfl⟩
  rw [hW4] at eL
  have bL : Blk W4 nl 104 #[.int .i64 m.sy, .int .i64 m.st, .slice Am m.rules.length cm, .slice Ah (haltP m).length ch, .int .i64 s] := by rw [← hW4]; exact Blk.new _ _ _ _ hnl
  have hpd4 := hpd.ext eL
  have hX4 := (hXD.trans hx3).trans eL
  have hnle : g ≤ nl := by have := (hXD.trans hx3).size; omega
  rw [hW4, hnl]
  refine hK _ _ (hx3.trans eL) ?_
  clear hK K hW4 hnl hpd hph hhp e1 e2 e3
  refine wpOrdT_done ?_
  try simp only [List.drop_succ_cons, List.drop_zero]
  have e1 := bL.drew.cell 3
  simp only [List.getElem?_toArray, List.getElem?_cons_zero, List.getElem?_cons_succ] at e1
  go_wp2_with fail
  refine wp_region_ordT 8 (readsT [0, 1, 2, 3, 4, 5, 6, 7] .done) (by kernel_rfl) (by kernel_rfl) (fun _ _ _ _ _ h => h) ?_
  simp only [readsT]
  repeat (refine wpOrdT_read (v := ?_) (by rfl) (Or.inl ⟨by rfl, fun x hx => ?_⟩) ?_; rotate_left; (· have a1 := hx.cell e1; go_simp; try with_reducible rfl); try simp only [Act.put, List.setIfInBounds_toArray, List.set_cons_zero, List.set_cons_succ])
  refine wpOrdT_done ?_
  try simp only [List.drop_succ_cons, List.drop_zero]
  have HR5 := Lib.hid (bL.drew)
  have HP5 := Lib.hid (hpd4.ext (Ext.drew W4))
  have HX5 := Lib.hid (hX4.trans (Ext.drew W4))
  go_wp2_with fail
  refine bodyPost_ret (v := .tuple #[.pointer (some ⟨nl, 0, none⟩), .bool (decide (((haltP m).length : Int) ≤ 300))]) (by simp [results, Tryz.results52, go_sem]) rfl ⟨HX5.out, nl, _, ?_, HR5.out, HP5.out, by omega⟩
  have : decide (((haltP m).length : Int) ≤ 300) = decide ((haltP m).length ≤ 300) := by
    by_cases h : (haltP m).length ≤ 300
    · rw [decide_eq_true h, decide_eq_true (by omega)]
    · rw [decide_eq_false h, decide_eq_false (by omega)]
  rw [this]
/-- The sizes of the levels so far. -/
inductive Sizes (m : MachD) : Nat → List PartD → Int → List Int → Prop
  | zero : Sizes m 0 (haltP m) 18300 [((haltP m).length : Int)]
  | next {n l s l' s' zs} : Sizes m n l s zs → 0 < l.length → nextP m l s = some (l', s') → Sizes m (n + 1) l' s' (zs ++ [(l'.length : Int)])
/-- What is given: the sizes to the asked depth or the first empty level, or a code. -/
def BlRes (w : World) (m : MachD) (d : Nat) (e : Ending) (w' : World) : Prop :=
  Ext w w' ∧ ((e = .returned (.tuple #[.slice none 0 0, .int .i64 5]) ∧ (300 < (haltP m).length ∨ (haltP m).length ≤ 300 ∧ ∃ n l s zs, n < d ∧ Sizes m n l s zs ∧ 0 < l.length ∧ nextP m l s = none)) ∨
    ((haltP m).length ≤ 300 ∧ ∃ n l s zs u, n ≤ d ∧ Sizes m n l s zs ∧ (n = d ∨ l.length = 0) ∧ e = .returned (.tuple #[u, .int .i64 0]) ∧ OwnInts w.heap.size w' u zs))
theorem nextGo_steps {m : MachD} : ∀ {xs acc : List PartD} {s : Int} {l' : List PartD} {s' : Int}, nextGo m xs acc s = some (l', s') → 0 ≤ s → 0 ≤ s' ∧ s' ≤ s := by
  intro xs
  induction xs with
  | nil => intro acc s l' s' h h0; injection h with h; injection h with _ h; omega
  | cons a xs ih =>
    intro acc s l' s' h h0
    rw [nextGo_cons] at h
    split at h
    · cases h
    · rename_i hn
      split at h
      · cases h
      · have := ih h (by omega)
        omega
theorem nextGo_ok {m : MachD} (hm : machOk m = true) : ∀ {xs acc : List PartD} {s : Int} {l' : List PartD} {s' : Int}, nextGo m xs acc s = some (l', s') → (∀ x ∈ acc, PartOk m x) → (∀ x ∈ xs, PartOk m x) → ∀ x ∈ l', PartOk m x := by
  intro xs
  induction xs with
  | nil => intro acc s l' s' h ha _; injection h with h; injection h with h _; rw [← h]; exact ha
  | cons a xs ih =>
    intro acc s l' s' h ha hx
    rw [nextGo_cons] at h
    split at h
    · cases h
    · rename_i hn
      split at h
      · cases h
      · have hl : longP m a = false := by
          cases e : longP m a with
          | false => rfl
          | true => exact absurd (.inl e) hn
        exact ih h (foldB_all ha (predsP_ok hm (hx a List.mem_cons_self) hl)) (fun x h => hx x (List.mem_cons_of_mem _ h))
theorem Sizes.facts {m : MachD} (hm : machOk m = true) {n : Nat} {l : List PartD} {s : Int} {zs : List Int} (h : Sizes m n l s zs) : (0 ≤ s ∧ s ≤ 18300) ∧ (∀ x ∈ l, PartOk m x) ∧ zs.length = n + 1 ∧ zs[n]? = some (l.length : Int) ∧ Chain m (haltP m) 18300 n l s := by
  induction h with
  | zero => exact ⟨by omega, haltP_ok hm, rfl, rfl, .zero _ _⟩
  | next h0 hl hn ih =>
    obtain ⟨⟨a1, a2⟩, b, c, d, e⟩ := ih
    have hs := nextGo_steps hn a1
    exact ⟨by omega, nextGo_ok hm hn (fun x hx => by cases hx) b, by simp [c], by rw [List.getElem?_append_right (by omega)]; simp [c], .next e hn⟩
/-- Partial configurations whose cells lie apart from a row. -/
def OwnPDr (base : Nat) (w : World) (v : Value) (xs : List PartD) (r : Option Nat) : Prop :=
  ∃ vs, w.ownsRow base 101 3 v xs.length vs ∧ PdAt base w vs xs ∧ ∀ (i : Nat) (u : Value), i < xs.length → vs[i * 3 + 2]? = some u → (u.ownBlock = none ∨ u.ownBlock ≠ r)
theorem OwnPDr.pd {base : Nat} {w : World} {v : Value} {xs : List PartD} {r : Option Nat} (h : OwnPDr base w v xs r) : OwnPD base w v xs := by
  obtain ⟨vs, h1, h2, _⟩ := h
  exact ⟨vs, h1, h2⟩
theorem OwnPDr.ext {base : Nat} {w w' : World} {v : Value} {xs : List PartD} {r : Option Nat} (h : OwnPDr base w v xs r) (he : Ext w w') : OwnPDr base w' v xs r := by
  obtain ⟨vs, h1, h2, h3⟩ := h
  exact ⟨vs, ownsRow_ext h1 he, h2.ext he, h3⟩
theorem OwnPD.apart {base : Nat} {w : World} {v : Value} {xs : List PartD} {r : Option Nat} (h : OwnPD base w v xs) (hr : ∀ g, r = some g → g < base ∨ w.heap.size ≤ g) : OwnPDr base w v xs r := by
  obtain ⟨vs, h1, h2⟩ := h
  refine ⟨vs, h1, h2, fun i u hi hu => ?_⟩
  obtain ⟨u', _, _, e2, ho⟩ := h2 i hi
  rw [hu] at e2
  injection e2 with e2
  subst e2
  cases hb : u.ownBlock with
  | none => exact .inl rfl
  | some g =>
    right
    intro e
    have hl := World.ownsRow.lt ho g hb
    have := hr g e.symm
    omega
theorem OwnPDr.appended {base base' : Nat} {w w' : World} {v sv v' : Value} {xs : List PartD} {n : Nat} {zs : List Value} (h : OwnPDr base w v xs sv.ownBlock) (ho : w.ownsRow base' 2 1 sv n zs) (hg : w.grownBy w' sv.ownBlock)
    (hloc : v'.ownBlock = sv.ownBlock ∨ v'.ownBlock = some w.heap.size) : OwnPDr base w' v xs v'.ownBlock := by
  obtain ⟨vs, h1, h2, h3⟩ := h
  refine ⟨vs, World.ownsRow.kept h1 hg (own_ne h1 ho (by decide)), fun i hi => ?_, fun i u hi hu => ?_⟩
  · obtain ⟨u, e0, e1, e2, hu⟩ := h2 i hi
    exact ⟨u, e0, e1, e2, World.ownsRow.kept hu hg (h3 i u hi e2)⟩
  · rcases hloc with e | e
    · rw [e]; exact h3 i u hi hu
    · rw [e]
      obtain ⟨u', _, _, e2, ho'⟩ := h2 i hi
      rw [hu] at e2
      injection e2 with e2
      subst e2
      cases hb : u.ownBlock with
      | none => exact .inl rfl
      | some g =>
        right
        intro e'
        injection e' with e'
        have := (World.ownsRow.lt ho' g hb).2
        omega
theorem sizePart_c (A : Option Addr) (n c : Nat) (w : World) : Calls Tryz.prog 53 #[.slice A n c] w fun e w' => e = .returned (.int .i64 n) ∧ w = w' := by
  go_enter Tryz.func53, Tryz.ntmps53
  go_wp2
  go_ret
  exact ⟨rfl, rfl⟩
set_option maxRecDepth 20000 in
set_option maxHeartbeats 4000000 in
theorem backwardLevels_c (m : MachD) (mv : Value) (d : Nat) (w : World) (hr : Rules w mv m.rules) (hm : machOk m = true) (hT : Tab w) (hd : d ≤ 60) :
    Calls Tryz.prog 25 #[.agg #[.int .i64 m.sy, .int .i64 m.st, mv], .int .i64 (d : Int)] w (BlRes w m d) := by
  have mok := MOk.of hm
  obtain ⟨i0, hi, hz0, hz1, hz2⟩ := info_parts intInfo
  obtain ⟨Am, cm, rfl, _, _⟩ := hr.form
  obtain ⟨W, hW⟩ : ∃ W, w.alloc (.cells #[.int .i64 m.sy, .int .i64 m.st, .slice Am m.rules.length cm] 26) = W := ⟨_, rfl⟩
  have hX : Ext w W := by rw [← hW]; exact Ext.alloc _ _
  have bM : Blk W w.heap.size 26 #[.int .i64 m.sy, .int .i64 m.st, .slice Am m.rules.length cm] := by rw [← hW]; exact Blk.new _ _ _ _ rfl
  have e1 := bM.cell 0
  have e2 := bM.cell 1
  have e3 := bM.cell 2
  simp only [List.getElem?_toArray, List.getElem?_cons_zero, List.getElem?_cons_succ] at e1 e2 e3
  have hhl := haltingLevel_c m (.slice Am m.rules.length cm) 18300 W (hr.ext hX) hm
  have HW := Lib.hid hW
  rw [← hW] at e1 e2 e3
  clear hW
  go_enter Tryz.func25, Tryz.ntmps25
  go_wp2_with fail
  rw [HW.out]
  refine hhl.mono ?_
  rintro e w1 ⟨hx1, bl, lv, rfl, hbl, hpd, hble⟩
  obtain ⟨Al, cl, rfl, _, _⟩ := hpd.form
  have hX1 := hX.trans hx1
  have hlen := haltP_len m
  clear e1 e2 e3 hhl
  by_cases h300 : (haltP m).length ≤ 300
  · rw [decide_eq_true h300]
    have y3 := hbl.cell 3
    simp only [List.getElem?_toArray, List.getElem?_cons_zero, List.getElem?_cons_succ] at y3
    have H300 := Lib.hid h300
    obtain ⟨L, hL⟩ : ∃ L, (haltP m).length = L := ⟨_, rfl⟩
    have hs0 : Sizes m 0 (haltP m) 18300 [(L : Int)] := by rw [← hL]; exact .zero
    have hL300 : L ≤ 300 := by omega
    have eS := Ext.alloc w1 (.cells #[.int .i64 (L : Int)] 2)
    have hsz : OwnInts w.heap.size (w1.alloc (.cells #[.int .i64 (L : Int)] 2)) (.slice (some ⟨w1.heap.size, 0, none⟩) 1 1) [(L : Int)] :=
      ⟨by simp [ivs], .inr ⟨w1.heap.size, 1, #[.int .i64 (L : Int)], rfl, hX1.size, Blk.new _ _ _ _ rfl, by simp, by unfold maxLen; omega, by simp, by simp [ivs]⟩⟩
    have hpd0 := (hpd.apart (r := some w1.heap.size) (fun g hg => by injection hg with hg; omega)).ext eS
    have hbl0 := hbl.ext eS
    have hX2 := hX1.trans eS
    rw [hL] at y3
    have HL := Lib.hid hL
    have hble' : w.heap.size ≤ bl := by have := hX.size; omega
    clear hL h300
    go_wp2_with (go_at_call 53; refine (sizePart_c _ _ _ _).mono ?_; rintro e w' ⟨rfl, rfl⟩)
    go_loopw [8, 9] (fun sv i wr => ∃ (n : Nat) (l : List PartD) (s : Int) (zs : List Int) (lv : Value) (B : Nat), n ≤ d ∧ i = .int .i64 (n : Int) ∧ Hid (Sizes m n l s zs) ∧ Blk wr bl 104 #[.int .i64 m.sy, .int .i64 m.st, .slice Am m.rules.length cm, lv, .int .i64 s] ∧ OwnPDr B wr lv l sv.ownBlock ∧ OwnInts w.heap.size wr sv zs ∧ Ext w wr ∧ l.length ≤ 300) (fun _ i _ => d - (intOf i).toNat)
    case atStart => exact ⟨0, haltP m, 18300, [(L : Int)], _, _, Nat.zero_le _, rfl, Lib.hid hs0, hbl0, hpd0, hsz, hX2, by rw [HL.out]; exact hL300⟩
    case round =>
      clear hs0 hbl0 hpd0 hsz hX2 hbl hpd eS y3
      obtain ⟨n, l, s, zs, lv, B, hn, rfl, HS, hbl, hpr, hsz, hX2, hl3⟩ := hrel
      have hpd := hpr.pd
      obtain ⟨Al, cl, rfl, _, _⟩ := hpd.form
      obtain ⟨Az, cz, rfl, _, _⟩ := hsz.ints.form
      have hf := HS.out.facts hm
      have y3 := hbl.cell 3
      simp only [List.getElem?_toArray, List.getElem?_cons_zero, List.getElem?_cons_succ] at y3
      by_cases hnd : n < d
      · have hnd' : (n : Int) < (d : Int) := by omega
        by_cases hl0 : 0 < l.length
        · have hl0' : (0 : Int) < (l.length : Int) := by omega
          have hlev := level_c w B bl m (.slice Am m.rules.length cm) (.slice Al l.length cl) l s wr hbl hr hX2 hble' hpd hf.2.1 hm hT (by omega) (by omega) (by omega)
          have hzl := hf.2.2.1
          have HZL := Lib.hid hzl
          clear hf hzl
          go_wp2_with fail
          refine hlev.mono ?_
          rintro e w3 ⟨hg3, ⟨ho, rfl⟩ | ⟨l', s', lv', ho, rfl, hb3, hpd3, hl3'⟩⟩
          · have HO := Lib.hid ho
            have hx3 : Hid (Ext w w3) := Lib.hid (by
              have hg := grownBy_step (r := none) (ext_grownBy hX2 none) hg3 (fun j hj => by injection hj with hj; subst hj; exact .inl hble')
              exact ⟨hg.os, hg.tape, hg.output, hg.size, fun i hi => hg.block i hi (by simp)⟩)
            clear ho y3 hlev
            go_wp2_with fail
            refine bodyPost_ret (v := .tuple #[.slice none 0 0, .int .i64 5]) (by simp [results, Tryz.results25, go_sem]) rfl ⟨hx3.out, .inl ⟨rfl, .inr ⟨H300.out, n, l, s, zs, hnd, HS.out, hl0, HO.out⟩⟩⟩
          · have HS2 := Lib.hid (Sizes.next HS.out hl0 ho)
            have hx3 : Ext w w3 := by
              have hg := grownBy_step (r := none) (ext_grownBy hX2 none) hg3 (fun j hj => by injection hj with hj; subst hj; exact .inl hble')
              exact ⟨hg.os, hg.tape, hg.output, hg.size, fun i hi => hg.block i hi (by simp)⟩
            have hsz3 : OwnInts w.heap.size w3 (.slice Az zs.length cz) zs := own_kept hsz hg3 (blk_ne_row hbl hsz (by decide))
            obtain ⟨Al3, cl3, rfl, _, _⟩ := hpd3.form
            have y3' := hb3.cell 3
            simp only [List.getElem?_toArray, List.getElem?_cons_zero, List.getElem?_cons_succ] at y3'
            have hzl2 : zs.length ≤ 100 := by have := HZL.out; omega
            have eA := Ext.alloc w3 (.cells #[.int .i64 (l'.length : Int)] 2)
            have hoA : OwnInts w.heap.size _ _ zs := hsz3.ext eA
            have hPD := Lib.hid ((hpd3.apart (r := (Value.slice Az zs.length cz).ownBlock) (fun g hg => .inl ((hsz.lt g hg).2))).ext eA)
            have hBL := Lib.hid (hb3.ext eA)
            have hXA := hx3.trans eA
            clear ho y3 hlev hg3 hsz hpd hbl hsz3 hpr
            go_wp2_with (first | (go_at_call 53; refine (sizePart_c _ _ _ _).mono ?_; rintro e w' ⟨rfl, rfl⟩) | (at_builtin; refine wpList_append_own_at _ rfl _ _ 28 rfl w.heap.size 2 i0 (.int .i64 0) 1 8 Tryz.underlying28 hi hz0 hz1 hz2 rfl (by decide) _ _ (ivs zs) rfl hoA ⟨w3.heap.size, 0, none⟩ 1 1 [.int .i64 (l'.length : Int)] rfl rfl (cell_one_new _ _ _) ?c2 ?c3 ?c4 ?c5 ?_))
            case c2 => intro u hu; simp at hu; subst hu; rfl
            case c3 => unfold maxLen; omega
            case c4 => omega
            case c5 => have := hx3.size; simp; omega
            intro v' w9 hown9 hg9 _ hloc
            have hfin : OwnInts w.heap.size w9 v' (zs ++ [(l'.length : Int)]) := by
              unfold OwnInts
              rw [ivs_append, List.length_append]
              exact hown9
            have hX9 := Lib.hid (hXA.grown hg9 (fun b hb => (hoA.lt b hb).1))
            have hB9 := Lib.hid (Blk.apart hBL.out hoA (by decide) hg9)
            have hP9 := Lib.hid (hPD.out.appended (v' := v') hoA hg9 (by simpa using hloc))
            have hF9 := Lib.hid hfin
            obtain ⟨A9, c9, rfl, _, _⟩ := hfin.ints.form
            clear hown9 hg9 hfin hoA hloc
            go_wp2
            go_roundw
            case rel => exact ⟨n + 1, l', s', zs ++ [(l'.length : Int)], _, _, by omega, by go_num, HS2, hB9.out, hP9.out, hF9.out, hX9.out, hl3'⟩
            case measure => simp [intOf]; omega
        · have hl0' : ¬ (0 : Int) < (l.length : Int) := by omega
          have HSZ := Lib.hid hsz
          have HX := Lib.hid hX2
          clear hf hsz hpd hpr hbl
          go_wp2_with fail
          refine bodyPost_ret (v := .tuple #[.slice Az zs.length cz, .int .i64 0]) (by simp [results, Tryz.results25, go_sem]) rfl ⟨HX.out, .inr ⟨H300.out, n, l, s, zs, _, hn, HS.out, .inr (by omega), rfl, HSZ.out⟩⟩
      · have hnd' : ¬ (n : Int) < (d : Int) := by omega
        have HSZ := Lib.hid hsz
        have HX := Lib.hid hX2
        clear hf hsz hpd hpr hbl
        go_wp2_with fail
        refine bodyPost_ret (v := .tuple #[.slice Az zs.length cz, .int .i64 0]) (by simp [results, Tryz.results25, go_sem]) rfl ⟨HX.out, .inr ⟨H300.out, n, l, s, zs, _, hn, HS.out, .inl (by omega), rfl, HSZ.out⟩⟩
  · rw [decide_eq_false h300]
    have HX := Lib.hid hX1
    go_wp2_with fail
    refine bodyPost_ret (v := .tuple #[.slice none 0 0, .int .i64 5]) (by simp [results, Tryz.results25, go_sem]) rfl ⟨HX.out, .inl ⟨rfl, .inl (by omega)⟩⟩
end Go.Proofs.YtacpchapgklcgaaGreatDoor
end
section
set_option linter.unusedSimpArgs false
set_option linter.unusedVariables false
namespace Go.Proofs.YtacpchapgklcgaaGreatDoor
open Go Go.RowKit Go.Proofs
set_option maxHeartbeats 400000
theorem hdD_rev (xs : List Int) (h : xs.length ≠ 0) : xs.reverse[xs.reverse.length - 1]? = some (hdD xs) := by
  cases xs with
  | nil => simp at h
  | cons a l =>
    simp [hdD]
theorem nearest_c (v : Value) (xs : List Int) (w : World) (h : Ints w v xs.reverse) (hn : xs.length ≤ 1048576) :
    Calls Tryz.prog 138 #[v] w fun e w' => e = .returned (.int .i64 (hdD xs)) ∧ w = w' := by
  have hl : xs.reverse.length = xs.length := List.length_reverse
  have hr := hdD_rev xs
  generalize xs.reverse = ys at *
  obtain ⟨A, c, rfl, h2, h2'⟩ := h.form
  by_cases h0 : xs.length = 0
  · have hz : xs = [] := List.length_eq_zero_iff.1 h0
    have HE : Hid (hdD xs = 0) := by unfold Hid; rw [hz]; rfl
    have hy0 : ys.length = 0 := by omega
    have hy : ys = [] := List.length_eq_zero_iff.1 hy0
    subst hy
    go_enter Tryz.func138, Tryz.ntmps138
    go_wp2
    go_ret
    exact ⟨by rw [HE.out]; rfl, rfl⟩
  · have hlt : ys.length - 1 < ys.length := by omega
    obtain ⟨b, off, rfl, hc⟩ := h.at hlt
    have c0 := hc (ys.length - 1) hlt
    have HE : Hid (hdD xs = ys[ys.length - 1]) := by
      have := hr h0
      rw [List.getElem?_eq_getElem hlt] at this
      injection this with this
      exact this.symm
    generalize ys[ys.length - 1] = z at *
    have hb : ((ys.length : Int) == 0) = false := by rw [beq_eq_false_iff_ne]; omega
    have i1 : (0 : Int) ≤ (ys.length : Int) - 1 := by omega
    have i2 : ((ys.length : Int) - 1) < (ys.length : Int) := by omega
    have i3 : ((ys.length : Int) - 1).toNat = ys.length - 1 := by omega
    clear hc hr hl h
    go_enter Tryz.func138, Tryz.ntmps138
    go_wp2
    go_ret
    exact ⟨by rw [HE.out]; rfl, rfl⟩
theorem rev_drop1 (xs : List Int) : (xs.drop 1).reverse = xs.reverse.take (xs.length - 1) := by
  cases xs with
  | nil => rfl
  | cons a l => simp
theorem pop_c (base : Nat) (v : Value) (xs : List Int) (w : World) (h : OwnInts base w v xs.reverse) (hn : xs.length ≤ 1048576) :
    Calls Tryz.prog 136 #[v] w fun e w' => (∃ u, e = .returned u ∧ OwnInts base w u (xs.drop 1).reverse ∧ u.ownBlock = v.ownBlock) ∧ w = w' := by
  rw [rev_drop1]
  have hl : xs.reverse.length = xs.length := List.length_reverse
  generalize xs.reverse = ys at *
  obtain ⟨A, c, rfl, h2, h2'⟩ := h.ints.form
  by_cases h0 : xs.length = 0
  · have hy0 : ys.length = 0 := by omega
    have hy : ys = [] := List.length_eq_zero_iff.1 hy0
    subst hy
    have hE : Hid (([] : List Int).take (xs.length - 1) = []) := by unfold Hid; simp
    rw [hE.out]
    clear hl h0
    go_enter Tryz.func136, Tryz.ntmps136
    go_wp2
    go_ret
    exact ⟨⟨_, rfl, h, rfl⟩, rfl⟩
  · have hne : 0 < ys.length := by omega
    obtain ⟨g, rfl, _, _⟩ := own_at h hne
    rw [show xs.length - 1 = ys.length - 1 by omega]
    have ht := OwnInts.take h (ys.length - 1) (by omega) (by simp)
    have i1 : (0 : Int) ≤ (ys.length : Int) - 1 := by omega
    have i3 : ((ys.length : Int) - 1).toNat = ys.length - 1 := by omega
    have i4 : ys.length - 1 ≤ c := by omega
    have i5 : (ys.length : Int) - 1 ≤ (c : Int) := by omega
    have i6 : max (0 : Int) ((ys.length : Int) - 1) = (ys.length : Int) - 1 := by omega
    have i7 : (1 : Int) ≤ (ys.length : Int) := by omega
    have HT := Lib.hid ht
    clear hl h0 ht
    go_enter Tryz.func136, Tryz.ntmps136
    go_wp2
    go_ret
    exact ⟨⟨_, rfl, HT.out, rfl⟩, rfl⟩
theorem rev_push (s : Int) (xs : List Int) (h : ¬ (s = 0 ∧ xs = [])) : (pushL s xs).reverse = xs.reverse ++ [s] := by
  unfold pushL
  rw [if_neg h, List.reverse_cons]
/-- Only the block of a slice, and new ones, are touched. -/
structure Pushed (w w' : World) (v u : Value) : Prop where
  os : w'.os = w.os
  tape : w'.tape = w.tape
  output : w'.output = w.output
  size : w.heap.size ≤ w'.heap.size
  same : ∀ k, k < w.heap.size → v.ownBlock ≠ some k → w'.heap[k]? = w.heap[k]?
  new : ∀ g, u.ownBlock = some g → v.ownBlock = some g ∨ w.heap.size ≤ g
theorem push_c (base : Nat) (s : Int) (v : Value) (xs : List Int) (w : World) (h : OwnInts base w v xs.reverse) (hb : base ≤ w.heap.size) (hn : xs.length ≤ 1000000) :
    Calls Tryz.prog 137 #[v, .int .i64 s] w fun e w' => ∃ u, e = .returned u ∧ OwnInts base w' u (pushL s xs).reverse ∧ Pushed w w' v u := by
  have hl : xs.reverse.length = xs.length := List.length_reverse
  obtain ⟨i0, hi, hz0, hz1, hz2⟩ := info_parts intInfo
  by_cases h0 : s = 0 ∧ xs = []
  · obtain ⟨rfl, rfl⟩ := h0
    have e : pushL 0 [] = [] := rfl
    rw [e]
    obtain ⟨A, c, rfl, h2, h2'⟩ := h.ints.form
    go_enter Tryz.func137, Tryz.ntmps137
    go_wp2
    go_ret
    exact ⟨_, rfl, h, ⟨rfl, rfl, rfl, Nat.le_refl _, fun _ _ _ => rfl, fun g hg => .inl hg⟩⟩
  · have HP := Lib.hid (rev_push s xs h0)
    have htest : s = 0 → xs.reverse.length ≠ 0 := fun hs hx => h0 ⟨hs, List.length_eq_zero_iff.1 (by omega)⟩
    rw [HP.out]
    generalize xs.reverse = ys at *
    obtain ⟨A, c, rfl, h2, h2'⟩ := h.ints.form
    have ho : w.ownsRow base 2 1 (.slice A ys.length c) ys.length (ivs ys) := h
    have ho' := ho.alloc (.cells #[.int .i64 s] 2)
    have hyl : ys.length ≤ 1000000 := by omega
    have key : Calls Tryz.prog 137 #[.slice A ys.length c, .int .i64 s] w fun e w' => ∃ u, e = .returned u ∧ OwnInts base w' u (ys ++ [s]) ∧ Pushed w w' (.slice A ys.length c) u := by
      by_cases hs : s = 0
      · have hb0 : (s == 0) = true := by simp [hs]
        have hb1 : ((ys.length : Int) == 0) = false := by rw [beq_eq_false_iff_ne]; have := htest hs; omega
        clear hs htest h0 hl HP
        go_enter Tryz.func137, Tryz.ntmps137
        go_wp2_with (at_builtin; refine wpList_append_own_at _ rfl _ _ 28 rfl base 2 i0 (.int .i64 0) 1 8 Tryz.underlying28 hi hz0 hz1 hz2 rfl (by decide) _ _ _ rfl ho' ⟨w.heap.size, 0, none⟩ 1 1 [.int .i64 s] rfl rfl (cell_one_new _ _ _) ?c2 ?c3 ?c4 ?c5 ?_)
        case c2 => intro u hu; simp at hu; subst hu; rfl
        case c3 => unfold maxLen; omega
        case c4 => omega
        case c5 => simp; omega
        intro v' w4 hown4 hg4 _ hat4
        obtain ⟨A', c', rfl, _, _, _⟩ := (ownsRow_row hown4).form
        go_wp2
        go_ret
        have hpu : Pushed w w4 (.slice A ys.length c) (.slice A' (ys.length + 1) c') := ⟨hg4.os, hg4.tape, hg4.output, by have := hg4.size; simp at this; omega, fun k hk hne => (hg4.block k (by simp; omega) (fun e => hne e.symm)).trans (Below.heap_alloc _ _ _ hk), fun g hg => by rcases hat4 with e | e <;> rw [hg] at e <;> first | exact .inl e.symm | (injection e with e; exact .inr (by rw [e]; simp))⟩
        exact ⟨_, rfl, by simpa [OwnInts, ivs_append, ivs] using hown4, hpu⟩
      · have hb0 : (s == 0) = false := by simp [hs]
        clear hs htest h0 hl HP
        go_enter Tryz.func137, Tryz.ntmps137
        go_wp2_with (at_builtin; refine wpList_append_own_at _ rfl _ _ 28 rfl base 2 i0 (.int .i64 0) 1 8 Tryz.underlying28 hi hz0 hz1 hz2 rfl (by decide) _ _ _ rfl ho' ⟨w.heap.size, 0, none⟩ 1 1 [.int .i64 s] rfl rfl (cell_one_new _ _ _) ?c2 ?c3 ?c4 ?c5 ?_)
        case c2 => intro u hu; simp at hu; subst hu; rfl
        case c3 => unfold maxLen; omega
        case c4 => omega
        case c5 => simp; omega
        intro v' w4 hown4 hg4 _ hat4
        obtain ⟨A', c', rfl, _, _, _⟩ := (ownsRow_row hown4).form
        go_wp2
        go_ret
        have hpu : Pushed w w4 (.slice A ys.length c) (.slice A' (ys.length + 1) c') := ⟨hg4.os, hg4.tape, hg4.output, by have := hg4.size; simp at this; omega, fun k hk hne => (hg4.block k (by simp; omega) (fun e => hne e.symm)).trans (Below.heap_alloc _ _ _ hk), fun g hg => by rcases hat4 with e | e <;> rw [hg] at e <;> first | exact .inl e.symm | (injection e with e; exact .inr (by rw [e]; simp))⟩
        exact ⟨_, rfl, by simpa [OwnInts, ivs_append, ivs] using hown4, hpu⟩
    exact key
end Go.Proofs.YtacpchapgklcgaaGreatDoor
end
