/- Contract of the program's search for nodes: it adds the nodes of a list that have not been found yet. The nodes are lists of 3 to 11 numbers below a million, and few. -/
import Derived.Test.YtdkdmcaehinkhaaDoorFind
import Derived.Maps.AppendAt
namespace Go.Proofs.YtdkdmcaehinkhaaDoor
open Go Go.RowKit Go.Proofs
set_option maxHeartbeats 400000
/-- The library's table lies below a block number. -/
def TabLow (base : Nat) : Prop := ∀ g, Tryd.prog.globalNamed "internal/strconv.uint64pow10" = some g → g < base
theorem Tab.below {w w' : World} {base : Nat} (h : Tab w) (hl : TabLow base) (hb : Below base w w') : Tab w' := by
  unfold Tab Lib.TabIs World.var? at *
  cases hg : Tryd.prog.globalNamed "internal/strconv.uint64pow10" with
  | none => rw [hg] at h; cases h
  | some g =>
    rw [hg] at h
    simp only [Option.bind_some] at h ⊢
    rw [hb.block g (hl g hg)]
    exact h
theorem Tab.low {w : World} (h : Tab w) : TabLow w.heap.size := by
  intro g hg
  unfold Tab Lib.TabIs World.var? at h
  rw [hg] at h
  simp only [Option.bind_some] at h
  cases hb : w.heap[g]? with
  | none => rw [hb] at h; cases h
  | some o => exact (Array.getElem?_eq_some_iff.1 hb).1
theorem TabLow.mono {b b' : Nat} (h : TabLow b) (hb : b ≤ b') : TabLow b' := fun g hg => Nat.lt_of_lt_of_le (h g hg) hb
section
variable {base B1 : Nat} {w : World} {bs : Nat} {m : MachD} {rv lv : Value} {list : List (List Int)} {us : List Value} {k : Nat} {nodes : List (List Int)} {beg : Bool} {nv : Value} {vs : List Value} {bm : Nat} {wr : World}
/-- The flag is written. -/
theorem FindInv.setBeg (h : FindInv base B1 w bs m rv lv list us k nodes beg nv vs bm wr) (b : Bool) :
    FindInv base B1 w bs m rv lv list us k nodes b nv vs bm (wr.setCell ⟨bs, 5, none⟩ (.bool b)) := by
  have hg := grownBy_setCell wr ⟨bs, 5, none⟩ (.bool b)
  have R := h.rest.blk h.st.blk hg
  exact ⟨⟨h.st.blk.set_ 5 (.bool b), R.own, R.rows, h.st.apart, h.st.seen.setCell (h.st.seen.ne_blk h.st.blk) _, h.st.lowS, h.st.lowM⟩, R.lown, R.lrows, h.old, h.outer, h.below.setCell h.st.lowS _⟩
/-- The row of the list with index k is appended. -/
theorem FindInv.added {w3 w4 : World} {o : Obj} {u : Value} {y : List Int} {v' : Value} (hB : base ≤ B1) (h : FindInv base B1 w bs m rv lv list us k nodes beg nv vs bm wr)
    (hap : ∀ (i j : Nat) (u u' : Value) (g : Nat), us[i]? = some u → us[j]? = some u' → u.ownBlock = some g → u'.ownBlock = some g → i = j)
    (_ : k < list.length) (hu : us[k]? = some u) (R3 : Rest base B1 bs lv list us nodes nv vs w3) (hru : OwnInts B1 w3 u y) (blk3 : Blk w3 bs 64 #[.int .i64 m.sy, .int .i64 m.st, rv, nv, .map (some bm), .bool beg])
    (hs3 : Seen w3 bm (nodes.length + 1) (fun k => decide (k = keyOfList y) || keysOf nodes k)) (hb3 : Below base w w3) (hsz : base ≤ w3.heap.size) (hlw : ∀ g, lv.ownBlock = some g → g < w3.heap.size)
    (hown : w4.ownsRow base 38 1 v' (nodes.length + 1) (vs ++ [u])) (hg : (w3.alloc o).grownBy w4 nv.ownBlock) (hloc : v'.ownBlock = nv.ownBlock ∨ v'.ownBlock = some (w3.alloc o).heap.size) :
    FindInv base B1 w bs m rv lv list us (k + 1) (nodes ++ [y]) beg v' (vs ++ [u]) bm (w4.setCell ⟨bs, 3, none⟩ v') := by
  have hown' := hown
  obtain ⟨A', c', rfl, _, _, _⟩ := (ownsRow_row hown).form
  obtain ⟨g', rfl, hgb, hgl⟩ := own_at hown (by omega)
  have R4 := (R3.ext (Ext.alloc w3 o)).snoc hB h.outer (hru.ext (Ext.alloc w3 o)) hown hg
  have own3 := R3.own.alloc o
  have blk4 := Blk.apart (blk3.alloc o) own3 (by decide) hg
  have seen4 := ((hs3.ext (Ext.alloc w3 o)).kept hg ((hs3.ext (Ext.alloc w3 o)).ne_row own3))
  have hb4 : Below base w w4 := (hb3.alloc hsz o).grown hg (by simp; omega) (fun b hb => (own3.lt b hb).1)
  have R5 := R4.blk blk4 (grownBy_setCell w4 ⟨bs, 3, none⟩ (.slice (some ⟨g', 0, none⟩) (nodes.length + 1) c'))
  have hl := h.st.own.1
  have hne : ∀ (i : Nat) (u' : Value) (g : Nat), vs[i]? = some u' → u'.ownBlock = some g → u.ownBlock ≠ some g := by
    intro i u' g hi hgu he
    rcases h.old i u' g hi hgu with hlt | ⟨j, u'', hj, hj', hgj⟩
    · have := (hru.lt g he).1
      omega
    · have := hap j k u'' u g hj' hu hgj he
      omega
  refine ⟨⟨blk4.set_ 3 _, R5.own, R5.rows, apart_snoc (nodes := nodes) (by omega) h.st.apart hne, ?_, h.st.lowS, h.st.lowM⟩, R5.lown, R5.lrows, ?_, ?_, hb4.setCell h.st.lowS _⟩
  · have := seen4.setCell (a := ⟨bs, 3, none⟩) (seen4.ne_blk blk4) (.slice (some ⟨g', 0, none⟩) (nodes.length + 1) c')
    have e : keysOf (nodes ++ [y]) = fun k => decide (k = keyOfList y) || keysOf nodes k := funext (keysOf_snoc nodes y)
    rw [e]
    simpa using this
  · intro i x g hi hgx
    by_cases hlt : i < vs.length
    · rw [List.getElem?_append_left hlt] at hi
      rcases h.old i x g hi hgx with c | ⟨j, x', c, d⟩
      · exact .inl c
      · exact .inr ⟨j, x', by omega, d⟩
    · rw [List.getElem?_append_right (by omega)] at hi
      have := (List.getElem?_eq_some_iff.1 hi).1
      have e : i - vs.length = 0 := by simp at this; omega
      rw [e] at hi
      simp at hi
      subst hi
      exact .inr ⟨k, u, by omega, hu, hgx⟩
  · rcases hloc with e | e
    · rw [e]; exact h.outer
    · refine .inr fun he => ?_
      have := hlw _ (he ▸ e)
      simp at this
      omega
end
def FindRes (base : Nat) (w : World) (bs : Nat) (m : MachD) (rv : Value) (s : List (List Int) × Bool) (bm : Nat) (e : Ending) (w' : World) : Prop :=
  e = .returned (.bool (decide (s.1.length ≤ 2000))) ∧ (∃ nv vs, SegSt base w' bs m rv s.1 s.2 nv vs bm) ∧ Below base w w'
set_option maxHeartbeats 4000000 in
set_option maxRecDepth 20000 in
theorem find_c (base B1 : Nat) (w : World) (bs : Nat) (m : MachD) (rv lv : Value) (list : List (List Int)) (us : List Value) (nodes : List (List Int)) (beg : Bool) (nv : Value) (vs : List Value) (bm : Nat)
    (h : FindInv base B1 w bs m rv lv list us 0 nodes beg nv vs bm w) (hB : base ≤ B1) (hB1 : B1 ≤ w.heap.size)
    (hap : ∀ (i j : Nat) (u u' : Value) (g : Nat), us[i]? = some u → us[j]? = some u' → u.ownBlock = some g → u'.ownBlock = some g → i = j)
    (hn : ∀ x ∈ nodes, Fits x) (hl : ∀ x ∈ list, Fits x) (hs1 : nodes.length + list.length ≤ 100000) (hT : Tab w) (hTl : TabLow base) :
    Calls Tryd.prog 32 #[.pointer (some ⟨bs, 0, none⟩), lv] w (FindRes base w bs m rv (addAll (nodes, beg) list) bm) := by
  obtain ⟨Al, cl, rfl, h3, h3', _⟩ := (ownsRow_row h.lown).form
  obtain ⟨i0, hi, hz0, hz1, hz2⟩ := info_parts rowInfo
  have HAP := Lib.hid hap
  have HN := Lib.hid hn
  have HL := Lib.hid hl
  clear hap hn hl
  go_enter Tryd.func32, Tryd.ntmps32
  go_wp2
  go_loopw [10] (fun i wr => ∃ k : Nat, k ≤ list.length ∧ i = .int .i64 k ∧ ∃ nv vs, FindInv base B1 w bs m rv (.slice Al list.length cl) list us k (addAll (nodes, beg) (list.take k)).1 (addAll (nodes, beg) (list.take k)).2 nv vs bm wr) (fun i _ => list.length - (intOf i).toNat)
  case atStart => exact ⟨0, Nat.zero_le _, rfl, nv, vs, by simpa [addAll] using h⟩
  case round =>
    clear h
    obtain ⟨k, hk, rfl, nv, vs, inv⟩ := hrel
    have hbw : base ≤ wr.heap.size := Nat.le_trans hB (Nat.le_trans hB1 inv.below.size)
    by_cases hlt : k < list.length
    · obtain ⟨g, rfl, hgb, hgl⟩ := own_at inv.lown (by omega)
      obtain ⟨u, hu, hru⟩ := inv.lrows k hlt
      have q0 := inv.lown.cellAt k (by omega)
      rw [hu] at q0
      obtain ⟨Au, cu, rfl, _, _⟩ := hru.ints.form
      have HT := Lib.hid (addAll_take (nodes, beg) list k hlt)
      have hfy := HL.out list[k] (List.getElem_mem hlt)
      have HF := Lib.hid (addAll_fits (s := (nodes, beg)) (l := list.take k) HN.out (fun y hy => HL.out y (List.mem_of_mem_take hy)))
      have hlen := (addAll_length (nodes, beg) (list.take k)).2
      have hlen2 : (addAll (nodes, beg) (list.take k)).1.length ≤ 100000 := by simp at hlen; omega
      clear hlen
      generalize addAll (nodes, beg) (list.take k) = s at *
      obtain ⟨ns, bg⟩ := s
      simp only at inv HF hlen2
      generalize list[k] = y at *
      obtain ⟨y1, y2, y3⟩ := hfy
      have hfy : Fits y := ⟨y1, y2, y3⟩
      have Y3 := Lib.hid y3
      have FY := Lib.hid hfy
      clear y3 hfy
      go_wp2_with fail
      refine (decimals_c _ y _ hru.ints (by omega) y2 Y3.out (hT.below hTl inv.below)).mono ?_
      rintro e w2 ⟨rfl, hx2⟩
      have inv2 := inv.ext hx2 hbw
      have hru2 := hru.ext hx2
      have hsz2 := hx2.size
      have hks : (⟨(keyOfList y).toArray⟩ : ByteArray).size ≤ maxLen := by
        have := key_length y Y3.out
        show (keyOfList y).toArray.size ≤ maxLen
        simp only [List.size_toArray]
        unfold maxLen; omega
      have hlook := inv2.st.seen.lookup ⟨(keyOfList y).toArray⟩ hks
      have hk2 : keysOf ns (⟨(keyOfList y).toArray⟩ : ByteArray).data.toList = decide (y ∈ ns) := by
        show keysOf ns (keyOfList y) = _
        exact keysOf_iff HF.out FY.out
      rw [hk2] at hlook
      have cb := inv2.st.blk.cell
      clear q0
      by_cases hin : y ∈ ns
      · have hin' : decide (y ∈ ns) = true := by simp [hin]
        rw [hin'] at hlook
        have HA := Lib.hid (show addOne (ns, bg) y = (ns, bg) by simp [addOne, hin])
        clear hin hin' hk2 hks
        go_wp2
        go_roundw
        case rel => exact ⟨k + 1, by omega, by go_num, nv, vs, by rw [HT.out, HA.out]; exact inv2.skip⟩
        case measure => simp [intOf]; omega
      · have hin' : decide (y ∈ ns) = false := by simp [hin]
        rw [hin'] at hlook
        have HA := Lib.hid (show addOne (ns, bg) y = (ns ++ [y], bg || mayB y) by simp [addOne, hin])
        obtain ⟨w3, hupd, hseen3, hg3⟩ := inv2.st.seen.update (by unfold maxLen; omega) ⟨(keyOfList y).toArray⟩ hks
        have hnb : some bs ≠ some bm := by
          have := inv2.st.seen.ne_blk inv2.st.blk
          simp; omega
        have blk3 := inv2.st.blk.kept hg3 hnb
        have rest3 := inv2.rest.map inv2.st.seen hg3
        have hru3 := own_kept hru2 hg3 (inv2.st.seen.ne_row hru2)
        have hbl3 : Below base w w3 := inv2.below.grown hg3 (by omega) (fun b hb => by injection hb with hb; subst hb; exact inv2.st.lowM)
        have cb3 := blk3.cell
        have hbw3 : base ≤ w3.heap.size := by have := hg3.size; omega
        clear hin hin' hk2 hks
        go_wp2_with (at_builtin; refine wpList_append_own_at _ rfl _ _ 26 rfl base 38 i0 (.slice none 0 0) 1 24 Tryd.underlying26 hi hz0 hz1 hz2 rfl (by decide) _ _ _ rfl (rest3.own.alloc _) ⟨w3.heap.size, 0, none⟩ 1 1 [.slice Au y.length cu] rfl rfl (cell_one_new _ _ _) ?c2 ?c3 ?c4 ?c5 ?_)
        case c2 => intro u hu; simp at hu; subst hu; rfl
        case c3 => unfold maxLen; omega
        case c4 => omega
        case c5 => simp; omega
        intro v' w4 hown4 hg4 _ hloc
        obtain ⟨A', c', rfl, _, _, _⟩ := (ownsRow_row hown4).form
        have hlw : ∀ g', (Value.slice (some ⟨g, 0, none⟩) list.length cl).ownBlock = some g' → g' < w3.heap.size := fun g' hg' => by
          simp [Value.ownBlock] at hg'; subst hg'
          have := hg3.size
          omega
        have inv5 := FindInv.added hB inv2 HAP.out hlt hu rest3 hru3 blk3 hseen3 hbl3 hbw3 hlw hown4 hg4 (by simpa using hloc)
        have hru5 : Ints (w4.setCell ⟨bs, 3, none⟩ (.slice A' (ns.length + 1) c')) (.slice Au y.length cu) y := by
          obtain ⟨x5, e5, h5⟩ := inv5.st.rows ns.length (by simp)
          have hl5 := inv2.st.own.1
          rw [List.getElem?_append_right (by omega)] at e5
          simp [hl5] at e5
          subst e5
          simpa using h5.ints
        have blk4 := Blk.apart (blk3.alloc _) (rest3.own.alloc _) (by decide) hg4
        have fz := blk4.frozen 3
        have cz := blk4.cell 3
        have cb5 := inv5.st.blk.cell 5
        have fb5 := inv5.st.blk.frozen 5
        simp only [List.getElem?_toArray, List.getElem?_cons_zero, List.getElem?_cons_succ] at cz cb5
        have INV := Lib.hid inv5
        clear cb cb3 hupd hlook hseen3 rest3 blk3 hru3 hru2 inv2 hg4 hown4 blk4 inv5
        cases bg with
        | true =>
          go_wp2
          go_roundw
          case rel => exact ⟨k + 1, by omega, by go_num, _, _, by rw [HT.out, HA.out]; exact INV.out.setBeg true⟩
          case measure => simp [intOf]; omega
        | false =>
          go_wp2_with fail
          refine (mayBegin_c _ y _ hru5 (by omega)).mono ?_
          rintro e w6 ⟨rfl, rfl⟩
          go_wp2
          go_roundw
          case rel => exact ⟨k + 1, by omega, by go_num, _, _, by rw [HT.out, HA.out]; exact INV.out.setBeg (mayB y)⟩
          case measure => simp [intOf]; omega
    · have hke : k = list.length := by omega
      have ht : list.take k = list := by rw [hke, List.take_length]
      rw [ht] at inv
      have hlen := (addAll_length (nodes, beg) list).2
      have cb := inv.st.blk.cell 3
      simp only [List.getElem?_toArray, List.getElem?_cons_zero, List.getElem?_cons_succ] at cb
      obtain ⟨An, cn, rfl, _, _, _⟩ := (ownsRow_row inv.st.own).form
      clear ht
      generalize addAll (nodes, beg) list = s at *
      simp only at hlen
      go_wp2
      go_ret
      exact ⟨by first | rfl | (congr 2; simp; omega), ⟨_, _, inv.st⟩, inv.below⟩
end Go.Proofs.YtdkdmcaehinkhaaDoor
