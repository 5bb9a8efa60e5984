/- What a store into one block leaves of other blocks and rows. No condition.
Contract of the closure's search: an outline is laid into the list where it is new.
Contracts on automata: a function is called with each state from which a symbol leads to a state (twice: for each of the two functions that are handed in), and these two functions. -/
import Derived.Test.YtacpchapgklcgaaGreatDoorR01
import Derived.Test.YtacpchapgklcgaaGreatDoorR12
import Derived.Deep.AppendLies
import Derived.Maps.AppendAt
import Derived.StillTailTactics
section
namespace Go.Proofs.YtacpchapgklcgaaGreatDoor
open Go Go.RowKit Go.Proofs
theorem Blk.kept {w w' : World} {g : Nat} {t : TypeId} {cs : Array Value} {row : Option Nat} (h : Blk w g t cs) (hg : w.grownBy w' row) (hne : some g ≠ row) : Blk w' g t cs := (hg.block g h.lt hne).trans h
theorem blk_ne_row {w : World} {g : Nat} {t : TypeId} {cs : Array Value} (hb : Blk w g t cs) {base : Nat} {e : TypeId} {size : Nat} {v : Value} {n : Nat} {xs : List Value} (ho : w.ownsRow base e size v n xs) (hne : t ≠ e) : some g ≠ v.ownBlock := by
  rcases ho.2 with ⟨rfl, _⟩ | ⟨g', cap, cur, rfl, _, hh, _⟩
  · simp [Value.ownBlock]
  · intro he
    have : g = g' := by simpa [Value.ownBlock] using he
    subst this
    unfold Blk at hb
    rw [hb] at hh
    injection hh with hh
    injection hh with _ ht
    exact hne ht
theorem own_kept {w w' : World} {base : Nat} {e : TypeId} {size : Nat} {v : Value} {n : Nat} {xs : List Value} {g : Nat} (h : w.ownsRow base e size v n xs) (hg : w.grownBy w' (some g)) (hne : some g ≠ v.ownBlock) : w'.ownsRow base e size v n xs := h.kept hg (.inr (Ne.symm hne))
theorem grownBy_setCell (w : World) (p : Addr) (u : Value) : w.grownBy (w.setCell p u) (some p.block) :=
  ⟨rfl, rfl, rfl, by simp [World.setCell], fun k _ hk => Below.heap_setCell w p u k (fun e => hk (by rw [e]))⟩
theorem blk_type {w : World} {g : Nat} {t t' : TypeId} {cs cs' : Array Value} (h : Blk w g t cs) (h' : Blk w g t' cs') : t = t' := by
  unfold Blk at h h'
  rw [h] at h'
  injection h' with h'
  injection h' with _ e
theorem blk_ne {w : World} {g g' : Nat} {t t' : TypeId} {cs cs' : Array Value} (h : Blk w g t cs) (h' : Blk w g' t' cs') (ht : t ≠ t') : g ≠ g' := by
  rintro rfl
  exact ht (blk_type h h')
end Go.Proofs.YtacpchapgklcgaaGreatDoor
end
section
set_option linter.unusedSimpArgs false
set_option linter.unusedVariables false
set_option linter.unusedSectionVars false
set_option maxHeartbeats 4000000
namespace Go.Proofs.YtacpchapgklcgaaGreatDoor
open Go Go.RowKit Go.Proofs Go.Maps
theorem outTy : MapTyB Tryz.prog 145 147 4 where
  keyed := Keyed.of_law (deep_law_laid (by kernel_rfl) (m := 3) (by omega) (by decide +kernel) (by kernel_rfl) (by kernel_rfl))
  und := Tryz.underlying145
  el := Tryz.underlying4
  zero w := by kernel_rfl
def smallO (a : Outl) : Prop := (0 ≤ a.1 ∧ a.1 ≤ 1000) ∧ (0 ≤ a.2.1 ∧ a.2.1 ≤ 1000) ∧ (0 ≤ a.2.2.1 ∧ a.2.2.1 ≤ 1000) ∧ (0 ≤ a.2.2.2 ∧ a.2.2.2 ≤ 1000)
theorem wf1000 {z : Int} (h : 0 ≤ z ∧ z ≤ 1000) : (Lit.int .i64 z).wf = true := by
  obtain ⟨_, _⟩ := h
  simp [Lit.wf, IntKind.min, IntKind.max, IntKind.signed, IntKind.bits]
  omega
theorem outKey (a : Outl) (h : smallO a) : ∃ l, keyOf Tryz.prog 147 (outV a) = some l := by
  have w1 := wf1000 h.1
  have w2 := wf1000 h.2.1
  have w3 := wf1000 h.2.2.1
  have w4 := wf1000 h.2.2.2
  have c3 : Tryz.prog.cellsOf 147 = 4 := by kernel_rfl
  have c1 : Tryz.prog.cellsOf 2 = 1 := by kernel_rfl
  have kt : Tryz.prog.keyType 147 = true := by kernel_rfl
  obtain ⟨d, hd⟩ : ∃ d, Tryz.prog.types.size = d + 1 := ⟨Tryz.prog.types.size - 1, by decide +kernel⟩
  have hf : (outV a).formed Tryz.prog 147 = true := by simp [Value.formed, outV, Tryz.underlying147, c3]
  have hK : Tryz.prog.keyLits (Tryz.prog.types.size + 1) 147 (outV a).cells.toList = some [.int .i64 a.1, .int .i64 a.2.1, .int .i64 a.2.2.1, .int .i64 a.2.2.2] := by
    rw [hd]
    have hr : List.range 4 = [0, 1, 2, 3] := rfl
    simp [Program.keyLits, outV, Value.cells, Tryz.underlying147, Tryz.underlying2, c3, c1, w1, w2, w3, w4, hr]
  unfold keyOf
  rw [Tryz.underlying147]
  simp only [kt, hf, Bool.and_self, if_true, hK]
  exact ⟨_, rfl⟩
theorem outV_inj (x y : Outl) (h : outV x = outV y) : x = y := by
  obtain ⟨x1, x2, x3, x4⟩ := x
  obtain ⟨y1, y2, y3, y4⟩ := y
  simp only [outV, Value.agg.injEq, Array.mk.injEq, List.cons.injEq, Value.int.injEq, true_and, and_true] at h
  obtain ⟨rfl, rfl, rfl, rfl⟩ := h
  rfl
def ovs (l : List Outl) : List Value := l.flatMap fun a => [.int .i64 a.1, .int .i64 a.2.1, .int .i64 a.2.2.1, .int .i64 a.2.2.2]
theorem ovs_snoc (l : List Outl) (a : Outl) : ovs (l ++ [a]) = ovs l ++ [.int .i64 a.1, .int .i64 a.2.1, .int .i64 a.2.2.1, .int .i64 a.2.2.2] := by simp [ovs]
theorem outInfo : (Tryz.prog.info? 147).map (fun i => (i.zero, i.size, i.bytes)) = some (some (.agg #[.int .i64 0, .int .i64 0, .int .i64 0, .int .i64 0]), 4, 32) := by kernel_rfl
/-- The list of outlines, in memory: the boxes of the map and of the list. -/
structure FSt (base : Nat) (w : World) (bs bl : Nat) (l : List Outl) (lv : Value) (bm : Nat) : Prop where
  blkS : Blk w bs 145 #[.map (some bm)]
  blkL : Blk w bl 111 #[lv]
  own : w.ownsRow base 147 4 lv l.length (ovs l)
  tbl : TblB Tryz.prog 147 4 outV w bm l.length (fun a => decide (a ∈ l))
  lowS : base ≤ bs
  lowL : base ≤ bl
  lowM : base ≤ bm
theorem FSt.ext {base : Nat} {w w' : World} {bs bl : Nat} {l : List Outl} {lv : Value} {bm : Nat} (h : FSt base w bs bl l lv bm) (he : Ext w w') : FSt base w' bs bl l lv bm :=
  ⟨h.blkS.ext he, h.blkL.ext he, ownsRow_ext h.own he, h.tbl.ext he, h.lowS, h.lowL, h.lowM⟩
/-- What the search leaves. -/
def FRes (base : Nat) (w : World) (bs bl : Nat) (l : List Outl) (bm : Nat) (w' : World) : Prop :=
  (∃ lv, FSt base w' bs bl l lv bm) ∧ Below base w w' ∧ w.heap.size ≤ w'.heap.size ∧ ∀ g t cs, Blk w g t cs → t ≠ 111 → t ≠ 147 → Blk w' g t cs
set_option maxRecDepth 20000 in
theorem findO_c (base : Nat) (w : World) (bs bl : Nat) (l : List Outl) (a : Outl) (lv : Value) (bm : Nat) (h : FSt base w bs bl l lv bm) (hb : base ≤ w.heap.size) (hn : l.length ≤ 100000) (ha : smallO a) :
    Calls Tryz.prog 93 #[outV a, .pointer (some ⟨bs, 0, none⟩), .pointer (some ⟨bl, 0, none⟩)] w fun e w' => e = .returned (.tuple #[]) ∧ FRes base w bs bl (addA l a) bm w' := by
  have hk := outKey a ha
  obtain ⟨W, hW⟩ : ∃ W, W = w.alloc (.cells #[.int .i64 a.1, .int .i64 a.2.1, .int .i64 a.2.2.1, .int .i64 a.2.2.2] 147) := ⟨_, rfl⟩
  have hXW : Ext w W := by rw [hW]; exact Ext.alloc _ _
  have bX : Blk W w.heap.size 147 #[.int .i64 a.1, .int .i64 a.2.1, .int .i64 a.2.2.1, .int .i64 a.2.2.2] := by rw [hW]; exact Blk.new _ _ _ _ rfl
  have H := h.ext hXW
  have hlook := H.tbl.lookup outTy a hk
  simp only [outV] at hlook ⊢
  obtain ⟨Ap, cp, rfl, hp1, hp2, _⟩ := (ownsRow_row h.own).form
  have k4 := H.blkS.cell 0
  have x0 := bX.cell 0
  have x1 := bX.cell 1
  have x2 := bX.cell 2
  have x3 := bX.cell 3
  simp only [List.getElem?_toArray, List.getElem?_cons_zero, List.getElem?_cons_succ] at k4 x0 x1 x2 x3
  by_cases hin : a ∈ l
  · rw [decide_eq_true hin] at hlook
    subst hW
    go_enter Tryz.func93, Tryz.ntmps93
    go_wp2
    go_end0
    have e : addA l a = l := if_pos hin
    rw [e]
    refine ⟨rfl, ?_⟩
    exact ⟨⟨_, H⟩, Below.mono hXW hb, hXW.size, fun g t cs hg _ _ => hg.ext hXW⟩
  · rw [decide_eq_false hin] at hlook
    have hWs : W.heap.size = w.heap.size + 1 := by rw [hW]; simp
    obtain ⟨w3, hupd, htbl, hg3⟩ := H.tbl.update outTy outV_inj (by unfold maxLen; omega) a hk true
    simp only [outV] at hupd
    have hnb : some bs ≠ some bm := by
      have := H.tbl.ne_blk H.blkS
      simp; omega
    have hnl : some bl ≠ some bm := by
      have := H.tbl.ne_blk H.blkL
      simp; omega
    have hnx : some w.heap.size ≠ some bm := by
      have := H.tbl.ne_blk bX
      simp; omega
    have B3 := H.blkS.kept hg3 hnb
    have L3 := H.blkL.kept hg3 hnl
    have X3 := bX.kept hg3 hnx
    have P3 := own_kept H.own hg3 (H.tbl.ne_row H.own)
    have hb3 : Below base w w3 := (Below.mono hXW hb).grown hg3 (by omega) (fun b hb => by injection hb with hb; subst hb; exact H.lowM)
    have hsz3 : base ≤ w3.heap.size := by have := hg3.size; omega
    have KF : Hid (∀ g t cs, Blk w g t cs → Blk w3 g t cs) := by
      unfold Hid
      intro g t cs hg
      have hg2 := hg.ext hXW
      exact hg2.kept hg3 (by have := H.tbl.ne_blk hg2; simp; omega)
    obtain ⟨i0, hi, hz0, hz1, hz2⟩ := info_parts outInfo
    have y0 := X3.cell 0
    have y1 := X3.cell 1
    have y2 := X3.cell 2
    have y3 := X3.cell 3
    have l3 := L3.cell 0
    simp only [List.getElem?_toArray, List.getElem?_cons_zero, List.getElem?_cons_succ] at y0 y1 y2 y3 l3
    have hsW : Hid (W.heap.size ≤ w3.heap.size) := Lib.hid hg3.size
    have eA := Ext.alloc w3 (.cells #[.int .i64 a.1, .int .i64 a.2.1, .int .i64 a.2.2.1, .int .i64 a.2.2.2] 147)
    have B5 := B3.ext eA
    have L5 := L3.ext eA
    have P5 := ownsRow_ext P3 eA
    have T5 := htbl.ext eA
    have hb5 := hb3.alloc hsz3 (.cells #[.int .i64 a.1, .int .i64 a.2.1, .int .i64 a.2.2.1, .int .i64 a.2.2.2] 147)
    have LS := H.lowS
    have LL := H.lowL
    have LM := H.lowM
    clear htbl
    subst hW
    go_enter Tryz.func93, Tryz.ntmps93
    go_wp2_with (at_builtin; refine wpList_append_own_at _ rfl _ _ 111 rfl base 147 i0 (.agg #[.int .i64 0, .int .i64 0, .int .i64 0, .int .i64 0]) 4 32 Tryz.underlying111 hi hz0 hz1 hz2 rfl (by decide) _ _ _ rfl P5 ⟨w3.heap.size, 0, none⟩ 1 1 [.int .i64 a.1, .int .i64 a.2.1, .int .i64 a.2.2.1, .int .i64 a.2.2.2] rfl rfl (World.news_of_block (heap_alloc_new w3 _)) ?c2 ?c3 ?c4 ?c5 ?_)
    case c2 => simp [Value.oneCell']
    case c3 => unfold maxLen; omega
    case c4 => omega
    case c5 => simp; omega
    intro v' w5 hown5 hg5 _ hloc5
    obtain ⟨A5, c5, rfl, _, _, _⟩ := (ownsRow_row hown5).form
    have B6 := Blk.apart B5 P5 (by decide) hg5
    have L6 := Blk.apart L5 P5 (by decide) hg5
    have T6 := T5.kept hg5 (T5.ne_row P5)
    have hb6 := hb5.grown hg5 (by simp; omega) (fun b hb => (P5.lt b hb).1)
    have hsz6 : Hid (w.heap.size ≤ w5.heap.size) := Lib.hid (by have := hg5.size; have := hsW.out; simp at *; omega)
    have KF6 : Hid (∀ g t cs, Blk w g t cs → t ≠ 147 → Blk w5 g t cs) := Lib.hid fun g t cs hg hn => Blk.apart ((KF.out g t cs hg).ext eA) P5 hn hg5
    have q0 := L6.cell 0
    have f0 := L6.frozen 0
    simp only [List.getElem?_toArray, List.getElem?_cons_zero, List.getElem?_cons_succ] at q0
    clear hg5 hb5 hb3 hg3 P3 P5 T5 hloc5 hlook hupd
    go_wp2
    go_end0
    have hgs := grownBy_setCell w5 ⟨bl, 0, none⟩ (.slice A5 (l.length + 1) c5)
    have e : addA l a = l ++ [a] := if_neg hin
    rw [e]
    have nbl : bs ≠ bl := blk_ne B6 L6 (by decide)
    refine ⟨rfl, ⟨_, B6.far (p := ⟨bl, 0, none⟩) nbl _, L6.set_ 0 _, ?_, ?_, LS, LL, LM⟩, hb6.setCell LL _, ?_, fun g t cs hg n1 n2 => ?_⟩
    · have := own_kept hown5 hgs (blk_ne_row L6 hown5 (by decide))
      rw [ovs_snoc]
      simpa using this
    · have := T6.setCell (a := ⟨bl, 0, none⟩) (T6.ne_blk L6) (.slice A5 (l.length + 1) c5)
      have e2 : (fun x => if x = a then true else decide (x ∈ l)) = fun x => decide (x ∈ l ++ [a]) := by
        funext x
        by_cases hx : x = a <;> simp [hx]
      rw [e2] at this
      simpa using this
    · have := hsz6.out
      simpa [World.setCell] using this
    · have b5 := KF6.out g t cs hg n2
      exact b5.far (p := ⟨bl, 0, none⟩) (blk_ne b5 L6 n1) _
end Go.Proofs.YtacpchapgklcgaaGreatDoor
end
section
set_option linter.unusedSimpArgs false
set_option linter.unusedVariables false
set_option linter.unusedSectionVars false
set_option maxHeartbeats 4000000
namespace Go.Proofs.YtacpchapgklcgaaGreatDoor
open Go Go.RowKit Go.Proofs Go.Maps
/-- The origins among the first k. -/
def orgK (d : DfaD) (t sy : Int) (k : Nat) : List (Int × Int) := (List.range k).filterMap fun k => if d.nx.getD k 0 = t then some ((k : Int) / sy, (k : Int) % sy) else none
theorem orgK_yes {d : DfaD} {t sy : Int} {k : Nat} (h : d.nx.getD k 0 = t) : orgK d t sy (k + 1) = orgK d t sy k ++ [((k : Int) / sy, (k : Int) % sy)] := by
  unfold orgK
  rw [List.range_succ, List.filterMap_append]
  simp only [List.filterMap_cons, List.filterMap_nil, h, if_true]
theorem orgK_no {d : DfaD} {t sy : Int} {k : Nat} (h : ¬ d.nx.getD k 0 = t) : orgK d t sy (k + 1) = orgK d t sy k := by
  unfold orgK
  rw [List.range_succ, List.filterMap_append]
  simp only [List.filterMap_cons, List.filterMap_nil, h, if_false, List.append_nil]
set_option maxRecDepth 20000 in
theorem succ1_c (base : Nat) (w : World) (bs bl bf bi br : Nat) (l : List Outl) (lv : Value) (bm : Nat) (x u t : Int) (r : RuleD) (h : FSt base w bs bl l lv bm) (hb : base ≤ w.heap.size) (hn : l.length ≤ 100000)
    (hf : Blk w bf 148 #[.func (.func 93) #[] #[.pointer (some ⟨bs, 0, none⟩), .pointer (some ⟨bl, 0, none⟩)]]) (hi : Blk w bi 2 #[.int .i64 x]) (hr : Blk w br 38 #[.int .i64 r.w, .int .i64 r.m, .int .i64 r.n])
    (ha : smallO (x, r.n, t, u)) :
    Calls Tryz.prog 121 #[.int .i64 u, .int .i64 t, .pointer (some ⟨bf, 0, none⟩), .pointer (some ⟨bi, 0, none⟩), .pointer (some ⟨br, 0, none⟩)] w fun e w' => e = .returned (.tuple #[]) ∧ FRes base w bs bl (addA l (x, r.n, t, u)) bm w' := by
  have c0 := hf.cell 0
  have c1 := hi.cell 0
  have c2 := hr.cell 2
  simp only [List.getElem?_toArray, List.getElem?_cons_zero, List.getElem?_cons_succ] at c0 c1 c2
  go_enter Tryz.func121, Tryz.ntmps121
  go_wp2_with (go_at_call 93; refine (findO_c base w bs bl l (x, r.n, t, u) lv bm h hb hn ha).mono ?_; rintro e w' ⟨rfl, hF⟩)
  go_end0
  exact ⟨rfl, hF⟩
/-- A function is called with each origin. -/
theorem origins1_c (lb : Array Value) (rv : Value) (d : DfaD) (t sy : Int) (w : World) (I : List (Int × Int) → World → Prop) (hr : Ints w rv d.nx) (hd : dfaOk d sy = true)
    (h0 : I [] w) (hE : ∀ ps w' w'', I ps w' → Ext w' w'' → I ps w'') (hI : ∀ ps w', I ps w' → Ints w' rv d.nx)
    (hs : ∀ k w', I (orgK d t sy k) w' → (hk : k < d.nx.length) → d.nx.getD k 0 = t → Calls Tryz.prog 121 (#[.int .i64 ((k : Int) / sy), .int .i64 ((k : Int) % sy)] ++ lb) w' fun e w'' => e = .returned (.tuple #[]) ∧ I (orgK d t sy (k + 1)) w'') :
    Calls Tryz.prog 120 #[.agg #[.int .i64 d.st, rv], .int .i64 t, .int .i64 sy, .func (.func 121) #[] lb] w fun e w' => e = .returned (.tuple #[]) ∧ I (orgD d t sy) w' := by
  obtain ⟨⟨h1, h1'⟩, ⟨h2, h2'⟩, hlen, hall, _⟩ := dfaOk_parts hd
  have hl120 : (d.nx.length : Int) ≤ 120 := by
    have := Int.mul_le_mul h2' h1' (by omega) (by omega)
    omega
  clear hlen hall
  obtain ⟨A, c, rfl, g1, g2⟩ := hr.form
  obtain ⟨w1, bk, e1, e2, hx, p0, p1, bB, hsz⟩ := box2 w (.int .i64 d.st) (.slice A d.nx.length c) 40
  have E1 := Lib.hid e1
  have E2 := Lib.hid e2
  clear e1 e2
  go_enter Tryz.func120, Tryz.ntmps120
  go_wp2_with fail
  rw [E1.out, E2.out]
  go_loopw [13, 8, 9] (fun i a2 a3 wr => ∃ k : Nat, k ≤ d.nx.length ∧ i = .int .i64 k ∧ I (orgK d t sy k) wr) (fun i _ _ _ => d.nx.length - (intOf i).toNat)
  case atStart => exact ⟨0, Nat.zero_le _, rfl, hE _ _ _ h0 hx⟩
  case round =>
    obtain ⟨k, hk, rfl, hX⟩ := hrel
    by_cases hlt : k < d.nx.length
    · obtain ⟨b, off, rfl, hc⟩ := (hI _ _ hX).at hlt
      have c0 := hc k hlt
      clear hc
      obtain ⟨z, hz⟩ : ∃ z, z = d.nx[k] := ⟨_, rfl⟩
      have hg : Hid (d.nx.getD k 0 = z) := Lib.hid (by rw [hz, List.getD_eq_getElem?_getD, List.getElem?_eq_getElem hlt, Option.getD_some])
      rw [← hz] at c0
      clear hz
      by_cases he : z = t
      · have hcall := hs k wr.drew (hE _ _ _ hX (Ext.drew _)) hlt (hg.out.trans he)
        go_wp2_with fail
        have hz0 : ¬ sy = 0 := by omega
        have hw1 : IntKind.i64.wrap ((k : Int) / sy) = (k : Int) / sy := IntWalk.i64_in _ (by
          have e1 : 0 ≤ (k : Int) / sy := Int.ediv_nonneg (by omega) (by omega)
          have e2 : (k : Int) / sy ≤ k := Int.ediv_le_self _ (by omega)
          omega)
        have hw2 : (k : Int).tmod sy = (k : Int) % sy := Int.tmod_eq_emod_of_nonneg (by omega)
        have hw3 : (k : Int).tdiv sy = (k : Int) / sy := Int.tdiv_eq_ediv_of_nonneg (by omega)
        go_still_tail 7, (by kernel_rfl)
        change wpList _ _ _ _ _ wr.drew
        go_wp2_with (go_at_call 121; refine hcall.mono ?_; rintro e w2 ⟨rfl, hX2⟩)
        go_roundw
        case rel => exact ⟨k + 1, by omega, by go_num, hX2⟩
        case measure => simp [intOf]; omega
      · have ho : orgK d t sy (k + 1) = orgK d t sy k := orgK_no (by rw [hg.out]; exact he)
        go_wp2
        go_roundw
        case rel => exact ⟨k + 1, by omega, by go_num, by rw [ho]; exact hX⟩
        case measure => simp [intOf]; omega
    · have hk' : k = d.nx.length := by omega
      subst hk'
      go_wp2
      go_end0
      exact ⟨rfl, hX⟩
set_option maxRecDepth 20000 in
theorem succ2_c (base : Nat) (w : World) (bs bl bf bi br : Nat) (l : List Outl) (lv : Value) (bm : Nat) (x u t : Int) (r : RuleD) (h : FSt base w bs bl l lv bm) (hb : base ≤ w.heap.size) (hn : l.length ≤ 100000)
    (hf : Blk w bf 148 #[.func (.func 93) #[] #[.pointer (some ⟨bs, 0, none⟩), .pointer (some ⟨bl, 0, none⟩)]]) (hi : Blk w bi 2 #[.int .i64 x]) (hr : Blk w br 38 #[.int .i64 r.w, .int .i64 r.m, .int .i64 r.n])
    (ha : smallO (u, r.n, t, x)) :
    Calls Tryz.prog 122 #[.int .i64 u, .int .i64 t, .pointer (some ⟨bf, 0, none⟩), .pointer (some ⟨br, 0, none⟩), .pointer (some ⟨bi, 0, none⟩)] w fun e w' => e = .returned (.tuple #[]) ∧ FRes base w bs bl (addA l (u, r.n, t, x)) bm w' := by
  have c0 := hf.cell 0
  have c1 := hi.cell 0
  have c2 := hr.cell 2
  simp only [List.getElem?_toArray, List.getElem?_cons_zero, List.getElem?_cons_succ] at c0 c1 c2
  go_enter Tryz.func122, Tryz.ntmps122
  go_wp2_with (go_at_call 93; refine (findO_c base w bs bl l (u, r.n, t, x) lv bm h hb hn ha).mono ?_; rintro e w' ⟨rfl, hF⟩)
  go_end0
  exact ⟨rfl, hF⟩
/-- A function is called with each origin. -/
theorem origins2_c (lb : Array Value) (rv : Value) (d : DfaD) (t sy : Int) (w : World) (I : List (Int × Int) → World → Prop) (hr : Ints w rv d.nx) (hd : dfaOk d sy = true)
    (h0 : I [] w) (hE : ∀ ps w' w'', I ps w' → Ext w' w'' → I ps w'') (hI : ∀ ps w', I ps w' → Ints w' rv d.nx)
    (hs : ∀ k w', I (orgK d t sy k) w' → (hk : k < d.nx.length) → d.nx.getD k 0 = t → Calls Tryz.prog 122 (#[.int .i64 ((k : Int) / sy), .int .i64 ((k : Int) % sy)] ++ lb) w' fun e w'' => e = .returned (.tuple #[]) ∧ I (orgK d t sy (k + 1)) w'') :
    Calls Tryz.prog 120 #[.agg #[.int .i64 d.st, rv], .int .i64 t, .int .i64 sy, .func (.func 122) #[] lb] w fun e w' => e = .returned (.tuple #[]) ∧ I (orgD d t sy) w' := by
  obtain ⟨⟨h1, h1'⟩, ⟨h2, h2'⟩, hlen, hall, _⟩ := dfaOk_parts hd
  have hl120 : (d.nx.length : Int) ≤ 120 := by
    have := Int.mul_le_mul h2' h1' (by omega) (by omega)
    omega
  clear hlen hall
  obtain ⟨A, c, rfl, g1, g2⟩ := hr.form
  obtain ⟨w1, bk, e1, e2, hx, p0, p1, bB, hsz⟩ := box2 w (.int .i64 d.st) (.slice A d.nx.length c) 40
  have E1 := Lib.hid e1
  have E2 := Lib.hid e2
  clear e1 e2
  go_enter Tryz.func120, Tryz.ntmps120
  go_wp2_with fail
  rw [E1.out, E2.out]
  go_loopw [13, 8, 9] (fun i a2 a3 wr => ∃ k : Nat, k ≤ d.nx.length ∧ i = .int .i64 k ∧ I (orgK d t sy k) wr) (fun i _ _ _ => d.nx.length - (intOf i).toNat)
  case atStart => exact ⟨0, Nat.zero_le _, rfl, hE _ _ _ h0 hx⟩
  case round =>
    obtain ⟨k, hk, rfl, hX⟩ := hrel
    by_cases hlt : k < d.nx.length
    · obtain ⟨b, off, rfl, hc⟩ := (hI _ _ hX).at hlt
      have c0 := hc k hlt
      clear hc
      obtain ⟨z, hz⟩ : ∃ z, z = d.nx[k] := ⟨_, rfl⟩
      have hg : Hid (d.nx.getD k 0 = z) := Lib.hid (by rw [hz, List.getD_eq_getElem?_getD, List.getElem?_eq_getElem hlt, Option.getD_some])
      rw [← hz] at c0
      clear hz
      by_cases he : z = t
      · have hcall := hs k wr.drew (hE _ _ _ hX (Ext.drew _)) hlt (hg.out.trans he)
        go_wp2_with fail
        have hz0 : ¬ sy = 0 := by omega
        have hw1 : IntKind.i64.wrap ((k : Int) / sy) = (k : Int) / sy := IntWalk.i64_in _ (by
          have e1 : 0 ≤ (k : Int) / sy := Int.ediv_nonneg (by omega) (by omega)
          have e2 : (k : Int) / sy ≤ k := Int.ediv_le_self _ (by omega)
          omega)
        have hw2 : (k : Int).tmod sy = (k : Int) % sy := Int.tmod_eq_emod_of_nonneg (by omega)
        have hw3 : (k : Int).tdiv sy = (k : Int) / sy := Int.tdiv_eq_ediv_of_nonneg (by omega)
        go_still_tail 7, (by kernel_rfl)
        change wpList _ _ _ _ _ wr.drew
        go_wp2_with (go_at_call 122; refine hcall.mono ?_; rintro e w2 ⟨rfl, hX2⟩)
        go_roundw
        case rel => exact ⟨k + 1, by omega, by go_num, hX2⟩
        case measure => simp [intOf]; omega
      · have ho : orgK d t sy (k + 1) = orgK d t sy k := orgK_no (by rw [hg.out]; exact he)
        go_wp2
        go_roundw
        case rel => exact ⟨k + 1, by omega, by go_num, by rw [ho]; exact hX⟩
        case measure => simp [intOf]; omega
    · have hk' : k = d.nx.length := by omega
      subst hk'
      go_wp2
      go_end0
      exact ⟨rfl, hX⟩
end Go.Proofs.YtacpchapgklcgaaGreatDoor
end
