/- Worlds that keep the blocks from one on.
Contracts: the visitor that keeps the texts of a run of a machine with several tapes, and the run with this visitor. The listed tables of the library hold what they should.
Contract of the program's texts of a run of a machine with several tapes. The listed tables of the library hold what they should. -/
import Derived.Test.YtgeckhjkahnonaaGreatDoorO03
import Derived.Test.YtgeckhjkahnonaaGreatDoorO32
import Derived.Test.YtgeckhjkahnonaaGreatDoorO33
import Derived.Test.YtgeckhjkahnonaaGreatDoorO30
import Derived.Test.YtgeckhjkahnonaaGreatDoorO20
section
set_option linter.unusedSimpArgs false
set_option linter.unusedVariables false
namespace Go.Proofs.YtgeckhjkahnonaaGreatDoor
open Go Go.RowKit Go.Proofs
/-- The blocks from base on are as they were. -/
def KeepB (base : Nat) (w W : World) : Prop := w.heap.size ≤ W.heap.size ∧ ∀ k, base ≤ k → k < w.heap.size → W.heap[k]? = w.heap[k]?
theorem KeepB.refl (base : Nat) (w : World) : KeepB base w w := ⟨Nat.le_refl _, fun _ _ _ => rfl⟩
theorem KeepB.trans {base : Nat} {a b c : World} (h : KeepB base a b) (k : KeepB base b c) : KeepB base a c :=
  ⟨Nat.le_trans h.1 k.1, fun i hi hl => (k.2 i hi (by have := h.1; omega)).trans (h.2 i hi hl)⟩
theorem KeepB.setCell {base : Nat} (w : World) {p : Addr} (hp : p.block < base) (v : Value) : KeepB base w (w.setCell p v) := by
  refine ⟨by simp [World.setCell], fun k hk hl => Below.heap_setCell w p v k ?_⟩
  omega
theorem KeepB.cell {base : Nat} {w W : World} (h : KeepB base w W) {p : Addr} {v : Value} (hb : base ≤ p.block) (hp : w.cell? p = some v) : W.cell? p = some v := by
  have hl := World.block_lt_of_cell? w p hp
  have e := h.2 p.block hb hl
  rw [← hp]
  unfold World.cell?
  rw [e]
end Go.Proofs.YtgeckhjkahnonaaGreatDoor
end
section
set_option linter.unusedVariables false
set_option linter.unusedSimpArgs false
namespace Go.Proofs.YtgeckhjkahnonaaGreatDoor
open Go Go.RowKit Go.Proofs Go.Maps
set_option maxHeartbeats 400000
theorem strInfoV : (Tryz.prog.info? 9).map (fun i => (i.zero, i.size, i.bytes)) = some (some (.string ⟨#[]⟩), 1, 16) := by kernel_rfl
theorem hsize_setCell (w : World) (p : Addr) (u : Value) : (w.setCell p u).heap.size = w.heap.size := by
  unfold World.setCell
  first | simp | (split <;> simp)
/-- Blocks among K were written, new ones may be kept. -/
theorem MAt.grow {w0 w w' : World} {K K' : Nat → Prop} {bc gT cap : Nat} {cs : Array Value} {c : MConfD} (h : MAt w0 K w bc gT cap cs c) (he : Ext w0 w') (hs : w.heap.size ≤ w'.heap.size) (hk : ∀ k, ¬ K k → k < w.heap.size → w'.heap[k]? = w.heap[k]?) (hK : ∀ k, K' k → K k ∨ (w.heap.size ≤ k ∧ k < w'.heap.size)) : MAt w0 K' w' bc gT cap cs c := by
  have hb := h.blk.lt
  have ht := h.tblk.lt
  refine ⟨he, fun k hk' => ?_, h.blo, fun hk' => ?_, h.tlo, fun hk' => ?_, h.cap1, h.cap2, (hk bc h.bK hb).trans h.blk, (hk gT h.tK ht).trans h.tblk, fun i hi => ?_, fun j v g hjn hj hg hk' => ?_, fun j v g hjn hj hg => ⟨(h.lt j v g hjn hj hg).1, Nat.lt_of_lt_of_le (h.lt j v g hjn hj hg).2 hs⟩, h.ap⟩
  · rcases hK k hk' with e | e
    · have := h.kb k e; omega
    · exact e.2
  · rcases hK bc hk' with e | e
    · exact h.bK e
    · omega
  · rcases hK gT hk' with e | e
    · exact h.tK e
    · omega
  · obtain ⟨lv, rv, e1, e2, s1, s2⟩ := h.side i hi
    exact ⟨lv, rv, e1, e2, s1.same (fun g hg => hk g (h.mid _ _ g (by omega) e1 hg) (s1.lt g hg).2), s2.same (fun g hg => hk g (h.mid _ _ g (by omega) e2 hg) (s2.lt g hg).2)⟩
  · have := (h.lt j v g hjn hj hg).2
    rcases hK g hk' with e | e
    · exact h.mid j v g hjn hj hg e
    · omega
/-- The texts of the first n configurations. -/
def firstM (rs : List MRuleD) (c : MConfD) (n : Nat) : List (List UInt8) := (List.range n).map fun j => mconT (cfgM rs c j)
theorem firstM_svB (rs : List MRuleD) (c : MConfD) (n : Nat) : svB (firstM rs c (n + 1)) = svB (firstM rs c n) ++ [.string (bsS (mconT (cfgM rs c n)))] := by simp [firstM, svB, List.range_succ]
/-- What the visitor holds: the texts so far, in a row of their own. -/
structure TxI (rs : List MRuleD) (c : MConfD) (base bt lo hi : Nat) (i : Nat) (K : Nat → Prop) (w : World) : Prop where
  own : ∃ tv, Blk w bt 30 #[tv] ∧ w.ownsRow base 9 1 tv i (svB (firstM rs c i)) ∧ (∀ g, tv.ownBlock = some g → K g ∧ (g < lo ∨ hi ≤ g))
  bt : K bt
theorem TxI.kp {rs : List MRuleD} {c : MConfD} {base bt lo hi i : Nat} {K : Nat → Prop} {w w' : World} (h : TxI rs c base bt lo hi i K w) (hk : Kp K w w') : TxI rs c base bt lo hi i K w' := by
  obtain ⟨⟨tv, hb, ho, hg⟩, hbt⟩ := h
  exact ⟨⟨tv, (hk bt hbt).trans hb, own_same ho (fun g h => hk g (hg g h).1), hg⟩, hbt⟩
theorem digs_of {m : MultiD} {c : MConfD} (hm : multiOk m = true) (hq : inB c.q 0 (m.st - 1) = true) (hn : (c.tapes.length : Int) = m.tp) (hts : c.tapes.all (tapeOk m) = true) : MDig c := by
  obtain ⟨⟨tp1, tp2⟩, ⟨s1, s2⟩, ⟨q1, q2⟩, _⟩ := multi_all hm
  obtain ⟨q3, q4⟩ := inB_iff.1 hq
  refine ⟨q3, by omega, by omega, fun t ht => ?_⟩
  have h := List.all_eq_true.1 hts t ht
  obtain ⟨hr, a, b⟩ := tape_len h
  simp only [roomT, Bool.and_eq_true, decide_eq_true_eq] at hr
  exact ⟨hr.1, hr.2, fun z hz => by have := a z hz; omega, fun z hz => by have := b z hz; omega⟩
theorem MAt.tapF {w0 w : World} {K : Nat → Prop} {bc gT cap : Nat} {cs : Array Value} {c : MConfD} (h : MAt w0 K w bc gT cap cs c) (hr : roomM c = true) : TapF w gT 0 c.tapes := (h.tapB hr).tapF
set_option maxRecDepth 20000 in
set_option maxHeartbeats 4000000 in
/-- The visitor lays the text of each configuration behind the others. -/
theorem visT_c (N : Nat) (hN : N ≤ 1000000) (m : MultiD) (c : MConfD) (w0 : World) (bc gT cap lo hi base bt : Nat) (hm : multiOk m = true) (hq : inB c.q 0 (m.st - 1) = true) (hn : (c.tapes.length : Int) = m.tp) (hts : c.tapes.all (tapeOk m) = true) (hTb : Tab w0) (hbase : w0.heap.size ≤ base) (hbl : bt < lo) (hb0 : base ≤ bt) (hlh : lo ≤ hi) :
    VisN N 18 #[.pointer (some ⟨bt, 0, none⟩)] m.rules c w0 bc gT cap lo hi (TxI m.rules c base bt lo hi) := by
  intro i K wX cs hiN hrun h hI hhi
  obtain ⟨⟨tv, hb, ho, hg⟩, hbt⟩ := hI
  obtain ⟨cq, ct⟩ := cfg_ok hm hq hn hts i hrun
  have hlen := cfgM_tapes m.rules c i
  have hD := digs_of hm cq (by rw [hlen]; exact hn) ct
  have hTF := h.tapF (hrun.room i (Nat.le_refl _))
  have hc1 := h.cap1
  have hc2 := h.cap2
  have hfm := firstM_svB m.rules c i
  obtain ⟨At, ca, rfl, _, _, _⟩ := (ownsRow_row ho).form
  obtain ⟨i0, hi0, hz0, hz1, hz2⟩ := info_parts strInfoV
  generalize hci : cfgM m.rules c i = ci at *
  have HCI := Lib.hid hci
  clear hci
  obtain ⟨gx, hgx⟩ : ∃ g, wX.heap.size = g := ⟨_, rfl⟩
  obtain ⟨W, hW⟩ : ∃ W, W = wX.alloc (.cells #[.int .i64 ci.q, .slice (some ⟨gT, 0, none⟩) c.tapes.length cap] 48) := ⟨_, rfl⟩
  have hX : Ext wX W := by rw [hW]; exact Ext.alloc _ _
  have bB : Blk W gx 48 #[.int .i64 ci.q, .slice (some ⟨gT, 0, none⟩) c.tapes.length cap] := by rw [hW]; exact Blk.new _ _ _ _ hgx
  have b0 := bB.drew.cell 0
  have b1 := bB.drew.cell 1
  have t0 := (hb.ext (hX.trans (Ext.drew W))).cell 0
  simp only [List.getElem?_toArray, List.getElem?_cons_zero, List.getElem?_cons_succ] at b0 b1 t0
  have hXd := hX.trans (Ext.drew W)
  have CT := multiConfigText_c ci gT 0 cap W.drew (hTF.ext hXd) hc1 hc2 hD (hTb.ext (h.ext0.trans hXd))
  rw [hlen] at CT
  have HLEN := Lib.hid hlen
  clear hlen
  show Calls _ _ #[_, .pointer (some ⟨bt, 0, none⟩)] _ _
  go_enter Tryz.func18, Tryz.ntmps18
  go_wp2_with fail
  try rw [← hW]
  try rw [hgx]
  clear hW
  have HM := Lib.hid h
  clear h hrun cq ct hTF hD
  refine wp_region_ordT 4 (readsT [0, 1] (.stir 2 (.stir 3 .done))) (by kernel_rfl) (by kernel_rfl) (fun _ _ _ _ _ h => h) ?_
  simp only [readsT]
  iterate 2 (refine wpOrdT_read (v := ?_) (by rfl) (Or.inl ⟨by rfl, fun x hx => ?_⟩) ?_; rotate_left; (· have a1 := hx.cell b0; have a2 := hx.cell b1; have a3 := hx.cell t0; go_simp; try with_reducible rfl); try simp only [Act.put, List.setIfInBounds_toArray, List.set_cons_zero, List.set_cons_succ])
  refine wpOrdT_keep (by rfl) (fun K' hK => ?_)
  go_simp
  refine CT.mono ?_
  rintro e w3 ⟨rfl, hx3⟩
  refine hK _ _ hx3 ?_
  clear hK K'
  refine wpOrdT_keep (by rfl) (fun K' hK => ?_)
  go_simp
  refine hK _ _ (hx3.trans (Ext.alloc _ _)) ?_
  clear hK K'
  refine wpOrdT_done ?_
  try simp only [List.drop_succ_cons, List.drop_zero]
  have hX4 := Ext.alloc w3 (.cells #[.string (bsS (mconT ci))] 9)
  have hXX := (hXd.trans hx3).trans hX4
  have ho4 := ownsRow_ext ho hXX
  have hs4 := hXX.size
  clear b0 b1 t0 CT
  have hi1 : i ≤ 1000000 := Nat.le_trans hiN hN
  go_wp2_with (at_builtin; refine wpList_append_own_at _ rfl _ _ 30 rfl base 9 i0 (.string ⟨#[]⟩) 1 16 Tryz.underlying30 hi0 hz0 hz1 hz2 rfl (by decide) _ _ _ rfl ho4 ⟨w3.heap.size, 0, none⟩ 1 1 [.string (bsS (mconT ci))] rfl rfl (World.news_of_block (heap_alloc_new w3 _)) ?c2 ?c3 ?c4 ?c5 ?_)
  case c2 => intro u hu; simp at hu; subst hu; rfl
  case c3 => unfold maxLen; omega
  case c4 => omega
  case c5 => first | omega | (have := hb.lt; omega)
  intro v' w5 hown5 hg5 _ hv5
  obtain ⟨A5, c5, rfl, _, _, _⟩ := (ownsRow_row hown5).form
  have bt5 := Blk.apart (hb.ext hXX) ho4 (by decide) hg5
  have hbtl := hb.lt
  have hX5 : Ext w0 w5 := (HM.out.ext0.trans hXX).grown hg5 (fun q hq => Nat.le_trans hbase (ho4.lt q hq).1)
  have HS5 : Hid (wX.heap.size ≤ w5.heap.size) := Nat.le_trans hs4 hg5.size
  have tf := bt5.frozen 0
  have tc := bt5.cell 0
  simp only [List.getElem?_toArray, List.getElem?_cons_zero, List.getElem?_cons_succ] at tc
  have hsame : ∀ k, k < wX.heap.size → k ≠ bt → (Value.slice At i ca).ownBlock ≠ some k → (w5.setCell ⟨bt, 0, none⟩ (.slice A5 (i + 1) c5)).heap[k]? = wX.heap[k]? := fun k hk hkb hko => by
    rw [Below.heap_setCell w5 ⟨bt, 0, none⟩ (.slice A5 (i + 1) c5) k hkb, hg5.block k (Nat.lt_of_lt_of_le hk hs4) (fun e => hko e.symm)]
    exact Below.block hXX k hk
  have hnb : ∀ g, (Value.slice A5 (i + 1) c5).ownBlock = some g → g ≠ bt := fun g hg e => by
    subst e
    exact blk_ne_row bt5 hown5 (by decide) hg.symm
  rw [← hfm] at hown5
  have HV5 : Hid (∀ g, (Value.slice A5 (i + 1) c5).ownBlock = some g → (Value.slice At i ca).ownBlock = some g ∨ (wX.heap.size ≤ g ∧ g < w5.heap.size)) := Lib.hid fun g hgv => by
    rcases hv5 with e | e
    · rw [e] at hgv; exact .inl hgv
    · rw [e] at hgv
      injection hgv with hgv
      subst hgv
      refine .inr ⟨?_, (hown5.lt _ e).2⟩
      have : (w3.alloc (.cells #[.string (bsS (mconT ci))] 9)).heap.size = w3.heap.size + 1 := by simp
      omega
  have HO5 := Lib.hid (own_same (w' := w5.setCell ⟨bt, 0, none⟩ (.slice A5 (i + 1) c5)) hown5 (fun g hgv => Below.heap_setCell w5 ⟨bt, 0, none⟩ (.slice A5 (i + 1) c5) g (hnb g hgv)))
  have HB5 := Lib.hid (bt5.set_ 0 (.slice A5 (i + 1) c5))
  have HX5 := Lib.hid (hX5.setCell (p := ⟨bt, 0, none⟩) (by show w0.heap.size ≤ bt; omega) (.slice A5 (i + 1) c5))
  have HSA := Lib.hid hsame
  clear hown5 hg5 bt5 hX5 hsame ho4 hnb hv5 hb ho
  go_wp2_with fail
  refine bodyPost_end (results_none rfl _ _ _) rfl ?_
  refine ⟨rfl, fun k => K k ∨ (wX.heap.size ≤ k ∧ k < w5.heap.size), fun k hk => .inl hk, ?_, ⟨⟨(.slice A5 (i + 1) c5), HB5.out, HO5.out, fun g hgv => ?_⟩, .inl hbt⟩, fun k hk1 hk2 => ?_⟩
  · refine HM.out.grow HX5.out (by rw [hsize_setCell]; exact HS5.out) (fun k hk hk2 => HSA.out k hk2 (fun e => hk (by rw [e]; exact hbt)) (fun e => hk (hg k e).1)) (fun k hk => by rw [hsize_setCell]; exact hk)
  · rcases HV5.out g hgv with e | e
    · exact ⟨.inl (hg g e).1, (hg g e).2⟩
    · exact ⟨.inr e, .inr (by omega)⟩
  · exact HSA.out k (by omega) (by omega) (fun e => by have := (hg k e).2; omega)
end Go.Proofs.YtgeckhjkahnonaaGreatDoor
end
section
set_option linter.unusedVariables false
set_option linter.unusedSimpArgs false
namespace Go.Proofs.YtgeckhjkahnonaaGreatDoor
open Go Go.RowKit Go.Proofs Go.Maps
set_option maxHeartbeats 400000
/-- What the texts of a run on words are. -/
def MTR (m : MultiD) (ws : List (List Int)) (n : Int) (L : List (List UInt8)) (k : Int) : Prop :=
  (multiOk m = false ∧ L = [] ∧ k = 1) ∨
  (multiOk m = true ∧ ¬ (inB n 0 599 = true ∧ (ws.length : Int) = m.tp ∧ ws.all (wordOk m) = true) ∧ L = [] ∧ k = 2) ∨
  (multiOk m = true ∧ (inB n 0 599 = true ∧ (ws.length : Int) = m.tp ∧ ws.all (wordOk m) = true) ∧ MTx m.rules (startM ws) n.toNat mconT L k)
theorem MTR.unique {m : MultiD} {ws : List (List Int)} {n : Int} {L L' : List (List UInt8)} {k k' : Int} (h : MTR m ws n L k) (h' : MTR m ws n L' k') : L = L' ∧ k = k' := by
  rcases h with ⟨a, rfl, rfl⟩ | ⟨a, b, rfl, rfl⟩ | ⟨a, b, h⟩ <;> rcases h' with ⟨a', rfl, rfl⟩ | ⟨a', b', rfl, rfl⟩ | ⟨a', b', h'⟩
  all_goals first | exact ⟨rfl, rfl⟩ | exact h.unique h' | exact absurd b b' | exact absurd b' b | (rw [a] at a'; cases a')
/-- The texts and the code of a run on words, in memory. -/
def MTOut (w0 : World) (m : MultiD) (ws : List (List Int)) (n : Int) (e : Ending) (w' : World) : Prop :=
  ∃ L k tv, e = .returned (.tuple #[tv, .int .i64 k]) ∧ MTR m ws n L k ∧ w'.ownsRow w0.heap.size 9 1 tv L.length (svB L)
set_option maxRecDepth 20000 in
set_option maxHeartbeats 4000000 in
theorem MultiTexts_c (m : MultiD) (mv wv : Value) (ws : List (List Int)) (vs : List Value) (n : Int) (w : World) (hM : Mult w mv m) (hW : Row w 1 wv ws.length vs) (hI : ∀ i, (h : i < ws.length) → ∃ u, vs[i]? = some u ∧ Ints w u ws[i] ∧ Flat u) (hTb : Tab w) :
    Calls Tryz.prog 6 #[mv, wv, .int .i64 n] w fun e w' => MTOut w m ws n e w' ∧ Ext w w' := by
  obtain ⟨rv, rfl, hR⟩ := id hM
  obtain ⟨A, cA, rfl, _, _⟩ := hR.form
  obtain ⟨B, cB, rfl, hB1, hB2, hvl⟩ := hW.form
  obtain ⟨g, hg⟩ : ∃ g, w.heap.size = g := ⟨_, rfl⟩
  obtain ⟨V, hV⟩ : ∃ V, V = w.alloc (.cells #[.int .i64 m.tp, .int .i64 m.sy, .int .i64 m.st, .slice A m.rules.length cA] 26) := ⟨_, rfl⟩
  have hX : Ext w V := by rw [hV]; exact Ext.alloc _ _
  have bM : Blk V g 26 #[.int .i64 m.tp, .int .i64 m.sy, .int .i64 m.st, .slice A m.rules.length cA] := by rw [hV]; exact Blk.new _ _ _ _ hg
  have m0 := bM.cell 0
  have m1 := bM.cell 1
  have m2 := bM.cell 2
  have m3 := bM.cell 3
  simp only [List.getElem?_toArray, List.getElem?_cons_zero, List.getElem?_cons_succ] at m0 m1 m2 m3
  have VM := ValidMulti_c (.agg #[.int .i64 m.tp, .int .i64 m.sy, .int .i64 m.st, .slice A m.rules.length cA]) m V (hM.ext hX)
  obtain ⟨vm, hvm⟩ : ∃ vm, multiOk m = vm := ⟨_, rfl⟩
  obtain ⟨bn, hbn⟩ : ∃ b, inB n 0 599 = b := ⟨_, rfl⟩
  have TC := fun w => textsCode_c vm n w
  rw [hbn] at TC
  rw [hvm] at VM
  obtain ⟨cd, hcd⟩ : ∃ k, codeT vm bn = k := ⟨_, rfl⟩
  rw [hcd] at TC
  have HVM := Lib.hid hvm
  have HBN := Lib.hid hbn
  have HCD := Lib.hid hcd
  clear hvm hbn hcd
  go_enter Tryz.func6, Tryz.ntmps6
  go_wp2_with fail
  try rw [← hV]
  try rw [hg]
  clear hV
  refine VM.mono ?_
  rintro e w1 ⟨rfl, hx1⟩
  have bM1 := bM.ext hx1
  have hX1 := hX.trans hx1
  clear m0 m1 m2 m3 VM
  go_wp2_with fail
  refine (TC w1).mono ?_
  rintro e _ ⟨rfl, rfl⟩
  by_cases h0 : cd = 0
  · obtain ⟨rfl, rfl⟩ : vm = true ∧ bn = true := by
      have := HCD.out
      rw [h0] at this
      cases vm <;> cases bn <;> simp [codeT] at this ⊢
    subst h0
    have m0 := bM1.cell 0
    have m1 := bM1.cell 1
    have m2 := bM1.cell 2
    have m3 := bM1.cell 3
    simp only [List.getElem?_toArray, List.getElem?_cons_zero, List.getElem?_cons_succ] at m0 m1 m2 m3
    have SM := StartMultiC_c m (.agg #[.int .i64 m.tp, .int .i64 m.sy, .int .i64 m.st, .slice A m.rules.length cA]) (.slice B ws.length cB) ws vs w1 (hM.ext hX1) (hW.ext hX1) (fun i hi => by
      obtain ⟨u, e, iu, fu⟩ := hI i hi
      exact ⟨u, e, iu.ext hX1, fu⟩)
    clear hI hW TC
    go_wp2_with fail
    refine SM.mono ?_
    rintro e w2 ⟨hS | hS | hS, hx2⟩
    · exact absurd hS.1 (by rw [HVM.out]; simp)
    · obtain ⟨_, hno, rfl⟩ := hS
      have HNO : Hid (MTR m ws n [] 2) := .inr (.inl ⟨HVM.out, fun h => hno h.2, rfl, rfl⟩)
      have HX := Lib.hid ((hX1.trans hx2).trans (Ext.alloc w2 (.cells #[.int .i64 0, .slice none 0 0] 48)))
      clear SM hno
      go_wp2_with fail
      refine bodyPost_ret (v := .tuple #[.slice none 0 0, .int .i64 2]) (by simp [results, Tryz.results6, go_sem]) rfl ⟨⟨[], 2, _, rfl, HNO.out, World.ownsRow_nil ..⟩, HX.out⟩
    · obtain ⟨_, hn, hwo, v, cl, rfl, hC⟩ := hS
      obtain ⟨⟨tp1, tp2⟩, ⟨sy1, sy2⟩, ⟨st1, st2⟩, _⟩ := multi_all HVM.out
      have hml : (ws.map startT).length = ws.length := by simp
      have hts := start_ok sy1 hwo
      have hsq : inB (startM ws).q 0 (m.st - 1) = true := inB_iff.2 ⟨by show (0 : Int) ≤ 0; omega, by show (0 : Int) ≤ m.st - 1; omega⟩
      have hsn : ((startM ws).tapes.length : Int) = m.tp := by show (((ws.map startT).length : Nat) : Int) = m.tp; rw [hml]; exact hn
      obtain ⟨gT, cap, cs, rfl, hAt⟩ := CpM.at (c := startM ws) hC hx2 (by show 0 < (ws.map startT).length; rw [hml]; omega)
      have hG := good_of_ok HVM.out hsq hsn hts
      have hroom := room_of_ok hts
      obtain ⟨bc, hbc⟩ : ∃ bc, w2.heap.size = bc := ⟨_, rfl⟩
      rw [hbc] at hAt
      obtain ⟨W2, hW2⟩ : ∃ W2, W2 = w2.alloc (.cells #[.int .i64 0, .slice (some ⟨gT, 0, none⟩) (startM ws).tapes.length cap] 48) := ⟨_, rfl⟩
      have hs2 : W2.heap.size = bc + 1 := by rw [hW2]; simp [hbc]
      have hXc : Ext w2 W2 := by rw [hW2]; exact Ext.alloc _ _
      have hAt2 : MAt w1 (fun k => k < w1.heap.size) W2 bc gT cap cs (startM ws) := by rw [hW2]; exact hAt
      obtain ⟨W3, hW3⟩ : ∃ W3, W3 = W2.alloc (.cells #[] 9) := ⟨_, rfl⟩
      have hs3 : W3.heap.size = bc + 1 + 1 := by rw [hW3]; simp [hs2]
      obtain ⟨W4, hW4⟩ : ∃ W4, W4 = W3.alloc (.cells #[.slice (some ⟨bc + 1, 0, none⟩) 0 0] 30) := ⟨_, rfl⟩
      have hs4 : W4.heap.size = bc + 1 + 1 + 1 := by rw [hW4]; simp [hs3]
      have hX3 : Ext W2 W3 := by rw [hW3]; exact Ext.alloc _ _
      have hX4 : Ext W3 W4 := by rw [hW4]; exact Ext.alloc _ _
      have bT4 : Blk W4 (bc + 1 + 1) 30 #[.slice (some ⟨bc + 1, 0, none⟩) 0 0] := by rw [hW4]; exact Blk.new _ _ _ _ hs3
      have hw12 := hx2.size
      have ho3 : W3.ownsRow w1.heap.size 9 1 (.slice (some ⟨bc + 1, 0, none⟩) 0 0) 0 [] := by
        rw [hW3, ← hs2]
        exact ownsRow_base (World.ownsRow_made (base := W2.heap.size) (e := 9) (size := 1) W2 #[] 0 (by simp) (by unfold maxLen; omega) (by simp)) (by omega)
      have ho4 := ownsRow_ext ho3 hX4
      have hAt4 := hAt2.more (K' := fun k => k < w1.heap.size ∨ (bc + 1 ≤ k ∧ k < W4.heap.size)) (hX3.trans hX4) (fun k hk => by
        rcases hk with h | h
        · exact .inl h
        · exact .inr ⟨by rw [hs2]; exact h.1, h.2⟩)
      obtain ⟨N, hN⟩ : ∃ N : Nat, n = (N : Int) := ⟨n.toNat, by have := (inB_iff.1 HBN.out).1; omega⟩
      have hN2 : N ≤ 599 := by have := (inB_iff.1 HBN.out).2; omega
      have HNT : Hid (n.toNat = N) := by unfold Hid; rw [hN]; simp
      have HCND : Hid (inB n 0 599 = true ∧ (ws.length : Int) = m.tp ∧ ws.all (wordOk m) = true) := ⟨HBN.out, hn, hwo⟩
      have RM := runMultiT_c w1 W4 _ m (.agg #[.int .i64 m.tp, .int .i64 m.sy, .int .i64 m.st, .slice A m.rules.length cA]) (startM ws) bc gT cap N cs #[.pointer (some ⟨bc + 1 + 1, 0, none⟩)] (fun hi => TxI m.rules (startM ws) w1.heap.size (bc + 1 + 1) W4.heap.size hi) (hM.ext hX1) HVM.out hG hroom hAt4 (by omega)
        (fun wA K' hxA hKK _ => ⟨⟨_, bT4.ext hxA, ownsRow_ext ho4 hxA, fun q hq => by
          simp only [Value.ownBlock, Option.some.injEq] at hq
          subst hq
          exact ⟨hKK _ (.inr ⟨by omega, by omega⟩), .inl (by omega)⟩⟩, hKK _ (.inr ⟨by omega, by omega⟩)⟩)
        (fun _ _ _ _ _ h hk => h.kp hk)
        (fun hi hlh => visT_c N (by omega) m (startM ws) w1 bc gT cap W4.heap.size hi w1.heap.size (bc + 1 + 1) HVM.out hsq hsn hts (hTb.ext hX1) (Nat.le_refl _) (by omega) (by omega) hlh)
      have bM2 := bM1.ext (hx2.trans hXc)
      have m0 := (bM1.ext hx2).cell 0
      have m1 := (bM1.ext hx2).cell 1
      have m2 := (bM1.ext hx2).cell 2
      have m3 := (bM1.ext hx2).cell 3
      simp only [List.getElem?_toArray, List.getElem?_cons_zero, List.getElem?_cons_succ] at m0 m1 m2 m3
      have HB1 := Lib.hid (bM1.ext (hx2.trans hXc))
      have hgl : g < w2.heap.size := (bM1.ext hx2).lt
      have hgl2 : g < bc := by rw [← hbc]; exact hgl
      have hgl3 : g < bc + 1 := by omega
      have hgl4 : g < bc + 1 + 1 := by omega
      subst hN
      rw [hW3, hW2] at hW4
      clear hC hAt hAt2 hAt4 hG hroom SM hs2 hs3 hs4 hml hsq hsn hts bT4 ho3 ho4 hX3 hX4 hXc hW2 hW3 bM2
      go_wp2_with fail
      try rw [← hW4]
      try rw [hbc]
      clear hW4 m0 m1 m2 m3
      refine RM.mono ?_
      rintro e w3 ⟨hi, ⟨i, K', cs', hE, rfl, hA3, hI3⟩ | ⟨i, K', hF, rfl, hx3, _⟩⟩
      · obtain ⟨⟨tv, bt3, ho3, _⟩, _⟩ := hI3
        obtain ⟨At, ct, rfl, _, _, _⟩ := (ownsRow_row ho3).form
        have tc := bt3.cell 0
        simp only [List.getElem?_toArray, List.getElem?_cons_zero, List.getElem?_cons_succ] at tc
        have HO := Lib.hid (ownsRow_base ho3 hX1.size)
        have HR : Hid (MTR m ws (N : Int) (firstM m.rules (startM ws) (i + 1)) 0) := .inr (.inr ⟨HVM.out, HCND.out, .inl ⟨i, by rw [HNT.out]; exact hE, rfl, rfl⟩⟩)
        have HX := Lib.hid (hX1.trans hA3.ext0)
        have HL : Hid ((firstM m.rules (startM ws) (i + 1)).length = i + 1) := by unfold Hid; simp [firstM]
        generalize (lookM m.rules (cfgM m.rules (startM ws) i)).isNone = ib at *
        clear hE hA3 ho3 bt3 RM
        go_wp2_with fail
        exact bodyPost_ret (v := .tuple #[.slice At (i + 1) ct, .int .i64 0]) (by simp [results, Tryz.results6, go_sem]) rfl ⟨⟨_, 0, _, rfl, HR.out, by rw [HL.out]; exact HO.out⟩, HX.out⟩
      · have HR : Hid (MTR m ws (N : Int) [] 5) := .inr (.inr ⟨HVM.out, HCND.out, .inr ⟨i, by rw [HNT.out]; exact hF, rfl, rfl⟩⟩)
        have HX := Lib.hid (hX1.trans hx3)
        clear hF RM
        go_wp2_with fail
        exact bodyPost_ret (v := .tuple #[.slice none 0 0, .int .i64 5]) (by simp [results, Tryz.results6, go_sem]) rfl ⟨⟨[], 5, _, rfl, HR.out, World.ownsRow_nil ..⟩, HX.out⟩
  · have hb : (cd != 0) = true := by simp [h0]
    have HR : Hid (MTR m ws n [] cd) := by
      have h1 := HCD.out
      have h2 := HVM.out
      have h3 := HBN.out
      rw [← h1] at h0 ⊢
      cases vm with
      | false => exact .inl ⟨h2, rfl, rfl⟩
      | true =>
        cases bn with
        | true => exact absurd rfl h0
        | false => exact .inr (.inl ⟨h2, fun h => (by rw [h3] at h; cases h.1), rfl, rfl⟩)
    have HX := Lib.hid hX1
    clear hI hW TC h0
    go_wp2_with fail
    refine bodyPost_ret (v := .tuple #[.slice none 0 0, .int .i64 cd]) (by simp [results, Tryz.results6, go_sem]) rfl ⟨⟨[], cd, _, rfl, HR.out, World.ownsRow_nil ..⟩, HX.out⟩
end Go.Proofs.YtgeckhjkahnonaaGreatDoor
end
