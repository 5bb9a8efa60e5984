/- Contracts: the formula tape of a bouncer's proof, and its check, where the proof is in order.
Contracts: the formula tape of a bouncer's proof, and its check, where the proof is in order.
Contract: for which numbers of steps a bounce is accepted, told to the visitor CheckBouncer (its closure). -/
import Derived.Test.YtojiammendjpkaaGreatB35
import Derived.Test.YtojiammendjpkaaGreatB28
section
set_option linter.unusedSimpArgs false
set_option linter.unusedVariables false
namespace Go.Proofs.YtojiammendjpkaaGreat
open Go Go.RowKit Go.Proofs
set_option maxHeartbeats 400000
/-- A bouncer's proof is in order, and the first number of steps for which it is accepted is its own. -/
structure BncOk (m : MachD) (n0 n : Nat) (f : FoD) (cs : List Int) (ws : List (List Int)) : Prop where
  hws : f.ws = evs ws
  hrs : f.rs = ods ws
  hwl : ws.length = 2 * cs.length + 1
  hwz : ∀ x ∈ ws, x.length ≤ 100
  hwb : ws.all wordB = true
  hos : f.os = List.replicate cs.length 0
  hN : n0 ≤ 20000
  hE : RunsTo m blankC n0
  hq : f.q = (cfgI m blankC n0).q
  hok : foOk m f = true
  hat : 0 ≤ f.at_ ∧ f.at_ < (f.ws.getD f.hd.toNat []).length
  hcs : ∀ z ∈ cs, z = 2
  hn : n ≤ 400
  st : startB f cs (cfgI m blankC n0) = true
  first : ∃ l, accR m f cs 400 1 f false = n :: l
theorem BncOk.rl {m : MachD} {n0 n : Nat} {f : FoD} {cs : List Int} {ws : List (List Int)} (h : BncOk m n0 n f cs ws) : f.rs.length = cs.length ∧ 1 ≤ cs.length ∧ cs.length ≤ 3 ∧ f.ws.length = cs.length + 1 := by
  have h1 := (foOk_parts h.hok).1
  have h2 := h.hwl
  have h3 : f.rs.length = ws.length / 2 := by rw [h.hrs, ods_len]
  have h4 : f.ws.length = (ws.length + 1) / 2 := by rw [h.hws, evs_len]
  omega
theorem BncOk.prf {m : MachD} {n0 n : Nat} {f : FoD} {cs : List Int} {ws : List (List Int)} (h : BncOk m n0 n f cs ws) : prfOk ⟨6, (n0 : Int) :: (n : Int) :: f.hd :: f.at_ :: cs, ws⟩ = true := by
  obtain ⟨h1, h2, h3, h4⟩ := h.rl
  have hhd := foOk_hd h.hok
  have hat := h.hat
  have hx : (f.ws.getD f.hd.toNat []).length ≤ 100 := by
    have hi : f.hd.toNat < f.ws.length := by omega
    rw [getD_get hi]
    exact (foOk_parts h.hok).2.2.2.1 _ (List.getElem_mem hi)
  have hc : (cs.all fun z => inB z (-1000000000000) 1000000000000) = true := List.all_eq_true.2 fun z hz => by rw [h.hcs z hz]; rfl
  have hN := h.hN
  have hn := h.hn
  have hl := h.hwl
  unfold prfOk
  simp only [List.all_cons, hc, h.hwb, List.length_cons, Bool.and_true, Bool.and_eq_true, decide_eq_true_eq]
  refine ⟨⟨⟨by decide, by omega⟩, by omega⟩, inB_iff.2 (by omega), inB_iff.2 (by omega), inB_iff.2 (by omega), inB_iff.2 (by omega)⟩
theorem Lists.rows {w : World} {v : Value} {xss : List (List Int)} (h : Lists w v xss) : IntRows w v xss := by
  obtain ⟨vs, a, b⟩ := h
  exact ⟨vs, a, fun i hi => by obtain ⟨u, c, d, _⟩ := b i hi; exact ⟨u, c, d⟩⟩
theorem cellB_lt {w : World} {a : Addr} {v : Value} (h : w.cell? a = some v) : a.block < w.heap.size := by
  unfold World.cell? at h
  split at h
  · rename_i hb; exact (Array.getElem?_eq_some_iff.1 hb).1
  · cases h
/-- The visitor of the check. -/
theorem visit1_c (gv gb : Nat) (n : Int) (k : Nat) (b : Bool) (w : World) (h1 : Blk w gv 4 #[.bool b]) (h2 : w.cell? ⟨gb, 0, none⟩ = some (.int .i64 n)) (hne : gb ≠ gv) :
    Calls Tryz.prog 68 #[.int .i64 (k : Int), .pointer (some ⟨gv, 0, none⟩), .pointer (some ⟨gb, 0, none⟩)] w fun e w' => e = .returned (.bool (decide ((k : Int) < n))) ∧ w.grownBy w' (some gv) ∧ Blk w' gv 4 #[.bool (b || ((k : Int) == n))] := by
  have c0 := h1.cell 0
  have z0 := h1.frozen 0
  simp only [List.getElem?_toArray, List.getElem?_cons_zero] at c0
  have H1 := Lib.hid h1
  have hb2 : (w.setCell ⟨gv, 0, none⟩ (.bool (b || ((k : Int) == n)))).cell? ⟨gb, 0, none⟩ = some (.int .i64 n) := by
    rw [World.cell?_of_block ((grownBy_setCell w ⟨gv, 0, none⟩ (.bool (b || ((k : Int) == n)))).block gb (cellB_lt h2) (fun e => hne (by injection e)))]
    exact h2
  clear h1
  go_enter Tryz.func68, Tryz.ntmps68
  cases b with
  | true =>
    simp only [Bool.true_or] at hb2
    go_wp2
    go_ret
    exact ⟨rfl, grownBy_setCell w ⟨gv, 0, none⟩ _, H1.out.set_ 0 _⟩
  | false =>
    simp only [Bool.false_or] at hb2
    go_wp2
    go_ret
    exact ⟨rfl, grownBy_setCell w ⟨gv, 0, none⟩ _, H1.out.set_ 0 _⟩
theorem visit2_c (gv : Nat) (x : Int) (k : Nat) (w : World) (h1 : Blk w gv 2 #[.int .i64 x]) :
    Calls Tryz.prog 121 #[.int .i64 (k : Int), .pointer (some ⟨gv, 0, none⟩)] w fun e w' => e = .returned (.bool false) ∧ w.grownBy w' (some gv) ∧ Blk w' gv 2 #[.int .i64 (k : Int)] := by
  have c0 := h1.cell 0
  have z0 := h1.frozen 0
  simp only [List.getElem?_toArray, List.getElem?_cons_zero] at c0
  have H1 := Lib.hid h1
  clear h1
  go_enter Tryz.func121, Tryz.ntmps121
  go_wp2
  go_ret
  exact ⟨rfl, grownBy_setCell w ⟨gv, 0, none⟩ _, H1.out.set_ 0 _⟩
end Go.Proofs.YtojiammendjpkaaGreat
end
section
set_option linter.unusedSimpArgs false
set_option linter.unusedVariables false
namespace Go.Proofs.YtojiammendjpkaaGreat
open Go Go.RowKit Go.Proofs
set_option maxHeartbeats 400000
set_option maxRecDepth 20000 in
set_option maxHeartbeats 8000000 in
theorem FormulaOf_c (m : MachD) (mv nv pv : Value) (n0 n : Nat) (f : FoD) (cs : List Int) (ws : List (List Int)) (w : World) (hr : Rules w mv m.rules) (hm : machOk m = true)
    (hn : Ints w nv ((n0 : Int) :: (n : Int) :: f.hd :: f.at_ :: cs)) (hw : Lists w pv ws) (hO : BncOk m n0 n f cs ws) :
    Calls Tryz.prog 20 #[.agg #[.int .i64 m.sy, .int .i64 m.st, mv], .agg #[.int .i64 6, nv, pv]] w fun e w' => Ext w w' ∧ ∃ wv rv ov, e = .returned (.tuple #[.agg #[.int .i64 f.q, .int .i64 f.hd, .int .i64 f.at_, wv, rv, ov], .int .i64 0]) ∧ FoV w' (.agg #[.int .i64 f.q, .int .i64 f.hd, .int .i64 f.at_, wv, rv, ov]) f wv rv ov ∧ OwnLists w.heap.size w' wv f.ws ∧ OwnLists w.heap.size w' rv f.rs ∧ OwnInts w.heap.size w' ov f.os := by
  obtain ⟨Am, cm, rfl, _, _⟩ := hr.form
  obtain ⟨An, cn, rfl, _, _⟩ := hn.form
  obtain ⟨Ap, cp, rfl, _, _⟩ := hw.form
  obtain ⟨nl, hnl⟩ : ∃ k, ((n0 : Int) :: (n : Int) :: f.hd :: f.at_ :: cs).length = k := ⟨_, rfl⟩
  rw [hnl] at hn ⊢
  obtain ⟨W, hW⟩ : ∃ W, W = ((w.alloc (.cells #[.int .i64 m.sy, .int .i64 m.st, .slice Am m.rules.length cm] 26)).alloc (.cells #[.int .i64 6, .slice An nl cn, .slice Ap ws.length cp] 34)).alloc (.cells #[.int .i64 0, .int .i64 0, .int .i64 0, .slice none 0 0, .slice none 0 0, .slice none 0 0] 49) := ⟨_, rfl⟩
  obtain ⟨bm, hbm⟩ : ∃ g, w.heap.size = g := ⟨_, rfl⟩
  have hX : Ext w W := by rw [hW]; exact ((Ext.alloc _ _).trans (Ext.alloc _ _)).trans (Ext.alloc _ _)
  have bM : Blk W bm 26 #[.int .i64 m.sy, .int .i64 m.st, .slice Am m.rules.length cm] := by rw [hW]; exact ((Blk.new _ _ _ _ hbm).alloc _).alloc _
  have bP : Blk W (bm + 1) 34 #[.int .i64 6, .slice An nl cn, .slice Ap ws.length cp] := by rw [hW]; exact (Blk.new _ _ _ _ (by simp [hbm])).alloc _
  have bO : Blk W (bm + 1 + 1) 49 #[.int .i64 0, .int .i64 0, .int .i64 0, .slice none 0 0, .slice none 0 0, .slice none 0 0] := by rw [hW]; exact Blk.new _ _ _ _ (by simp [hbm])
  have VM := ValidMachine_c (.agg #[.int .i64 m.sy, .int .i64 m.st, .slice Am m.rules.length cm]) m W ⟨_, rfl, hr.ext hX⟩
  rw [hm] at VM
  have m0 := bM.cell 0
  have m1 := bM.cell 1
  have m2 := bM.cell 2
  have p0 := bP.cell 0
  have p1 := bP.cell 1
  have p2 := bP.cell 2
  simp only [List.getElem?_toArray, List.getElem?_cons_zero, List.getElem?_cons_succ] at m0 m1 m2 p0 p1 p2
  have HB := Lib.hid (And.intro bM (And.intro bP bO))
  have HX := Lib.hid hX
  have HR := Lib.hid (And.intro hr (And.intro hm (And.intro hn (And.intro hw (And.intro hO hnl)))))
  have HBM := Lib.hid hbm
  clear bM bP bO hX hr hm hn hw hO hnl
  go_enter Tryz.func20, Tryz.ntmps20
  go_wp2_with fail
  try rw [← hW]
  try rw [hbm]
  clear hW hbm
  refine VM.mono ?_
  rintro e w1 ⟨rfl, hx1⟩
  replace m0 := hx1.cell m0
  replace m1 := hx1.cell m1
  replace m2 := hx1.cell m2
  replace p0 := hx1.cell p0
  replace p1 := hx1.cell p1
  replace p2 := hx1.cell p2
  have VP := ValidProof_c (.agg #[.int .i64 6, .slice An nl cn, .slice Ap ws.length cp]) ⟨6, (n0 : Int) :: (n : Int) :: f.hd :: f.at_ :: cs, ws⟩ w1 ⟨_, _, rfl, HR.out.2.2.1.ext (HX.out.trans hx1), (HR.out.2.2.2.1.ext (HX.out.trans hx1)).rows⟩
  rw [HR.out.2.2.2.2.1.prf] at VP
  clear VM
  go_wp2_with fail
  refine VP.mono ?_
  rintro e w2 ⟨rfl, hx2⟩
  replace m0 := hx2.cell m0
  replace m1 := hx2.cell m1
  replace m2 := hx2.cell m2
  replace p0 := hx2.cell p0
  replace p1 := hx2.cell p1
  replace p2 := hx2.cell p2
  have hE2 : Ext w w2 := (HX.out.trans hx1).trans hx2
  have O := HR.out.2.2.2.2.1
  have BO := bounceOf_c m (.slice Am m.rules.length cm) (.slice An nl cn) (.slice Ap ws.length cp) n0 (n : Int) f cs ws w2 (HR.out.1.ext hE2) HR.out.2.1 (HR.out.2.2.1.ext hE2) (HR.out.2.2.2.1.ext hE2) O.hws O.hrs O.hwl (fun x hx => by have := O.hwz x hx; omega) O.hos O.hN O.hE O.hq O.hok O.hat
  have HX2 := Lib.hid (And.intro (hx1.trans hx2) hE2)
  clear VP hx1 hx2 hE2 O
  go_wp2_with fail
  refine BO.mono ?_
  rintro e w3 ⟨hx3, wv, rv, ov, cv, lv, qv, rfl, oW, oR, oO, oc, ol, oq⟩
  have HL := Lib.hid (And.intro oW (And.intro oR (And.intro oO (And.intro oc (And.intro ol (And.intro oq hx3))))))
  obtain ⟨a1, c1, rfl, _, _⟩ := oW.lists.form
  obtain ⟨a2, c2, rfl, _, _⟩ := oR.lists.form
  obtain ⟨a3, c3, rfl, _, _⟩ := oO.ints.form
  obtain ⟨a4, c4, rfl, _, _⟩ := oc.form
  obtain ⟨a5, c5, rfl, _, _⟩ := ol.form
  obtain ⟨a6, c6, rfl, _, _⟩ := oq.form
  replace m0 := hx3.cell m0
  replace m1 := hx3.cell m1
  replace m2 := hx3.cell m2
  clear BO oW oR oO oc ol oq hx3 p0 p1 p2
  obtain ⟨V, hV⟩ : ∃ V, V = w3.alloc (.cells #[.int .i64 (n : Int), .int .i64 f.q, .int .i64 f.hd, .int .i64 f.at_, .slice a1 f.ws.length c1, .slice a2 f.rs.length c2, .slice a3 f.os.length c3, .slice a4 cs.length c4, .int .i64 (cfgI m blankC n0).q, .slice a5 (cfgI m blankC n0).l.length c5, .slice a6 (cfgI m blankC n0).r.length c6] 115) := ⟨_, rfl⟩
  obtain ⟨gb, hgb⟩ : ∃ g, w3.heap.size = g := ⟨_, rfl⟩
  have hx4 : Ext w3 V := by rw [hV]; exact Ext.alloc _ _
  have bB : Blk V gb 115 #[.int .i64 (n : Int), .int .i64 f.q, .int .i64 f.hd, .int .i64 f.at_, .slice a1 f.ws.length c1, .slice a2 f.rs.length c2, .slice a3 f.os.length c3, .slice a4 cs.length c4, .int .i64 (cfgI m blankC n0).q, .slice a5 (cfgI m blankC n0).l.length c5, .slice a6 (cfgI m blankC n0).r.length c6] := by rw [hV]; exact Blk.new _ _ _ _ hgb
  have bo5 := ((HB.out.2.2.ext HX2.out.1).ext HL.out.2.2.2.2.2.2).ext hx4
  have b1 := bB.cell 1
  have b2 := bB.cell 2
  have b3 := bB.cell 3
  have b4 := bB.cell 4
  have b5 := bB.cell 5
  have b6 := bB.cell 6
  have q0 := bo5.cell 0
  have z0 := bo5.frozen 0
  have q1 := bo5.cell 1
  have z1 := bo5.frozen 1
  have q2 := bo5.cell 2
  have z2 := bo5.frozen 2
  have q3 := bo5.cell 3
  have z3 := bo5.frozen 3
  have q4 := bo5.cell 4
  have z4 := bo5.frozen 4
  have q5 := bo5.cell 5
  have z5 := bo5.frozen 5
  simp only [List.getElem?_toArray, List.getElem?_cons_zero, List.getElem?_cons_succ] at b1 b2 b3 b4 b5 b6 q0 q1 q2 q3 q4 q5
  have HQ := Lib.hid (And.intro bo5 hx4)
  clear bB bo5 hx4 m0 m1 m2
  go_upto_region 4 with fail
  try rw [← hV]
  try rw [hgb]
  clear hV hgb
  go_wp2
  refine bodyPost_ret (v := .tuple #[.agg #[.int .i64 f.q, .int .i64 f.hd, .int .i64 f.at_, .slice a1 f.ws.length c1, .slice a2 f.rs.length c2, .slice a3 f.os.length c3], .int .i64 0]) (by simp [results, Tryz.results20, go_sem, q0, q1, q2, q3, q4, q5]) rfl ?_
  have bo5 := HQ.out.1
  have hx4 := HQ.out.2
  have oW := (HL.out.1.ext hx4).far6 bo5 (by decide) (by decide) (.int .i64 f.q) (.int .i64 f.hd) (.int .i64 f.at_) (.slice a1 f.ws.length c1) (.slice a2 f.rs.length c2) (.slice a3 f.os.length c3)
  have oR := (HL.out.2.1.ext hx4).far6 bo5 (by decide) (by decide) (.int .i64 f.q) (.int .i64 f.hd) (.int .i64 f.at_) (.slice a1 f.ws.length c1) (.slice a2 f.rs.length c2) (.slice a3 f.os.length c3)
  have oO : OwnInts _ _ _ _ := far_blk6 (ownsRow_ext HL.out.2.2.1 hx4) bo5 (by decide) (.int .i64 f.q) (.int .i64 f.hd) (.int .i64 f.at_) (.slice a1 f.ws.length c1) (.slice a2 f.rs.length c2) (.slice a3 f.os.length c3)
  exact ⟨ext_set6 ((HX2.out.2.trans HL.out.2.2.2.2.2.2).trans hx4) (by have := HBM.out; omega) _ _ _ _ _ _, _, _, _, rfl, ⟨rfl, oW.lists, oR.lists, oO.ints, oO.flat⟩, oW.base0 HX2.out.2.size, oR.base0 HX2.out.2.size, ownsRow_base oO HX2.out.2.size⟩
end Go.Proofs.YtojiammendjpkaaGreat
end
section
set_option linter.unusedSimpArgs false
set_option linter.unusedVariables false
namespace Go.Proofs.YtojiammendjpkaaGreat
open Go Go.RowKit Go.Proofs
set_option maxHeartbeats 400000
set_option maxRecDepth 20000 in
set_option maxHeartbeats 8000000 in
theorem accepted1_c (m : MachD) (mv wv rv ov cv lv qv : Value) (n : Int) (f : FoD) (cs : List Int) (c : ConfD) (w0 w : World) (h : FoV w0 (.agg #[.int .i64 f.q, .int .i64 f.hd, .int .i64 f.at_, wv, rv, ov]) f wv rv ov) (hc : Ints w0 cv cs) (hl : Ints w0 lv c.l) (hr : Ints w0 qv c.r) (hrm : Rules w0 mv m.rules) (hm : machOk m = true) (hok : foOk m f = true) (hcl : cs.length = f.rs.length) (hz : ∀ o ∈ f.os, 0 ≤ o) (hcsb0 : ∀ z ∈ cs, -1000000000000 ≤ z ∧ z ≤ 1000000000000) (hE : Ext w0 w)
    (lb : Array Value) (gv : Nat) (T : TypeId) (val : List Nat → Value) (go_ : Nat → Bool) (hgv : w0.heap.size ≤ gv) (hB : Blk w gv T #[val []])
    (hv : ∀ (pre : List Nat) (k : Nat) (W : World), w.grownBy W (some gv) → Blk W gv T #[val pre] → 1 ≤ k ∧ k ≤ 400 → Calls Tryz.prog 68 (#[.int .i64 (k : Int)] ++ lb) W fun e W' => e = .returned (.bool (go_ k)) ∧ W.grownBy W' (some gv) ∧ Blk W' gv T #[val (pre ++ [k])]) :
    Calls Tryz.prog 67 #[.agg #[.int .i64 n, .int .i64 f.q, .int .i64 f.hd, .int .i64 f.at_, wv, rv, ov, cv, .int .i64 c.q, lv, qv], .agg #[.int .i64 m.sy, .int .i64 m.st, mv], .func (.func 68) #[] lb] w fun e w' => e = .returned (.tuple #[]) ∧ w.grownBy w' (some gv) ∧ Blk w' gv T #[val (accV go_ m f cs c)] := by
  obtain ⟨Am, cm, rfl, _, _⟩ := hrm.form
  obtain ⟨A1, c1, rfl, _, _⟩ := h.ws.form
  obtain ⟨A2, c2, rfl, _, _⟩ := h.rs.form
  obtain ⟨A3, c3, rfl, _, _⟩ := h.os.form
  obtain ⟨A4, c4, rfl, _, _⟩ := hc.form
  obtain ⟨A5, c5, rfl, _, _⟩ := hl.form
  obtain ⟨A6, c6, rfl, _, _⟩ := hr.form
  obtain ⟨W, hW⟩ : ∃ W, W = (w.alloc (.cells #[.int .i64 n, .int .i64 f.q, .int .i64 f.hd, .int .i64 f.at_, .slice A1 f.ws.length c1, .slice A2 f.rs.length c2, .slice A3 f.os.length c3, .slice A4 cs.length c4, .int .i64 c.q, .slice A5 c.l.length c5, .slice A6 c.r.length c6] 115)).alloc (.cells #[.int .i64 m.sy, .int .i64 m.st, .slice Am m.rules.length cm] 26) := ⟨_, rfl⟩
  obtain ⟨gb, hg⟩ : ∃ g, w.heap.size = g := ⟨_, rfl⟩
  have hX : Ext w W := by rw [hW]; exact (Ext.alloc _ _).trans (Ext.alloc _ _)
  have bB : Blk W gb 115 #[.int .i64 n, .int .i64 f.q, .int .i64 f.hd, .int .i64 f.at_, .slice A1 f.ws.length c1, .slice A2 f.rs.length c2, .slice A3 f.os.length c3, .slice A4 cs.length c4, .int .i64 c.q, .slice A5 c.l.length c5, .slice A6 c.r.length c6] := by rw [hW]; exact (Blk.new _ _ _ _ hg).alloc _
  have bM : Blk W (gb + 1) 26 #[.int .i64 m.sy, .int .i64 m.st, .slice Am m.rules.length cm] := by rw [hW]; exact Blk.new _ _ _ _ (by simp [hg])
  have hgvb : gv < gb := by have := hB.lt; omega
  have hWs : gb + 1 < W.heap.size := bM.lt
  have hEW := hE.trans hX
  have ST := starts_c m (.slice Am m.rules.length cm) _ _ _ _ _ _ n f cs c W (h.ext hEW) (hc.ext hEW) (hl.ext hEW) (hr.ext hEW) hok hcl hz ⟨_, _, rfl⟩
  have b0 := bB.cell 0
  have b1 := bB.cell 1
  have b2 := bB.cell 2
  have b3 := bB.cell 3
  have b4 := bB.cell 4
  have b5 := bB.cell 5
  have b6 := bB.cell 6
  have b7 := bB.cell 7
  have b8 := bB.cell 8
  have b9 := bB.cell 9
  have b10 := bB.cell 10
  have m0 := bM.cell 0
  have m1 := bM.cell 1
  have m2 := bM.cell 2
  simp only [List.getElem?_toArray, List.getElem?_cons_zero, List.getElem?_cons_succ] at b0 b1 b2 b3 b4 b5 b6 b7 b8 b9 b10 m0 m1 m2
  have HH := Lib.hid (And.intro h (And.intro hc (And.intro hrm (And.intro hm (And.intro hok (And.intro hcl hz))))))
  have HE := Lib.hid (And.intro hE (And.intro hX hgv))
  have HB := Lib.hid (And.intro hB (And.intro bB bM))
  have HV := Lib.hid hv
  have HG := Lib.hid (And.intro hg (And.intro hgvb hWs))
  have HCSB := Lib.hid hcsb0
  obtain ⟨sb, hsb⟩ : ∃ b, startB f cs c = b := ⟨_, rfl⟩
  rw [hsb] at ST
  have HSB := Lib.hid hsb
  clear h hc hl hr hrm hm hok hcl hz hcsb0 hE hX hgv hB bB bM hv hgvb hWs hEW hsb
  go_enter Tryz.func67, Tryz.ntmps67
  go_wp2_with fail
  try rw [← hW]
  try rw [hg]
  clear hW hg
  refine ST.mono ?_
  rintro e w2 ⟨rfl, hx2⟩
  clear ST b0 b1 b2 b3 b4 b5 b6 b7 b8 b9 b10 m0 m1 m2
  cases sb with
  | false =>
    have HFIN : Hid (w.grownBy w2 (some gv) ∧ Blk w2 gv T #[val (accV go_ m f cs c)]) := Lib.hid ⟨ext_grownBy (HE.out.2.1.trans hx2) _, by
      unfold accV
      rw [HSB.out]
      exact (HB.out.1.ext HE.out.2.1).ext hx2⟩
    clear hx2
    go_wp2
    exact bodyPost_ret (results_none rfl _ _ _) rfl ⟨rfl, HFIN.out⟩
  | true =>
    have bb := HB.out.2.1.ext hx2
    have b1 := bb.cell 1
    have b2 := bb.cell 2
    have b3 := bb.cell 3
    have b4 := bb.cell 4
    have b5 := bb.cell 5
    have b6 := bb.cell 6
    simp only [List.getElem?_toArray, List.getElem?_cons_zero, List.getElem?_cons_succ] at b1 b2 b3 b4 b5 b6
    have hE2 : Ext w0 w2 := (HE.out.1.trans HE.out.2.1).trans hx2
    have CF := copyFormulaO_c _ _ _ _ f w2 (HH.out.1.ext hE2) (foOk_small HH.out.2.2.2.2.1)
    have HX2 := Lib.hid (And.intro hx2 hE2)
    clear bb hx2 hE2
    go_wp2_with fail
    refine CF.mono ?_
    rintro e w3 ⟨⟨gp, gw, gr, go, cw, cr, co, vw, vr, rfl, hF⟩, hx3⟩
    have hF0 : FoO w0 (fun k => k < w2.heap.size) w3 gp f gw gr go cw cr co vw vr := hF.rebase (HX2.out.2.trans hx3) HX2.out.2.size
    have HF0 := Lib.hid hF0
    have HK3 : Hid (∀ k, k < w2.heap.size → k ≠ gv → w3.heap[k]? = w2.heap[k]?) := Lib.hid (fun k hk _ => Below.block hx3 k hk)
    have HBV : Hid (Blk w3 gv T #[val []]) := Lib.hid (((HB.out.1.ext HE.out.2.1).ext HX2.out.1).ext hx3)
    have HGV2 : Hid (gv < w2.heap.size ∧ gb < w2.heap.size ∧ gb + 1 < w2.heap.size ∧ gb ≠ gv ∧ gb + 1 ≠ gv) := Lib.hid (by have := HG.out; have := HX2.out.1.size; omega)
    clear CF hF hF0 hx3 b1 b2 b3 b4 b5 b6
    go_wp2_with fail
    go_loopw [7, 8] (fun a b wr => ∃ (k : Nat) (f' : FoD) (real : Bool) (pre : List Nat) (vw' vr' : List Value), k ≤ 400 ∧ a = .bool real ∧ b = .int .i64 ((k + 1 : Nat) : Int) ∧ Hid (foOk m f' = true ∧ f'.rs.length = f.rs.length) ∧ Hid (FoO w0 (fun k => k < w2.heap.size) wr gp f' gw gr go cw cr co vw' vr') ∧ Hid (Blk wr gv T #[val pre]) ∧ Hid (∀ k, k < w2.heap.size → k ≠ gv → wr.heap[k]? = w2.heap[k]?) ∧ Hid (accV go_ m f cs c = pre ++ runV go_ (accR m f cs (400 - k) (k + 1) f' real))) (fun _ b _ => 401 - (intOf b).toNat)
    case atStart => exact ⟨0, f, false, [], vw, vr, by omega, rfl, rfl, Lib.hid ⟨HH.out.2.2.2.2.1, rfl⟩, HF0, HBV, HK3, Lib.hid (by unfold accV; rw [HSB.out]; rfl)⟩
    case round =>
      clear HF0 HBV HK3
      obtain ⟨k, f', real, pre, vw', vr', hk, rfl, rfl, HOK, HFO, HBV, HKP, HV2⟩ := hrel
      have HGR : Hid (w.grownBy wr (some gv)) := Lib.hid (grown_of HE.out.1 HFO.out.ext0 (HE.out.2.1.trans HX2.out.1) HFO.out.kb HKP.out)
      by_cases hlt : k < 400
      · have hdl : decide (((k + 1 : Nat) : Int) ≤ 400) = true := decide_eq_true (by omega)
        obtain ⟨d, hd⟩ : ∃ d, 400 - k = d + 1 := ⟨399 - k, by omega⟩
        have HVD : Hid (accV go_ m f cs c = pre ++ runV go_ (accR m f cs (d + 1) (k + 1) f' real)) := Lib.hid (by rw [← hd]; exact HV2.out)
        have HD := Lib.hid hd
        have hosl : f'.os.length = f'.rs.length := (foOk_parts HOK.out.1).2.2.1
        have hr13 := (foOk_parts HOK.out.1).1
        have CL := CloneF_c _ f'.os wr (OwnInts.ints HFO.out.oo) (OwnInts.flat HFO.out.oo) (by omega)
        have q5 : wr.cell? ⟨gp, 5, none⟩ = some (.slice (some ⟨go, 0, none⟩) f'.os.length co) := HFO.out.blk.cell 5
        have HOL := Lib.hid (And.intro hosl hr13)
        clear hd hosl hr13
        go_wp2_with fail
        refine CL.mono ?_
        rintro e w5 ⟨z, rfl, oz, _, hx5⟩
        obtain ⟨g9, c9, rfl⟩ := own_some oz (by have := HOL.out; omega)
        obtain ⟨⟨csb, b9⟩, hg9⟩ := own_blk oz
        obtain ⟨K1, hK1⟩ : ∃ K1 : Nat → Prop, K1 = fun k => k < w2.heap.size ∨ (wr.heap.size ≤ k ∧ k < w5.heap.size) := ⟨_, rfl⟩
        have h5 : FoO w0 K1 w5 gp f' gw gr go cw cr co vw' vr' := HFO.out.more hx5 (fun k hk => by rw [hK1] at hk; exact hk)
        have hk12 : ∀ k, k < w2.heap.size → K1 k := fun k hk => by rw [hK1]; exact .inl hk
        have hk9 : K1 g9 := by rw [hK1]; exact .inr ⟨hg9, b9.lt⟩
        have kp5 : ∀ k, k < w2.heap.size → k ≠ gv → w5.heap[k]? = w2.heap[k]? := fun k hk hne => (Below.block hx5 k (HFO.out.kb k hk)).trans (HKP.out k hk hne)
        have bm5 : Blk w5 (gb + 1) 26 #[.int .i64 m.sy, .int .i64 m.st, .slice Am m.rules.length cm] := (kp5 (gb + 1) HGV2.out.2.2.1 HGV2.out.2.2.2.2).trans (HB.out.2.2.ext HX2.out.1)
        have bb5 : Blk w5 gb 115 #[.int .i64 n, .int .i64 f.q, .int .i64 f.hd, .int .i64 f.at_, .slice A1 f.ws.length c1, .slice A2 f.rs.length c2, .slice A3 f.os.length c3, .slice A4 cs.length c4, .int .i64 c.q, .slice A5 c.l.length c5, .slice A6 c.r.length c6] := (kp5 gb HGV2.out.2.1 HGV2.out.2.2.2.1).trans (HB.out.2.1.ext HX2.out.1)
        have m0 := bm5.cell 0
        have m1 := bm5.cell 1
        have m2 := bm5.cell 2
        simp only [List.getElem?_toArray, List.getElem?_cons_zero, List.getElem?_cons_succ] at m0 m1 m2
        have SF := stepFo_c m (.slice Am m.rules.length cm) h5 (HH.out.2.2.1.ext h5.ext0) HH.out.2.2.2.1 HOK.out.1
        have H5 := Lib.hid (And.intro kp5 (And.intro hk12 (And.intro hk9 (And.intro b9 (And.intro oz (And.intro bm5 (And.intro bb5 (HBV.out.ext hx5))))))))
        clear CL q5 oz hx5 b9 hg9 h5 hk12 hk9 kp5 bm5 bb5 hK1 HBV
        go_wp2_with fail
        refine SF.mono ?_
        rintro e w6 ⟨hres, hkp6, hx6, hsz6⟩
        clear SF m0 m1 m2
        have HK6 := Lib.hid (And.intro hkp6 hx6)
        have HKP6 : Hid (∀ k, k < w2.heap.size → k ≠ gv → w6.heap[k]? = w2.heap[k]?) := Lib.hid (fun k hk hne => (hkp6 k (H5.out.2.1 k hk)).trans (H5.out.1 k hk hne))
        have HBV6 : Hid (Blk w6 gv T #[val pre]) := Lib.hid ((hkp6 gv (H5.out.2.1 gv HGV2.out.1)).trans H5.out.2.2.2.2.2.2.2)
        have HB6 : Hid (Blk w6 gb 115 #[.int .i64 n, .int .i64 f.q, .int .i64 f.hd, .int .i64 f.at_, .slice A1 f.ws.length c1, .slice A2 f.rs.length c2, .slice A3 f.os.length c3, .slice A4 cs.length c4, .int .i64 c.q, .slice A5 c.l.length c5, .slice A6 c.r.length c6] ∧ Blk w6 (gb + 1) 26 #[.int .i64 m.sy, .int .i64 m.st, .slice Am m.rules.length cm]) := Lib.hid ⟨(hkp6 gb (H5.out.2.1 gb HGV2.out.2.1)).trans H5.out.2.2.2.2.2.2.1, (hkp6 (gb + 1) (H5.out.2.1 _ HGV2.out.2.2.1)).trans H5.out.2.2.2.2.2.1⟩
        have HO9 : Hid (∀ j (hj : j < f'.os.length), w6.cell? ⟨g9, j, none⟩ = some (.int .i64 f'.os[j])) := Lib.hid (fun j hj => by
          have e1 : w6.cell? ⟨g9, j, none⟩ = w5.cell? ⟨g9, j, none⟩ := World.cell?_of_block (hkp6 g9 H5.out.2.2.1)
          rw [e1, own_cell H5.out.2.2.2.2.1 hj, ivs_get _ j hj])
        have HSZ6 : Hid (∀ k, k < w2.heap.size → k < w6.heap.size) := Lib.hid (fun k hk => hsz6 k (H5.out.2.1 k hk))
        clear hkp6 hx6 hsz6
        rcases hres with ⟨kd, f2, hst, rfl, vw2, vr2, hF2⟩ | ⟨hst, cc, rfl, hcc⟩
        · have hF6 : FoO w0 (fun k => k < w2.heap.size) w6 gp f2 gw gr go cw cr co vw2 vr2 := hF2.mono H5.out.2.1
          have HF6 := Lib.hid hF6
          have hkd := (raw_keep (step_raw hst).1).2.2
          have HST := Lib.hid (And.intro hst (And.intro (step_raw hst).2 (And.intro ((raw_keep (step_raw hst).1).1.trans HOK.out.2) (fun e : kd = 2 => raw_two HOK.out.1 (by rw [← e]; exact (step_raw hst).1)))))
          have HKD := Lib.hid hkd
          obtain ⟨io, hio⟩ : ∃ i, (onB f').1 = i := ⟨_, rfl⟩
          have HIO := Lib.hid hio
          rw [hio]
          obtain ⟨cb, hcb⟩ : ∃ b, decide (kd = 2 ∧ cs.getD (onB f').1.toNat 0 + f'.os.getD (onB f').1.toNat 0 < 1) = b := ⟨_, rfl⟩
          have HCB := Lib.hid hcb
          clear hst hF2 hF6 hkd hio hcb
          go_upto_region 8 with fail
          go_cut [56] (fun u wx => u = .bool cb ∧ Ext w6 wx)
          case first =>
            have b7 : w6.drew.cell? ⟨gb, 7, none⟩ = some (.slice A4 cs.length c4) := HB6.out.1.cell 7
            by_cases hk2 : kd = 2
            · obtain ⟨i, hi, hie⟩ := HST.out.2.2.2 hk2
              have hii : io = (i : Int) := by rw [← HIO.out]; exact hie
              subst hii
              have hic : i < cs.length := by have := HH.out.2.2.2.2.2.1; have := HOK.out.2; omega
              have hio2 : i < f'.os.length := by have := HOL.out; omega
              obtain ⟨b4', o4, hA4, hcc4⟩ := Ints.at (HH.out.2.1.ext HK6.out.2) hic
              have e4 := hcc4 i hic
              clear hcc4
              subst hA4
              have e9 : w6.drew.cell? ⟨g9, i, none⟩ = some (.int .i64 f'.os[i]) := HO9.out i hio2
              obtain ⟨zc, hzc⟩ : ∃ z, cs[i] = z := ⟨_, rfl⟩
              obtain ⟨zo, hzo⟩ : ∃ z, f'.os[i] = z := ⟨_, rfl⟩
              rw [hzc] at e4
              rw [hzo] at e9
              have e4d : w6.drew.cell? ⟨b4', o4 + i, none⟩ = some (.int .i64 zc) := e4
              have hcsb := HCSB.out _ (List.getElem_mem hic)
              rw [hzc] at hcsb
              have hob := (foOk_parts HOK.out.1).2.2.2.2.2.1 _ (List.getElem_mem hio2)
              rw [hzo] at hob
              have hws : IntKind.i64.wrap (zc + zo) = zc + zo := IntWalk.i64_in _ (by omega)
              have hcbv : cb = decide (zc + zo < 1) := by
                rw [← HCB.out, hie, Int.toNat_natCast, getD_get hic, getD_get hio2, hzc, hzo, hk2]
                simp
              have HCV := Lib.hid hcbv
              have hic2 : i < cs.length := hic
              have hio3 : i < f'.os.length := hio2
              subst hk2
              clear hcbv hzc hzo hi hie e4
              obtain ⟨bl, hbl⟩ : ∃ b, decide (zc + zo < 1) = b := ⟨_, rfl⟩
              refine wp_region_ordT 18 (readsT [0, 1, 2, 3, 4, 5, 6, 7, 8, 9, 10, 11, 12, 13, 14, 15, 16, 17] .done) (by kernel_rfl) (by kernel_rfl) (fun _ _ _ _ _ h => h) ?_
              simp only [readsT]
              refine wpOrdT_read (v := .int .i64 0) (by rfl) (Or.inl ⟨by rfl, fun x hx => ?_⟩) ?_; (· go_simp)
              try simp only [Act.put, List.setIfInBounds_toArray, List.set_cons_zero, List.set_cons_succ]
              iterate 2 (refine wpOrdT_read (v := .bool false) (by rfl) (Or.inl ⟨by rfl, fun x hx => ?_⟩) ?_; (· go_simp); try simp only [Act.put, List.setIfInBounds_toArray, List.set_cons_zero, List.set_cons_succ])
              refine wpOrdT_read (v := .int .i64 2) (by rfl) (Or.inl ⟨by rfl, fun x hx => ?_⟩) ?_; (· go_simp)
              try simp only [Act.put, List.setIfInBounds_toArray, List.set_cons_zero, List.set_cons_succ]
              iterate 2 (refine wpOrdT_read (v := .bool true) (by rfl) (Or.inl ⟨by rfl, fun x hx => ?_⟩) ?_; (· go_simp); try simp only [Act.put, List.setIfInBounds_toArray, List.set_cons_zero, List.set_cons_succ])
              iterate 10 (refine wpOrdT_read (v := ?_) (by rfl) (Or.inl ⟨by rfl, fun x hx => ?_⟩) ?_; rotate_left; (· have y7 := Ext.cell hx b7; have y4 := Ext.cell hx e4d; have y9 := Ext.cell hx e9; go_simp; try first | with_reducible rfl | (rw [if_pos (by omega)]; try with_reducible rfl) | (rw [hws]; try with_reducible rfl)); try simp only [Act.put, List.setIfInBounds_toArray, List.set_cons_zero, List.set_cons_succ])
              iterate 2 (refine wpOrdT_read (v := .bool bl) (by rfl) (Or.inl ⟨by rfl, fun x hx => ?_⟩) ?_; (· go_simp; try rw [hbl]); try simp only [Act.put, List.setIfInBounds_toArray, List.set_cons_zero, List.set_cons_succ])
              refine wpOrdT_done ?_
              try simp only [List.drop_succ_cons, List.drop_zero]
              have HBL := Lib.hid hbl
              clear b7 e4d e9 hws hbl hcsb hob
              go_wp2_with fail
              go_meet
              exact ⟨by rw [HCV.out, HBL.out], Ext.drew w6⟩
            · have hk2b : (kd == 2) = false := by rcases HKD.out with rfl | rfl | rfl <;> first | rfl | exact absurd rfl hk2
              have hcbv : cb = false := by rw [← HCB.out]; exact decide_eq_false (fun hh => hk2 hh.1)
              subst hcbv
              clear b7
              refine wp_region_ordT 18 (readsT [0, 1, 2, 3, 4, 5, 6, 7, 8, 9, 10, 11, 12, 13, 14, 15, 16, 17] .done) (by kernel_rfl) (by kernel_rfl) (fun _ _ _ _ _ h => h) ?_
              simp only [readsT]
              refine wpOrdT_read (v := .int .i64 0) (by rfl) (Or.inl ⟨by rfl, fun x hx => ?_⟩) ?_; (· go_simp)
              try simp only [Act.put, List.setIfInBounds_toArray, List.set_cons_zero, List.set_cons_succ]
              iterate 2 (refine wpOrdT_read (v := .bool false) (by rfl) (Or.inl ⟨by rfl, fun x hx => ?_⟩) ?_; (· go_simp); try simp only [Act.put, List.setIfInBounds_toArray, List.set_cons_zero, List.set_cons_succ])
              refine wpOrdT_read (v := .int .i64 kd) (by rfl) (Or.inl ⟨by rfl, fun x hx => ?_⟩) ?_; (· go_simp)
              try simp only [Act.put, List.setIfInBounds_toArray, List.set_cons_zero, List.set_cons_succ]
              iterate 2 (refine wpOrdT_read (v := .bool false) (by rfl) (Or.inl ⟨by rfl, fun x hx => ?_⟩) ?_; (· go_simp; try rw [hk2b]); try simp only [Act.put, List.setIfInBounds_toArray, List.set_cons_zero, List.set_cons_succ])
              iterate 11 (refine wpOrdT_read (v := undef) (by rfl) (Or.inr ⟨by rfl, by rfl⟩) ?_; try simp only [Act.put, List.setIfInBounds_toArray, List.set_cons_zero, List.set_cons_succ])
              refine wpOrdT_read (v := .bool false) (by rfl) (Or.inl ⟨by rfl, fun x hx => ?_⟩) ?_; (· go_simp)
              try simp only [Act.put, List.setIfInBounds_toArray, List.set_cons_zero, List.set_cons_succ]
              refine wpOrdT_done ?_
              try simp only [List.drop_succ_cons, List.drop_zero]
              clear hk2 hk2b
              go_wp2_with fail
              go_meet
              exact ⟨rfl, Ext.drew w6⟩
          case rest =>
            obtain ⟨rfl, hxc⟩ := hcut
            clear HO9
            have HC6 : Hid (Ext w6 wc) := Lib.hid hxc
            have HGRC : Hid (w.grownBy wc (some gv) ∧ Blk wc gv T #[val pre] ∧ FoO w0 (fun k => k < w2.heap.size) wc gp f2 gw gr go cw cr co vw2 vr2 ∧ (∀ k, k < w2.heap.size → k ≠ gv → wc.heap[k]? = w2.heap[k]?)) := Lib.hid (by
              have hF := HF6.out.ext hxc
              have hk := fun k (hk : k < w2.heap.size) (hne : k ≠ gv) => (Below.block hxc k (HF6.out.kb k hk)).trans (HKP6.out k hk hne)
              exact ⟨grown_of HE.out.1 hF.ext0 (HE.out.2.1.trans HX2.out.1) hF.kb hk, HBV6.out.ext hxc, hF, hk⟩)
            clear hxc
            cases cb with
            | true =>
              have HFIN : Hid (w.grownBy wc (some gv) ∧ Blk wc gv T #[val (accV go_ m f cs c)]) := Lib.hid ⟨HGRC.out.1, by
                rw [HVD.out, accR_some HST.out.1, if_pos (of_decide_eq_true HCB.out)]
                simp only [runV, List.append_nil]
                exact HGRC.out.2.1⟩
              go_wp2
              exact bodyPost_ret (results_none rfl _ _ _) rfl ⟨rfl, HFIN.out⟩
            | false =>
              obtain ⟨r2, hr2⟩ : ∃ r, (real || decide (kd = 0)) = r := ⟨_, rfl⟩
              have HR2 := Lib.hid hr2
              have HVE : Hid (accV go_ m f cs c = pre ++ runV go_ ((if (r2 && (growF m f f2).isSome) = true then [k + 1] else []) ++ accR m f cs d (k + 1 + 1) f2 r2)) := Lib.hid (by rw [HVD.out, accR_some HST.out.1, if_neg (of_decide_eq_false HCB.out), hr2])
              clear hr2
              go_upto_region 9 with fail
              go_cut [7] (fun u wx => u = .bool r2 ∧ wc = wx)
              case first =>
                cases real with
                | true =>
                  have HT : Hid (r2 = true) := Lib.hid (by rw [← HR2.out]; rfl)
                  go_wp2_with fail
                  go_meet
                  exact ⟨by rw [HT.out], rfl⟩
                | false =>
                  by_cases hk0 : kd = 0
                  · have hkb : (kd == 0) = true := by rw [hk0]; rfl
                    have HT : Hid (r2 = true) := Lib.hid (by rw [← HR2.out, hk0]; rfl)
                    clear hk0
                    go_wp2_with fail
                    go_meet
                    exact ⟨by rw [HT.out], rfl⟩
                  · have hkb : (kd == 0) = false := by rcases HKD.out with rfl | rfl | rfl <;> first | rfl | exact absurd rfl hk0
                    have HT : Hid (r2 = false) := Lib.hid (by rw [← HR2.out]; simp [hk0])
                    clear hk0
                    go_wp2_with fail
                    go_meet
                    exact ⟨by rw [HT.out], rfl⟩
              case rest =>
                obtain ⟨rfl, rfl⟩ := hcut
                have hw9 : IntKind.i64.wrap (((k + 1 : Nat) : Int) + 1) = ((k + 1 + 1 : Nat) : Int) := by rw [show ((k + 1 : Nat) : Int) + 1 = ((k + 1 + 1 : Nat) : Int) by omega]; exact IntWalk.i64_in _ (by omega)
                cases r2 with
                | false =>
                  have HVN : Hid (accV go_ m f cs c = pre ++ runV go_ (accR m f cs (400 - (k + 1)) (k + 1 + 1) f2 false)) := Lib.hid (by rw [HVE.out, show 400 - (k + 1) = d by have := HD.out; omega]; simp)
                  go_wp2
                  go_roundw
                  case rel => exact ⟨k + 1, f2, false, pre, vw2, vr2, by omega, rfl, by go_num, Lib.hid ⟨HST.out.2.1, HST.out.2.2.1⟩, Lib.hid HGRC.out.2.2.1, Lib.hid HGRC.out.2.1, Lib.hid HGRC.out.2.2.2, HVN⟩
                  case measure => simp [intOf]; omega
                | true =>
                  have bm := (HB6.out.2.ext HC6.out).ext (Ext.drew wc)
                  have bb := (HB6.out.1.ext HC6.out).ext (Ext.drew wc)
                  have hFd := HGRC.out.2.2.1.ext (Ext.drew wc)
                  have GR := growthG_c m (.slice Am m.rules.length cm) _ _ _ _ _ _ f f2 wc.drew (HH.out.1.ext hFd.ext0) hFd.at.val HH.out.2.2.2.2.1 HST.out.2.1 HH.out.2.2.2.1
                  have m0 := bm.cell 0
                  have m1 := bm.cell 1
                  have m2 := bm.cell 2
                  have b1 := bb.cell 1
                  have b2 := bb.cell 2
                  have b3 := bb.cell 3
                  have b4 := bb.cell 4
                  have b5 := bb.cell 5
                  have b6 := bb.cell 6
                  have ff0 := hFd.blk.cell 0
                  have ff1 := hFd.blk.cell 1
                  have ff2 := hFd.blk.cell 2
                  have ff3 := hFd.blk.cell 3
                  have ff4 := hFd.blk.cell 4
                  have ff5 := hFd.blk.cell 5
                  simp only [List.getElem?_toArray, List.getElem?_cons_zero, List.getElem?_cons_succ] at m0 m1 m2 b1 b2 b3 b4 b5 b6 ff0 ff1 ff2 ff3 ff4 ff5
                  have HFD := Lib.hid hFd
                  clear bm bb hFd
                  go_wp2_with fail
                  refine wp_region_ordT 11 (readsT [0, 1, 2, 3, 4, 5] (.stir 6 (readsT [7, 8, 9, 10] .done))) (by kernel_rfl) (by kernel_rfl) (fun _ _ _ _ _ h => h) ?_
                  simp only [readsT]
                  iterate 6 (refine wpOrdT_read (v := ?_) (by rfl) (Or.inl ⟨by rfl, fun x hx => ?_⟩) ?_; rotate_left; (· have ym0 := Ext.cell hx m0; have ym1 := Ext.cell hx m1; have ym2 := Ext.cell hx m2; have yb1 := Ext.cell hx b1; have yb2 := Ext.cell hx b2; have yb3 := Ext.cell hx b3; have yb4 := Ext.cell hx b4; have yb5 := Ext.cell hx b5; have yb6 := Ext.cell hx b6; have yf0 := Ext.cell hx ff0; have yf1 := Ext.cell hx ff1; have yf2 := Ext.cell hx ff2; have yf3 := Ext.cell hx ff3; have yf4 := Ext.cell hx ff4; have yf5 := Ext.cell hx ff5; go_simp; try with_reducible rfl); try simp only [Act.put, List.setIfInBounds_toArray, List.set_cons_zero, List.set_cons_succ])
                  refine wpOrdT_stir (by rfl) (fun K hK => ?_)
                  go_simp
                  go_at_call 72
                  refine GR.mono ?_
                  rintro e w7 ⟨hgr, hx7⟩
                  have HX7 : Hid (Ext wc w7) := Lib.hid ((Ext.drew wc).trans hx7)
                  have HG7 : Hid (w.grownBy w7 (some gv) ∧ Blk w7 gv T #[val pre] ∧ FoO w0 (fun k => k < w2.heap.size) w7 gp f2 gw gr go cw cr co vw2 vr2 ∧ (∀ k, k < w2.heap.size → k ≠ gv → w7.heap[k]? = w2.heap[k]?)) := Lib.hid (by
                    have hF := HGRC.out.2.2.1.ext HX7.out
                    have hk := fun k (hk : k < w2.heap.size) (hne : k ≠ gv) => (Below.block HX7.out k (HGRC.out.2.2.1.kb k hk)).trans (HGRC.out.2.2.2 k hk hne)
                    exact ⟨grown_of HE.out.1 hF.ext0 (HE.out.2.1.trans HX2.out.1) hF.kb hk, HGRC.out.2.1.ext HX7.out, hF, hk⟩)
                  clear GR HFD m0 m1 m2 b1 b2 b3 b4 b5 b6 ff0 ff1 ff2 ff3 ff4 ff5
                  rcases hgr with ⟨l, ul, base, hl, rfl, ol, _⟩ | ⟨hl, cg, rfl, hcg⟩
                  · refine hK _ _ hx7 ?_
                    clear hK K hx7
                    try simp only [Act.put, List.setIfInBounds_toArray, List.set_cons_zero, List.set_cons_succ]
                    iterate 4 (refine wpOrdT_read (v := ?_) (by rfl) (Or.inl ⟨by rfl, fun x hx => ?_⟩) ?_; rotate_left; (· go_simp; try with_reducible rfl); try simp only [Act.put, List.setIfInBounds_toArray, List.set_cons_zero, List.set_cons_succ])
                    refine wpOrdT_done ?_
                    try simp only [List.drop_succ_cons, List.drop_zero]
                    have VV := HV.out pre (k + 1) w7 HG7.out.1 HG7.out.2.1 ⟨by omega, by omega⟩
                    have HVF : Hid (accV go_ m f cs c = pre ++ runV go_ ((k + 1) :: accR m f cs d (k + 1 + 1) f2 true)) := Lib.hid (by rw [HVE.out, hl]; rfl)
                    clear hl ol
                    go_wp2_with fail
                    refine VV.mono ?_
                    rintro e w8 ⟨rfl, hg8, hb8⟩
                    have hF8 := HG7.out.2.2.1.other hg8 HGV2.out.1 HE.out.2.2
                    have HF8 := Lib.hid hF8
                    have HB8 := Lib.hid hb8
                    have HK8 : Hid (∀ k, k < w2.heap.size → k ≠ gv → w8.heap[k]? = w2.heap[k]?) := Lib.hid (fun k hk hne => (hg8.block k (HG7.out.2.2.1.kb k hk) (fun e => hne (by injection e))).trans (HG7.out.2.2.2 k hk hne))
                    have HG8 : Hid (w.grownBy w8 (some gv)) := Lib.hid (grownBy_trans HG7.out.1 hg8)
                    clear VV hg8 hb8 hF8
                    obtain ⟨gb_, hgb⟩ : ∃ b, go_ (k + 1) = b := ⟨_, rfl⟩
                    rw [hgb]
                    cases gb_ with
                    | false =>
                      have HFIN : Hid (w.grownBy w8 (some gv) ∧ Blk w8 gv T #[val (accV go_ m f cs c)]) := Lib.hid ⟨HG8.out, by
                        rw [HVF.out]
                        unfold runV
                        rw [if_neg (by rw [hgb]; decide)]
                        exact HB8.out⟩
                      clear hgb
                      go_wp2
                      exact bodyPost_ret (results_none rfl _ _ _) rfl ⟨rfl, HFIN.out⟩
                    | true =>
                      have HVN : Hid (accV go_ m f cs c = (pre ++ [k + 1]) ++ runV go_ (accR m f cs (400 - (k + 1)) (k + 1 + 1) f2 true)) := Lib.hid (by
                        rw [HVF.out, show 400 - (k + 1) = d by have := HD.out; omega]
                        conv => lhs; unfold runV
                        rw [if_pos hgb]
                        simp)
                      clear hgb
                      go_wp2
                      go_roundw
                      case rel => exact ⟨k + 1, f2, true, pre ++ [k + 1], vw2, vr2, by omega, rfl, by go_num, Lib.hid ⟨HST.out.2.1, HST.out.2.2.1⟩, HF8, HB8, HK8, HVN⟩
                      case measure => simp [intOf]; omega
                  · refine hK _ _ hx7 ?_
                    clear hK K hx7
                    try simp only [Act.put, List.setIfInBounds_toArray, List.set_cons_zero, List.set_cons_succ]
                    iterate 4 (refine wpOrdT_read (v := ?_) (by rfl) (Or.inl ⟨by rfl, fun x hx => ?_⟩) ?_; rotate_left; (· go_simp; try with_reducible rfl); try simp only [Act.put, List.setIfInBounds_toArray, List.set_cons_zero, List.set_cons_succ])
                    refine wpOrdT_done ?_
                    try simp only [List.drop_succ_cons, List.drop_zero]
                    have hcg0 : (cg == 0) = false := by rcases hcg with rfl | rfl <;> rfl
                    have HVN : Hid (accV go_ m f cs c = pre ++ runV go_ (accR m f cs (400 - (k + 1)) (k + 1 + 1) f2 true)) := Lib.hid (by rw [HVE.out, hl, show 400 - (k + 1) = d by have := HD.out; omega]; simp)
                    clear hl hcg
                    go_wp2
                    go_roundw
                    case rel => exact ⟨k + 1, f2, true, pre, vw2, vr2, by omega, rfl, by go_num, Lib.hid ⟨HST.out.2.1, HST.out.2.2.1⟩, Lib.hid HG7.out.2.2.1, Lib.hid HG7.out.2.1, Lib.hid HG7.out.2.2.2, HVN⟩
                    case measure => simp [intOf]; omega
        · have HNO : Hid (accV go_ m f cs c = pre) := Lib.hid (by rw [HVD.out, accR_none hst]; simp [runV])
          have hc0 : (cc != 0) = true := by rcases hcc with rfl | rfl <;> rfl
          clear hst hcc
          have HGN : Hid (w.grownBy w6 (some gv)) := Lib.hid (grown_of HE.out.1 HK6.out.2 (HE.out.2.1.trans HX2.out.1) HSZ6.out HKP6.out)
          have HFIN : Hid (w.grownBy w6.drew (some gv) ∧ Blk w6.drew gv T #[val (accV go_ m f cs c)]) := Lib.hid ⟨grownBy_trans HGN.out (ext_grownBy (Ext.drew w6) _), by rw [HNO.out]; exact HBV6.out.ext (Ext.drew w6)⟩
          go_upto_region 8 with fail
          refine wp_region_ordT 18 (readsT [0, 1, 2, 3, 4, 5, 6, 7, 8, 9, 10, 11, 12, 13, 14, 15, 16, 17] .done) (by kernel_rfl) (by kernel_rfl) (fun _ _ _ _ _ h => h) ?_
          simp only [readsT]
          refine wpOrdT_read (v := .int .i64 cc) (by rfl) (Or.inl ⟨by rfl, fun x hx => ?_⟩) ?_; (· go_simp)
          try simp only [Act.put, List.setIfInBounds_toArray, List.set_cons_zero, List.set_cons_succ]
          iterate 2 (refine wpOrdT_read (v := .bool true) (by rfl) (Or.inl ⟨by rfl, fun x hx => ?_⟩) ?_; (· go_simp; try rw [hc0]); try simp only [Act.put, List.setIfInBounds_toArray, List.set_cons_zero, List.set_cons_succ])
          iterate 15 (refine wpOrdT_read (v := undef) (by rfl) (Or.inr ⟨by rfl, by rfl⟩) ?_; try simp only [Act.put, List.setIfInBounds_toArray, List.set_cons_zero, List.set_cons_succ])
          refine wpOrdT_done ?_
          try simp only [List.drop_succ_cons, List.drop_zero]
          go_wp2
          exact bodyPost_ret (results_none rfl _ _ _) rfl ⟨rfl, HFIN.out⟩
      · have hdl : decide (((k + 1 : Nat) : Int) ≤ 400) = false := decide_eq_false (by omega)
        have HFIN : Hid (w.grownBy wr (some gv) ∧ Blk wr gv T #[val (accV go_ m f cs c)]) := Lib.hid ⟨HGR.out, by
          rw [HV2.out, show 400 - k = 0 by omega]
          simp only [accR, runV, List.append_nil]
          exact HBV.out⟩
        go_wp2
        exact bodyPost_end (results_none rfl _ _ _) rfl ⟨rfl, HFIN.out⟩
end Go.Proofs.YtojiammendjpkaaGreat
end
