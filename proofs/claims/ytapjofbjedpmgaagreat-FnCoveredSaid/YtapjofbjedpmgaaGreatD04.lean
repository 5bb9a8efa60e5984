/- Contract: the merged lists of two sets.
Contract: a proof by contexts merged from two. Written by mkcxi.py.
Words for the list of the configurations of a run: what holds between two rounds of the program's runner. -/
import Derived.Test.YtapjofbjedpmgaaGreatC01
import Derived.Test.YtapjofbjedpmgaaGreatC02
import Derived.Test.YtapjofbjedpmgaaGreatC03
import Derived.Test.YtapjofbjedpmgaaGreatC04
import Derived.Test.YtapjofbjedpmgaaGreatC05
import Derived.Test.YtapjofbjedpmgaaGreatC06
import Derived.Test.YtapjofbjedpmgaaGreatC07
import Derived.Test.YtapjofbjedpmgaaGreatC08
import Derived.Test.YtapjofbjedpmgaaGreatC09
import Derived.Test.YtapjofbjedpmgaaGreatC10
import Derived.Test.YtapjofbjedpmgaaGreatC11
import Derived.Test.YtapjofbjedpmgaaGreatC12
import Derived.Test.YtapjofbjedpmgaaGreatC13
import Derived.Test.YtapjofbjedpmgaaGreatC14
import Derived.Test.YtapjofbjedpmgaaGreatC15
import Derived.Test.YtapjofbjedpmgaaGreatC16
import Derived.Test.YtapjofbjedpmgaaGreatC17
import Derived.Test.YtapjofbjedpmgaaGreatC18
import Derived.Test.YtapjofbjedpmgaaGreatC19
import Derived.Test.YtapjofbjedpmgaaGreatC20
import Derived.Test.YtapjofbjedpmgaaGreatC21
import Derived.Test.YtapjofbjedpmgaaGreatC22
import Derived.Test.YtapjofbjedpmgaaGreatC23
import Derived.Test.YtapjofbjedpmgaaGreatC24
import Derived.Test.YtapjofbjedpmgaaGreatC25
import Derived.Test.YtapjofbjedpmgaaGreatC26
import Derived.Test.YtapjofbjedpmgaaGreatC27
import Derived.Test.YtapjofbjedpmgaaGreatC28
import Derived.Test.YtapjofbjedpmgaaGreatC29
import Derived.Test.YtapjofbjedpmgaaGreatC30
import Derived.Test.YtapjofbjedpmgaaGreatC31
import Derived.Test.YtapjofbjedpmgaaGreatC32
import Derived.Test.YtapjofbjedpmgaaGreatC33
import Derived.Test.YtapjofbjedpmgaaGreatC34
import Derived.Test.YtapjofbjedpmgaaGreatC35
import Derived.Test.YtapjofbjedpmgaaGreatC36
import Derived.Test.YtapjofbjedpmgaaGreatC37
import Derived.Test.YtapjofbjedpmgaaGreatC38
import Derived.Test.YtapjofbjedpmgaaGreatC39
import Derived.Test.YtapjofbjedpmgaaGreatC40
import Derived.Test.YtapjofbjedpmgaaGreatC41
import Derived.Test.YtapjofbjedpmgaaGreatC42
import Derived.Test.YtapjofbjedpmgaaGreatC43
import Derived.Test.YtapjofbjedpmgaaGreatC44
import Derived.Test.YtapjofbjedpmgaaGreatC45
import Derived.Test.YtapjofbjedpmgaaGreatC46
import Derived.Test.YtapjofbjedpmgaaGreatC47
import Derived.Test.YtapjofbjedpmgaaGreatC48
import Derived.Test.YtapjofbjedpmgaaGreatD01
import Derived.Test.YtapjofbjedpmgaaGreatD02
import Derived.Test.YtapjofbjedpmgaaGreatD03
section
set_option linter.unusedSimpArgs false
set_option linter.unusedVariables false
namespace Go.Proofs.YtapjofbjedpmgaaGreat
open Go Go.RowKit Go.Proofs
set_option maxHeartbeats 400000
set_option maxRecDepth 200000 in
set_option maxHeartbeats 8000000 in
theorem merged_c (len : Nat) (v u : Value) (L M : List (List Int)) (w : World) (h1 : Lists w v L) (h2 : Lists w u M) (g1 : GoodL len L) (g2 : GoodL len M) (h0 : 0 < L.length) (hb : L.length ≤ 1000 ∧ M.length ≤ 1000) (hl1 : 1 ≤ len) (hl : len ≤ 10) :
    Calls Tryz.prog 49 #[.int .i64 (len : Int), v, u] w fun e w' => ∃ x S, e = .returned x ∧ SortOf (M ++ L) S ∧ OwnLists w.heap.size w' x S ∧ Ext w w' := by
  obtain ⟨A1, c1, rfl, _, _⟩ := id h1.form
  obtain ⟨A2, c2, rfl, _, _⟩ := id h2.form
  have hz1 : ∀ x ∈ L, 1 ≤ x.length ∧ x.length ≤ 10 ∧ ∀ z ∈ x, smallQ z := fun x hx => by have := g1.len x hx; exact ⟨by omega, by omega, g1.small x hx⟩
  have hz2 : ∀ x ∈ M, 1 ≤ x.length ∧ x.length ≤ 10 ∧ ∀ z ∈ x, smallQ z := fun x hx => by have := g2.len x hx; exact ⟨by omega, by omega, g2.small x hx⟩
  have g3 : GoodL len (M ++ L) := ⟨fun x hx => (List.mem_append.1 hx).elim (g2.len x) (g1.len x), fun x hx => (List.mem_append.1 hx).elim (g2.small x) (g1.small x)⟩
  have SO := setOf_c len (.slice A1 L.length c1) L w h1 (by omega) hz1
  have HG := Lib.hid (And.intro g3 (And.intro h2 (And.intro hz2 (And.intro h0 hb))))
  clear hz1 hz2 g1 g2 g3 h1 h2 hb h0
  go_enter Tryz.func49, Tryz.ntmps49
  go_wp2_with fail
  refine SO.mono ?_
  rintro e w1 ⟨g, mb, rfl, hS, hg1, hg2, _, hx1⟩
  clear SO
  have AD := add_c g mb L.length len (anyT L) (.slice A2 M.length c2) M w1 hS (HG.out.2.1.ext hx1) (by have := HG.out.2.2.2.2; omega) HG.out.2.2.1
  clear hS
  go_wp2_with fail
  refine AD.mono ?_
  rintro e w2 ⟨rfl, hS2, hgr⟩
  have hx2 : Ext w w2 := hx1.grown hgr (by rintro k ⟨⟩; exact hg2)
  rw [← anyT_append] at hS2
  have SD := sorted_c g mb (L.length + M.length) len (M ++ L) w2 hS2 HG.out.1 (by have := HG.out.2.2.2.1; rw [List.length_append]; omega) (by have := HG.out.2.2.2.2; rw [List.length_append]; omega) hl1 hl
  have HX := Lib.hid hx2
  clear AD hS2 hgr hx1 hx2 hg1 hg2
  go_wp2_with fail
  refine SD.mono ?_
  rintro e w3 ⟨x, S, rfl, hso, hown, hx3⟩
  obtain ⟨A3, c3, rfl⟩ := hown.form
  have HO : Hid (SortOf (M ++ L) S ∧ OwnLists w.heap.size w3 (.slice A3 S.length c3) S ∧ Ext w w3) := Lib.hid ⟨hso, hown.base0 HX.out.size, HX.out.trans hx3⟩
  clear hso hown hx3 SD
  go_wp2
  refine bodyPost_ret (v := .slice A3 S.length c3) (by simp [results, Tryz.results49, go_sem]) rfl ?_
  exact ⟨_, S, rfl, HO.out⟩
end Go.Proofs.YtapjofbjedpmgaaGreat
end
section
set_option linter.unusedSimpArgs false
set_option linter.unusedVariables false
namespace Go.Proofs.YtapjofbjedpmgaaGreat
open Go Go.RowKit Go.Proofs
set_option maxHeartbeats 400000
/-- A proof with good parts. -/
structure SetK (s : SetsD) (p : ProofD) : Prop where
  ok : prfOk p = true
  sb : setsB p = true
  n4 : 4 ≤ p.ns.length
  sp : setsP p = s
  so : SetsOk s
  gl : GoodL s.n s.l
  gr : GoodL s.n s.r
  gc : GoodL (2 * s.n + 2) s.c
  len : s.l.length ≤ 400 ∧ s.r.length ≤ 400 ∧ s.c.length ≤ 400
  pos : 0 < s.l.length ∧ 0 < s.r.length ∧ 0 < s.c.length
theorem setsInK {n : Nat} {L R C : List (List Int)} {p : ProofD} (hK : SetK ⟨n, L, R, C⟩ p) (v : Value) (w : World) (h : PrfL w v p) :
    Calls Tryz.prog 48 #[v] w fun e w' => (∃ A1 c1 A2 c2 A3 c3, e = .returned (.tuple #[.agg #[.int .i64 (n : Int), .slice A1 L.length c1, .slice A2 R.length c2, .slice A3 C.length c3], .bool true]) ∧ Lists w' (.slice A1 L.length c1) L ∧ Lists w' (.slice A2 R.length c2) R ∧ Lists w' (.slice A3 C.length c3) C) ∧ Ext w w' := by
  refine (setsIn_c v p w h hK.ok hK.sb hK.n4).mono ?_
  rintro e w' ⟨⟨u, rfl, hO⟩, hx⟩
  rw [hK.sp] at hO
  obtain ⟨A1, c1, A2, c2, A3, c3, rfl, h1, h2, h3⟩ := hO
  exact ⟨⟨A1, c1, A2, c2, A3, c3, rfl, h1.lists, h2.lists, h3.lists⟩, hx⟩
/-- What is merged. -/
def MrgS (L R C L2 R2 C2 : List (List Int)) (S : SetsD) : Prop := SortOf (L2 ++ L) S.l ∧ SortOf (R2 ++ R) S.r ∧ SortOf (C2 ++ C) S.c
set_option maxRecDepth 200000 in
set_option maxHeartbeats 8000000 in
theorem MergeContexts_c (vp vq : Value) (p q : ProofD) (n : Nat) (L R C L2 R2 C2 : List (List Int)) (w : World) (hp : PrfL w vp p) (hq : PrfL w vq q) (kp : SetK ⟨n, L, R, C⟩ p) (kq : SetK ⟨n, L2, R2, C2⟩ q) :
    Calls Tryz.prog 16 #[vp, vq] w fun e w' => (∃ S : SetsD, S.n = n ∧ MrgS L R C L2 R2 C2 S ∧ ChkR w.heap.size S e w') ∧ Ext w w' := by
  obtain ⟨nv, wv, rfl, hn1, hw1⟩ := id hp
  obtain ⟨nv2, wv2, rfl, hn2, hw2⟩ := id hq
  obtain ⟨An, cn, rfl, _, _⟩ := id hn1.form
  obtain ⟨Aw, cw, rfl, _, _⟩ := id hw1.form
  obtain ⟨Bn, dn, rfl, _, _⟩ := id hn2.form
  obtain ⟨Bw, dw, rfl, _, _⟩ := id hw2.form
  obtain ⟨W, hW⟩ : ∃ W, W = ((w.alloc (.cells #[.int .i64 p.k, .slice An p.ns.length cn, .slice Aw p.ws.length cw] 34)).alloc (.cells #[.int .i64 q.k, .slice Bn q.ns.length dn, .slice Bw q.ws.length dw] 34)).alloc (.cells #[.int .i64 0, .slice none 0 0, .slice none 0 0] 34) := ⟨_, rfl⟩
  obtain ⟨g, hg⟩ : ∃ g, w.heap.size = g := ⟨_, rfl⟩
  have hX : Ext w W := by rw [hW]; exact ((Ext.alloc _ _).trans (Ext.alloc _ _)).trans (Ext.alloc _ _)
  have bP : Blk W g 34 #[.int .i64 p.k, .slice An p.ns.length cn, .slice Aw p.ws.length cw] := by rw [hW]; exact ((Blk.new _ _ _ _ hg).alloc _).alloc _
  have bQ : Blk W (g + 1) 34 #[.int .i64 q.k, .slice Bn q.ns.length dn, .slice Bw q.ws.length dw] := by rw [hW]; exact (Blk.new _ _ _ _ (by simp [hg])).alloc _
  have bO : Blk W (g + 1 + 1) 34 #[.int .i64 0, .slice none 0 0, .slice none 0 0] := by rw [hW]; exact Blk.new _ _ _ _ (by simp [hg])
  have VP := ValidProof_c _ p W (hp.ext hX).prf
  rw [kp.ok] at VP
  have VQ := fun V (h : Ext W V) => ValidProof_c _ q V (hq.ext (hX.trans h)).prf
  rw [kq.ok] at VQ
  have p0 := bP.cell 0
  have p1 := bP.cell 1
  have p2 := bP.cell 2
  simp only [List.getElem?_toArray, List.getElem?_cons_zero, List.getElem?_cons_succ] at p0 p1 p2
  have q0 := bQ.cell 0
  have q1 := bQ.cell 1
  have q2 := bQ.cell 2
  simp only [List.getElem?_toArray, List.getElem?_cons_zero, List.getElem?_cons_succ] at q0 q1 q2
  obtain ⟨k1, hk1⟩ : ∃ k, 2 * n = k := ⟨_, rfl⟩
  obtain ⟨k2, hk2⟩ : ∃ k, 2 * n + 2 = k := ⟨_, rfl⟩
  have h_n1 := kp.so.n1
  have h_n4 := kp.so.n4
  simp only at h_n1 h_n4
  have hwm : IntKind.i64.wrap (2 * (n : Int)) = (k1 : Int) := by rw [show 2 * (n : Int) = (k1 : Int) by omega]; exact IntWalk.i64_in _ (by omega)
  have hwp : IntKind.i64.wrap ((k1 : Int) + 2) = (k2 : Int) := by rw [show (k1 : Int) + 2 = (k2 : Int) by omega]; exact IntWalk.i64_in _ (by omega)
  have HK2 := Lib.hid hk2
  have hk2l : k2 ≤ 10 := by omega
  have hk2p : 1 ≤ k2 := by omega
  have HH := Lib.hid (And.intro hX (And.intro (hp.ext hX) (And.intro (hq.ext hX) (And.intro bO (And.intro hg (And.intro kp kq))))))
  have HBL := Lib.hid (And.intro bP bQ)
  clear hX bP bQ bO hp hq kp kq hn1 hn2 hw1 hw2 hk1 hk2
  obtain ⟨lpn, hlpn⟩ : ∃ k, p.ns.length = k := ⟨_, rfl⟩
  obtain ⟨lpw, hlpw⟩ : ∃ k, p.ws.length = k := ⟨_, rfl⟩
  obtain ⟨lqn, hlqn⟩ : ∃ k, q.ns.length = k := ⟨_, rfl⟩
  obtain ⟨lqw, hlqw⟩ : ∃ k, q.ws.length = k := ⟨_, rfl⟩
  have SI1 : ∀ V, Ext W V → _ := fun V h => setsInK HH.out.2.2.2.2.2.1 _ V (HH.out.2.1.ext h)
  have SI2 : ∀ V, Ext W V → _ := fun V h => setsInK HH.out.2.2.2.2.2.2 _ V (HH.out.2.2.1.ext h)
  simp only [hlpn, hlpw, hlqn, hlqw] at SI1 SI2 VP VQ hW p0 p1 p2 q0 q1 q2 ⊢
  clear hlpn hlpw hlqn hlqw
  go_enter Tryz.func16, Tryz.ntmps16
  go_upto_region 1 with fail
  try rw [← hW]
  try rw [hg]
  clear hW hg
  go_wp2_with fail
  refine VP.mono ?_
  rintro e w1 ⟨rfl, hx1⟩
  clear VP
  have VQ := VQ w1 hx1
  replace p0 := hx1.cell p0
  replace p1 := hx1.cell p1
  replace p2 := hx1.cell p2
  replace q0 := hx1.cell q0
  replace q1 := hx1.cell q1
  replace q2 := hx1.cell q2
  go_wp2_with fail
  refine VQ.mono ?_
  rintro e w3 ⟨rfl, hx3⟩
  clear VQ
  have SI1 := SI1 w3 (hx1.trans hx3)
  replace p0 := hx3.cell p0
  replace p1 := hx3.cell p1
  replace p2 := hx3.cell p2
  replace q0 := hx3.cell q0
  replace q1 := hx3.cell q1
  replace q2 := hx3.cell q2
  go_upto_region 3 with fail
  go_wp2_with fail
  refine SI1.mono ?_
  rintro e w4 ⟨⟨A1, c1, A2, c2, A3, c3, rfl, o1, o2, o3⟩, hx4⟩
  clear SI1
  obtain ⟨V4, hV4⟩ : ∃ V, V = w4.alloc (.cells #[.int .i64 (n : Int), .slice A1 L.length c1, .slice A2 R.length c2, .slice A3 C.length c3] 58) := ⟨_, rfl⟩
  obtain ⟨ga, hga⟩ : ∃ q, w4.heap.size = q := ⟨_, rfl⟩
  have e4 : Ext w4 V4 := by rw [hV4]; exact Ext.alloc _ _
  have bA : Blk V4 ga 58 #[.int .i64 (n : Int), .slice A1 L.length c1, .slice A2 R.length c2, .slice A3 C.length c3] := by rw [hV4]; exact Blk.new _ _ _ _ hga
  have x4 : Ext W V4 := (hx1.trans hx3).trans (hx4.trans e4)
  have SI2 := SI2 V4 x4
  have HA := Lib.hid (And.intro bA (And.intro (o1.ext e4) (And.intro (o2.ext e4) (o3.ext e4))))
  have HX4 := Lib.hid x4
  clear bA o1 o2 o3 p0 p1 p2
  replace q0 := (hx4.trans e4).cell q0
  replace q1 := (hx4.trans e4).cell q1
  replace q2 := (hx4.trans e4).cell q2
  clear hx4 e4 hx1 hx3 x4
  go_upto_region 4 with fail
  try rw [← hV4]
  try rw [hga]
  clear hV4 hga
  go_wp2_with fail
  refine SI2.mono ?_
  rintro e w6 ⟨⟨B1, d1, B2, d2, B3, d3, rfl, o1, o2, o3⟩, hx6⟩
  clear SI2 q0 q1 q2
  obtain ⟨w2, hw2⟩ : ∃ V, V = w6.alloc (.cells #[.int .i64 (n : Int), .slice B1 L2.length d1, .slice B2 R2.length d2, .slice B3 C2.length d3] 58) := ⟨_, rfl⟩
  obtain ⟨gb, hgb⟩ : ∃ q, w6.heap.size = q := ⟨_, rfl⟩
  have e6 : Ext w6 w2 := by rw [hw2]; exact Ext.alloc _ _
  have bB : Blk w2 gb 58 #[.int .i64 (n : Int), .slice B1 L2.length d1, .slice B2 R2.length d2, .slice B3 C2.length d3] := by rw [hw2]; exact Blk.new _ _ _ _ hgb
  have bA := HA.out.1.ext (hx6.trans e6)
  have HX2 := Lib.hid (HX4.out.trans (hx6.trans e6))
  have HL := Lib.hid (And.intro (HA.out.2.1.ext (hx6.trans e6)) (And.intro (HA.out.2.2.1.ext (hx6.trans e6)) (HA.out.2.2.2.ext (hx6.trans e6))))
  have HM := Lib.hid (And.intro (o1.ext e6) (And.intro (o2.ext e6) (o3.ext e6)))
  have a0 := bA.cell 0
  have a1 := bA.cell 1
  have a2 := bA.cell 2
  have a3 := bA.cell 3
  simp only [List.getElem?_toArray, List.getElem?_cons_zero, List.getElem?_cons_succ] at a0 a1 a2 a3
  have b0 := bB.cell 0
  have b1 := bB.cell 1
  have b2 := bB.cell 2
  have b3 := bB.cell 3
  simp only [List.getElem?_toArray, List.getElem?_cons_zero, List.getElem?_cons_succ] at b0 b1 b2 b3
  have SC1 := fun V (h : Ext w2 V) => merged_c n (.slice A1 L.length c1) (.slice B1 L2.length d1) L L2 V (HL.out.1.ext h) (HM.out.1.ext h) HH.out.2.2.2.2.2.1.gl HH.out.2.2.2.2.2.2.gl HH.out.2.2.2.2.2.1.pos.1 (by have h1 := HH.out.2.2.2.2.2.1.len.1; have h2 := HH.out.2.2.2.2.2.2.len.1; simp only at h1 h2; omega) h_n1 (by omega)
  have SC2 := fun V (h : Ext w2 V) => merged_c n (.slice A2 R.length c2) (.slice B2 R2.length d2) R R2 V (HL.out.2.1.ext h) (HM.out.2.1.ext h) HH.out.2.2.2.2.2.1.gr HH.out.2.2.2.2.2.2.gr HH.out.2.2.2.2.2.1.pos.2.1 (by have h1 := HH.out.2.2.2.2.2.1.len.2.1; have h2 := HH.out.2.2.2.2.2.2.len.2.1; simp only at h1 h2; omega) h_n1 (by omega)
  have SC3 := fun V (h : Ext w2 V) => merged_c k2 (.slice A3 C.length c3) (.slice B3 C2.length d3) C C2 V (HL.out.2.2.ext h) (HM.out.2.2.ext h) (by have := HH.out.2.2.2.2.2.1.gc; rw [← HK2.out]; exact this) (by have := HH.out.2.2.2.2.2.2.gc; rw [← HK2.out]; exact this) HH.out.2.2.2.2.2.1.pos.2.2 (by have h1 := HH.out.2.2.2.2.2.1.len.2.2; have h2 := HH.out.2.2.2.2.2.2.len.2.2; simp only at h1 h2; omega) hk2p hk2l
  clear bA bB e6 hx6 o1 o2 o3 HA
  go_upto_region 5 with fail
  try rw [← hw2]
  try rw [hgb]
  clear hw2 hgb
  go_upto_region 8 with fail
  go_cut [11] (fun u wx => ∃ g4 X Y Z, u = .pointer (some ⟨g4, 0, none⟩) ∧ Hid (SortOf (L2 ++ L) X ∧ SortOf (R2 ++ R) Y ∧ SortOf (C2 ++ C) Z) ∧ Hid (RdT w2 wx g4 n X Y Z))
  case first =>
    refine wp_region_ordT 30 (readsT [0, 1, 2, 3, 4, 5, 6, 7, 8, 10, 11, 12, 13, 14, 15, 16, 18, 19, 20, 21, 22, 23, 24, 25, 26] (.fork 9 (.fork 17 (.fork 27 (readsT [28] (.stir 29 .done)) 29 (.stir 27 (readsT [28] .done))) 29 (.stir 17 (.stir 27 (readsT [28] .done)))) 29 (.stir 9 (.stir 17 (.stir 27 (readsT [28] .done)))))) (by kernel_rfl) (by kernel_rfl) (fun _ _ _ _ _ h => h) ?_
    simp only [readsT]
    iterate 25 (refine wpOrdT_read (v := ?_) (by rfl) (Or.inl ⟨by rfl, fun x hx => ?_⟩) ?_; rotate_left; (· have hx' : Ext w2 x := (Ext.drew w2).trans hx; have a0 := hx'.cell a0; have a1 := hx'.cell a1; have a2 := hx'.cell a2; have a3 := hx'.cell a3; have b0 := hx'.cell b0; have b1 := hx'.cell b1; have b2 := hx'.cell b2; have b3 := hx'.cell b3; go_simp; try first | with_reducible rfl | (rw [hwm]; try with_reducible rfl) | (rw [hwp]; try with_reducible rfl)); try simp only [Act.put, List.setIfInBounds_toArray, List.set_cons_zero, List.set_cons_succ])
    have hxd : Ext w2 w2.drew := Ext.drew w2
    generalize w2.drew = w0 at *
    clear a0 a1 a2 a3 b0 b1 b2 b3
    refine wpOrdT_forks (by rfl) (by rfl) (fun K hK => ?_) (fun K hK => ?_)
    · go_simp
      go_at_call 49
      with_reducible refine (SC1 w0 (hxd.trans (Ext.refl w0))).mono ?_
      rintro e y0 ⟨uA, QA, rfl, soA, owA, x0⟩
      obtain ⟨AA, cA, rfl⟩ := owA.form
      have lzA : w2.heap.size ≤ w0.heap.size := (hxd.trans (Ext.refl w0)).size
      refine hK _ _ _ (fun _ hx => hx) ((Ext.refl w0).trans x0) ?_
      clear hK K
      try simp only [Act.put, List.setIfInBounds_toArray, List.set_cons_zero, List.set_cons_succ]
      refine wpOrdT_forks (by rfl) (by rfl) (fun K hK => ?_) (fun K hK => ?_)
      · go_simp
        go_at_call 49
        with_reducible refine (SC2 y0 (hxd.trans ((Ext.refl w0).trans x0))).mono ?_
        rintro e y1 ⟨uB, QB, rfl, soB, owB, x1⟩
        obtain ⟨AB, cB, rfl⟩ := owB.form
        have lzB : w2.heap.size ≤ y0.heap.size := (hxd.trans ((Ext.refl w0).trans x0)).size
        refine hK _ _ _ (fun _ hx => hx) (((Ext.refl w0).trans x0).trans x1) ?_
        clear hK K
        try simp only [Act.put, List.setIfInBounds_toArray, List.set_cons_zero, List.set_cons_succ]
        refine wpOrdT_forks (by rfl) (by rfl) (fun K hK => ?_) (fun K hK => ?_)
        · go_simp
          go_at_call 49
          with_reducible refine (SC3 y1 (hxd.trans (((Ext.refl w0).trans x0).trans x1))).mono ?_
          rintro e y2 ⟨uD, QD, rfl, soD, owD, x2⟩
          obtain ⟨AD, cD, rfl⟩ := owD.form
          have lzD : w2.heap.size ≤ y1.heap.size := (hxd.trans (((Ext.refl w0).trans x0).trans x1)).size
          refine hK _ _ _ (fun _ hx => hx) ((((Ext.refl w0).trans x0).trans x1).trans x2) ?_
          clear hK K
          try simp only [Act.put, List.setIfInBounds_toArray, List.set_cons_zero, List.set_cons_succ]
          refine wpOrdT_read (v := .agg #[.int .i64 (n : Int), .slice AA QA.length cA, .slice AB QB.length cB, .slice AD QD.length cD]) (by rfl) (Or.inl ⟨by rfl, fun x hx => by go_simp⟩) ?_
          try simp only [Act.put, List.setIfInBounds_toArray, List.set_cons_zero, List.set_cons_succ]
          refine wpOrdT_keep (by rfl) (fun K hK => ?_)
          go_simp
          obtain ⟨y3, hy3⟩ : ∃ W', y2.alloc (.cells #[.int .i64 0, .slice none 0 0, .slice none 0 0, .slice none 0 0] 58) = W' := ⟨_, rfl⟩
          obtain ⟨g4, hg4⟩ : ∃ q, y2.heap.size = q := ⟨_, rfl⟩
          have x3 : Ext y2 y3 := by rw [← hy3]; exact Ext.alloc _ _
          have bz : Blk y3 g4 58 #[.int .i64 0, .slice none 0 0, .slice none 0 0, .slice none 0 0] := by rw [← hy3]; exact Blk.new _ _ _ _ hg4
          have lg4 : w2.heap.size ≤ g4 := by have := (hxd.trans ((((Ext.refl w0).trans x0).trans x1).trans x2)).size; omega
          rw [hy3]
          try rw [hg4]
          clear hy3 hg4
          refine hK _ _ (((((Ext.refl w0).trans x0).trans x1).trans x2).trans x3) ?_
          clear hK K
          try simp only [Act.put, List.setIfInBounds_toArray, List.set_cons_zero, List.set_cons_succ]
          refine wpOrdT_done ?_
          try simp only [List.drop_succ_cons, List.drop_zero]
          have BZ := bz
          have HP : Hid (RdT w2 ((((y3.setCell ⟨g4, 0, none⟩ (.int .i64 (n : Int))).setCell ⟨g4, 1, none⟩ (.slice AA QA.length cA)).setCell ⟨g4, 2, none⟩ (.slice AB QB.length cB)).setCell ⟨g4, 3, none⟩ (.slice AD QD.length cD)) g4 n QA QB QD) := Lib.hid (RdT.put BZ ((owA.ext ((x1.trans x2).trans x3)).base0 lzA) ((owB.ext (x2.trans x3)).base0 lzB) ((owD.ext x3).base0 lzD) (hxd.trans (((((Ext.refl w0).trans x0).trans x1).trans x2).trans x3)) lg4)
          have HSO := Lib.hid (And.intro soA (And.intro soB soD))
          have z0 := BZ.cell 0
          have f0 := BZ.frozen 0
          have z1 := BZ.cell 1
          have f1 := BZ.frozen 1
          have z2 := BZ.cell 2
          have f2 := BZ.frozen 2
          have z3 := BZ.cell 3
          have f3 := BZ.frozen 3
          simp only [List.getElem?_toArray, List.getElem?_cons_zero, List.getElem?_cons_succ] at z0 z1 z2 z3
          clear BZ bz hxd owA owB owD lzA lzB lzD soA soB soD SC1 SC2 SC3 x0 x1 x2 x3
          generalize QA.length = la at *
          generalize QB.length = lb at *
          generalize QD.length = ld at *
          go_wp2_with fail
          go_meet
          exact ⟨g4, QA, QB, QD, rfl, HSO, HP⟩
        · go_simp
          obtain ⟨y2, hy2⟩ : ∃ W', y1.alloc (.cells #[.int .i64 0, .slice none 0 0, .slice none 0 0, .slice none 0 0] 58) = W' := ⟨_, rfl⟩
          obtain ⟨g4, hg4⟩ : ∃ q, y1.heap.size = q := ⟨_, rfl⟩
          have x2 : Ext y1 y2 := by rw [← hy2]; exact Ext.alloc _ _
          have bz : Blk y2 g4 58 #[.int .i64 0, .slice none 0 0, .slice none 0 0, .slice none 0 0] := by rw [← hy2]; exact Blk.new _ _ _ _ hg4
          have lg4 : w2.heap.size ≤ g4 := by have := (hxd.trans (((Ext.refl w0).trans x0).trans x1)).size; omega
          rw [hy2]
          try rw [hg4]
          clear hy2 hg4
          refine hK _ _ _ (fun _ hx => hx) ((((Ext.refl w0).trans x0).trans x1).trans x2) ?_
          clear hK K
          try simp only [Act.put, List.setIfInBounds_toArray, List.set_cons_zero, List.set_cons_succ]
          refine wpOrdT_keep (by rfl) (fun K hK => ?_)
          go_simp
          go_at_call 49
          with_reducible refine (SC3 y2 (hxd.trans ((((Ext.refl w0).trans x0).trans x1).trans x2))).mono ?_
          rintro e y3 ⟨uD, QD, rfl, soD, owD, x3⟩
          obtain ⟨AD, cD, rfl⟩ := owD.form
          have lzD : w2.heap.size ≤ y2.heap.size := (hxd.trans ((((Ext.refl w0).trans x0).trans x1).trans x2)).size
          refine hK _ _ (((((Ext.refl w0).trans x0).trans x1).trans x2).trans x3) ?_
          clear hK K
          try simp only [Act.put, List.setIfInBounds_toArray, List.set_cons_zero, List.set_cons_succ]
          refine wpOrdT_read (v := .agg #[.int .i64 (n : Int), .slice AA QA.length cA, .slice AB QB.length cB, .slice AD QD.length cD]) (by rfl) (Or.inl ⟨by rfl, fun x hx => by go_simp⟩) ?_
          try simp only [Act.put, List.setIfInBounds_toArray, List.set_cons_zero, List.set_cons_succ]
          refine wpOrdT_done ?_
          try simp only [List.drop_succ_cons, List.drop_zero]
          have BZ := (bz.ext x3)
          have HP : Hid (RdT w2 ((((y3.setCell ⟨g4, 0, none⟩ (.int .i64 (n : Int))).setCell ⟨g4, 1, none⟩ (.slice AA QA.length cA)).setCell ⟨g4, 2, none⟩ (.slice AB QB.length cB)).setCell ⟨g4, 3, none⟩ (.slice AD QD.length cD)) g4 n QA QB QD) := Lib.hid (RdT.put BZ ((owA.ext ((x1.trans x2).trans x3)).base0 lzA) ((owB.ext (x2.trans x3)).base0 lzB) (owD.base0 lzD) (hxd.trans (((((Ext.refl w0).trans x0).trans x1).trans x2).trans x3)) lg4)
          have HSO := Lib.hid (And.intro soA (And.intro soB soD))
          have z0 := BZ.cell 0
          have f0 := BZ.frozen 0
          have z1 := BZ.cell 1
          have f1 := BZ.frozen 1
          have z2 := BZ.cell 2
          have f2 := BZ.frozen 2
          have z3 := BZ.cell 3
          have f3 := BZ.frozen 3
          simp only [List.getElem?_toArray, List.getElem?_cons_zero, List.getElem?_cons_succ] at z0 z1 z2 z3
          clear BZ bz hxd owA owB owD lzA lzB lzD soA soB soD SC1 SC2 SC3 x0 x1 x2 x3
          generalize QA.length = la at *
          generalize QB.length = lb at *
          generalize QD.length = ld at *
          go_wp2_with fail
          go_meet
          exact ⟨g4, QA, QB, QD, rfl, HSO, HP⟩
      · go_simp
        obtain ⟨y1, hy1⟩ : ∃ W', y0.alloc (.cells #[.int .i64 0, .slice none 0 0, .slice none 0 0, .slice none 0 0] 58) = W' := ⟨_, rfl⟩
        obtain ⟨g4, hg4⟩ : ∃ q, y0.heap.size = q := ⟨_, rfl⟩
        have x1 : Ext y0 y1 := by rw [← hy1]; exact Ext.alloc _ _
        have bz : Blk y1 g4 58 #[.int .i64 0, .slice none 0 0, .slice none 0 0, .slice none 0 0] := by rw [← hy1]; exact Blk.new _ _ _ _ hg4
        have lg4 : w2.heap.size ≤ g4 := by have := (hxd.trans ((Ext.refl w0).trans x0)).size; omega
        rw [hy1]
        try rw [hg4]
        clear hy1 hg4
        refine hK _ _ _ (fun _ hx => hx) (((Ext.refl w0).trans x0).trans x1) ?_
        clear hK K
        try simp only [Act.put, List.setIfInBounds_toArray, List.set_cons_zero, List.set_cons_succ]
        refine wpOrdT_keep (by rfl) (fun K hK => ?_)
        go_simp
        go_at_call 49
        with_reducible refine (SC2 y1 (hxd.trans (((Ext.refl w0).trans x0).trans x1))).mono ?_
        rintro e y2 ⟨uB, QB, rfl, soB, owB, x2⟩
        obtain ⟨AB, cB, rfl⟩ := owB.form
        have lzB : w2.heap.size ≤ y1.heap.size := (hxd.trans (((Ext.refl w0).trans x0).trans x1)).size
        refine hK _ _ ((((Ext.refl w0).trans x0).trans x1).trans x2) ?_
        clear hK K
        try simp only [Act.put, List.setIfInBounds_toArray, List.set_cons_zero, List.set_cons_succ]
        refine wpOrdT_keep (by rfl) (fun K hK => ?_)
        go_simp
        go_at_call 49
        with_reducible refine (SC3 y2 (hxd.trans ((((Ext.refl w0).trans x0).trans x1).trans x2))).mono ?_
        rintro e y3 ⟨uD, QD, rfl, soD, owD, x3⟩
        obtain ⟨AD, cD, rfl⟩ := owD.form
        have lzD : w2.heap.size ≤ y2.heap.size := (hxd.trans ((((Ext.refl w0).trans x0).trans x1).trans x2)).size
        refine hK _ _ (((((Ext.refl w0).trans x0).trans x1).trans x2).trans x3) ?_
        clear hK K
        try simp only [Act.put, List.setIfInBounds_toArray, List.set_cons_zero, List.set_cons_succ]
        refine wpOrdT_read (v := .agg #[.int .i64 (n : Int), .slice AA QA.length cA, .slice AB QB.length cB, .slice AD QD.length cD]) (by rfl) (Or.inl ⟨by rfl, fun x hx => by go_simp⟩) ?_
        try simp only [Act.put, List.setIfInBounds_toArray, List.set_cons_zero, List.set_cons_succ]
        refine wpOrdT_done ?_
        try simp only [List.drop_succ_cons, List.drop_zero]
        have BZ := (bz.ext (x2.trans x3))
        have HP : Hid (RdT w2 ((((y3.setCell ⟨g4, 0, none⟩ (.int .i64 (n : Int))).setCell ⟨g4, 1, none⟩ (.slice AA QA.length cA)).setCell ⟨g4, 2, none⟩ (.slice AB QB.length cB)).setCell ⟨g4, 3, none⟩ (.slice AD QD.length cD)) g4 n QA QB QD) := Lib.hid (RdT.put BZ ((owA.ext ((x1.trans x2).trans x3)).base0 lzA) ((owB.ext x3).base0 lzB) (owD.base0 lzD) (hxd.trans (((((Ext.refl w0).trans x0).trans x1).trans x2).trans x3)) lg4)
        have HSO := Lib.hid (And.intro soA (And.intro soB soD))
        have z0 := BZ.cell 0
        have f0 := BZ.frozen 0
        have z1 := BZ.cell 1
        have f1 := BZ.frozen 1
        have z2 := BZ.cell 2
        have f2 := BZ.frozen 2
        have z3 := BZ.cell 3
        have f3 := BZ.frozen 3
        simp only [List.getElem?_toArray, List.getElem?_cons_zero, List.getElem?_cons_succ] at z0 z1 z2 z3
        clear BZ bz hxd owA owB owD lzA lzB lzD soA soB soD SC1 SC2 SC3 x0 x1 x2 x3
        generalize QA.length = la at *
        generalize QB.length = lb at *
        generalize QD.length = ld at *
        go_wp2_with fail
        go_meet
        exact ⟨g4, QA, QB, QD, rfl, HSO, HP⟩
    · go_simp
      obtain ⟨y0, hy0⟩ : ∃ W', w0.alloc (.cells #[.int .i64 0, .slice none 0 0, .slice none 0 0, .slice none 0 0] 58) = W' := ⟨_, rfl⟩
      obtain ⟨g4, hg4⟩ : ∃ q, w0.heap.size = q := ⟨_, rfl⟩
      have x0 : Ext w0 y0 := by rw [← hy0]; exact Ext.alloc _ _
      have bz : Blk y0 g4 58 #[.int .i64 0, .slice none 0 0, .slice none 0 0, .slice none 0 0] := by rw [← hy0]; exact Blk.new _ _ _ _ hg4
      have lg4 : w2.heap.size ≤ g4 := by have := (hxd.trans (Ext.refl w0)).size; omega
      rw [hy0]
      try rw [hg4]
      clear hy0 hg4
      refine hK _ _ _ (fun _ hx => hx) ((Ext.refl w0).trans x0) ?_
      clear hK K
      try simp only [Act.put, List.setIfInBounds_toArray, List.set_cons_zero, List.set_cons_succ]
      refine wpOrdT_keep (by rfl) (fun K hK => ?_)
      go_simp
      go_at_call 49
      with_reducible refine (SC1 y0 (hxd.trans ((Ext.refl w0).trans x0))).mono ?_
      rintro e y1 ⟨uA, QA, rfl, soA, owA, x1⟩
      obtain ⟨AA, cA, rfl⟩ := owA.form
      have lzA : w2.heap.size ≤ y0.heap.size := (hxd.trans ((Ext.refl w0).trans x0)).size
      refine hK _ _ (((Ext.refl w0).trans x0).trans x1) ?_
      clear hK K
      try simp only [Act.put, List.setIfInBounds_toArray, List.set_cons_zero, List.set_cons_succ]
      refine wpOrdT_keep (by rfl) (fun K hK => ?_)
      go_simp
      go_at_call 49
      with_reducible refine (SC2 y1 (hxd.trans (((Ext.refl w0).trans x0).trans x1))).mono ?_
      rintro e y2 ⟨uB, QB, rfl, soB, owB, x2⟩
      obtain ⟨AB, cB, rfl⟩ := owB.form
      have lzB : w2.heap.size ≤ y1.heap.size := (hxd.trans (((Ext.refl w0).trans x0).trans x1)).size
      refine hK _ _ ((((Ext.refl w0).trans x0).trans x1).trans x2) ?_
      clear hK K
      try simp only [Act.put, List.setIfInBounds_toArray, List.set_cons_zero, List.set_cons_succ]
      refine wpOrdT_keep (by rfl) (fun K hK => ?_)
      go_simp
      go_at_call 49
      with_reducible refine (SC3 y2 (hxd.trans ((((Ext.refl w0).trans x0).trans x1).trans x2))).mono ?_
      rintro e y3 ⟨uD, QD, rfl, soD, owD, x3⟩
      obtain ⟨AD, cD, rfl⟩ := owD.form
      have lzD : w2.heap.size ≤ y2.heap.size := (hxd.trans ((((Ext.refl w0).trans x0).trans x1).trans x2)).size
      refine hK _ _ (((((Ext.refl w0).trans x0).trans x1).trans x2).trans x3) ?_
      clear hK K
      try simp only [Act.put, List.setIfInBounds_toArray, List.set_cons_zero, List.set_cons_succ]
      refine wpOrdT_read (v := .agg #[.int .i64 (n : Int), .slice AA QA.length cA, .slice AB QB.length cB, .slice AD QD.length cD]) (by rfl) (Or.inl ⟨by rfl, fun x hx => by go_simp⟩) ?_
      try simp only [Act.put, List.setIfInBounds_toArray, List.set_cons_zero, List.set_cons_succ]
      refine wpOrdT_done ?_
      try simp only [List.drop_succ_cons, List.drop_zero]
      have BZ := (bz.ext ((x1.trans x2).trans x3))
      have HP : Hid (RdT w2 ((((y3.setCell ⟨g4, 0, none⟩ (.int .i64 (n : Int))).setCell ⟨g4, 1, none⟩ (.slice AA QA.length cA)).setCell ⟨g4, 2, none⟩ (.slice AB QB.length cB)).setCell ⟨g4, 3, none⟩ (.slice AD QD.length cD)) g4 n QA QB QD) := Lib.hid (RdT.put BZ ((owA.ext (x2.trans x3)).base0 lzA) ((owB.ext x3).base0 lzB) (owD.base0 lzD) (hxd.trans (((((Ext.refl w0).trans x0).trans x1).trans x2).trans x3)) lg4)
      have HSO := Lib.hid (And.intro soA (And.intro soB soD))
      have z0 := BZ.cell 0
      have f0 := BZ.frozen 0
      have z1 := BZ.cell 1
      have f1 := BZ.frozen 1
      have z2 := BZ.cell 2
      have f2 := BZ.frozen 2
      have z3 := BZ.cell 3
      have f3 := BZ.frozen 3
      simp only [List.getElem?_toArray, List.getElem?_cons_zero, List.getElem?_cons_succ] at z0 z1 z2 z3
      clear BZ bz hxd owA owB owD lzA lzB lzD soA soB soD SC1 SC2 SC3 x0 x1 x2 x3
      generalize QA.length = la at *
      generalize QB.length = lb at *
      generalize QD.length = ld at *
      go_wp2_with fail
      go_meet
      exact ⟨g4, QA, QB, QD, rfl, HSO, HP⟩
  case rest =>
    obtain ⟨g4, X, Y, Z, rfl, HSO, HRT⟩ := hcut
    clear a0 a1 a2 a3 b0 b1 b2 b3 SC1 SC2 SC3
    obtain ⟨Al, cl, Ar, cr, Ac, cc, bS, oL, oR, oC⟩ := HRT.out.ex
    have CK := checked_c (.agg #[.int .i64 (n : Int), .slice Al X.length cl, .slice Ar Y.length cr, .slice Ac Z.length cc]) ⟨n, X, Y, Z⟩ wc ⟨_, _, _, rfl, oL.lists, oR.lists, oC.lists⟩ (by
        have q1 := nodup_len HSO.out.1.nodup (fun x hx => (HSO.out.1.mem x).1 hx)
        have q2 := nodup_len HSO.out.2.1.nodup (fun x hx => (HSO.out.2.1.mem x).1 hx)
        have q3 := nodup_len HSO.out.2.2.nodup (fun x hx => (HSO.out.2.2.mem x).1 hx)
        have h1 := HH.out.2.2.2.2.2.1.len
        have h2 := HH.out.2.2.2.2.2.2.len
        simp only [List.length_append] at h1 h2 q1 q2 q3 ⊢
        omega) (by
        have h1 := HH.out.2.2.2.2.2.1.pos
        simp only at h1 ⊢
        exact ⟨List.length_pos_of_mem ((HSO.out.1.mem _).2 (List.mem_append_right _ (List.getElem_mem h1.1))), List.length_pos_of_mem ((HSO.out.2.1.mem _).2 (List.mem_append_right _ (List.getElem_mem h1.2.1)))⟩) (by
        have h1 := HH.out.2.2.2.2.2.1
        have h2 := HH.out.2.2.2.2.2.2
        refine ⟨fun x hx => ?_, fun x hx => ?_, fun x hx => ?_⟩
        · rcases List.mem_append.1 ((HSO.out.1.mem x).1 hx) with h | h
          · rw [h2.gl.len x h]; simp only; omega
          · rw [h1.gl.len x h]; simp only; omega
        · rcases List.mem_append.1 ((HSO.out.2.1.mem x).1 hx) with h | h
          · rw [h2.gr.len x h]; simp only; omega
          · rw [h1.gr.len x h]; simp only; omega
        · rcases List.mem_append.1 ((HSO.out.2.2.mem x).1 hx) with h | h
          · rw [h2.gc.len x h]; simp only; omega
          · rw [h1.gc.len x h]; simp only; omega)
    have d0' := bS.cell 0
    have d1' := bS.cell 1
    have d2' := bS.cell 2
    have d3' := bS.cell 3
    simp only [List.getElem?_toArray, List.getElem?_cons_zero, List.getElem?_cons_succ] at d0' d1' d2' d3'
    have HWC := Lib.hid (HX2.out.trans HRT.out.ext)
    clear bS oL oR oC
    obtain ⟨la, hla⟩ : ∃ z, X.length = z := ⟨_, rfl⟩
    obtain ⟨lb, hlb⟩ : ∃ z, Y.length = z := ⟨_, rfl⟩
    obtain ⟨lc, hlc⟩ : ∃ z, Z.length = z := ⟨_, rfl⟩
    rw [hla, hlb, hlc] at CK
    rw [hla] at d1'
    rw [hlb] at d2'
    rw [hlc] at d3'
    clear hla hlb hlc
    go_upto_region 9 with fail
    go_wp2_with fail
    refine CK.mono ?_
    rintro e w5 ⟨hchk, hx5⟩
    clear CK d0' d1' d2' d3'
    have bO := HH.out.2.2.2.1.ext (HWC.out.trans hx5)
    have o0 := bO.cell 0
    have o1 := bO.cell 1
    have o2 := bO.cell 2
    have z0 := bO.frozen 0
    have z1 := bO.frozen 1
    have z2 := bO.frozen 2
    simp only [List.getElem?_toArray, List.getElem?_cons_zero, List.getElem?_cons_succ] at o0 o1 o2
    have HX5 : Hid (∀ a b c : Value, Ext w (((w5.setCell ⟨g + 1 + 1, 0, none⟩ a).setCell ⟨g + 1 + 1, 1, none⟩ b).setCell ⟨g + 1 + 1, 2, none⟩ c)) := Lib.hid (by
      intro a b c
      have hgw := HH.out.2.2.2.2.1
      exact (((HH.out.1.trans (HWC.out.trans hx5)).setCell (p := ⟨g + 1 + 1, 0, none⟩) (by simp only; omega) _).setCell (p := ⟨g + 1 + 1, 1, none⟩) (by simp only; omega) _).setCell (p := ⟨g + 1 + 1, 2, none⟩) (by simp only; omega) _)
    obtain ⟨S, hS⟩ : ∃ S : SetsD, (⟨n, X, Y, Z⟩ : SetsD) = S := ⟨_, rfl⟩
    have HSM : Hid (S.n = n ∧ MrgS L R C L2 R2 C2 S) := Lib.hid (by rw [← hS]; exact ⟨rfl, HSO.out⟩)
    rw [hS] at hchk
    clear hS
    rcases hchk with ⟨hok, u, rfl, Ao, co, Av, cv, rfl, oN, oW⟩ | ⟨hno, rfl⟩
    · have P5 : PrfO wc.heap.size w5 (.agg #[.int .i64 (proofX S).k, .slice Ao (proofX S).ns.length co, .slice Av (proofX S).ws.length cv]) (proofX S) := ⟨Ao, co, Av, cv, rfl, oN, oW⟩
      have HOK := Lib.hid hok
      clear hok oN oW
      obtain ⟨pk, hpk⟩ : ∃ q, (proofX S).k = q := ⟨_, rfl⟩
      obtain ⟨pn, hpn⟩ : ∃ q, (proofX S).ns.length = q := ⟨_, rfl⟩
      obtain ⟨pw, hpw⟩ : ∃ q, (proofX S).ws.length = q := ⟨_, rfl⟩
      rw [hpk, hpn, hpw] at P5 ⊢
      have HFIN : Hid (PrfO w.heap.size (((w5.setCell ⟨g + 1 + 1, 0, none⟩ (.int .i64 pk)).setCell ⟨g + 1 + 1, 1, none⟩ (.slice Ao pn co)).setCell ⟨g + 1 + 1, 2, none⟩ (.slice Av pw cv)) (.agg #[.int .i64 pk, .slice Ao pn co, .slice Av pw cv]) (proofX S)) := Lib.hid (by
        have c0 := bO.set_ 0 (.int .i64 pk)
        have c1 := c0.set_ 1 (.slice Ao pn co)
        have hwr : w.heap.size ≤ wc.heap.size := (HH.out.1.trans HWC.out).size
        exact (((P5.farX bO (by decide) (by decide) _ _).farX c0 (by decide) (by decide) _ _).farX c1 (by decide) (by decide) _ _).base0 hwr)
      clear P5 bO hpk hpn hpw hx5
      go_wp2
      refine bodyPost_ret (v := .tuple #[.agg #[.int .i64 pk, .slice Ao pn co, .slice Av pw cv], .int .i64 0]) (by simp [results, Tryz.results16, go_sem, o0, o1, o2]) rfl ?_
      exact ⟨⟨S, HSM.out.1, HSM.out.2, .inl ⟨HOK.out, _, rfl, HFIN.out⟩⟩, HX5.out _ _ _⟩
    · have HNO := Lib.hid hno
      clear bO hx5 hno
      go_wp2
      refine bodyPost_ret (v := .tuple #[.agg #[.int .i64 0, .slice none 0 0, .slice none 0 0], .int .i64 5]) (by simp [results, Tryz.results16, go_sem, o0, o1, o2]) rfl ?_
      exact ⟨⟨S, HSM.out.1, HSM.out.2, .inr ⟨HNO.out, rfl⟩⟩, HX5.out _ _ _⟩
end Go.Proofs.YtapjofbjedpmgaaGreat
end
section
set_option linter.unusedSimpArgs false
set_option linter.unusedVariables false
namespace Go.Proofs.YtapjofbjedpmgaaGreat
open Go Go.RowKit Go.Proofs
set_option maxHeartbeats 400000
theorem cfgInfo : (Tryz.prog.info? 29).map (fun i => (i.zero, i.size, i.bytes)) = some (some (.agg #[.int .i64 0, .slice none 0 0, .slice none 0 0]), 3, 56) := by kernel_rfl
/-- A configuration with its words. -/
structure CfV where
  c : ConfD
  lv : Value
  rv : Value
def encF (r : CfV) : List Value := [.int .i64 r.c.q, r.lv, r.rv]
def encL (rs : List CfV) : List Value := rs.flatMap encF
theorem encL_get : ∀ (rs : List CfV) (k : Nat) (h : k < rs.length), (encL rs)[k * 3]? = some (.int .i64 rs[k].c.q) ∧ (encL rs)[k * 3 + 1]? = some rs[k].lv ∧ (encL rs)[k * 3 + 2]? = some rs[k].rv
  | r :: rs, 0, h => ⟨rfl, rfl, rfl⟩
  | r :: rs, k + 1, h => by
    have ih := encL_get rs k (by simpa using h)
    have e : ∀ j, (encL (r :: rs))[(k + 1) * 3 + j]? = (encL rs)[k * 3 + j]? := fun j => by
      show (encF r ++ encL rs)[(k + 1) * 3 + j]? = _
      rw [List.getElem?_append_right (by simp [encF]; omega)]
      congr 1
      simp [encF]
      omega
    exact ⟨(e 0).trans ih.1, (e 1).trans ih.2.1, (e 2).trans ih.2.2⟩
theorem encL_push (rs : List CfV) (r : CfV) : encL (rs ++ [r]) = encL rs ++ [.int .i64 r.c.q, r.lv, r.rv] := by simp [encL, encF]
/-- Configurations in a row. -/
def CfgL (w : World) (v : Value) (rs : List CfV) : Prop := Row w 3 v rs.length (encL rs)
theorem CfgL.ext {w w' : World} {v : Value} {rs : List CfV} (h : CfgL w v rs) (he : Ext w w') : CfgL w' v rs := Row.ext h he
theorem CfgL.at {w : World} {c : Nat} {A : Option Addr} {rs : List CfV} (h : CfgL w (.slice A rs.length c) rs) {k : Nat} (hk : k < rs.length) :
    ∃ b off, A = some ⟨b, off, none⟩ ∧ ∀ j, (hj : j < rs.length) → w.cell? ⟨b, off + j * 3, none⟩ = some (.int .i64 rs[j].c.q) ∧ w.cell? ⟨b, off + j * 3 + 1, none⟩ = some rs[j].lv ∧ w.cell? ⟨b, off + j * 3 + 2, none⟩ = some rs[j].rv := by
  obtain ⟨b, off, hA, hc⟩ := Row.at h hk
  refine ⟨b, off, hA, fun j hj => ?_⟩
  obtain ⟨e0, e1, e2⟩ := encL_get rs j hj
  refine ⟨by rw [hc (j * 3) (by omega), e0], ?_, ?_⟩
  · rw [Nat.add_assoc, hc (j * 3 + 1) (by omega), e1]
  · rw [Nat.add_assoc, hc (j * 3 + 2) (by omega), e2]
theorem RunAt.lowerC {w0 w1 w : World} {b : Nat} {m : MachD} {d : ConfD} {mv lv rv : Value} (h : RunAt w1 w b m d mv lv rv) (he : Ext w0 w1) (hr : Rules w0 mv m.rules) : RunAt w0 w b m d mv lv rv :=
  ⟨h.blk, hr, he.trans h.ext0, ownsRow_base h.l he.size, ownsRow_base h.r he.size, h.ap, Nat.le_trans he.size h.low⟩
/-- One row apart from a runner is written on. -/
theorem RunAt.rowC {w0 A B : World} {b : Nat} {m : MachD} {d : ConfD} {mv lv rv : Value} (h : RunAt w0 A b m d mv lv rv) {row : Option Nat} (hg : A.grownBy B row) (hr : ∀ r, row = some r → w0.heap.size ≤ r ∧ Apt b r lv rv) : RunAt w0 B b m d mv lv rv := by
  refine ⟨h.blk.kept hg (fun e => (hr b e.symm).2.nb rfl), h.rules0, h.ext0.grown hg (fun k hk => (hr k hk).1), ?_, ?_, h.ap, h.low⟩
  · exact own_same h.l (fun g hgl => hg.block g (h.l.lt g hgl).2 (fun e => (hr g e.symm).2.nl hgl))
  · exact own_same h.r (fun g hgl => hg.block g (h.r.lt g hgl).2 (fun e => (hr g e.symm).2.nr hgl))
/-- The variables of the run: both results, the runner, the list. -/
structure VarC (W : World) (k h b : Nat) (x : Int) (tv : Value) : Prop where
  r : Blk W (k + 2) 44 #[.slice none 0 0]
  e : Blk W (k + 3) 2 #[.int .i64 x]
  p : Blk W (h + 1) 77 #[.pointer (some ⟨b, 0, none⟩)]
  t : Blk W (h + 2) 44 #[tv]
def IsV (k h i : Nat) : Prop := i = k + 2 ∨ i = k + 3 ∨ i = h + 1 ∨ i = h + 2
theorem VarC.same {W W' : World} {k h b : Nat} {tv : Value} {x : Int} (v : VarC W k h b x tv) (hs : ∀ i, IsV k h i → W'.heap[i]? = W.heap[i]?) : VarC W' k h b x tv :=
  ⟨(hs _ (.inl rfl)).trans v.r, (hs _ (.inr (.inl rfl))).trans v.e, (hs _ (.inr (.inr (.inl rfl)))).trans v.p, (hs _ (.inr (.inr (.inr rfl)))).trans v.t⟩
theorem VarC.kept {W W' : World} {k h b : Nat} {tv : Value} {x : Int} (v : VarC W k h b x tv) {row : Option Nat} (hg : W.grownBy W' row) (hr : ∀ r, row = some r → (∃ o : Obj, W.heap[r]? = some o ∧ o.isCells = false) ∨ ¬ IsV k h r) : VarC W' k h b x tv := by
  have key : ∀ {i : Nat} {t : TypeId} {cs : Array Value}, Blk W i t cs → IsV k h i → Blk W' i t cs := by
    intro i t cs hb hi
    refine hb.kept hg (fun e => ?_)
    rcases hr i e.symm with h1 | h1
    · exact not_cells (o := .cells #[] 0) hb h1
    · exact h1 hi
  exact ⟨key v.r (.inl rfl), key v.e (.inr (.inl rfl)), key v.p (.inr (.inr (.inl rfl))), key v.t (.inr (.inr (.inr rfl)))⟩
theorem VarC.ext {W W' : World} {k h b : Nat} {tv : Value} {x : Int} (v : VarC W k h b x tv) (he : Ext W W') : VarC W' k h b x tv := ⟨v.r.ext he, v.e.ext he, v.p.ext he, v.t.ext he⟩
theorem VarC.setT {W : World} {k h b : Nat} {tv : Value} {x : Int} (v : VarC W k h b x tv) (hk : k + 4 ≤ h) (u : Value) : VarC (W.setCell ⟨h + 2, 0, none⟩ u) k h b x u :=
  ⟨v.r.far (by show k + 2 ≠ h + 2; omega) u, v.e.far (by show k + 3 ≠ h + 2; omega) u, v.p.far (by show h + 1 ≠ h + 2; omega) u, v.t.set_ 0 u⟩
theorem VarC.setR {W : World} {k h b : Nat} {tv : Value} {x : Int} (v : VarC W k h b x tv) (hk : k + 4 ≤ h) : VarC (W.setCell ⟨k + 2, 0, none⟩ (.slice none 0 0)) k h b x tv :=
  ⟨v.r.set_ 0 _, v.e.far (by show k + 3 ≠ k + 2; omega) _, v.p.far (by show h + 1 ≠ k + 2; omega) _, v.t.far (by show h + 2 ≠ k + 2; omega) _⟩
theorem VarC.setE {W : World} {k h b : Nat} {tv : Value} {x : Int} (v : VarC W k h b x tv) (hk : k + 4 ≤ h) (y : Int) : VarC (W.setCell ⟨k + 3, 0, none⟩ (.int .i64 y)) k h b y tv :=
  ⟨v.r.far (by show k + 2 ≠ k + 3; omega) _, v.e.set_ 0 _, v.p.far (by show h + 1 ≠ k + 3; omega) _, v.t.far (by show h + 2 ≠ k + 3; omega) _⟩
/-- An own row of configurations is apart from the variables. -/
theorem VarC.row {W : World} {k h b base n : Nat} {tv u : Value} {x : Int} {xs : List Value} (v : VarC W k h b x tv) (ho : W.ownsRow base 29 3 u n xs) : ∀ g, u.ownBlock = some g → ¬ IsV k h g := by
  rintro g hg (rfl | rfl | rfl | rfl)
  · exact blk_ne_row v.r ho (by decide) hg.symm
  · exact blk_ne_row v.e ho (by decide) hg.symm
  · exact blk_ne_row v.p ho (by decide) hg.symm
  · exact blk_ne_row v.t ho (by decide) hg.symm
/-- The variables are apart from a runner. -/
def AptC (b k h : Nat) (lv rv : Value) : Prop := ∀ i, IsV k h i → Apt b i lv rv
/-- The words of the list's members: own, from a block on, apart from the runner. -/
def ElC (W : World) (h b : Nat) (lv rv : Value) (rs : List CfV) : Prop :=
  ∀ r ∈ rs, OwnInts h W r.lv r.c.l ∧ OwnInts h W r.rv r.c.r ∧ (∀ g, r.lv.ownBlock = some g → Apt b g lv rv) ∧ ∀ g, r.rv.ownBlock = some g → Apt b g lv rv
theorem ElC.same {W W' : World} {h b : Nat} {lv rv : Value} {rs : List CfV} (e : ElC W h b lv rv rs) (hs : ∀ g, h ≤ g → g < W.heap.size → (∃ r ∈ rs, (OwnInts h W r.lv r.c.l ∧ r.lv.ownBlock = some g) ∨ (OwnInts h W r.rv r.c.r ∧ r.rv.ownBlock = some g)) → W'.heap[g]? = W.heap[g]?) : ElC W' h b lv rv rs := fun r hr => by
  obtain ⟨h1, h2, h3, h4⟩ := e r hr
  exact ⟨own_same h1 (fun g hg => hs g (h1.lt g hg).1 (h1.lt g hg).2 ⟨r, hr, .inl ⟨h1, hg⟩⟩), own_same h2 (fun g hg => hs g (h2.lt g hg).1 (h2.lt g hg).2 ⟨r, hr, .inr ⟨h2, hg⟩⟩), h3, h4⟩
theorem ElC.ext {W W' : World} {h b : Nat} {lv rv : Value} {rs : List CfV} (e : ElC W h b lv rv rs) (he : Ext W W') : ElC W' h b lv rv rs := e.same fun g _ hg _ => Below.block he g hg
/-- A row of words is not a row of configurations. -/
theorem own_ne_row {W : World} {B B' n n' s s' : Nat} {t t' : TypeId} {u v : Value} {xs ys : List Value} (h1 : W.ownsRow B t s u n xs) (h2 : W.ownsRow B' t' s' v n' ys) (hne : t ≠ t') : ∀ g, u.ownBlock = some g → v.ownBlock ≠ some g := fun g hu hv => by
  rcases h1.2 with ⟨rfl, _⟩ | ⟨g1, _, _, rfl, _, hh, _⟩
  · simp [Value.ownBlock] at hu
  · rcases h2.2 with ⟨rfl, _⟩ | ⟨g2, _, _, rfl, _, hh2, _⟩
    · simp [Value.ownBlock] at hv
    · simp [Value.ownBlock] at hu hv
      subst hu hv
      rw [hh] at hh2
      injection hh2 with hh2
      injection hh2 with _ e
      exact hne e
/-- The row of the list is written on. -/
theorem ElC.row {W W' : World} {h b B n s : Nat} {lv rv tv : Value} {rs : List CfV} {xs : List Value} (e : ElC W h b lv rv rs) (ho : W.ownsRow B 29 s tv n xs) (hg : W.grownBy W' tv.ownBlock) : ElC W' h b lv rv rs :=
  e.same fun g _ hlt ⟨r, hr, hx⟩ => hg.block g hlt fun e' => by
    rcases hx with ⟨h1, h2⟩ | ⟨h1, h2⟩
    · exact own_ne_row h1 ho (by decide) g h2 e'.symm
    · exact own_ne_row h1 ho (by decide) g h2 e'.symm
/-- A variable's cell is written. -/
theorem ElC.far {W : World} {h b q : Nat} {lv rv : Value} {rs : List CfV} {t : TypeId} {cs : Array Value} (e : ElC W h b lv rv rs) (hb : Blk W q t cs) (ht : t ≠ 2 ∨ q < h) (u : Value) : ElC (W.setCell ⟨q, 0, none⟩ u) h b lv rv rs :=
  e.same fun g hlo _ ⟨r, hr, hx⟩ => Below.heap_setCell _ _ _ _ (by
    rcases ht with ht | ht
    · rcases hx with ⟨h1, h2⟩ | ⟨h1, h2⟩
      · exact own_far_blk h1 hb ht g h2
      · exact own_far_blk h1 hb ht g h2
    · show g ≠ q
      omega)
theorem ElC.push {W : World} {h b : Nat} {lv rv : Value} {rs : List CfV} {r : CfV} (e : ElC W h b lv rv rs) (h1 : OwnInts h W r.lv r.c.l) (h2 : OwnInts h W r.rv r.c.r) (h3 : ∀ g, r.lv.ownBlock = some g → Apt b g lv rv) (h4 : ∀ g, r.rv.ownBlock = some g → Apt b g lv rv) : ElC W h b lv rv (rs ++ [r]) := fun x hx => by
  rcases List.mem_append.1 hx with hx | hx
  · exact e x hx
  · rw [List.mem_singleton.1 hx]; exact ⟨h1, h2, h3, h4⟩
/-- The first n configurations. -/
def firstC (M : MachD) (c : ConfD) (n : Nat) : List ConfD := (List.range n).map fun i => cfgI M c i
theorem firstC_length (M : MachD) (c : ConfD) (n : Nat) : (firstC M c n).length = n := by simp [firstC]
theorem firstC_succ (M : MachD) (c : ConfD) (n : Nat) : firstC M c (n + 1) = firstC M c n ++ [cfgI M c n] := by simp [firstC, List.range_succ]
/-- The pairs of the first n rounds. -/
def rndC (n : Nat) : List (Int × Bool) := (List.range n).map fun (i : Nat) => ((i : Int), true)
theorem rndC_succ (n : Nat) : rndC (n + 1) = rndC n ++ [((n : Int), true)] := by simp [rndC, List.range_succ]
theorem rndC_last {xs pre : List (Int × Bool)} {i : Nat} {s : Bool} (h : xs = rndC xs.length) (h' : xs = pre ++ [((i : Int), s)]) : xs.length = i + 1 ∧ s = true := by
  have hl : xs.length = pre.length + 1 := by rw [h']; simp
  rw [hl, rndC_succ] at h
  rw [h] at h'
  have := List.append_inj_right' h' rfl
  simp only [List.cons.injEq, Prod.mk.injEq, and_true] at this
  obtain ⟨h1, h2⟩ := this
  have : (pre.length : Int) = i := h1
  exact ⟨by omega, h2.symm⟩
/-- What holds between two rounds. -/
def ICf (w0 : World) (b : Nat) (M : MachD) (mv : Value) (k h : Nat) (c : ConfD) (pre : List (Int × Bool)) (W : World) : Prop :=
  ∃ d lv rv tv rs, RunAt w0 W b M d mv lv rv ∧ AptC b k h lv rv ∧ VarC W k h b 0 tv ∧ W.ownsRow h 29 3 tv pre.length (encL rs) ∧ (∀ g, tv.ownBlock = some g → Apt b g lv rv ∧ g ≠ h + 3 ∧ g ≠ h + 4) ∧ pre = rndC pre.length ∧ h + 5 ≤ W.heap.size ∧ ElC W h b lv rv rs ∧ rs.map (·.c) = firstC M c pre.length
/-- What holds when a round has left the loop. -/
def IxCf (w0 : World) (b k h : Nat) (cd : Code) (pre : List (Int × Bool)) (W : World) : Prop :=
  cd = .ret ∧ (∃ p x, pre = p ++ [x] ∧ x.2 = false) ∧ (∃ tv, VarC W k h b 5 tv) ∧ Ext w0 W
section
variable {w0 : World} {b k h B : Nat} {M : MachD} {c : ConfD} {mv : Value}
theorem iCf_own (h0 : w0.heap.size ≤ B) : OwnFrom B (ICf w0 b M mv k h c) := by
  rintro s W W' row ⟨d, lv, rv, tv, rs, hR, hA, hV, ho, hT, hp, hz, hE, hM⟩ hg hr
  exact ⟨d, lv, rv, tv, rs, hR.turn hg (fun r e => ⟨Nat.le_trans h0 (hr r e).1, (hr r e).2⟩), hA, hV.kept hg (fun r e => .inl (hr r e).2), own_same ho (fun g hgl => hg.block g (ho.lt g hgl).2 (fun e => own_not_cells ho hgl (hr g e.symm).2)), hT, hp, Nat.le_trans hz hg.size, hE.same (fun g _ hlt ⟨r, _, hx⟩ => hg.block g hlt (fun e => by
    rcases hx with ⟨h1, h2⟩ | ⟨h1, h2⟩
    · exact own_not_cells h1 h2 (hr g e.symm).2
    · exact own_not_cells h1 h2 (hr g e.symm).2)), hM⟩
theorem ixCf_own (h0 : w0.heap.size ≤ B) (cd : Code) : OwnFrom B (IxCf w0 b k h cd) := by
  rintro s W W' row ⟨h1, h2, ⟨tv, hV⟩, hE⟩ hg hr
  exact ⟨h1, h2, ⟨tv, hV.kept hg (fun r e => .inl (hr r e).2)⟩, hE.grown hg (fun r e => Nat.le_trans h0 (hr r e).1)⟩
theorem iCf_w (s : List (Int × Bool)) (X Y : World) (hI : ICf w0 b M mv k h c s X) (hw : WrR w0 b M mv X Y) : ICf w0 b M mv k h c s Y := by
  obtain ⟨d, lv, rv, tv, rs, hR, hA, hV, ho, hT, hp, hz, hE, hM⟩ := hI
  obtain ⟨d1, l1, r1, d2, l2, r2, h1, h2, hm⟩ := hw
  obtain ⟨rfl, rfl⟩ := hR.vals h1
  have hsz : ∀ i, IsV k h i → i < X.heap.size := by
    rintro i (e | e | e | e) <;> rw [e]
    · exact hV.r.lt
    · exact hV.e.lt
    · exact hV.p.lt
    · exact hV.t.lt
  refine ⟨d2, l2, r2, tv, rs, h2, fun i hi => ((hA i hi).moved hm (hsz i hi)).1, hV.same (fun i hi => ((hA i hi).moved hm (hsz i hi)).2), own_same ho (fun g hg => ((hT g hg).1.moved hm (ho.lt g hg).2).2), fun g hg => ⟨((hT g hg).1.moved hm (ho.lt g hg).2).1, (hT g hg).2⟩, hp, Nat.le_trans hz hm.size, fun r hr => ?_, hM⟩
  obtain ⟨a1, a2, a3, a4⟩ := hE r hr
  exact ⟨own_same a1 (fun g hg => ((a3 g hg).moved hm (a1.lt g hg).2).2), own_same a2 (fun g hg => ((a4 g hg).moved hm (a2.lt g hg).2).2), fun g hg => ((a3 g hg).moved hm (a1.lt g hg).2).1, fun g hg => ((a4 g hg).moved hm (a2.lt g hg).2).1⟩
end
/-- What the list comes to. -/
def TrcOut (w0 : World) (M : MachD) (c : ConfD) (N : Nat) (e : Ending) (w' : World) : Prop :=
  ((∃ i rs tv, EndAt M c N i ∧ e = .returned (.tuple #[tv, .int .i64 0]) ∧ w'.ownsRow w0.heap.size 29 3 tv rs.length (encL rs) ∧ (∀ r ∈ rs, OwnInts w0.heap.size w' r.lv r.c.l ∧ OwnInts w0.heap.size w' r.rv r.c.r) ∧ rs.map (·.c) = firstC M c (i + 1)) ∨
    ((∃ i, FullAt M c N i) ∧ e = .returned (.tuple #[.slice none 0 0, .int .i64 5]))) ∧ Ext w0 w'
/-- A round that keeps the runner. -/
theorem kp_ofC {w0 W W' : World} {b bq bp : Nat} {m : MachD} {d : ConfD} {mv lv rv : Value} (h : RunAt w0 W b m d mv lv rv) (hK : ∀ d', RunAt w0 W b m d' mv lv rv → RunAt w0 W' b m d' mv lv rv) (hs : W.heap.size ≤ W'.heap.size) (h1 : W'.heap[bq]? = W.heap[bq]?) (h2 : W'.heap[bp]? = W.heap[bp]?) : KpR w0 b bq bp m mv W W' :=
  ⟨hs, fun d' l r hr => by obtain ⟨rfl, rfl⟩ := h.vals hr; exact hK _ hr, h1, h2⟩
end Go.Proofs.YtapjofbjedpmgaaGreat
end
