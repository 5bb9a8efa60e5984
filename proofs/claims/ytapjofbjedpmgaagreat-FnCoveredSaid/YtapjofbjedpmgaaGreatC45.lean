/- Contract: the search for a proof by contexts of one size. Written by mkcxd.py.
Contract: the search for a proof by contexts of the least size.
Contract: whether a proof by contexts covers a configuration. Written by mkcty.py. -/
import Derived.Test.YtapjofbjedpmgaaGreatC43
import Derived.Test.YtapjofbjedpmgaaGreatC44
import Derived.Test.YtapjofbjedpmgaaGreatC35
import Derived.Test.YtapjofbjedpmgaaGreatC41
import Derived.Test.YtapjofbjedpmgaaGreatC29
import Derived.Test.YtapjofbjedpmgaaGreatC28
import Derived.Test.YtapjofbjedpmgaaGreatC30
section
set_option linter.unusedSimpArgs false
set_option linter.unusedVariables false
namespace Go.Proofs.YtapjofbjedpmgaaGreat
open Go Go.RowKit Go.Proofs
set_option maxHeartbeats 400000
set_option maxRecDepth 20000
/-- How many entries the map in a block has. -/
def mapSz (w : World) (b : Nat) : Nat := match w.heap[b]? with | some (.map es _) => es.size | _ => 0
theorem TblK.mapSz {w : World} {b n len : Nat} {L S : List (List Int)} (h : TblK w b n (anyT L)) (hg : GoodL len L) (hl : len ≤ 10) (hS : S.Nodup) (hm : ∀ x, x ∈ S ↔ x ∈ L) : mapSz w b = S.length := by
  obtain ⟨h1, h2⟩ := h.size hg hl hS hm 0
  obtain ⟨D, ⟨es, clock, hb, F, hs, hD⟩, _⟩ := h
  have e1 : Maps.size D = es.size := by rw [hD]; simp [Maps.size, Go.length_sorted]
  have h := (World.ownsMap.len (t := 104) ⟨es, clock, hb, F, hs, hD⟩ itTy.und 0)
  have h3 := h1.symm.trans h
  simp only [Result.ok.injEq, Value.int.injEq, true_and, and_true] at h3
  unfold Go.Proofs.YtapjofbjedpmgaaGreat.mapSz
  rw [hb]
  show es.size = _
  omega
theorem SetAt.tight {w : World} {g mb n len : Nat} {L S : List (List Int)} (h : SetAt w g mb n len (anyT L)) (hg : GoodL len L) (hl : len ≤ 10) (hS : SortOf L S) : SetAt w g mb S.length len (anyT L) :=
  ⟨h.blk, (h.tab.size hg hl hS.nodup hS.mem 0).2⟩
theorem sub_of_len {L M : List (List Int)} (h1 : L.Nodup) (h2 : M.Nodup) (hs : ∀ x ∈ L, x ∈ M) (hl : M.length ≤ L.length) : ∀ x ∈ M, x ∈ L := fun x hx => by
  by_cases e : x ∈ L
  · exact e
  · exfalso
    have h3 : (x :: L).Nodup := List.nodup_cons.2 ⟨e, h1⟩
    have := nodup_len h3 (fun y hy => by
      rcases List.mem_cons.1 hy with rfl | hy
      · exact hx
      · exact hs y hy)
    simp only [List.length_cons] at this
    omega
/-- The state of the search. -/
structure FcS (w0 w : World) (gx gl gr gc ml mr mc n : Nat) (m : MachD) (rv : Value) (L R C : List (List Int)) : Prop where
  at_ : RdW w w gx gl gr gc ml mr mc n L.length R.length C.length m.sy m.st rv L R C
  ap : Ap3 ml mr mc
  lo : w0.heap.size ≤ ml ∧ w0.heap.size ≤ mr ∧ w0.heap.size ≤ mc
  ext : Ext w0 w
  sl : SortOf L L
  sr : SortOf R R
  sc : SortOf C C
  il : InL m.sy n L
  ir : InL m.sy n R
  ic : InC m.sy m.st n C
  zl : List.replicate n 0 ∈ L
  zr : List.replicate n 0 ∈ R
  zc : List.replicate (2 * n + 2) 0 ∈ C
  len : L.length + R.length + C.length ≤ 300
theorem FcS.ext' {w0 w w' : World} {gx gl gr gc ml mr mc n : Nat} {m : MachD} {rv : Value} {L R C : List (List Int)} (h : FcS w0 w gx gl gr gc ml mr mc n m rv L R C) (he : Ext w w') : FcS w0 w' gx gl gr gc ml mr mc n m rv L R C :=
  ⟨⟨Blk.ext h.at_.clo he, h.at_.l.ext he, h.at_.r.ext he, h.at_.c.ext he, MapsO.of_ext (Ext.refl _)⟩, h.ap, h.lo, h.ext.trans he, h.sl, h.sr, h.sc, h.il, h.ir, h.ic, h.zl, h.zr, h.zc, h.len⟩
theorem SortOf.self {L S : List (List Int)} (h : SortOf L S) : SortOf S S := ⟨h.rise, fun _ => Iff.rfl⟩
/-- A round that has changed nothing: the sets are closed. -/
theorem closed_of {m : MachD} {n : Nat} {L R C S L' R' C' L2 R2 C2 : List (List Int)} (sl : SortOf L L) (sr : SortOf R R) (sc : SortOf C C) (hS : SortOf C S) (h : Rds m n L R C S L' R' C') (h1 : SortOf L' L2) (h2 : SortOf R' R2) (h3 : SortOf C' C2) (hn1 : 1 ≤ n) (hn4 : n ≤ 4)
    (zl : List.replicate n 0 ∈ L) (zr : List.replicate n 0 ∈ R) (zc : List.replicate (2 * n + 2) 0 ∈ C) (he : L2.length + R2.length + C2.length = L.length + R.length + C.length) : Closed m ⟨n, L2, R2, C2⟩ := by
  have a1 : ∀ x ∈ L, x ∈ L2 := fun x hx => (h1.mem x).2 (h.sl x hx)
  have a2 : ∀ x ∈ R, x ∈ R2 := fun x hx => (h2.mem x).2 (h.sr x hx)
  have a3 : ∀ x ∈ C, x ∈ C2 := fun x hx => (h3.mem x).2 (h.sc x hx)
  have l1 := nodup_len sl.nodup a1
  have l2 := nodup_len sr.nodup a2
  have l3 := nodup_len sc.nodup a3
  have b1 := sub_of_len sl.nodup h1.nodup a1 (by omega)
  have b2 := sub_of_len sr.nodup h2.nodup a2 (by omega)
  have b3 := sub_of_len sc.nodup h3.nodup a3 (by omega)
  have e1 : anyT L2 = anyT L := anyT_congr fun x => ⟨b1 x, a1 x⟩
  have e2 : anyT R2 = anyT R := anyT_congr fun x => ⟨b2 x, a2 x⟩
  refine ⟨a1 _ zl, a2 _ zr, a3 _ zc, fun w hw => ?_⟩
  have hw' : w ∈ C2 := hw
  obtain ⟨c1, c2, c3⟩ := h.cl w ((hS.mem w).2 (b3 w hw'))
  have hwl : w.length = 2 * n + 2 := (h.ic w ((h3.mem w).1 hw')).1
  have hxl : (w.drop 1).length = 2 * n + 1 := by rw [List.length_drop]; omega
  unfold ctxOk
  simp only [Bool.and_eq_true, List.all_eq_true]
  refine ⟨⟨c1, ?_⟩, fun y hy => ?_⟩
  · by_cases e : (ruleX m (w.getD 0 0) (w.drop 1)).m = 1
    · rw [if_pos e] at c2 ⊢
      exact (inT_iff fun z hz => by rw [(h.il z ((h1.mem z).1 hz)).1, lostX_len hxl]).2 ((h1.mem _).2 c2)
    · rw [if_neg e] at c2 ⊢
      exact (inT_iff fun z hz => by rw [(h.ir z ((h2.mem z).1 hz)).1, lostX_len hxl]).2 ((h2.mem _).2 c2)
  · have hy' : y ∈ followX (ruleX m (w.getD 0 0) (w.drop 1)) (w.drop 1) n (anyT L) (anyT R) m.sy.toNat := by rw [← e1, ← e2]; exact hy
    have := c3 y hy'
    obtain ⟨k, _, _, rfl⟩ := mem_followX.1 hy
    exact (inT_iff fun z hz => by rw [(h.ic z ((h3.mem z).1 hz)).1, List.length_cons, nextX_len hxl hn1]).2 ((h3.mem _).2 this)
/-- The parts, sorted, in a block. -/
structure RdT (w0 w : World) (gs n : Nat) (L R C : List (List Int)) : Prop where
  ex : ∃ Al cl Ar cr Ac cc, Blk w gs 58 #[.int .i64 (n : Int), .slice Al L.length cl, .slice Ar R.length cr, .slice Ac C.length cc] ∧ OwnLists w0.heap.size w (.slice Al L.length cl) L ∧ OwnLists w0.heap.size w (.slice Ar R.length cr) R ∧ OwnLists w0.heap.size w (.slice Ac C.length cc) C
  ext : Ext w0 w
theorem RdT.put {w0 V : World} {gs n : Nat} {L R C : List (List Int)} {Al Ar Ac : Option Addr} {cl cr cc : Nat} (hb : Blk V gs 58 #[.int .i64 0, .slice none 0 0, .slice none 0 0, .slice none 0 0]) (hl : OwnLists w0.heap.size V (.slice Al L.length cl) L) (hr : OwnLists w0.heap.size V (.slice Ar R.length cr) R) (hc : OwnLists w0.heap.size V (.slice Ac C.length cc) C) (hx : Ext w0 V) (hlow : w0.heap.size ≤ gs) :
    RdT w0 ((((V.setCell ⟨gs, 0, none⟩ (.int .i64 (n : Int))).setCell ⟨gs, 1, none⟩ (.slice Al L.length cl)).setCell ⟨gs, 2, none⟩ (.slice Ar R.length cr)).setCell ⟨gs, 3, none⟩ (.slice Ac C.length cc)) gs n L R C := by
  have b0 := hb.set_ 0 (.int .i64 (n : Int))
  have b1 := b0.set_ 1 (.slice Al L.length cl)
  have b2 := b1.set_ 2 (.slice Ar R.length cr)
  have b3 := b2.set_ 3 (.slice Ac C.length cc)
  have far4 : ∀ {v : Value} {xss : List (List Int)}, OwnLists w0.heap.size V v xss → OwnLists w0.heap.size ((((V.setCell ⟨gs, 0, none⟩ (.int .i64 (n : Int))).setCell ⟨gs, 1, none⟩ (.slice Al L.length cl)).setCell ⟨gs, 2, none⟩ (.slice Ar R.length cr)).setCell ⟨gs, 3, none⟩ (.slice Ac C.length cc)) v xss := fun h => (((h.farX hb (by decide) (by decide) _ _).farX b0 (by decide) (by decide) _ _).farX b1 (by decide) (by decide) _ _).farX b2 (by decide) (by decide) _ _
  exact ⟨⟨Al, cl, Ar, cr, Ac, cc, by simpa using b3, far4 hl, far4 hr, far4 hc⟩, (((hx.setCell (p := ⟨gs, 0, none⟩) hlow _).setCell (p := ⟨gs, 1, none⟩) hlow _).setCell (p := ⟨gs, 2, none⟩) hlow _).setCell (p := ⟨gs, 3, none⟩) hlow _⟩
/-- What the search returns. -/
def FndR (base : Nat) (m : MachD) (n : Nat) (e : Ending) (w' : World) : Prop :=
  (∃ s u, e = .returned (.tuple #[u, .int .i64 0]) ∧ PrfO base w' u (proofX s) ∧ prfOk (proofX s) = true ∧ s.n = n ∧ SetsOk s ∧ SetsIn m.sy m.st s ∧ Closed m s ∧ riseB s.l = true ∧ riseB s.r = true ∧ riseB s.c = true ∧ s.l.length ≤ 300 ∧ s.r.length ≤ 300 ∧ s.c.length ≤ 300) ∨
    e = .returned (.tuple #[.agg #[.int .i64 0, .slice none 0 0, .slice none 0 0], .int .i64 3]) ∨ e = .returned (.tuple #[.agg #[.int .i64 0, .slice none 0 0, .slice none 0 0], .int .i64 5])
theorem sort_one (x : List Int) : SortOf [x] [x] := ⟨List.pairwise_singleton _ _, fun _ => Iff.rfl⟩
theorem lists_one {w : World} {gb : Nat} {v : Value} {x : List Int} (hb : Blk w gb 27 #[v]) (hi : Ints w v x) (hf : Flat v) : Lists w (.slice (some ⟨gb, 0, none⟩) 1 1) [x] := by
  refine ⟨[v], ⟨_, _, rfl, Nat.le_refl _, by omega, rfl, fun _ => ⟨gb, 0, rfl, fun j hj => ?_⟩⟩, fun i hi' => ?_⟩
  · have : j = 0 := by simp at hj; omega
    subst this
    have := hb.cell 0
    simpa using this
  · have : i = 0 := by simp at hi'; omega
    subst this
    exact ⟨_, rfl, hi, hf⟩
theorem mk_fcs {W V : World} {gl gr gc ml mr mc n k2 : Nat} {m : MachD} {Zn Zc : List Int} (hn1 : 1 ≤ n) (hn4 : n ≤ 4) (hm : machOk m = true) (hk2 : 2 * n + 2 = k2) (hZn : List.replicate n (0 : Int) = Zn) (hZc : List.replicate k2 (0 : Int) = Zc) (hzl : Zn.length = n)
    (h1 : SetAt V gl ml 1 n (anyT [Zn])) (h2 : SetAt V gr mr 1 n (anyT [Zn])) (h3 : SetAt V gc mc 1 k2 (anyT [Zc])) (ha : Ap3 ml mr mc) (hlo : W.heap.size ≤ ml ∧ W.heap.size ≤ mr ∧ W.heap.size ≤ mc) (hx : Ext W V) (rv : Value) :
    FcS W (V.alloc (.cells #[.int .i64 m.sy, .int .i64 m.st, rv, .pointer (some ⟨gl, 0, none⟩), .pointer (some ⟨gr, 0, none⟩), .pointer (some ⟨gc, 0, none⟩)] 98)) V.heap.size gl gr gc ml mr mc n m rv [Zn] [Zn] [Zc] := by
  obtain ⟨⟨s1, s2, s3, s4⟩, _, _⟩ := machOk_five hm
  have e := Ext.alloc V (.cells #[.int .i64 m.sy, .int .i64 m.st, rv, .pointer (some ⟨gl, 0, none⟩), .pointer (some ⟨gr, 0, none⟩), .pointer (some ⟨gc, 0, none⟩)] 98)
  subst hk2
  refine ⟨⟨Blk.new _ _ _ _ rfl, h1.ext e, h2.ext e, h3.ext e, MapsO.of_ext (Ext.refl _)⟩, ha, hlo, hx.trans e, sort_one _, sort_one _, sort_one _, ?_, ?_, ?_, ?_, ?_, ?_, by simp⟩
  · intro x hx
    rw [List.mem_singleton.1 hx]
    exact ⟨hzl, fun z hz => by rw [← hZn] at hz; rw [(List.mem_replicate.1 hz).2]; omega⟩
  · intro x hx
    rw [List.mem_singleton.1 hx]
    exact ⟨hzl, fun z hz => by rw [← hZn] at hz; rw [(List.mem_replicate.1 hz).2]; omega⟩
  · intro x hx
    rw [List.mem_singleton.1 hx, ← hZc]
    refine ⟨List.length_replicate .., ?_, fun z hz => ?_⟩
    · rw [show 2 * n + 2 = (2 * n + 1) + 1 by omega, List.replicate_succ]
      simp only [List.getD_cons_zero]
      omega
    · have := List.mem_of_mem_drop hz
      rw [(List.mem_replicate.1 this).2]
      omega
  · rw [hZn]; simp
  · rw [hZn]; simp
  · rw [hZc]; simp
set_option maxRecDepth 200000 in
set_option maxHeartbeats 8000000 in
theorem findContexts_c (n : Nat) (m : MachD) (rv : Value) (w : World) (hr : Rules w rv m.rules) (hm : machOk m = true) (hn1 : 1 ≤ n) (hn4 : n ≤ 4) :
    Calls Tryz.prog 25 #[.agg #[.int .i64 m.sy, .int .i64 m.st, rv], .int .i64 (n : Int)] w fun e w' => FndR w.heap.size m n e w' ∧ Ext w w' := by
  obtain ⟨i0, hi, hz0, hz1, hz2⟩ := info_parts intInfo
  obtain ⟨Am, cm, rfl, _, _⟩ := id hr.form
  obtain ⟨⟨s1, s2, s3, s4⟩, _, _⟩ := machOk_five hm
  obtain ⟨W, hW⟩ : ∃ W, W = (w.alloc (.cells #[.int .i64 m.sy, .int .i64 m.st, .slice Am m.rules.length cm] 26)).alloc (.cells #[.int .i64 0, .slice none 0 0, .slice none 0 0] 34) := ⟨_, rfl⟩
  obtain ⟨g, hg⟩ : ∃ g, w.heap.size = g := ⟨_, rfl⟩
  have hX : Ext w W := by rw [hW]; exact (Ext.alloc _ _).trans (Ext.alloc _ _)
  have bM : Blk W g 26 #[.int .i64 m.sy, .int .i64 m.st, .slice Am m.rules.length cm] := by rw [hW]; exact (Blk.new _ _ _ _ hg).alloc _
  have bO : Blk W (g + 1) 34 #[.int .i64 0, .slice none 0 0, .slice none 0 0] := by rw [hW]; exact Blk.new _ _ _ _ (by simp [hg])
  have m0 := bM.cell 0
  have m1 := bM.cell 1
  have m2 := bM.cell 2
  simp only [List.getElem?_toArray, List.getElem?_cons_zero, List.getElem?_cons_succ] at m0 m1 m2
  have HH := Lib.hid (And.intro hX (And.intro bM (And.intro bO (And.intro (hr.ext hX) (And.intro hg hm)))))
  obtain ⟨k1, hk1⟩ : ∃ k, 2 * n = k := ⟨_, rfl⟩
  obtain ⟨k2, hk2⟩ : ∃ k, 2 * n + 2 = k := ⟨_, rfl⟩
  have hwm : IntKind.i64.wrap (2 * (n : Int)) = (k1 : Int) := by rw [show 2 * (n : Int) = (k1 : Int) by omega]; exact IntWalk.i64_in _ (by omega)
  have hwp : IntKind.i64.wrap ((k1 : Int) + 2) = (k2 : Int) := by rw [show (k1 : Int) + 2 = (k2 : Int) by omega]; exact IntWalk.i64_in _ (by omega)
  have HK2 := Lib.hid hk2
  have hk2l : k2 ≤ 10 := by omega
  have hk2p : 1 ≤ k2 := by omega
  obtain ⟨lr, hlr⟩ : ∃ k, m.rules.length = k := ⟨_, rfl⟩
  rw [hlr] at m2 hW ⊢
  have HLR := Lib.hid hlr
  clear hX bM bO hr hm hk1 hk2 hlr
  go_enter Tryz.func25, Tryz.ntmps25
  go_upto_region 1 with fail
  try rw [← hW]
  try rw [hg]
  clear hW hg
  go_cut [6, 7] (fun a b wx => ∃ g1 g2, a = .slice (some ⟨g1, 0, none⟩) n n ∧ b = .slice (some ⟨g2, 0, none⟩) k2 k2 ∧ Hid (Ints wx (.slice (some ⟨g1, 0, none⟩) (List.replicate n (0 : Int)).length n) (List.replicate n 0)) ∧ Hid (Ints wx (.slice (some ⟨g2, 0, none⟩) (List.replicate k2 (0 : Int)).length k2) (List.replicate k2 0)) ∧ Hid (Ext W wx))
  case first =>
    clear m0 m1 m2
    refine wp_region_ordT 7 (readsT [0, 2, 3, 4] (.fork 1 (readsT [6] (.stir 5 .done)) 5 (.stir 1 (readsT [6] .done)))) (by kernel_rfl) (by kernel_rfl) (fun _ _ _ _ _ h => h) ?_
    simp only [readsT]
    iterate 4 (refine wpOrdT_read (v := ?_) (by rfl) (Or.inl ⟨by rfl, fun x hx => ?_⟩) ?_; rotate_left; (· go_simp; try first | with_reducible rfl | (rw [hwm]; try with_reducible rfl) | (rw [hwp]; try with_reducible rfl)); try simp only [Act.put, List.setIfInBounds_toArray, List.set_cons_zero, List.set_cons_succ])
    have hxd : Ext W W.drew := Ext.drew W
    generalize W.drew = w0 at *
    have hlast : ∀ {k : Nat} {gg : Nat} {V : World}, V.ownsRow gg 2 1 (.slice (some ⟨gg, 0, none⟩) k k) k (madeCells (Value.int .i64 0).cells (k * 1)).toList → Ints V (.slice (some ⟨gg, 0, none⟩) (List.replicate k (0 : Int)).length k) (List.replicate k 0) := fun {k gg V} h => by
      rw [made_zero] at h
      have e : (List.replicate k (0 : Int)).length = k := List.length_replicate ..
      have h2 : OwnInts gg V (.slice (some ⟨gg, 0, none⟩) k k) (List.replicate k 0) := by unfold OwnInts; rw [e]; exact h
      have h3 := ownsRow_row h2
      rw [e] at h3 ⊢
      unfold Ints
      rw [e]
      exact h3
    refine wpOrdT_forks (by rfl) (by rfl) (fun K hK => ?_) (fun K hK => ?_)
    · refine step_make w0 rfl _ _ 27 rfl w0.heap.size 2 i0 _ 1 Tryz.underlying27 hi hz0 hz1 .i64 .i64 _ _ n rfl rfl rfl rfl ?d1 ?d2 ?d3 ?_
      case d1 => rw [hz2]; omega
      case d2 => unfold maxLen; omega
      case d3 => exact Nat.le_refl _
      intro v1 ho1 hg1
      have x1 : Ext w0 v1 := (Ext.refl _).grown hg1 (by simp)
      have I1 := hlast ho1
      obtain ⟨ga, hga⟩ : ∃ q, w0.heap.size = q := ⟨_, rfl⟩
      rw [hga] at I1 ⊢
      refine hK _ _ _ (fun _ hx => hx) x1 ?_
      clear hK K ho1 hg1 hga
      try simp only [Act.put, List.setIfInBounds_toArray, List.set_cons_zero, List.set_cons_succ]
      refine wpOrdT_read (v := ?_) (by rfl) (Or.inl ⟨by rfl, fun x hx => ?_⟩) ?_; rotate_left
      · go_simp; try with_reducible rfl
      try simp only [Act.put, List.setIfInBounds_toArray, List.set_cons_zero, List.set_cons_succ]
      refine wpOrdT_keep (by rfl) (fun K hK => ?_)
      refine step_make v1 rfl _ _ 27 rfl v1.heap.size 2 i0 _ 1 Tryz.underlying27 hi hz0 hz1 .i64 .i64 _ _ k2 rfl rfl rfl rfl ?d1 ?d2 ?d3 ?_
      case d1 => rw [hz2]; omega
      case d2 => unfold maxLen; omega
      case d3 => exact Nat.le_refl _
      intro v2 ho2 hg2
      have x2 : Ext v1 v2 := (Ext.refl _).grown hg2 (by simp)
      have I2 := Lib.hid (hlast ho2)
      have I1' := Lib.hid (I1.ext x2)
      obtain ⟨gb, hgb⟩ : ∃ q, v1.heap.size = q := ⟨_, rfl⟩
      rw [hgb] at I2 ⊢
      refine hK _ _ (x1.trans x2) ?_
      clear hK K ho2 hg2 hgb I1 hlast
      try simp only [Act.put, List.setIfInBounds_toArray, List.set_cons_zero, List.set_cons_succ]
      refine wpOrdT_done ?_
      try simp only [List.drop_succ_cons, List.drop_zero]
      have HE := Lib.hid (hxd.trans (x1.trans x2))
      clear hxd x1 x2
      go_wp2
      go_meet
      exact ⟨ga, gb, rfl, rfl, I1', I2, HE⟩
    · refine step_make w0 rfl _ _ 27 rfl w0.heap.size 2 i0 _ 1 Tryz.underlying27 hi hz0 hz1 .i64 .i64 _ _ k2 rfl rfl rfl rfl ?d1 ?d2 ?d3 ?_
      case d1 => rw [hz2]; omega
      case d2 => unfold maxLen; omega
      case d3 => exact Nat.le_refl _
      intro v1 ho1 hg1
      have x1 : Ext w0 v1 := (Ext.refl _).grown hg1 (by simp)
      have I1 := hlast ho1
      obtain ⟨ga, hga⟩ : ∃ q, w0.heap.size = q := ⟨_, rfl⟩
      rw [hga] at I1 ⊢
      refine hK _ _ _ (fun _ hx => hx) x1 ?_
      clear hK K ho1 hg1 hga
      try simp only [Act.put, List.setIfInBounds_toArray, List.set_cons_zero, List.set_cons_succ]
      refine wpOrdT_keep (by rfl) (fun K hK => ?_)
      refine step_make v1 rfl _ _ 27 rfl v1.heap.size 2 i0 _ 1 Tryz.underlying27 hi hz0 hz1 .i64 .i64 _ _ n rfl rfl rfl rfl ?d1 ?d2 ?d3 ?_
      case d1 => rw [hz2]; omega
      case d2 => unfold maxLen; omega
      case d3 => exact Nat.le_refl _
      intro v2 ho2 hg2
      have x2 : Ext v1 v2 := (Ext.refl _).grown hg2 (by simp)
      have I2 := Lib.hid (hlast ho2)
      have I1' := Lib.hid (I1.ext x2)
      obtain ⟨gb, hgb⟩ : ∃ q, v1.heap.size = q := ⟨_, rfl⟩
      rw [hgb] at I2 ⊢
      refine hK _ _ (x1.trans x2) ?_
      clear hK K ho2 hg2 hgb I1 hlast
      try simp only [Act.put, List.setIfInBounds_toArray, List.set_cons_zero, List.set_cons_succ]
      refine wpOrdT_read (v := ?_) (by rfl) (Or.inl ⟨by rfl, fun x hx => ?_⟩) ?_; rotate_left
      · go_simp; try with_reducible rfl
      try simp only [Act.put, List.setIfInBounds_toArray, List.set_cons_zero, List.set_cons_succ]
      refine wpOrdT_done ?_
      try simp only [List.drop_succ_cons, List.drop_zero]
      have HE := Lib.hid (hxd.trans (x1.trans x2))
      clear hxd x1 x2
      go_wp2
      go_meet
      exact ⟨gb, ga, rfl, rfl, I2, I1', HE⟩
  case rest =>
    obtain ⟨g1, g2, rfl, rfl, I1, I2, HWC⟩ := hcut
    have m0 := HWC.out.cell m0
    have m1 := HWC.out.cell m1
    have m2 := HWC.out.cell m2
    obtain ⟨Zn, hZn⟩ : ∃ z, List.replicate n (0 : Int) = z := ⟨_, rfl⟩
    obtain ⟨Zc, hZc⟩ : ∃ z, List.replicate k2 (0 : Int) = z := ⟨_, rfl⟩
    rw [hZn] at I1
    rw [hZc] at I2
    have hznl : Zn.length = n := by rw [← hZn, List.length_replicate]
    have hzcl : Zc.length = k2 := by rw [← hZc, List.length_replicate]
    have hzs : (∀ z ∈ Zn, smallQ z) ∧ ∀ z ∈ Zc, smallQ z := ⟨fun z h => by rw [← hZn] at h; rw [(List.mem_replicate.1 h).2]; simp [smallQ], fun z h => by rw [← hZc] at h; rw [(List.mem_replicate.1 h).2]; simp [smallQ]⟩
    rw [hznl] at I1
    rw [hzcl] at I2
    have HZ := Lib.hid (And.intro hZn (And.intro hZc (And.intro hznl (And.intro hzcl hzs))))
    clear hZn hZc hznl hzcl hzs
    go_upto_region 2 with fail
    go_cut [8] (fun u wx => ∃ gx gl gr gc ml mr mc, u = .pointer (some ⟨gx, 0, none⟩) ∧ Hid (FcS W wx gx gl gr gc ml mr mc n m (.slice Am lr cm) [Zn] [Zn] [Zc]))
    case first =>
      refine wp_region_ordV 16 (readsV [0, 1, 2, 5, 6, 9, 10, 11, 12] (.fork3 3 (.fork3 4 (.fork 7 (.fork 8 (.stir 13 (.stir 14 (readsV [15] .done))) 13 (.stir 8 (.stir 14 (readsV [15] .done)))) 13 (.stir 7 (.stir 8 (.stir 14 (readsV [15] .done))))) 7 (.fork 4 (.fork 8 (.stir 13 (.stir 14 (readsV [15] .done))) 13 (.stir 8 (.stir 14 (readsV [15] .done)))) 13 (.stir 4 (.stir 8 (.stir 14 (readsV [15] .done))))) 13 (.fork 4 (.stir 7 (.stir 8 (.stir 14 (readsV [15] .done)))) 7 (.stir 4 (.stir 8 (.stir 14 (readsV [15] .done)))))) 7 (.fork 3 (.fork 4 (.fork 8 (.stir 13 (.stir 14 (readsV [15] .done))) 13 (.stir 8 (.stir 14 (readsV [15] .done)))) 13 (.stir 4 (.stir 8 (.stir 14 (readsV [15] .done))))) 13 (.stir 3 (.stir 4 (.stir 8 (.stir 14 (readsV [15] .done)))))) 13 (.fork 3 (.fork 4 (.stir 7 (.stir 8 (.stir 14 (readsV [15] .done)))) 7 (.stir 4 (.stir 8 (.stir 14 (readsV [15] .done))))) 7 (.stir 3 (.stir 4 (.stir 8 (.stir 14 (readsV [15] .done)))))))) (by kernel_rfl) (by kernel_rfl) (fun _ _ _ _ _ h => h) ?_
      simp only [readsV]
      iterate 9 (refine wpOrdV_read (v := ?_) (by rfl) (Or.inl ⟨by rfl, fun x hx => ?_⟩) ?_; rotate_left; (· have hx' : Ext wc x := (Ext.drew wc).trans hx; have m0 := hx'.cell m0; have m1 := hx'.cell m1; have m2 := hx'.cell m2; go_simp; try first | with_reducible rfl | (rw [hwm]; try with_reducible rfl) | (rw [hwp]; try with_reducible rfl)); try simp only [Act.put, List.setIfInBounds_toArray, List.set_cons_zero, List.set_cons_succ])
      have hxd : Ext wc wc.drew := Ext.drew wc
      generalize wc.drew = w0 at *
      have hxW : Ext W w0 := HWC.out.trans hxd
      have J1 := I1.out.ext hxd
      have J2 := I2.out.ext hxd
      have SZ : ∀ x ∈ [Zn], 1 ≤ x.length ∧ x.length ≤ 10 ∧ ∀ z ∈ x, smallQ z := fun x hx => by rw [List.mem_singleton.1 hx]; exact ⟨by rw [HZ.out.2.2.1]; omega, by rw [HZ.out.2.2.1]; omega, HZ.out.2.2.2.2.1⟩
      have SC : ∀ x ∈ [Zc], 1 ≤ x.length ∧ x.length ≤ 10 ∧ ∀ z ∈ x, smallQ z := fun x hx => by rw [List.mem_singleton.1 hx]; exact ⟨by rw [HZ.out.2.2.2.1]; omega, by rw [HZ.out.2.2.2.1]; omega, HZ.out.2.2.2.2.2⟩
      clear m0 m1 m2
      refine wpOrdV_fork3 (by rfl) (by rfl) (by rfl) (fun K hK => ?_) (fun K hK => ?_) (fun K hK => ?_)
      · go_simp
        obtain ⟨v0, hv0⟩ : ∃ W', w0.alloc (.cells #[.slice (some ⟨g1, 0, none⟩) n n] 27) = W' := ⟨_, rfl⟩
        obtain ⟨b3, hb3⟩ : ∃ q, w0.heap.size = q := ⟨_, rfl⟩
        have x0 : Ext w0 v0 := by rw [← hv0]; exact Ext.alloc _ _
        have B3 : Blk v0 b3 27 #[.slice (some ⟨g1, 0, none⟩) n n] := by rw [← hv0]; exact Blk.new _ _ _ _ hb3
        have L3 := lists_one B3 (J1.ext ((Ext.refl w0).trans x0)) (.inr ⟨_, _, _, _, rfl⟩)
        rw [hv0]
        try rw [hb3]
        clear hv0 hb3 B3
        refine hK _ _ _ (fun _ hx => hx) ((Ext.refl w0).trans x0) ?_
        clear hK K
        try simp only [Act.put, List.setIfInBounds_toArray, List.set_cons_zero, List.set_cons_succ]
        refine wpOrdV_fork3 (by rfl) (by rfl) (by rfl) (fun K hK => ?_) (fun K hK => ?_) (fun K hK => ?_)
        · go_simp
          go_at_call 28
          have SOl := setOf_c n (.slice (some ⟨b3, 0, none⟩) 1 1) [Zn] v0 L3 (by simp) SZ
          with_reducible refine SOl.mono ?_
          rintro e v1 ⟨gl, ml, rfl, Sl, _, lol, _, x1⟩
          clear SOl
          refine hK _ _ _ (fun _ hx => hx) (((Ext.refl w0).trans x0).trans x1) ?_
          clear hK K
          try simp only [Act.put, List.setIfInBounds_toArray, List.set_cons_zero, List.set_cons_succ]
          refine wpOrdV_forks (by rfl) (by rfl) (fun K hK => ?_) (fun K hK => ?_)
          · go_simp
            obtain ⟨v2, hv2⟩ : ∃ W', v1.alloc (.cells #[.slice (some ⟨g1, 0, none⟩) n n] 27) = W' := ⟨_, rfl⟩
            obtain ⟨b7, hb7⟩ : ∃ q, v1.heap.size = q := ⟨_, rfl⟩
            have x2 : Ext v1 v2 := by rw [← hv2]; exact Ext.alloc _ _
            have B7 : Blk v2 b7 27 #[.slice (some ⟨g1, 0, none⟩) n n] := by rw [← hv2]; exact Blk.new _ _ _ _ hb7
            have L7 := lists_one B7 (J1.ext ((((Ext.refl w0).trans x0).trans x1).trans x2)) (.inr ⟨_, _, _, _, rfl⟩)
            rw [hv2]
            try rw [hb7]
            clear hv2 hb7 B7
            refine hK _ _ _ (fun _ hx => hx) ((((Ext.refl w0).trans x0).trans x1).trans x2) ?_
            clear hK K
            try simp only [Act.put, List.setIfInBounds_toArray, List.set_cons_zero, List.set_cons_succ]
            refine wpOrdV_forks (by rfl) (by rfl) (fun K hK => ?_) (fun K hK => ?_)
            · go_simp
              go_at_call 28
              have SOr := setOf_c n (.slice (some ⟨b7, 0, none⟩) 1 1) [Zn] v2 L7 (by simp) SZ
              with_reducible refine SOr.mono ?_
              rintro e v3 ⟨gr, mr, rfl, Sr, _, lor, _, x3⟩
              clear SOr
              refine hK _ _ _ (fun _ hx => hx) (((((Ext.refl w0).trans x0).trans x1).trans x2).trans x3) ?_
              clear hK K
              try simp only [Act.put, List.setIfInBounds_toArray, List.set_cons_zero, List.set_cons_succ]
              refine wpOrdV_keep (by rfl) (fun K hK => ?_)
              go_simp
              obtain ⟨v4, hv4⟩ : ∃ W', v3.alloc (.cells #[.slice (some ⟨g2, 0, none⟩) k2 k2] 27) = W' := ⟨_, rfl⟩
              obtain ⟨b13, hb13⟩ : ∃ q, v3.heap.size = q := ⟨_, rfl⟩
              have x4 : Ext v3 v4 := by rw [← hv4]; exact Ext.alloc _ _
              have B13 : Blk v4 b13 27 #[.slice (some ⟨g2, 0, none⟩) k2 k2] := by rw [← hv4]; exact Blk.new _ _ _ _ hb13
              have L13 := lists_one B13 (J2.ext ((((((Ext.refl w0).trans x0).trans x1).trans x2).trans x3).trans x4)) (.inr ⟨_, _, _, _, rfl⟩)
              rw [hv4]
              try rw [hb13]
              clear hv4 hb13 B13
              refine hK _ _ ((((((Ext.refl w0).trans x0).trans x1).trans x2).trans x3).trans x4) ?_
              clear hK K
              try simp only [Act.put, List.setIfInBounds_toArray, List.set_cons_zero, List.set_cons_succ]
              refine wpOrdV_keep (by rfl) (fun K hK => ?_)
              go_simp
              go_at_call 28
              have SOc := setOf_c k2 (.slice (some ⟨b13, 0, none⟩) 1 1) [Zc] v4 L13 (by simp) SC
              with_reducible refine SOc.mono ?_
              rintro e v5 ⟨gc, mc, rfl, Sc, _, loc, _, x5⟩
              clear SOc
              refine hK _ _ (((((((Ext.refl w0).trans x0).trans x1).trans x2).trans x3).trans x4).trans x5) ?_
              clear hK K
              try simp only [Act.put, List.setIfInBounds_toArray, List.set_cons_zero, List.set_cons_succ]
              refine wpOrdV_read (v := .agg #[.int .i64 m.sy, .int .i64 m.st, .slice Am lr cm, .pointer (some ⟨gl, 0, none⟩), .pointer (some ⟨gr, 0, none⟩), .pointer (some ⟨gc, 0, none⟩)]) (by rfl) (Or.inl ⟨by rfl, fun x hx => by go_simp⟩) ?_
              try simp only [Act.put, List.setIfInBounds_toArray, List.set_cons_zero, List.set_cons_succ]
              refine wpOrdV_done ?_
              try simp only [List.drop_succ_cons, List.drop_zero]
              have T1 := (Sl.ext (((x2.trans x3).trans x4).trans x5))
              have T2 := (Sr.ext (x4.trans x5))
              have T3 := Sc
              have lt1 := Sl.tab.lt
              have lt2 := Sr.tab.lt
              have sx0 := x0.size
              have sx1 := x1.size
              have sx2 := x2.size
              have sx3 := x3.size
              have sx4 := x4.size
              have sx5 := x5.size
              have sW := hxW.size
              have HFC := Lib.hid (mk_fcs (m := m) hn1 hn4 HH.out.2.2.2.2.2 HK2.out HZ.out.1 HZ.out.2.1 HZ.out.2.2.1 T1 T2 T3 ⟨by omega, by omega, by omega⟩ ⟨by omega, by omega, by omega⟩ (hxW.trans (((((((Ext.refl w0).trans x0).trans x1).trans x2).trans x3).trans x4).trans x5)) (.slice Am lr cm))
              clear T1 T2 T3 lt1 lt2 hxd hxW J1 J2 SZ SC x0 x1 x2 x3 x4 x5 sx0 sx1 sx2 sx3 sx4 sx5 sW Sl Sr Sc L3 L7 L13 lol lor loc
              go_wp2
              go_meet
              exact ⟨_, gl, gr, gc, ml, mr, mc, rfl, HFC.out⟩
            · go_simp
              obtain ⟨v3, hv3⟩ : ∃ W', v2.alloc (.cells #[.slice (some ⟨g2, 0, none⟩) k2 k2] 27) = W' := ⟨_, rfl⟩
              obtain ⟨b13, hb13⟩ : ∃ q, v2.heap.size = q := ⟨_, rfl⟩
              have x3 : Ext v2 v3 := by rw [← hv3]; exact Ext.alloc _ _
              have B13 : Blk v3 b13 27 #[.slice (some ⟨g2, 0, none⟩) k2 k2] := by rw [← hv3]; exact Blk.new _ _ _ _ hb13
              have L13 := lists_one B13 (J2.ext (((((Ext.refl w0).trans x0).trans x1).trans x2).trans x3)) (.inr ⟨_, _, _, _, rfl⟩)
              rw [hv3]
              try rw [hb13]
              clear hv3 hb13 B13
              refine hK _ _ _ (fun _ hx => hx) (((((Ext.refl w0).trans x0).trans x1).trans x2).trans x3) ?_
              clear hK K
              try simp only [Act.put, List.setIfInBounds_toArray, List.set_cons_zero, List.set_cons_succ]
              refine wpOrdV_keep (by rfl) (fun K hK => ?_)
              go_simp
              go_at_call 28
              have SOr := setOf_c n (.slice (some ⟨b7, 0, none⟩) 1 1) [Zn] v3 (L7.ext x3) (by simp) SZ
              with_reducible refine SOr.mono ?_
              rintro e v4 ⟨gr, mr, rfl, Sr, _, lor, _, x4⟩
              clear SOr
              refine hK _ _ ((((((Ext.refl w0).trans x0).trans x1).trans x2).trans x3).trans x4) ?_
              clear hK K
              try simp only [Act.put, List.setIfInBounds_toArray, List.set_cons_zero, List.set_cons_succ]
              refine wpOrdV_keep (by rfl) (fun K hK => ?_)
              go_simp
              go_at_call 28
              have SOc := setOf_c k2 (.slice (some ⟨b13, 0, none⟩) 1 1) [Zc] v4 (L13.ext x4) (by simp) SC
              with_reducible refine SOc.mono ?_
              rintro e v5 ⟨gc, mc, rfl, Sc, _, loc, _, x5⟩
              clear SOc
              refine hK _ _ (((((((Ext.refl w0).trans x0).trans x1).trans x2).trans x3).trans x4).trans x5) ?_
              clear hK K
              try simp only [Act.put, List.setIfInBounds_toArray, List.set_cons_zero, List.set_cons_succ]
              refine wpOrdV_read (v := .agg #[.int .i64 m.sy, .int .i64 m.st, .slice Am lr cm, .pointer (some ⟨gl, 0, none⟩), .pointer (some ⟨gr, 0, none⟩), .pointer (some ⟨gc, 0, none⟩)]) (by rfl) (Or.inl ⟨by rfl, fun x hx => by go_simp⟩) ?_
              try simp only [Act.put, List.setIfInBounds_toArray, List.set_cons_zero, List.set_cons_succ]
              refine wpOrdV_done ?_
              try simp only [List.drop_succ_cons, List.drop_zero]
              have T1 := (Sl.ext (((x2.trans x3).trans x4).trans x5))
              have T2 := (Sr.ext x5)
              have T3 := Sc
              have lt1 := Sl.tab.lt
              have lt2 := Sr.tab.lt
              have sx0 := x0.size
              have sx1 := x1.size
              have sx2 := x2.size
              have sx3 := x3.size
              have sx4 := x4.size
              have sx5 := x5.size
              have sW := hxW.size
              have HFC := Lib.hid (mk_fcs (m := m) hn1 hn4 HH.out.2.2.2.2.2 HK2.out HZ.out.1 HZ.out.2.1 HZ.out.2.2.1 T1 T2 T3 ⟨by omega, by omega, by omega⟩ ⟨by omega, by omega, by omega⟩ (hxW.trans (((((((Ext.refl w0).trans x0).trans x1).trans x2).trans x3).trans x4).trans x5)) (.slice Am lr cm))
              clear T1 T2 T3 lt1 lt2 hxd hxW J1 J2 SZ SC x0 x1 x2 x3 x4 x5 sx0 sx1 sx2 sx3 sx4 sx5 sW Sl Sr Sc L3 L7 L13 lol lor loc
              go_wp2
              go_meet
              exact ⟨_, gl, gr, gc, ml, mr, mc, rfl, HFC.out⟩
          · go_simp
            obtain ⟨v2, hv2⟩ : ∃ W', v1.alloc (.cells #[.slice (some ⟨g2, 0, none⟩) k2 k2] 27) = W' := ⟨_, rfl⟩
            obtain ⟨b13, hb13⟩ : ∃ q, v1.heap.size = q := ⟨_, rfl⟩
            have x2 : Ext v1 v2 := by rw [← hv2]; exact Ext.alloc _ _
            have B13 : Blk v2 b13 27 #[.slice (some ⟨g2, 0, none⟩) k2 k2] := by rw [← hv2]; exact Blk.new _ _ _ _ hb13
            have L13 := lists_one B13 (J2.ext ((((Ext.refl w0).trans x0).trans x1).trans x2)) (.inr ⟨_, _, _, _, rfl⟩)
            rw [hv2]
            try rw [hb13]
            clear hv2 hb13 B13
            refine hK _ _ _ (fun _ hx => hx) ((((Ext.refl w0).trans x0).trans x1).trans x2) ?_
            clear hK K
            try simp only [Act.put, List.setIfInBounds_toArray, List.set_cons_zero, List.set_cons_succ]
            refine wpOrdV_keep (by rfl) (fun K hK => ?_)
            go_simp
            obtain ⟨v3, hv3⟩ : ∃ W', v2.alloc (.cells #[.slice (some ⟨g1, 0, none⟩) n n] 27) = W' := ⟨_, rfl⟩
            obtain ⟨b7, hb7⟩ : ∃ q, v2.heap.size = q := ⟨_, rfl⟩
            have x3 : Ext v2 v3 := by rw [← hv3]; exact Ext.alloc _ _
            have B7 : Blk v3 b7 27 #[.slice (some ⟨g1, 0, none⟩) n n] := by rw [← hv3]; exact Blk.new _ _ _ _ hb7
            have L7 := lists_one B7 (J1.ext (((((Ext.refl w0).trans x0).trans x1).trans x2).trans x3)) (.inr ⟨_, _, _, _, rfl⟩)
            rw [hv3]
            try rw [hb7]
            clear hv3 hb7 B7
            refine hK _ _ (((((Ext.refl w0).trans x0).trans x1).trans x2).trans x3) ?_
            clear hK K
            try simp only [Act.put, List.setIfInBounds_toArray, List.set_cons_zero, List.set_cons_succ]
            refine wpOrdV_keep (by rfl) (fun K hK => ?_)
            go_simp
            go_at_call 28
            have SOr := setOf_c n (.slice (some ⟨b7, 0, none⟩) 1 1) [Zn] v3 L7 (by simp) SZ
            with_reducible refine SOr.mono ?_
            rintro e v4 ⟨gr, mr, rfl, Sr, _, lor, _, x4⟩
            clear SOr
            refine hK _ _ ((((((Ext.refl w0).trans x0).trans x1).trans x2).trans x3).trans x4) ?_
            clear hK K
            try simp only [Act.put, List.setIfInBounds_toArray, List.set_cons_zero, List.set_cons_succ]
            refine wpOrdV_keep (by rfl) (fun K hK => ?_)
            go_simp
            go_at_call 28
            have SOc := setOf_c k2 (.slice (some ⟨b13, 0, none⟩) 1 1) [Zc] v4 (L13.ext (x3.trans x4)) (by simp) SC
            with_reducible refine SOc.mono ?_
            rintro e v5 ⟨gc, mc, rfl, Sc, _, loc, _, x5⟩
            clear SOc
            refine hK _ _ (((((((Ext.refl w0).trans x0).trans x1).trans x2).trans x3).trans x4).trans x5) ?_
            clear hK K
            try simp only [Act.put, List.setIfInBounds_toArray, List.set_cons_zero, List.set_cons_succ]
            refine wpOrdV_read (v := .agg #[.int .i64 m.sy, .int .i64 m.st, .slice Am lr cm, .pointer (some ⟨gl, 0, none⟩), .pointer (some ⟨gr, 0, none⟩), .pointer (some ⟨gc, 0, none⟩)]) (by rfl) (Or.inl ⟨by rfl, fun x hx => by go_simp⟩) ?_
            try simp only [Act.put, List.setIfInBounds_toArray, List.set_cons_zero, List.set_cons_succ]
            refine wpOrdV_done ?_
            try simp only [List.drop_succ_cons, List.drop_zero]
            have T1 := (Sl.ext (((x2.trans x3).trans x4).trans x5))
            have T2 := (Sr.ext x5)
            have T3 := Sc
            have lt1 := Sl.tab.lt
            have lt2 := Sr.tab.lt
            have sx0 := x0.size
            have sx1 := x1.size
            have sx2 := x2.size
            have sx3 := x3.size
            have sx4 := x4.size
            have sx5 := x5.size
            have sW := hxW.size
            have HFC := Lib.hid (mk_fcs (m := m) hn1 hn4 HH.out.2.2.2.2.2 HK2.out HZ.out.1 HZ.out.2.1 HZ.out.2.2.1 T1 T2 T3 ⟨by omega, by omega, by omega⟩ ⟨by omega, by omega, by omega⟩ (hxW.trans (((((((Ext.refl w0).trans x0).trans x1).trans x2).trans x3).trans x4).trans x5)) (.slice Am lr cm))
            clear T1 T2 T3 lt1 lt2 hxd hxW J1 J2 SZ SC x0 x1 x2 x3 x4 x5 sx0 sx1 sx2 sx3 sx4 sx5 sW Sl Sr Sc L3 L7 L13 lol lor loc
            go_wp2
            go_meet
            exact ⟨_, gl, gr, gc, ml, mr, mc, rfl, HFC.out⟩
        · go_simp
          obtain ⟨v1, hv1⟩ : ∃ W', v0.alloc (.cells #[.slice (some ⟨g1, 0, none⟩) n n] 27) = W' := ⟨_, rfl⟩
          obtain ⟨b7, hb7⟩ : ∃ q, v0.heap.size = q := ⟨_, rfl⟩
          have x1 : Ext v0 v1 := by rw [← hv1]; exact Ext.alloc _ _
          have B7 : Blk v1 b7 27 #[.slice (some ⟨g1, 0, none⟩) n n] := by rw [← hv1]; exact Blk.new _ _ _ _ hb7
          have L7 := lists_one B7 (J1.ext (((Ext.refl w0).trans x0).trans x1)) (.inr ⟨_, _, _, _, rfl⟩)
          rw [hv1]
          try rw [hb7]
          clear hv1 hb7 B7
          refine hK _ _ _ (fun _ hx => hx) (((Ext.refl w0).trans x0).trans x1) ?_
          clear hK K
          try simp only [Act.put, List.setIfInBounds_toArray, List.set_cons_zero, List.set_cons_succ]
          refine wpOrdV_forks (by rfl) (by rfl) (fun K hK => ?_) (fun K hK => ?_)
          · go_simp
            go_at_call 28
            have SOl := setOf_c n (.slice (some ⟨b3, 0, none⟩) 1 1) [Zn] v1 (L3.ext x1) (by simp) SZ
            with_reducible refine SOl.mono ?_
            rintro e v2 ⟨gl, ml, rfl, Sl, _, lol, _, x2⟩
            clear SOl
            refine hK _ _ _ (fun _ hx => hx) ((((Ext.refl w0).trans x0).trans x1).trans x2) ?_
            clear hK K
            try simp only [Act.put, List.setIfInBounds_toArray, List.set_cons_zero, List.set_cons_succ]
            refine wpOrdV_forks (by rfl) (by rfl) (fun K hK => ?_) (fun K hK => ?_)
            · go_simp
              go_at_call 28
              have SOr := setOf_c n (.slice (some ⟨b7, 0, none⟩) 1 1) [Zn] v2 (L7.ext x2) (by simp) SZ
              with_reducible refine SOr.mono ?_
              rintro e v3 ⟨gr, mr, rfl, Sr, _, lor, _, x3⟩
              clear SOr
              refine hK _ _ _ (fun _ hx => hx) (((((Ext.refl w0).trans x0).trans x1).trans x2).trans x3) ?_
              clear hK K
              try simp only [Act.put, List.setIfInBounds_toArray, List.set_cons_zero, List.set_cons_succ]
              refine wpOrdV_keep (by rfl) (fun K hK => ?_)
              go_simp
              obtain ⟨v4, hv4⟩ : ∃ W', v3.alloc (.cells #[.slice (some ⟨g2, 0, none⟩) k2 k2] 27) = W' := ⟨_, rfl⟩
              obtain ⟨b13, hb13⟩ : ∃ q, v3.heap.size = q := ⟨_, rfl⟩
              have x4 : Ext v3 v4 := by rw [← hv4]; exact Ext.alloc _ _
              have B13 : Blk v4 b13 27 #[.slice (some ⟨g2, 0, none⟩) k2 k2] := by rw [← hv4]; exact Blk.new _ _ _ _ hb13
              have L13 := lists_one B13 (J2.ext ((((((Ext.refl w0).trans x0).trans x1).trans x2).trans x3).trans x4)) (.inr ⟨_, _, _, _, rfl⟩)
              rw [hv4]
              try rw [hb13]
              clear hv4 hb13 B13
              refine hK _ _ ((((((Ext.refl w0).trans x0).trans x1).trans x2).trans x3).trans x4) ?_
              clear hK K
              try simp only [Act.put, List.setIfInBounds_toArray, List.set_cons_zero, List.set_cons_succ]
              refine wpOrdV_keep (by rfl) (fun K hK => ?_)
              go_simp
              go_at_call 28
              have SOc := setOf_c k2 (.slice (some ⟨b13, 0, none⟩) 1 1) [Zc] v4 L13 (by simp) SC
              with_reducible refine SOc.mono ?_
              rintro e v5 ⟨gc, mc, rfl, Sc, _, loc, _, x5⟩
              clear SOc
              refine hK _ _ (((((((Ext.refl w0).trans x0).trans x1).trans x2).trans x3).trans x4).trans x5) ?_
              clear hK K
              try simp only [Act.put, List.setIfInBounds_toArray, List.set_cons_zero, List.set_cons_succ]
              refine wpOrdV_read (v := .agg #[.int .i64 m.sy, .int .i64 m.st, .slice Am lr cm, .pointer (some ⟨gl, 0, none⟩), .pointer (some ⟨gr, 0, none⟩), .pointer (some ⟨gc, 0, none⟩)]) (by rfl) (Or.inl ⟨by rfl, fun x hx => by go_simp⟩) ?_
              try simp only [Act.put, List.setIfInBounds_toArray, List.set_cons_zero, List.set_cons_succ]
              refine wpOrdV_done ?_
              try simp only [List.drop_succ_cons, List.drop_zero]
              have T1 := (Sl.ext ((x3.trans x4).trans x5))
              have T2 := (Sr.ext (x4.trans x5))
              have T3 := Sc
              have lt1 := Sl.tab.lt
              have lt2 := Sr.tab.lt
              have sx0 := x0.size
              have sx1 := x1.size
              have sx2 := x2.size
              have sx3 := x3.size
              have sx4 := x4.size
              have sx5 := x5.size
              have sW := hxW.size
              have HFC := Lib.hid (mk_fcs (m := m) hn1 hn4 HH.out.2.2.2.2.2 HK2.out HZ.out.1 HZ.out.2.1 HZ.out.2.2.1 T1 T2 T3 ⟨by omega, by omega, by omega⟩ ⟨by omega, by omega, by omega⟩ (hxW.trans (((((((Ext.refl w0).trans x0).trans x1).trans x2).trans x3).trans x4).trans x5)) (.slice Am lr cm))
              clear T1 T2 T3 lt1 lt2 hxd hxW J1 J2 SZ SC x0 x1 x2 x3 x4 x5 sx0 sx1 sx2 sx3 sx4 sx5 sW Sl Sr Sc L3 L7 L13 lol lor loc
              go_wp2
              go_meet
              exact ⟨_, gl, gr, gc, ml, mr, mc, rfl, HFC.out⟩
            · go_simp
              obtain ⟨v3, hv3⟩ : ∃ W', v2.alloc (.cells #[.slice (some ⟨g2, 0, none⟩) k2 k2] 27) = W' := ⟨_, rfl⟩
              obtain ⟨b13, hb13⟩ : ∃ q, v2.heap.size = q := ⟨_, rfl⟩
              have x3 : Ext v2 v3 := by rw [← hv3]; exact Ext.alloc _ _
              have B13 : Blk v3 b13 27 #[.slice (some ⟨g2, 0, none⟩) k2 k2] := by rw [← hv3]; exact Blk.new _ _ _ _ hb13
              have L13 := lists_one B13 (J2.ext (((((Ext.refl w0).trans x0).trans x1).trans x2).trans x3)) (.inr ⟨_, _, _, _, rfl⟩)
              rw [hv3]
              try rw [hb13]
              clear hv3 hb13 B13
              refine hK _ _ _ (fun _ hx => hx) (((((Ext.refl w0).trans x0).trans x1).trans x2).trans x3) ?_
              clear hK K
              try simp only [Act.put, List.setIfInBounds_toArray, List.set_cons_zero, List.set_cons_succ]
              refine wpOrdV_keep (by rfl) (fun K hK => ?_)
              go_simp
              go_at_call 28
              have SOr := setOf_c n (.slice (some ⟨b7, 0, none⟩) 1 1) [Zn] v3 (L7.ext (x2.trans x3)) (by simp) SZ
              with_reducible refine SOr.mono ?_
              rintro e v4 ⟨gr, mr, rfl, Sr, _, lor, _, x4⟩
              clear SOr
              refine hK _ _ ((((((Ext.refl w0).trans x0).trans x1).trans x2).trans x3).trans x4) ?_
              clear hK K
              try simp only [Act.put, List.setIfInBounds_toArray, List.set_cons_zero, List.set_cons_succ]
              refine wpOrdV_keep (by rfl) (fun K hK => ?_)
              go_simp
              go_at_call 28
              have SOc := setOf_c k2 (.slice (some ⟨b13, 0, none⟩) 1 1) [Zc] v4 (L13.ext x4) (by simp) SC
              with_reducible refine SOc.mono ?_
              rintro e v5 ⟨gc, mc, rfl, Sc, _, loc, _, x5⟩
              clear SOc
              refine hK _ _ (((((((Ext.refl w0).trans x0).trans x1).trans x2).trans x3).trans x4).trans x5) ?_
              clear hK K
              try simp only [Act.put, List.setIfInBounds_toArray, List.set_cons_zero, List.set_cons_succ]
              refine wpOrdV_read (v := .agg #[.int .i64 m.sy, .int .i64 m.st, .slice Am lr cm, .pointer (some ⟨gl, 0, none⟩), .pointer (some ⟨gr, 0, none⟩), .pointer (some ⟨gc, 0, none⟩)]) (by rfl) (Or.inl ⟨by rfl, fun x hx => by go_simp⟩) ?_
              try simp only [Act.put, List.setIfInBounds_toArray, List.set_cons_zero, List.set_cons_succ]
              refine wpOrdV_done ?_
              try simp only [List.drop_succ_cons, List.drop_zero]
              have T1 := (Sl.ext ((x3.trans x4).trans x5))
              have T2 := (Sr.ext x5)
              have T3 := Sc
              have lt1 := Sl.tab.lt
              have lt2 := Sr.tab.lt
              have sx0 := x0.size
              have sx1 := x1.size
              have sx2 := x2.size
              have sx3 := x3.size
              have sx4 := x4.size
              have sx5 := x5.size
              have sW := hxW.size
              have HFC := Lib.hid (mk_fcs (m := m) hn1 hn4 HH.out.2.2.2.2.2 HK2.out HZ.out.1 HZ.out.2.1 HZ.out.2.2.1 T1 T2 T3 ⟨by omega, by omega, by omega⟩ ⟨by omega, by omega, by omega⟩ (hxW.trans (((((((Ext.refl w0).trans x0).trans x1).trans x2).trans x3).trans x4).trans x5)) (.slice Am lr cm))
              clear T1 T2 T3 lt1 lt2 hxd hxW J1 J2 SZ SC x0 x1 x2 x3 x4 x5 sx0 sx1 sx2 sx3 sx4 sx5 sW Sl Sr Sc L3 L7 L13 lol lor loc
              go_wp2
              go_meet
              exact ⟨_, gl, gr, gc, ml, mr, mc, rfl, HFC.out⟩
          · go_simp
            obtain ⟨v2, hv2⟩ : ∃ W', v1.alloc (.cells #[.slice (some ⟨g2, 0, none⟩) k2 k2] 27) = W' := ⟨_, rfl⟩
            obtain ⟨b13, hb13⟩ : ∃ q, v1.heap.size = q := ⟨_, rfl⟩
            have x2 : Ext v1 v2 := by rw [← hv2]; exact Ext.alloc _ _
            have B13 : Blk v2 b13 27 #[.slice (some ⟨g2, 0, none⟩) k2 k2] := by rw [← hv2]; exact Blk.new _ _ _ _ hb13
            have L13 := lists_one B13 (J2.ext ((((Ext.refl w0).trans x0).trans x1).trans x2)) (.inr ⟨_, _, _, _, rfl⟩)
            rw [hv2]
            try rw [hb13]
            clear hv2 hb13 B13
            refine hK _ _ _ (fun _ hx => hx) ((((Ext.refl w0).trans x0).trans x1).trans x2) ?_
            clear hK K
            try simp only [Act.put, List.setIfInBounds_toArray, List.set_cons_zero, List.set_cons_succ]
            refine wpOrdV_keep (by rfl) (fun K hK => ?_)
            go_simp
            go_at_call 28
            have SOl := setOf_c n (.slice (some ⟨b3, 0, none⟩) 1 1) [Zn] v2 (L3.ext (x1.trans x2)) (by simp) SZ
            with_reducible refine SOl.mono ?_
            rintro e v3 ⟨gl, ml, rfl, Sl, _, lol, _, x3⟩
            clear SOl
            refine hK _ _ (((((Ext.refl w0).trans x0).trans x1).trans x2).trans x3) ?_
            clear hK K
            try simp only [Act.put, List.setIfInBounds_toArray, List.set_cons_zero, List.set_cons_succ]
            refine wpOrdV_keep (by rfl) (fun K hK => ?_)
            go_simp
            go_at_call 28
            have SOr := setOf_c n (.slice (some ⟨b7, 0, none⟩) 1 1) [Zn] v3 (L7.ext (x2.trans x3)) (by simp) SZ
            with_reducible refine SOr.mono ?_
            rintro e v4 ⟨gr, mr, rfl, Sr, _, lor, _, x4⟩
            clear SOr
            refine hK _ _ ((((((Ext.refl w0).trans x0).trans x1).trans x2).trans x3).trans x4) ?_
            clear hK K
            try simp only [Act.put, List.setIfInBounds_toArray, List.set_cons_zero, List.set_cons_succ]
            refine wpOrdV_keep (by rfl) (fun K hK => ?_)
            go_simp
            go_at_call 28
            have SOc := setOf_c k2 (.slice (some ⟨b13, 0, none⟩) 1 1) [Zc] v4 (L13.ext (x3.trans x4)) (by simp) SC
            with_reducible refine SOc.mono ?_
            rintro e v5 ⟨gc, mc, rfl, Sc, _, loc, _, x5⟩
            clear SOc
            refine hK _ _ (((((((Ext.refl w0).trans x0).trans x1).trans x2).trans x3).trans x4).trans x5) ?_
            clear hK K
            try simp only [Act.put, List.setIfInBounds_toArray, List.set_cons_zero, List.set_cons_succ]
            refine wpOrdV_read (v := .agg #[.int .i64 m.sy, .int .i64 m.st, .slice Am lr cm, .pointer (some ⟨gl, 0, none⟩), .pointer (some ⟨gr, 0, none⟩), .pointer (some ⟨gc, 0, none⟩)]) (by rfl) (Or.inl ⟨by rfl, fun x hx => by go_simp⟩) ?_
            try simp only [Act.put, List.setIfInBounds_toArray, List.set_cons_zero, List.set_cons_succ]
            refine wpOrdV_done ?_
            try simp only [List.drop_succ_cons, List.drop_zero]
            have T1 := (Sl.ext (x4.trans x5))
            have T2 := (Sr.ext x5)
            have T3 := Sc
            have lt1 := Sl.tab.lt
            have lt2 := Sr.tab.lt
            have sx0 := x0.size
            have sx1 := x1.size
            have sx2 := x2.size
            have sx3 := x3.size
            have sx4 := x4.size
            have sx5 := x5.size
            have sW := hxW.size
            have HFC := Lib.hid (mk_fcs (m := m) hn1 hn4 HH.out.2.2.2.2.2 HK2.out HZ.out.1 HZ.out.2.1 HZ.out.2.2.1 T1 T2 T3 ⟨by omega, by omega, by omega⟩ ⟨by omega, by omega, by omega⟩ (hxW.trans (((((((Ext.refl w0).trans x0).trans x1).trans x2).trans x3).trans x4).trans x5)) (.slice Am lr cm))
            clear T1 T2 T3 lt1 lt2 hxd hxW J1 J2 SZ SC x0 x1 x2 x3 x4 x5 sx0 sx1 sx2 sx3 sx4 sx5 sW Sl Sr Sc L3 L7 L13 lol lor loc
            go_wp2
            go_meet
            exact ⟨_, gl, gr, gc, ml, mr, mc, rfl, HFC.out⟩
        · go_simp
          obtain ⟨v1, hv1⟩ : ∃ W', v0.alloc (.cells #[.slice (some ⟨g2, 0, none⟩) k2 k2] 27) = W' := ⟨_, rfl⟩
          obtain ⟨b13, hb13⟩ : ∃ q, v0.heap.size = q := ⟨_, rfl⟩
          have x1 : Ext v0 v1 := by rw [← hv1]; exact Ext.alloc _ _
          have B13 : Blk v1 b13 27 #[.slice (some ⟨g2, 0, none⟩) k2 k2] := by rw [← hv1]; exact Blk.new _ _ _ _ hb13
          have L13 := lists_one B13 (J2.ext (((Ext.refl w0).trans x0).trans x1)) (.inr ⟨_, _, _, _, rfl⟩)
          rw [hv1]
          try rw [hb13]
          clear hv1 hb13 B13
          refine hK _ _ _ (fun _ hx => hx) (((Ext.refl w0).trans x0).trans x1) ?_
          clear hK K
          try simp only [Act.put, List.setIfInBounds_toArray, List.set_cons_zero, List.set_cons_succ]
          refine wpOrdV_forks (by rfl) (by rfl) (fun K hK => ?_) (fun K hK => ?_)
          · go_simp
            go_at_call 28
            have SOl := setOf_c n (.slice (some ⟨b3, 0, none⟩) 1 1) [Zn] v1 (L3.ext x1) (by simp) SZ
            with_reducible refine SOl.mono ?_
            rintro e v2 ⟨gl, ml, rfl, Sl, _, lol, _, x2⟩
            clear SOl
            refine hK _ _ _ (fun _ hx => hx) ((((Ext.refl w0).trans x0).trans x1).trans x2) ?_
            clear hK K
            try simp only [Act.put, List.setIfInBounds_toArray, List.set_cons_zero, List.set_cons_succ]
            refine wpOrdV_keep (by rfl) (fun K hK => ?_)
            go_simp
            obtain ⟨v3, hv3⟩ : ∃ W', v2.alloc (.cells #[.slice (some ⟨g1, 0, none⟩) n n] 27) = W' := ⟨_, rfl⟩
            obtain ⟨b7, hb7⟩ : ∃ q, v2.heap.size = q := ⟨_, rfl⟩
            have x3 : Ext v2 v3 := by rw [← hv3]; exact Ext.alloc _ _
            have B7 : Blk v3 b7 27 #[.slice (some ⟨g1, 0, none⟩) n n] := by rw [← hv3]; exact Blk.new _ _ _ _ hb7
            have L7 := lists_one B7 (J1.ext (((((Ext.refl w0).trans x0).trans x1).trans x2).trans x3)) (.inr ⟨_, _, _, _, rfl⟩)
            rw [hv3]
            try rw [hb7]
            clear hv3 hb7 B7
            refine hK _ _ (((((Ext.refl w0).trans x0).trans x1).trans x2).trans x3) ?_
            clear hK K
            try simp only [Act.put, List.setIfInBounds_toArray, List.set_cons_zero, List.set_cons_succ]
            refine wpOrdV_keep (by rfl) (fun K hK => ?_)
            go_simp
            go_at_call 28
            have SOr := setOf_c n (.slice (some ⟨b7, 0, none⟩) 1 1) [Zn] v3 L7 (by simp) SZ
            with_reducible refine SOr.mono ?_
            rintro e v4 ⟨gr, mr, rfl, Sr, _, lor, _, x4⟩
            clear SOr
            refine hK _ _ ((((((Ext.refl w0).trans x0).trans x1).trans x2).trans x3).trans x4) ?_
            clear hK K
            try simp only [Act.put, List.setIfInBounds_toArray, List.set_cons_zero, List.set_cons_succ]
            refine wpOrdV_keep (by rfl) (fun K hK => ?_)
            go_simp
            go_at_call 28
            have SOc := setOf_c k2 (.slice (some ⟨b13, 0, none⟩) 1 1) [Zc] v4 (L13.ext ((x2.trans x3).trans x4)) (by simp) SC
            with_reducible refine SOc.mono ?_
            rintro e v5 ⟨gc, mc, rfl, Sc, _, loc, _, x5⟩
            clear SOc
            refine hK _ _ (((((((Ext.refl w0).trans x0).trans x1).trans x2).trans x3).trans x4).trans x5) ?_
            clear hK K
            try simp only [Act.put, List.setIfInBounds_toArray, List.set_cons_zero, List.set_cons_succ]
            refine wpOrdV_read (v := .agg #[.int .i64 m.sy, .int .i64 m.st, .slice Am lr cm, .pointer (some ⟨gl, 0, none⟩), .pointer (some ⟨gr, 0, none⟩), .pointer (some ⟨gc, 0, none⟩)]) (by rfl) (Or.inl ⟨by rfl, fun x hx => by go_simp⟩) ?_
            try simp only [Act.put, List.setIfInBounds_toArray, List.set_cons_zero, List.set_cons_succ]
            refine wpOrdV_done ?_
            try simp only [List.drop_succ_cons, List.drop_zero]
            have T1 := (Sl.ext ((x3.trans x4).trans x5))
            have T2 := (Sr.ext x5)
            have T3 := Sc
            have lt1 := Sl.tab.lt
            have lt2 := Sr.tab.lt
            have sx0 := x0.size
            have sx1 := x1.size
            have sx2 := x2.size
            have sx3 := x3.size
            have sx4 := x4.size
            have sx5 := x5.size
            have sW := hxW.size
            have HFC := Lib.hid (mk_fcs (m := m) hn1 hn4 HH.out.2.2.2.2.2 HK2.out HZ.out.1 HZ.out.2.1 HZ.out.2.2.1 T1 T2 T3 ⟨by omega, by omega, by omega⟩ ⟨by omega, by omega, by omega⟩ (hxW.trans (((((((Ext.refl w0).trans x0).trans x1).trans x2).trans x3).trans x4).trans x5)) (.slice Am lr cm))
            clear T1 T2 T3 lt1 lt2 hxd hxW J1 J2 SZ SC x0 x1 x2 x3 x4 x5 sx0 sx1 sx2 sx3 sx4 sx5 sW Sl Sr Sc L3 L7 L13 lol lor loc
            go_wp2
            go_meet
            exact ⟨_, gl, gr, gc, ml, mr, mc, rfl, HFC.out⟩
          · go_simp
            obtain ⟨v2, hv2⟩ : ∃ W', v1.alloc (.cells #[.slice (some ⟨g1, 0, none⟩) n n] 27) = W' := ⟨_, rfl⟩
            obtain ⟨b7, hb7⟩ : ∃ q, v1.heap.size = q := ⟨_, rfl⟩
            have x2 : Ext v1 v2 := by rw [← hv2]; exact Ext.alloc _ _
            have B7 : Blk v2 b7 27 #[.slice (some ⟨g1, 0, none⟩) n n] := by rw [← hv2]; exact Blk.new _ _ _ _ hb7
            have L7 := lists_one B7 (J1.ext ((((Ext.refl w0).trans x0).trans x1).trans x2)) (.inr ⟨_, _, _, _, rfl⟩)
            rw [hv2]
            try rw [hb7]
            clear hv2 hb7 B7
            refine hK _ _ _ (fun _ hx => hx) ((((Ext.refl w0).trans x0).trans x1).trans x2) ?_
            clear hK K
            try simp only [Act.put, List.setIfInBounds_toArray, List.set_cons_zero, List.set_cons_succ]
            refine wpOrdV_keep (by rfl) (fun K hK => ?_)
            go_simp
            go_at_call 28
            have SOl := setOf_c n (.slice (some ⟨b3, 0, none⟩) 1 1) [Zn] v2 (L3.ext (x1.trans x2)) (by simp) SZ
            with_reducible refine SOl.mono ?_
            rintro e v3 ⟨gl, ml, rfl, Sl, _, lol, _, x3⟩
            clear SOl
            refine hK _ _ (((((Ext.refl w0).trans x0).trans x1).trans x2).trans x3) ?_
            clear hK K
            try simp only [Act.put, List.setIfInBounds_toArray, List.set_cons_zero, List.set_cons_succ]
            refine wpOrdV_keep (by rfl) (fun K hK => ?_)
            go_simp
            go_at_call 28
            have SOr := setOf_c n (.slice (some ⟨b7, 0, none⟩) 1 1) [Zn] v3 (L7.ext x3) (by simp) SZ
            with_reducible refine SOr.mono ?_
            rintro e v4 ⟨gr, mr, rfl, Sr, _, lor, _, x4⟩
            clear SOr
            refine hK _ _ ((((((Ext.refl w0).trans x0).trans x1).trans x2).trans x3).trans x4) ?_
            clear hK K
            try simp only [Act.put, List.setIfInBounds_toArray, List.set_cons_zero, List.set_cons_succ]
            refine wpOrdV_keep (by rfl) (fun K hK => ?_)
            go_simp
            go_at_call 28
            have SOc := setOf_c k2 (.slice (some ⟨b13, 0, none⟩) 1 1) [Zc] v4 (L13.ext ((x2.trans x3).trans x4)) (by simp) SC
            with_reducible refine SOc.mono ?_
            rintro e v5 ⟨gc, mc, rfl, Sc, _, loc, _, x5⟩
            clear SOc
            refine hK _ _ (((((((Ext.refl w0).trans x0).trans x1).trans x2).trans x3).trans x4).trans x5) ?_
            clear hK K
            try simp only [Act.put, List.setIfInBounds_toArray, List.set_cons_zero, List.set_cons_succ]
            refine wpOrdV_read (v := .agg #[.int .i64 m.sy, .int .i64 m.st, .slice Am lr cm, .pointer (some ⟨gl, 0, none⟩), .pointer (some ⟨gr, 0, none⟩), .pointer (some ⟨gc, 0, none⟩)]) (by rfl) (Or.inl ⟨by rfl, fun x hx => by go_simp⟩) ?_
            try simp only [Act.put, List.setIfInBounds_toArray, List.set_cons_zero, List.set_cons_succ]
            refine wpOrdV_done ?_
            try simp only [List.drop_succ_cons, List.drop_zero]
            have T1 := (Sl.ext (x4.trans x5))
            have T2 := (Sr.ext x5)
            have T3 := Sc
            have lt1 := Sl.tab.lt
            have lt2 := Sr.tab.lt
            have sx0 := x0.size
            have sx1 := x1.size
            have sx2 := x2.size
            have sx3 := x3.size
            have sx4 := x4.size
            have sx5 := x5.size
            have sW := hxW.size
            have HFC := Lib.hid (mk_fcs (m := m) hn1 hn4 HH.out.2.2.2.2.2 HK2.out HZ.out.1 HZ.out.2.1 HZ.out.2.2.1 T1 T2 T3 ⟨by omega, by omega, by omega⟩ ⟨by omega, by omega, by omega⟩ (hxW.trans (((((((Ext.refl w0).trans x0).trans x1).trans x2).trans x3).trans x4).trans x5)) (.slice Am lr cm))
            clear T1 T2 T3 lt1 lt2 hxd hxW J1 J2 SZ SC x0 x1 x2 x3 x4 x5 sx0 sx1 sx2 sx3 sx4 sx5 sW Sl Sr Sc L3 L7 L13 lol lor loc
            go_wp2
            go_meet
            exact ⟨_, gl, gr, gc, ml, mr, mc, rfl, HFC.out⟩
      · go_simp
        obtain ⟨v0, hv0⟩ : ∃ W', w0.alloc (.cells #[.slice (some ⟨g1, 0, none⟩) n n] 27) = W' := ⟨_, rfl⟩
        obtain ⟨b7, hb7⟩ : ∃ q, w0.heap.size = q := ⟨_, rfl⟩
        have x0 : Ext w0 v0 := by rw [← hv0]; exact Ext.alloc _ _
        have B7 : Blk v0 b7 27 #[.slice (some ⟨g1, 0, none⟩) n n] := by rw [← hv0]; exact Blk.new _ _ _ _ hb7
        have L7 := lists_one B7 (J1.ext ((Ext.refl w0).trans x0)) (.inr ⟨_, _, _, _, rfl⟩)
        rw [hv0]
        try rw [hb7]
        clear hv0 hb7 B7
        refine hK _ _ _ (fun _ hx => hx) ((Ext.refl w0).trans x0) ?_
        clear hK K
        try simp only [Act.put, List.setIfInBounds_toArray, List.set_cons_zero, List.set_cons_succ]
        refine wpOrdV_forks (by rfl) (by rfl) (fun K hK => ?_) (fun K hK => ?_)
        · go_simp
          obtain ⟨v1, hv1⟩ : ∃ W', v0.alloc (.cells #[.slice (some ⟨g1, 0, none⟩) n n] 27) = W' := ⟨_, rfl⟩
          obtain ⟨b3, hb3⟩ : ∃ q, v0.heap.size = q := ⟨_, rfl⟩
          have x1 : Ext v0 v1 := by rw [← hv1]; exact Ext.alloc _ _
          have B3 : Blk v1 b3 27 #[.slice (some ⟨g1, 0, none⟩) n n] := by rw [← hv1]; exact Blk.new _ _ _ _ hb3
          have L3 := lists_one B3 (J1.ext (((Ext.refl w0).trans x0).trans x1)) (.inr ⟨_, _, _, _, rfl⟩)
          rw [hv1]
          try rw [hb3]
          clear hv1 hb3 B3
          refine hK _ _ _ (fun _ hx => hx) (((Ext.refl w0).trans x0).trans x1) ?_
          clear hK K
          try simp only [Act.put, List.setIfInBounds_toArray, List.set_cons_zero, List.set_cons_succ]
          refine wpOrdV_forks (by rfl) (by rfl) (fun K hK => ?_) (fun K hK => ?_)
          · go_simp
            go_at_call 28
            have SOl := setOf_c n (.slice (some ⟨b3, 0, none⟩) 1 1) [Zn] v1 L3 (by simp) SZ
            with_reducible refine SOl.mono ?_
            rintro e v2 ⟨gl, ml, rfl, Sl, _, lol, _, x2⟩
            clear SOl
            refine hK _ _ _ (fun _ hx => hx) ((((Ext.refl w0).trans x0).trans x1).trans x2) ?_
            clear hK K
            try simp only [Act.put, List.setIfInBounds_toArray, List.set_cons_zero, List.set_cons_succ]
            refine wpOrdV_forks (by rfl) (by rfl) (fun K hK => ?_) (fun K hK => ?_)
            · go_simp
              go_at_call 28
              have SOr := setOf_c n (.slice (some ⟨b7, 0, none⟩) 1 1) [Zn] v2 (L7.ext (x1.trans x2)) (by simp) SZ
              with_reducible refine SOr.mono ?_
              rintro e v3 ⟨gr, mr, rfl, Sr, _, lor, _, x3⟩
              clear SOr
              refine hK _ _ _ (fun _ hx => hx) (((((Ext.refl w0).trans x0).trans x1).trans x2).trans x3) ?_
              clear hK K
              try simp only [Act.put, List.setIfInBounds_toArray, List.set_cons_zero, List.set_cons_succ]
              refine wpOrdV_keep (by rfl) (fun K hK => ?_)
              go_simp
              obtain ⟨v4, hv4⟩ : ∃ W', v3.alloc (.cells #[.slice (some ⟨g2, 0, none⟩) k2 k2] 27) = W' := ⟨_, rfl⟩
              obtain ⟨b13, hb13⟩ : ∃ q, v3.heap.size = q := ⟨_, rfl⟩
              have x4 : Ext v3 v4 := by rw [← hv4]; exact Ext.alloc _ _
              have B13 : Blk v4 b13 27 #[.slice (some ⟨g2, 0, none⟩) k2 k2] := by rw [← hv4]; exact Blk.new _ _ _ _ hb13
              have L13 := lists_one B13 (J2.ext ((((((Ext.refl w0).trans x0).trans x1).trans x2).trans x3).trans x4)) (.inr ⟨_, _, _, _, rfl⟩)
              rw [hv4]
              try rw [hb13]
              clear hv4 hb13 B13
              refine hK _ _ ((((((Ext.refl w0).trans x0).trans x1).trans x2).trans x3).trans x4) ?_
              clear hK K
              try simp only [Act.put, List.setIfInBounds_toArray, List.set_cons_zero, List.set_cons_succ]
              refine wpOrdV_keep (by rfl) (fun K hK => ?_)
              go_simp
              go_at_call 28
              have SOc := setOf_c k2 (.slice (some ⟨b13, 0, none⟩) 1 1) [Zc] v4 L13 (by simp) SC
              with_reducible refine SOc.mono ?_
              rintro e v5 ⟨gc, mc, rfl, Sc, _, loc, _, x5⟩
              clear SOc
              refine hK _ _ (((((((Ext.refl w0).trans x0).trans x1).trans x2).trans x3).trans x4).trans x5) ?_
              clear hK K
              try simp only [Act.put, List.setIfInBounds_toArray, List.set_cons_zero, List.set_cons_succ]
              refine wpOrdV_read (v := .agg #[.int .i64 m.sy, .int .i64 m.st, .slice Am lr cm, .pointer (some ⟨gl, 0, none⟩), .pointer (some ⟨gr, 0, none⟩), .pointer (some ⟨gc, 0, none⟩)]) (by rfl) (Or.inl ⟨by rfl, fun x hx => by go_simp⟩) ?_
              try simp only [Act.put, List.setIfInBounds_toArray, List.set_cons_zero, List.set_cons_succ]
              refine wpOrdV_done ?_
              try simp only [List.drop_succ_cons, List.drop_zero]
              have T1 := (Sl.ext ((x3.trans x4).trans x5))
              have T2 := (Sr.ext (x4.trans x5))
              have T3 := Sc
              have lt1 := Sl.tab.lt
              have lt2 := Sr.tab.lt
              have sx0 := x0.size
              have sx1 := x1.size
              have sx2 := x2.size
              have sx3 := x3.size
              have sx4 := x4.size
              have sx5 := x5.size
              have sW := hxW.size
              have HFC := Lib.hid (mk_fcs (m := m) hn1 hn4 HH.out.2.2.2.2.2 HK2.out HZ.out.1 HZ.out.2.1 HZ.out.2.2.1 T1 T2 T3 ⟨by omega, by omega, by omega⟩ ⟨by omega, by omega, by omega⟩ (hxW.trans (((((((Ext.refl w0).trans x0).trans x1).trans x2).trans x3).trans x4).trans x5)) (.slice Am lr cm))
              clear T1 T2 T3 lt1 lt2 hxd hxW J1 J2 SZ SC x0 x1 x2 x3 x4 x5 sx0 sx1 sx2 sx3 sx4 sx5 sW Sl Sr Sc L3 L7 L13 lol lor loc
              go_wp2
              go_meet
              exact ⟨_, gl, gr, gc, ml, mr, mc, rfl, HFC.out⟩
            · go_simp
              obtain ⟨v3, hv3⟩ : ∃ W', v2.alloc (.cells #[.slice (some ⟨g2, 0, none⟩) k2 k2] 27) = W' := ⟨_, rfl⟩
              obtain ⟨b13, hb13⟩ : ∃ q, v2.heap.size = q := ⟨_, rfl⟩
              have x3 : Ext v2 v3 := by rw [← hv3]; exact Ext.alloc _ _
              have B13 : Blk v3 b13 27 #[.slice (some ⟨g2, 0, none⟩) k2 k2] := by rw [← hv3]; exact Blk.new _ _ _ _ hb13
              have L13 := lists_one B13 (J2.ext (((((Ext.refl w0).trans x0).trans x1).trans x2).trans x3)) (.inr ⟨_, _, _, _, rfl⟩)
              rw [hv3]
              try rw [hb13]
              clear hv3 hb13 B13
              refine hK _ _ _ (fun _ hx => hx) (((((Ext.refl w0).trans x0).trans x1).trans x2).trans x3) ?_
              clear hK K
              try simp only [Act.put, List.setIfInBounds_toArray, List.set_cons_zero, List.set_cons_succ]
              refine wpOrdV_keep (by rfl) (fun K hK => ?_)
              go_simp
              go_at_call 28
              have SOr := setOf_c n (.slice (some ⟨b7, 0, none⟩) 1 1) [Zn] v3 (L7.ext ((x1.trans x2).trans x3)) (by simp) SZ
              with_reducible refine SOr.mono ?_
              rintro e v4 ⟨gr, mr, rfl, Sr, _, lor, _, x4⟩
              clear SOr
              refine hK _ _ ((((((Ext.refl w0).trans x0).trans x1).trans x2).trans x3).trans x4) ?_
              clear hK K
              try simp only [Act.put, List.setIfInBounds_toArray, List.set_cons_zero, List.set_cons_succ]
              refine wpOrdV_keep (by rfl) (fun K hK => ?_)
              go_simp
              go_at_call 28
              have SOc := setOf_c k2 (.slice (some ⟨b13, 0, none⟩) 1 1) [Zc] v4 (L13.ext x4) (by simp) SC
              with_reducible refine SOc.mono ?_
              rintro e v5 ⟨gc, mc, rfl, Sc, _, loc, _, x5⟩
              clear SOc
              refine hK _ _ (((((((Ext.refl w0).trans x0).trans x1).trans x2).trans x3).trans x4).trans x5) ?_
              clear hK K
              try simp only [Act.put, List.setIfInBounds_toArray, List.set_cons_zero, List.set_cons_succ]
              refine wpOrdV_read (v := .agg #[.int .i64 m.sy, .int .i64 m.st, .slice Am lr cm, .pointer (some ⟨gl, 0, none⟩), .pointer (some ⟨gr, 0, none⟩), .pointer (some ⟨gc, 0, none⟩)]) (by rfl) (Or.inl ⟨by rfl, fun x hx => by go_simp⟩) ?_
              try simp only [Act.put, List.setIfInBounds_toArray, List.set_cons_zero, List.set_cons_succ]
              refine wpOrdV_done ?_
              try simp only [List.drop_succ_cons, List.drop_zero]
              have T1 := (Sl.ext ((x3.trans x4).trans x5))
              have T2 := (Sr.ext x5)
              have T3 := Sc
              have lt1 := Sl.tab.lt
              have lt2 := Sr.tab.lt
              have sx0 := x0.size
              have sx1 := x1.size
              have sx2 := x2.size
              have sx3 := x3.size
              have sx4 := x4.size
              have sx5 := x5.size
              have sW := hxW.size
              have HFC := Lib.hid (mk_fcs (m := m) hn1 hn4 HH.out.2.2.2.2.2 HK2.out HZ.out.1 HZ.out.2.1 HZ.out.2.2.1 T1 T2 T3 ⟨by omega, by omega, by omega⟩ ⟨by omega, by omega, by omega⟩ (hxW.trans (((((((Ext.refl w0).trans x0).trans x1).trans x2).trans x3).trans x4).trans x5)) (.slice Am lr cm))
              clear T1 T2 T3 lt1 lt2 hxd hxW J1 J2 SZ SC x0 x1 x2 x3 x4 x5 sx0 sx1 sx2 sx3 sx4 sx5 sW Sl Sr Sc L3 L7 L13 lol lor loc
              go_wp2
              go_meet
              exact ⟨_, gl, gr, gc, ml, mr, mc, rfl, HFC.out⟩
          · go_simp
            obtain ⟨v2, hv2⟩ : ∃ W', v1.alloc (.cells #[.slice (some ⟨g2, 0, none⟩) k2 k2] 27) = W' := ⟨_, rfl⟩
            obtain ⟨b13, hb13⟩ : ∃ q, v1.heap.size = q := ⟨_, rfl⟩
            have x2 : Ext v1 v2 := by rw [← hv2]; exact Ext.alloc _ _
            have B13 : Blk v2 b13 27 #[.slice (some ⟨g2, 0, none⟩) k2 k2] := by rw [← hv2]; exact Blk.new _ _ _ _ hb13
            have L13 := lists_one B13 (J2.ext ((((Ext.refl w0).trans x0).trans x1).trans x2)) (.inr ⟨_, _, _, _, rfl⟩)
            rw [hv2]
            try rw [hb13]
            clear hv2 hb13 B13
            refine hK _ _ _ (fun _ hx => hx) ((((Ext.refl w0).trans x0).trans x1).trans x2) ?_
            clear hK K
            try simp only [Act.put, List.setIfInBounds_toArray, List.set_cons_zero, List.set_cons_succ]
            refine wpOrdV_keep (by rfl) (fun K hK => ?_)
            go_simp
            go_at_call 28
            have SOl := setOf_c n (.slice (some ⟨b3, 0, none⟩) 1 1) [Zn] v2 (L3.ext x2) (by simp) SZ
            with_reducible refine SOl.mono ?_
            rintro e v3 ⟨gl, ml, rfl, Sl, _, lol, _, x3⟩
            clear SOl
            refine hK _ _ (((((Ext.refl w0).trans x0).trans x1).trans x2).trans x3) ?_
            clear hK K
            try simp only [Act.put, List.setIfInBounds_toArray, List.set_cons_zero, List.set_cons_succ]
            refine wpOrdV_keep (by rfl) (fun K hK => ?_)
            go_simp
            go_at_call 28
            have SOr := setOf_c n (.slice (some ⟨b7, 0, none⟩) 1 1) [Zn] v3 (L7.ext ((x1.trans x2).trans x3)) (by simp) SZ
            with_reducible refine SOr.mono ?_
            rintro e v4 ⟨gr, mr, rfl, Sr, _, lor, _, x4⟩
            clear SOr
            refine hK _ _ ((((((Ext.refl w0).trans x0).trans x1).trans x2).trans x3).trans x4) ?_
            clear hK K
            try simp only [Act.put, List.setIfInBounds_toArray, List.set_cons_zero, List.set_cons_succ]
            refine wpOrdV_keep (by rfl) (fun K hK => ?_)
            go_simp
            go_at_call 28
            have SOc := setOf_c k2 (.slice (some ⟨b13, 0, none⟩) 1 1) [Zc] v4 (L13.ext (x3.trans x4)) (by simp) SC
            with_reducible refine SOc.mono ?_
            rintro e v5 ⟨gc, mc, rfl, Sc, _, loc, _, x5⟩
            clear SOc
            refine hK _ _ (((((((Ext.refl w0).trans x0).trans x1).trans x2).trans x3).trans x4).trans x5) ?_
            clear hK K
            try simp only [Act.put, List.setIfInBounds_toArray, List.set_cons_zero, List.set_cons_succ]
            refine wpOrdV_read (v := .agg #[.int .i64 m.sy, .int .i64 m.st, .slice Am lr cm, .pointer (some ⟨gl, 0, none⟩), .pointer (some ⟨gr, 0, none⟩), .pointer (some ⟨gc, 0, none⟩)]) (by rfl) (Or.inl ⟨by rfl, fun x hx => by go_simp⟩) ?_
            try simp only [Act.put, List.setIfInBounds_toArray, List.set_cons_zero, List.set_cons_succ]
            refine wpOrdV_done ?_
            try simp only [List.drop_succ_cons, List.drop_zero]
            have T1 := (Sl.ext (x4.trans x5))
            have T2 := (Sr.ext x5)
            have T3 := Sc
            have lt1 := Sl.tab.lt
            have lt2 := Sr.tab.lt
            have sx0 := x0.size
            have sx1 := x1.size
            have sx2 := x2.size
            have sx3 := x3.size
            have sx4 := x4.size
            have sx5 := x5.size
            have sW := hxW.size
            have HFC := Lib.hid (mk_fcs (m := m) hn1 hn4 HH.out.2.2.2.2.2 HK2.out HZ.out.1 HZ.out.2.1 HZ.out.2.2.1 T1 T2 T3 ⟨by omega, by omega, by omega⟩ ⟨by omega, by omega, by omega⟩ (hxW.trans (((((((Ext.refl w0).trans x0).trans x1).trans x2).trans x3).trans x4).trans x5)) (.slice Am lr cm))
            clear T1 T2 T3 lt1 lt2 hxd hxW J1 J2 SZ SC x0 x1 x2 x3 x4 x5 sx0 sx1 sx2 sx3 sx4 sx5 sW Sl Sr Sc L3 L7 L13 lol lor loc
            go_wp2
            go_meet
            exact ⟨_, gl, gr, gc, ml, mr, mc, rfl, HFC.out⟩
        · go_simp
          obtain ⟨v1, hv1⟩ : ∃ W', v0.alloc (.cells #[.slice (some ⟨g2, 0, none⟩) k2 k2] 27) = W' := ⟨_, rfl⟩
          obtain ⟨b13, hb13⟩ : ∃ q, v0.heap.size = q := ⟨_, rfl⟩
          have x1 : Ext v0 v1 := by rw [← hv1]; exact Ext.alloc _ _
          have B13 : Blk v1 b13 27 #[.slice (some ⟨g2, 0, none⟩) k2 k2] := by rw [← hv1]; exact Blk.new _ _ _ _ hb13
          have L13 := lists_one B13 (J2.ext (((Ext.refl w0).trans x0).trans x1)) (.inr ⟨_, _, _, _, rfl⟩)
          rw [hv1]
          try rw [hb13]
          clear hv1 hb13 B13
          refine hK _ _ _ (fun _ hx => hx) (((Ext.refl w0).trans x0).trans x1) ?_
          clear hK K
          try simp only [Act.put, List.setIfInBounds_toArray, List.set_cons_zero, List.set_cons_succ]
          refine wpOrdV_keep (by rfl) (fun K hK => ?_)
          go_simp
          obtain ⟨v2, hv2⟩ : ∃ W', v1.alloc (.cells #[.slice (some ⟨g1, 0, none⟩) n n] 27) = W' := ⟨_, rfl⟩
          obtain ⟨b3, hb3⟩ : ∃ q, v1.heap.size = q := ⟨_, rfl⟩
          have x2 : Ext v1 v2 := by rw [← hv2]; exact Ext.alloc _ _
          have B3 : Blk v2 b3 27 #[.slice (some ⟨g1, 0, none⟩) n n] := by rw [← hv2]; exact Blk.new _ _ _ _ hb3
          have L3 := lists_one B3 (J1.ext ((((Ext.refl w0).trans x0).trans x1).trans x2)) (.inr ⟨_, _, _, _, rfl⟩)
          rw [hv2]
          try rw [hb3]
          clear hv2 hb3 B3
          refine hK _ _ ((((Ext.refl w0).trans x0).trans x1).trans x2) ?_
          clear hK K
          try simp only [Act.put, List.setIfInBounds_toArray, List.set_cons_zero, List.set_cons_succ]
          refine wpOrdV_keep (by rfl) (fun K hK => ?_)
          go_simp
          go_at_call 28
          have SOl := setOf_c n (.slice (some ⟨b3, 0, none⟩) 1 1) [Zn] v2 L3 (by simp) SZ
          with_reducible refine SOl.mono ?_
          rintro e v3 ⟨gl, ml, rfl, Sl, _, lol, _, x3⟩
          clear SOl
          refine hK _ _ (((((Ext.refl w0).trans x0).trans x1).trans x2).trans x3) ?_
          clear hK K
          try simp only [Act.put, List.setIfInBounds_toArray, List.set_cons_zero, List.set_cons_succ]
          refine wpOrdV_keep (by rfl) (fun K hK => ?_)
          go_simp
          go_at_call 28
          have SOr := setOf_c n (.slice (some ⟨b7, 0, none⟩) 1 1) [Zn] v3 (L7.ext ((x1.trans x2).trans x3)) (by simp) SZ
          with_reducible refine SOr.mono ?_
          rintro e v4 ⟨gr, mr, rfl, Sr, _, lor, _, x4⟩
          clear SOr
          refine hK _ _ ((((((Ext.refl w0).trans x0).trans x1).trans x2).trans x3).trans x4) ?_
          clear hK K
          try simp only [Act.put, List.setIfInBounds_toArray, List.set_cons_zero, List.set_cons_succ]
          refine wpOrdV_keep (by rfl) (fun K hK => ?_)
          go_simp
          go_at_call 28
          have SOc := setOf_c k2 (.slice (some ⟨b13, 0, none⟩) 1 1) [Zc] v4 (L13.ext ((x2.trans x3).trans x4)) (by simp) SC
          with_reducible refine SOc.mono ?_
          rintro e v5 ⟨gc, mc, rfl, Sc, _, loc, _, x5⟩
          clear SOc
          refine hK _ _ (((((((Ext.refl w0).trans x0).trans x1).trans x2).trans x3).trans x4).trans x5) ?_
          clear hK K
          try simp only [Act.put, List.setIfInBounds_toArray, List.set_cons_zero, List.set_cons_succ]
          refine wpOrdV_read (v := .agg #[.int .i64 m.sy, .int .i64 m.st, .slice Am lr cm, .pointer (some ⟨gl, 0, none⟩), .pointer (some ⟨gr, 0, none⟩), .pointer (some ⟨gc, 0, none⟩)]) (by rfl) (Or.inl ⟨by rfl, fun x hx => by go_simp⟩) ?_
          try simp only [Act.put, List.setIfInBounds_toArray, List.set_cons_zero, List.set_cons_succ]
          refine wpOrdV_done ?_
          try simp only [List.drop_succ_cons, List.drop_zero]
          have T1 := (Sl.ext (x4.trans x5))
          have T2 := (Sr.ext x5)
          have T3 := Sc
          have lt1 := Sl.tab.lt
          have lt2 := Sr.tab.lt
          have sx0 := x0.size
          have sx1 := x1.size
          have sx2 := x2.size
          have sx3 := x3.size
          have sx4 := x4.size
          have sx5 := x5.size
          have sW := hxW.size
          have HFC := Lib.hid (mk_fcs (m := m) hn1 hn4 HH.out.2.2.2.2.2 HK2.out HZ.out.1 HZ.out.2.1 HZ.out.2.2.1 T1 T2 T3 ⟨by omega, by omega, by omega⟩ ⟨by omega, by omega, by omega⟩ (hxW.trans (((((((Ext.refl w0).trans x0).trans x1).trans x2).trans x3).trans x4).trans x5)) (.slice Am lr cm))
          clear T1 T2 T3 lt1 lt2 hxd hxW J1 J2 SZ SC x0 x1 x2 x3 x4 x5 sx0 sx1 sx2 sx3 sx4 sx5 sW Sl Sr Sc L3 L7 L13 lol lor loc
          go_wp2
          go_meet
          exact ⟨_, gl, gr, gc, ml, mr, mc, rfl, HFC.out⟩
      · go_simp
        obtain ⟨v0, hv0⟩ : ∃ W', w0.alloc (.cells #[.slice (some ⟨g2, 0, none⟩) k2 k2] 27) = W' := ⟨_, rfl⟩
        obtain ⟨b13, hb13⟩ : ∃ q, w0.heap.size = q := ⟨_, rfl⟩
        have x0 : Ext w0 v0 := by rw [← hv0]; exact Ext.alloc _ _
        have B13 : Blk v0 b13 27 #[.slice (some ⟨g2, 0, none⟩) k2 k2] := by rw [← hv0]; exact Blk.new _ _ _ _ hb13
        have L13 := lists_one B13 (J2.ext ((Ext.refl w0).trans x0)) (.inr ⟨_, _, _, _, rfl⟩)
        rw [hv0]
        try rw [hb13]
        clear hv0 hb13 B13
        refine hK _ _ _ (fun _ hx => hx) ((Ext.refl w0).trans x0) ?_
        clear hK K
        try simp only [Act.put, List.setIfInBounds_toArray, List.set_cons_zero, List.set_cons_succ]
        refine wpOrdV_forks (by rfl) (by rfl) (fun K hK => ?_) (fun K hK => ?_)
        · go_simp
          obtain ⟨v1, hv1⟩ : ∃ W', v0.alloc (.cells #[.slice (some ⟨g1, 0, none⟩) n n] 27) = W' := ⟨_, rfl⟩
          obtain ⟨b3, hb3⟩ : ∃ q, v0.heap.size = q := ⟨_, rfl⟩
          have x1 : Ext v0 v1 := by rw [← hv1]; exact Ext.alloc _ _
          have B3 : Blk v1 b3 27 #[.slice (some ⟨g1, 0, none⟩) n n] := by rw [← hv1]; exact Blk.new _ _ _ _ hb3
          have L3 := lists_one B3 (J1.ext (((Ext.refl w0).trans x0).trans x1)) (.inr ⟨_, _, _, _, rfl⟩)
          rw [hv1]
          try rw [hb3]
          clear hv1 hb3 B3
          refine hK _ _ _ (fun _ hx => hx) (((Ext.refl w0).trans x0).trans x1) ?_
          clear hK K
          try simp only [Act.put, List.setIfInBounds_toArray, List.set_cons_zero, List.set_cons_succ]
          refine wpOrdV_forks (by rfl) (by rfl) (fun K hK => ?_) (fun K hK => ?_)
          · go_simp
            go_at_call 28
            have SOl := setOf_c n (.slice (some ⟨b3, 0, none⟩) 1 1) [Zn] v1 L3 (by simp) SZ
            with_reducible refine SOl.mono ?_
            rintro e v2 ⟨gl, ml, rfl, Sl, _, lol, _, x2⟩
            clear SOl
            refine hK _ _ _ (fun _ hx => hx) ((((Ext.refl w0).trans x0).trans x1).trans x2) ?_
            clear hK K
            try simp only [Act.put, List.setIfInBounds_toArray, List.set_cons_zero, List.set_cons_succ]
            refine wpOrdV_keep (by rfl) (fun K hK => ?_)
            go_simp
            obtain ⟨v3, hv3⟩ : ∃ W', v2.alloc (.cells #[.slice (some ⟨g1, 0, none⟩) n n] 27) = W' := ⟨_, rfl⟩
            obtain ⟨b7, hb7⟩ : ∃ q, v2.heap.size = q := ⟨_, rfl⟩
            have x3 : Ext v2 v3 := by rw [← hv3]; exact Ext.alloc _ _
            have B7 : Blk v3 b7 27 #[.slice (some ⟨g1, 0, none⟩) n n] := by rw [← hv3]; exact Blk.new _ _ _ _ hb7
            have L7 := lists_one B7 (J1.ext (((((Ext.refl w0).trans x0).trans x1).trans x2).trans x3)) (.inr ⟨_, _, _, _, rfl⟩)
            rw [hv3]
            try rw [hb7]
            clear hv3 hb7 B7
            refine hK _ _ (((((Ext.refl w0).trans x0).trans x1).trans x2).trans x3) ?_
            clear hK K
            try simp only [Act.put, List.setIfInBounds_toArray, List.set_cons_zero, List.set_cons_succ]
            refine wpOrdV_keep (by rfl) (fun K hK => ?_)
            go_simp
            go_at_call 28
            have SOr := setOf_c n (.slice (some ⟨b7, 0, none⟩) 1 1) [Zn] v3 L7 (by simp) SZ
            with_reducible refine SOr.mono ?_
            rintro e v4 ⟨gr, mr, rfl, Sr, _, lor, _, x4⟩
            clear SOr
            refine hK _ _ ((((((Ext.refl w0).trans x0).trans x1).trans x2).trans x3).trans x4) ?_
            clear hK K
            try simp only [Act.put, List.setIfInBounds_toArray, List.set_cons_zero, List.set_cons_succ]
            refine wpOrdV_keep (by rfl) (fun K hK => ?_)
            go_simp
            go_at_call 28
            have SOc := setOf_c k2 (.slice (some ⟨b13, 0, none⟩) 1 1) [Zc] v4 (L13.ext (((x1.trans x2).trans x3).trans x4)) (by simp) SC
            with_reducible refine SOc.mono ?_
            rintro e v5 ⟨gc, mc, rfl, Sc, _, loc, _, x5⟩
            clear SOc
            refine hK _ _ (((((((Ext.refl w0).trans x0).trans x1).trans x2).trans x3).trans x4).trans x5) ?_
            clear hK K
            try simp only [Act.put, List.setIfInBounds_toArray, List.set_cons_zero, List.set_cons_succ]
            refine wpOrdV_read (v := .agg #[.int .i64 m.sy, .int .i64 m.st, .slice Am lr cm, .pointer (some ⟨gl, 0, none⟩), .pointer (some ⟨gr, 0, none⟩), .pointer (some ⟨gc, 0, none⟩)]) (by rfl) (Or.inl ⟨by rfl, fun x hx => by go_simp⟩) ?_
            try simp only [Act.put, List.setIfInBounds_toArray, List.set_cons_zero, List.set_cons_succ]
            refine wpOrdV_done ?_
            try simp only [List.drop_succ_cons, List.drop_zero]
            have T1 := (Sl.ext ((x3.trans x4).trans x5))
            have T2 := (Sr.ext x5)
            have T3 := Sc
            have lt1 := Sl.tab.lt
            have lt2 := Sr.tab.lt
            have sx0 := x0.size
            have sx1 := x1.size
            have sx2 := x2.size
            have sx3 := x3.size
            have sx4 := x4.size
            have sx5 := x5.size
            have sW := hxW.size
            have HFC := Lib.hid (mk_fcs (m := m) hn1 hn4 HH.out.2.2.2.2.2 HK2.out HZ.out.1 HZ.out.2.1 HZ.out.2.2.1 T1 T2 T3 ⟨by omega, by omega, by omega⟩ ⟨by omega, by omega, by omega⟩ (hxW.trans (((((((Ext.refl w0).trans x0).trans x1).trans x2).trans x3).trans x4).trans x5)) (.slice Am lr cm))
            clear T1 T2 T3 lt1 lt2 hxd hxW J1 J2 SZ SC x0 x1 x2 x3 x4 x5 sx0 sx1 sx2 sx3 sx4 sx5 sW Sl Sr Sc L3 L7 L13 lol lor loc
            go_wp2
            go_meet
            exact ⟨_, gl, gr, gc, ml, mr, mc, rfl, HFC.out⟩
          · go_simp
            obtain ⟨v2, hv2⟩ : ∃ W', v1.alloc (.cells #[.slice (some ⟨g1, 0, none⟩) n n] 27) = W' := ⟨_, rfl⟩
            obtain ⟨b7, hb7⟩ : ∃ q, v1.heap.size = q := ⟨_, rfl⟩
            have x2 : Ext v1 v2 := by rw [← hv2]; exact Ext.alloc _ _
            have B7 : Blk v2 b7 27 #[.slice (some ⟨g1, 0, none⟩) n n] := by rw [← hv2]; exact Blk.new _ _ _ _ hb7
            have L7 := lists_one B7 (J1.ext ((((Ext.refl w0).trans x0).trans x1).trans x2)) (.inr ⟨_, _, _, _, rfl⟩)
            rw [hv2]
            try rw [hb7]
            clear hv2 hb7 B7
            refine hK _ _ _ (fun _ hx => hx) ((((Ext.refl w0).trans x0).trans x1).trans x2) ?_
            clear hK K
            try simp only [Act.put, List.setIfInBounds_toArray, List.set_cons_zero, List.set_cons_succ]
            refine wpOrdV_keep (by rfl) (fun K hK => ?_)
            go_simp
            go_at_call 28
            have SOl := setOf_c n (.slice (some ⟨b3, 0, none⟩) 1 1) [Zn] v2 (L3.ext x2) (by simp) SZ
            with_reducible refine SOl.mono ?_
            rintro e v3 ⟨gl, ml, rfl, Sl, _, lol, _, x3⟩
            clear SOl
            refine hK _ _ (((((Ext.refl w0).trans x0).trans x1).trans x2).trans x3) ?_
            clear hK K
            try simp only [Act.put, List.setIfInBounds_toArray, List.set_cons_zero, List.set_cons_succ]
            refine wpOrdV_keep (by rfl) (fun K hK => ?_)
            go_simp
            go_at_call 28
            have SOr := setOf_c n (.slice (some ⟨b7, 0, none⟩) 1 1) [Zn] v3 (L7.ext x3) (by simp) SZ
            with_reducible refine SOr.mono ?_
            rintro e v4 ⟨gr, mr, rfl, Sr, _, lor, _, x4⟩
            clear SOr
            refine hK _ _ ((((((Ext.refl w0).trans x0).trans x1).trans x2).trans x3).trans x4) ?_
            clear hK K
            try simp only [Act.put, List.setIfInBounds_toArray, List.set_cons_zero, List.set_cons_succ]
            refine wpOrdV_keep (by rfl) (fun K hK => ?_)
            go_simp
            go_at_call 28
            have SOc := setOf_c k2 (.slice (some ⟨b13, 0, none⟩) 1 1) [Zc] v4 (L13.ext (((x1.trans x2).trans x3).trans x4)) (by simp) SC
            with_reducible refine SOc.mono ?_
            rintro e v5 ⟨gc, mc, rfl, Sc, _, loc, _, x5⟩
            clear SOc
            refine hK _ _ (((((((Ext.refl w0).trans x0).trans x1).trans x2).trans x3).trans x4).trans x5) ?_
            clear hK K
            try simp only [Act.put, List.setIfInBounds_toArray, List.set_cons_zero, List.set_cons_succ]
            refine wpOrdV_read (v := .agg #[.int .i64 m.sy, .int .i64 m.st, .slice Am lr cm, .pointer (some ⟨gl, 0, none⟩), .pointer (some ⟨gr, 0, none⟩), .pointer (some ⟨gc, 0, none⟩)]) (by rfl) (Or.inl ⟨by rfl, fun x hx => by go_simp⟩) ?_
            try simp only [Act.put, List.setIfInBounds_toArray, List.set_cons_zero, List.set_cons_succ]
            refine wpOrdV_done ?_
            try simp only [List.drop_succ_cons, List.drop_zero]
            have T1 := (Sl.ext (x4.trans x5))
            have T2 := (Sr.ext x5)
            have T3 := Sc
            have lt1 := Sl.tab.lt
            have lt2 := Sr.tab.lt
            have sx0 := x0.size
            have sx1 := x1.size
            have sx2 := x2.size
            have sx3 := x3.size
            have sx4 := x4.size
            have sx5 := x5.size
            have sW := hxW.size
            have HFC := Lib.hid (mk_fcs (m := m) hn1 hn4 HH.out.2.2.2.2.2 HK2.out HZ.out.1 HZ.out.2.1 HZ.out.2.2.1 T1 T2 T3 ⟨by omega, by omega, by omega⟩ ⟨by omega, by omega, by omega⟩ (hxW.trans (((((((Ext.refl w0).trans x0).trans x1).trans x2).trans x3).trans x4).trans x5)) (.slice Am lr cm))
            clear T1 T2 T3 lt1 lt2 hxd hxW J1 J2 SZ SC x0 x1 x2 x3 x4 x5 sx0 sx1 sx2 sx3 sx4 sx5 sW Sl Sr Sc L3 L7 L13 lol lor loc
            go_wp2
            go_meet
            exact ⟨_, gl, gr, gc, ml, mr, mc, rfl, HFC.out⟩
        · go_simp
          obtain ⟨v1, hv1⟩ : ∃ W', v0.alloc (.cells #[.slice (some ⟨g1, 0, none⟩) n n] 27) = W' := ⟨_, rfl⟩
          obtain ⟨b7, hb7⟩ : ∃ q, v0.heap.size = q := ⟨_, rfl⟩
          have x1 : Ext v0 v1 := by rw [← hv1]; exact Ext.alloc _ _
          have B7 : Blk v1 b7 27 #[.slice (some ⟨g1, 0, none⟩) n n] := by rw [← hv1]; exact Blk.new _ _ _ _ hb7
          have L7 := lists_one B7 (J1.ext (((Ext.refl w0).trans x0).trans x1)) (.inr ⟨_, _, _, _, rfl⟩)
          rw [hv1]
          try rw [hb7]
          clear hv1 hb7 B7
          refine hK _ _ _ (fun _ hx => hx) (((Ext.refl w0).trans x0).trans x1) ?_
          clear hK K
          try simp only [Act.put, List.setIfInBounds_toArray, List.set_cons_zero, List.set_cons_succ]
          refine wpOrdV_keep (by rfl) (fun K hK => ?_)
          go_simp
          obtain ⟨v2, hv2⟩ : ∃ W', v1.alloc (.cells #[.slice (some ⟨g1, 0, none⟩) n n] 27) = W' := ⟨_, rfl⟩
          obtain ⟨b3, hb3⟩ : ∃ q, v1.heap.size = q := ⟨_, rfl⟩
          have x2 : Ext v1 v2 := by rw [← hv2]; exact Ext.alloc _ _
          have B3 : Blk v2 b3 27 #[.slice (some ⟨g1, 0, none⟩) n n] := by rw [← hv2]; exact Blk.new _ _ _ _ hb3
          have L3 := lists_one B3 (J1.ext ((((Ext.refl w0).trans x0).trans x1).trans x2)) (.inr ⟨_, _, _, _, rfl⟩)
          rw [hv2]
          try rw [hb3]
          clear hv2 hb3 B3
          refine hK _ _ ((((Ext.refl w0).trans x0).trans x1).trans x2) ?_
          clear hK K
          try simp only [Act.put, List.setIfInBounds_toArray, List.set_cons_zero, List.set_cons_succ]
          refine wpOrdV_keep (by rfl) (fun K hK => ?_)
          go_simp
          go_at_call 28
          have SOl := setOf_c n (.slice (some ⟨b3, 0, none⟩) 1 1) [Zn] v2 L3 (by simp) SZ
          with_reducible refine SOl.mono ?_
          rintro e v3 ⟨gl, ml, rfl, Sl, _, lol, _, x3⟩
          clear SOl
          refine hK _ _ (((((Ext.refl w0).trans x0).trans x1).trans x2).trans x3) ?_
          clear hK K
          try simp only [Act.put, List.setIfInBounds_toArray, List.set_cons_zero, List.set_cons_succ]
          refine wpOrdV_keep (by rfl) (fun K hK => ?_)
          go_simp
          go_at_call 28
          have SOr := setOf_c n (.slice (some ⟨b7, 0, none⟩) 1 1) [Zn] v3 (L7.ext (x2.trans x3)) (by simp) SZ
          with_reducible refine SOr.mono ?_
          rintro e v4 ⟨gr, mr, rfl, Sr, _, lor, _, x4⟩
          clear SOr
          refine hK _ _ ((((((Ext.refl w0).trans x0).trans x1).trans x2).trans x3).trans x4) ?_
          clear hK K
          try simp only [Act.put, List.setIfInBounds_toArray, List.set_cons_zero, List.set_cons_succ]
          refine wpOrdV_keep (by rfl) (fun K hK => ?_)
          go_simp
          go_at_call 28
          have SOc := setOf_c k2 (.slice (some ⟨b13, 0, none⟩) 1 1) [Zc] v4 (L13.ext (((x1.trans x2).trans x3).trans x4)) (by simp) SC
          with_reducible refine SOc.mono ?_
          rintro e v5 ⟨gc, mc, rfl, Sc, _, loc, _, x5⟩
          clear SOc
          refine hK _ _ (((((((Ext.refl w0).trans x0).trans x1).trans x2).trans x3).trans x4).trans x5) ?_
          clear hK K
          try simp only [Act.put, List.setIfInBounds_toArray, List.set_cons_zero, List.set_cons_succ]
          refine wpOrdV_read (v := .agg #[.int .i64 m.sy, .int .i64 m.st, .slice Am lr cm, .pointer (some ⟨gl, 0, none⟩), .pointer (some ⟨gr, 0, none⟩), .pointer (some ⟨gc, 0, none⟩)]) (by rfl) (Or.inl ⟨by rfl, fun x hx => by go_simp⟩) ?_
          try simp only [Act.put, List.setIfInBounds_toArray, List.set_cons_zero, List.set_cons_succ]
          refine wpOrdV_done ?_
          try simp only [List.drop_succ_cons, List.drop_zero]
          have T1 := (Sl.ext (x4.trans x5))
          have T2 := (Sr.ext x5)
          have T3 := Sc
          have lt1 := Sl.tab.lt
          have lt2 := Sr.tab.lt
          have sx0 := x0.size
          have sx1 := x1.size
          have sx2 := x2.size
          have sx3 := x3.size
          have sx4 := x4.size
          have sx5 := x5.size
          have sW := hxW.size
          have HFC := Lib.hid (mk_fcs (m := m) hn1 hn4 HH.out.2.2.2.2.2 HK2.out HZ.out.1 HZ.out.2.1 HZ.out.2.2.1 T1 T2 T3 ⟨by omega, by omega, by omega⟩ ⟨by omega, by omega, by omega⟩ (hxW.trans (((((((Ext.refl w0).trans x0).trans x1).trans x2).trans x3).trans x4).trans x5)) (.slice Am lr cm))
          clear T1 T2 T3 lt1 lt2 hxd hxW J1 J2 SZ SC x0 x1 x2 x3 x4 x5 sx0 sx1 sx2 sx3 sx4 sx5 sW Sl Sr Sc L3 L7 L13 lol lor loc
          go_wp2
          go_meet
          exact ⟨_, gl, gr, gc, ml, mr, mc, rfl, HFC.out⟩
    case rest =>
      obtain ⟨gx, gl, gr, gc, ml, mr, mc, rfl, HF0⟩ := hcut
      clear m0 m1 m2 I1 I2
      go_wp2
      go_loopw [] (fun wr => ∃ L R C, Hid (FcS W wr gx gl gr gc ml mr mc n m (.slice Am lr cm) L R C)) (fun wr => 1000 - (mapSz wr ml + mapSz wr mr + mapSz wr mc))
      case atStart => exact ⟨_, _, _, HF0⟩
      case round =>
        clear HF0
        obtain ⟨L, R, C, HF⟩ := hrel
        obtain ⟨⟨s1, s2, s3, s4⟩, _, _⟩ := machOk_five HH.out.2.2.2.2.2
        have hlen := HF.out.len
        have gL := HF.out.il.good (by omega)
        have gR := HF.out.ir.good (by omega)
        have gC := HF.out.ic.good (by omega) (by omega)
        have CNT := count_c gx gl gr gc ml mr mc n (2 * n + 2) m.sy m.st (.slice Am lr cm) L R C L R C wr HF.out.at_.clo ⟨HF.out.at_.l, gL, HF.out.sl⟩ ⟨HF.out.at_.r, gR, HF.out.sr⟩ ⟨HF.out.at_.c, gC, HF.out.sc⟩ (by omega) (by omega) (by omega) (by omega) (by omega)
        obtain ⟨b0, hb0⟩ : ∃ b, L.length + R.length + C.length = b := ⟨_, rfl⟩
        rw [hb0] at CNT
        have HME : Hid (mapSz wr ml + mapSz wr mr + mapSz wr mc = b0) := Lib.hid (by
          rw [HF.out.at_.l.tab.mapSz gL (by omega) HF.out.sl.nodup (fun _ => Iff.rfl), HF.out.at_.r.tab.mapSz gR (by omega) HF.out.sr.nodup (fun _ => Iff.rfl), HF.out.at_.c.tab.mapSz gC (by omega) HF.out.sc.nodup (fun _ => Iff.rfl)]
          exact hb0)
        have HB0 := Lib.hid (And.intro hb0 hlen)
        clear gL gR gC hlen hb0
        go_upto_region 3 with fail
        go_wp2_with fail
        refine CNT.mono ?_
        rintro e w1 ⟨rfl, hx1⟩
        clear CNT
        have hF1 := HF.out.ext' hx1
        have RC := round_c gx gl gr gc ml mr mc n m (.slice Am lr cm) L R C w1 hF1.at_ hF1.ap (by have := HH.out.2.2.2.1.ext hF1.ext; rw [HLR.out] at this; exact this) HH.out.2.2.2.2.2 hF1.il hF1.ir hF1.ic (by have := HB0.out.2; omega) (by have := HB0.out.2; omega) (by have := HB0.out.2; omega) (List.length_pos_of_mem hF1.zc) hF1.sc.nodup hn1 hn4
        have HF1 := Lib.hid hF1
        clear hF1 hx1 HF
        go_upto_region 4 with fail
        go_wp2_with fail
        refine RC.mono ?_
        rintro e w2 ⟨hmo, (rfl | ⟨rfl, L', R', C', S, kl, kr, kc, hSO, hRds, hRdW, hS1, hl1, hr1, hc1⟩)⟩
        · clear RC
          have eW2 : Ext W w2 := hmo.ext W HF1.out.ext HF1.out.lo.1 HF1.out.lo.2.1 HF1.out.lo.2.2
          have bO := HH.out.2.2.1.ext eW2
          have o0 := bO.cell 0
          have o1 := bO.cell 1
          have o2 := bO.cell 2
          have z0 := bO.frozen 0
          have z1 := bO.frozen 1
          have z2 := bO.frozen 2
          simp only [List.getElem?_toArray, List.getElem?_cons_zero, List.getElem?_cons_succ] at o0 o1 o2
          have HFIN : Hid (Ext w (((w2.setCell ⟨g + 1, 0, none⟩ (.int .i64 0)).setCell ⟨g + 1, 1, none⟩ (.slice none 0 0)).setCell ⟨g + 1, 2, none⟩ (.slice none 0 0))) := Lib.hid (by
            have hgw := HH.out.2.2.2.2.1
            exact (((HH.out.1.trans eW2).setCell (p := ⟨g + 1, 0, none⟩) (by simp only; omega) _).setCell (p := ⟨g + 1, 1, none⟩) (by simp only; omega) _).setCell (p := ⟨g + 1, 2, none⟩) (by simp only; omega) _)
          clear bO eW2 hmo
          go_wp2
          refine bodyPost_ret (v := .tuple #[.agg #[.int .i64 0, .slice none 0 0, .slice none 0 0], .int .i64 3]) (by simp [results, Tryz.results25, go_sem, o0, o1, o2]) rfl ?_
          exact ⟨.inr (.inl rfl), HFIN.out⟩
        · clear RC
          have hSC : S.length ≤ C.length := nodup_len hSO.nodup (fun x hx => (hSO.mem x).1 hx)
          have eW2 : Ext W w2 := hmo.ext W HF1.out.ext HF1.out.lo.1 HF1.out.lo.2.1 HF1.out.lo.2.2
          have gL := hRds.il.good (by omega)
          have gR := hRds.ir.good (by omega)
          have gC := hRds.ic.good (by omega) (by omega)
          have SC1 := fun V (h : Ext w2 V) => sorted_c gl ml _ n L' V (hRdW.l.ext h) gL (List.length_pos_of_mem (hRds.sl _ HF1.out.zl)) (by omega) hn1 (by omega)
          have SC2 := fun V (h : Ext w2 V) => sorted_c gr mr _ n R' V (hRdW.r.ext h) gR (List.length_pos_of_mem (hRds.sr _ HF1.out.zr)) (by omega) hn1 (by omega)
          have SC3 := fun V (h : Ext w2 V) => sorted_c gc mc _ (2 * n + 2) C' V (hRdW.c.ext h) gC (List.length_pos_of_mem (hRds.sc _ HF1.out.zc)) (by omega) (by omega) (by omega)
          have x3 := Blk.cell hRdW.clo 3
          have x4 := Blk.cell hRdW.clo 4
          have x5 := Blk.cell hRdW.clo 5
          simp only [List.getElem?_toArray, List.getElem?_cons_zero, List.getElem?_cons_succ] at x3 x4 x5
          have HR := Lib.hid (And.intro hSO (And.intro hRds (And.intro hRdW (And.intro hSC (And.intro eW2 (And.intro gL (And.intro gR gC)))))))
          clear hmo hSO hRds hRdW hSC eW2 gL gR gC hS1 hl1 hr1 hc1
          go_upto_region 6 with fail
          go_cut [10] (fun u wx => ∃ g4 L2 R2 C2, u = .pointer (some ⟨g4, 0, none⟩) ∧ Hid (SortOf L' L2 ∧ SortOf R' R2 ∧ SortOf C' C2) ∧ Hid (RdT w2 wx g4 n L2 R2 C2))
          case first =>
            refine wp_region_ordT 18 (readsT [0, 1, 2, 3, 4, 6, 7, 8, 9, 11, 12, 13, 14] (.fork 5 (.fork 10 (.fork 15 (readsT [16] (.stir 17 .done)) 17 (.stir 15 (readsT [16] .done))) 17 (.stir 10 (.stir 15 (readsT [16] .done)))) 17 (.stir 5 (.stir 10 (.stir 15 (readsT [16] .done)))))) (by kernel_rfl) (by kernel_rfl) (fun _ _ _ _ _ h => h) ?_
            simp only [readsT]
            iterate 13 (refine wpOrdT_read (v := ?_) (by rfl) (Or.inl ⟨by rfl, fun x hx => ?_⟩) ?_; rotate_left; (· have hx' : Ext w2 x := (Ext.drew w2).trans hx; have x3 := hx'.cell x3; have x4 := hx'.cell x4; have x5 := hx'.cell x5; go_simp; try with_reducible rfl); try simp only [Act.put, List.setIfInBounds_toArray, List.set_cons_zero, List.set_cons_succ])
            have hxd : Ext w2 w2.drew := Ext.drew w2
            generalize w2.drew = w0 at *
            clear x3 x4 x5
            refine wpOrdT_forks (by rfl) (by rfl) (fun K hK => ?_) (fun K hK => ?_)
            · go_simp
              go_at_call 38
              with_reducible refine (SC1 w0 (hxd.trans (Ext.refl w0))).mono ?_
              rintro e y0 ⟨uA, QA, rfl, soA, owA, x0⟩
              obtain ⟨AA, cA, rfl⟩ := owA.form
              have lzA : w2.heap.size ≤ w0.heap.size := (hxd.trans (Ext.refl w0)).size
              refine hK _ _ _ (fun _ hx => hx) ((Ext.refl w0).trans x0) ?_
              clear hK K
              try simp only [Act.put, List.setIfInBounds_toArray, List.set_cons_zero, List.set_cons_succ]
              refine wpOrdT_forks (by rfl) (by rfl) (fun K hK => ?_) (fun K hK => ?_)
              · go_simp
                go_at_call 38
                with_reducible refine (SC2 y0 (hxd.trans ((Ext.refl w0).trans x0))).mono ?_
                rintro e y1 ⟨uB, QB, rfl, soB, owB, x1⟩
                obtain ⟨AB, cB, rfl⟩ := owB.form
                have lzB : w2.heap.size ≤ y0.heap.size := (hxd.trans ((Ext.refl w0).trans x0)).size
                refine hK _ _ _ (fun _ hx => hx) (((Ext.refl w0).trans x0).trans x1) ?_
                clear hK K
                try simp only [Act.put, List.setIfInBounds_toArray, List.set_cons_zero, List.set_cons_succ]
                refine wpOrdT_forks (by rfl) (by rfl) (fun K hK => ?_) (fun K hK => ?_)
                · go_simp
                  go_at_call 38
                  with_reducible refine (SC3 y1 (hxd.trans (((Ext.refl w0).trans x0).trans x1))).mono ?_
                  rintro e y2 ⟨uD, QD, rfl, soD, owD, x2⟩
                  obtain ⟨AD, cD, rfl⟩ := owD.form
                  have lzD : w2.heap.size ≤ y1.heap.size := (hxd.trans (((Ext.refl w0).trans x0).trans x1)).size
                  refine hK _ _ _ (fun _ hx => hx) ((((Ext.refl w0).trans x0).trans x1).trans x2) ?_
                  clear hK K
                  try simp only [Act.put, List.setIfInBounds_toArray, List.set_cons_zero, List.set_cons_succ]
                  refine wpOrdT_read (v := .agg #[.int .i64 (n : Int), .slice AA QA.length cA, .slice AB QB.length cB, .slice AD QD.length cD]) (by rfl) (Or.inl ⟨by rfl, fun x hx => by go_simp⟩) ?_
                  try simp only [Act.put, List.setIfInBounds_toArray, List.set_cons_zero, List.set_cons_succ]
                  refine wpOrdT_keep (by rfl) (fun K hK => ?_)
                  go_simp
                  obtain ⟨y3, hy3⟩ : ∃ W', y2.alloc (.cells #[.int .i64 0, .slice none 0 0, .slice none 0 0, .slice none 0 0] 58) = W' := ⟨_, rfl⟩
                  obtain ⟨g4, hg4⟩ : ∃ q, y2.heap.size = q := ⟨_, rfl⟩
                  have x3 : Ext y2 y3 := by rw [← hy3]; exact Ext.alloc _ _
                  have bz : Blk y3 g4 58 #[.int .i64 0, .slice none 0 0, .slice none 0 0, .slice none 0 0] := by rw [← hy3]; exact Blk.new _ _ _ _ hg4
                  have lg4 : w2.heap.size ≤ g4 := by have := (hxd.trans ((((Ext.refl w0).trans x0).trans x1).trans x2)).size; omega
                  rw [hy3]
                  try rw [hg4]
                  clear hy3 hg4
                  refine hK _ _ (((((Ext.refl w0).trans x0).trans x1).trans x2).trans x3) ?_
                  clear hK K
                  try simp only [Act.put, List.setIfInBounds_toArray, List.set_cons_zero, List.set_cons_succ]
                  refine wpOrdT_done ?_
                  try simp only [List.drop_succ_cons, List.drop_zero]
                  have BZ := bz
                  have HP : Hid (RdT w2 ((((y3.setCell ⟨g4, 0, none⟩ (.int .i64 (n : Int))).setCell ⟨g4, 1, none⟩ (.slice AA QA.length cA)).setCell ⟨g4, 2, none⟩ (.slice AB QB.length cB)).setCell ⟨g4, 3, none⟩ (.slice AD QD.length cD)) g4 n QA QB QD) := Lib.hid (RdT.put BZ ((owA.ext ((x1.trans x2).trans x3)).base0 lzA) ((owB.ext (x2.trans x3)).base0 lzB) ((owD.ext x3).base0 lzD) (hxd.trans (((((Ext.refl w0).trans x0).trans x1).trans x2).trans x3)) lg4)
                  have HSO := Lib.hid (And.intro soA (And.intro soB soD))
                  have z0 := BZ.cell 0
                  have f0 := BZ.frozen 0
                  have z1 := BZ.cell 1
                  have f1 := BZ.frozen 1
                  have z2 := BZ.cell 2
                  have f2 := BZ.frozen 2
                  have z3 := BZ.cell 3
                  have f3 := BZ.frozen 3
                  simp only [List.getElem?_toArray, List.getElem?_cons_zero, List.getElem?_cons_succ] at z0 z1 z2 z3
                  clear BZ bz hxd owA owB owD lzA lzB lzD soA soB soD SC1 SC2 SC3 x0 x1 x2 x3
                  generalize QA.length = la at *
                  generalize QB.length = lb at *
                  generalize QD.length = ld at *
                  go_wp2_with fail
                  go_meet
                  exact ⟨g4, QA, QB, QD, rfl, HSO, HP⟩
                · go_simp
                  obtain ⟨y2, hy2⟩ : ∃ W', y1.alloc (.cells #[.int .i64 0, .slice none 0 0, .slice none 0 0, .slice none 0 0] 58) = W' := ⟨_, rfl⟩
                  obtain ⟨g4, hg4⟩ : ∃ q, y1.heap.size = q := ⟨_, rfl⟩
                  have x2 : Ext y1 y2 := by rw [← hy2]; exact Ext.alloc _ _
                  have bz : Blk y2 g4 58 #[.int .i64 0, .slice none 0 0, .slice none 0 0, .slice none 0 0] := by rw [← hy2]; exact Blk.new _ _ _ _ hg4
                  have lg4 : w2.heap.size ≤ g4 := by have := (hxd.trans (((Ext.refl w0).trans x0).trans x1)).size; omega
                  rw [hy2]
                  try rw [hg4]
                  clear hy2 hg4
                  refine hK _ _ _ (fun _ hx => hx) ((((Ext.refl w0).trans x0).trans x1).trans x2) ?_
                  clear hK K
                  try simp only [Act.put, List.setIfInBounds_toArray, List.set_cons_zero, List.set_cons_succ]
                  refine wpOrdT_keep (by rfl) (fun K hK => ?_)
                  go_simp
                  go_at_call 38
                  with_reducible refine (SC3 y2 (hxd.trans ((((Ext.refl w0).trans x0).trans x1).trans x2))).mono ?_
                  rintro e y3 ⟨uD, QD, rfl, soD, owD, x3⟩
                  obtain ⟨AD, cD, rfl⟩ := owD.form
                  have lzD : w2.heap.size ≤ y2.heap.size := (hxd.trans ((((Ext.refl w0).trans x0).trans x1).trans x2)).size
                  refine hK _ _ (((((Ext.refl w0).trans x0).trans x1).trans x2).trans x3) ?_
                  clear hK K
                  try simp only [Act.put, List.setIfInBounds_toArray, List.set_cons_zero, List.set_cons_succ]
                  refine wpOrdT_read (v := .agg #[.int .i64 (n : Int), .slice AA QA.length cA, .slice AB QB.length cB, .slice AD QD.length cD]) (by rfl) (Or.inl ⟨by rfl, fun x hx => by go_simp⟩) ?_
                  try simp only [Act.put, List.setIfInBounds_toArray, List.set_cons_zero, List.set_cons_succ]
                  refine wpOrdT_done ?_
                  try simp only [List.drop_succ_cons, List.drop_zero]
                  have BZ := (bz.ext x3)
                  have HP : Hid (RdT w2 ((((y3.setCell ⟨g4, 0, none⟩ (.int .i64 (n : Int))).setCell ⟨g4, 1, none⟩ (.slice AA QA.length cA)).setCell ⟨g4, 2, none⟩ (.slice AB QB.length cB)).setCell ⟨g4, 3, none⟩ (.slice AD QD.length cD)) g4 n QA QB QD) := Lib.hid (RdT.put BZ ((owA.ext ((x1.trans x2).trans x3)).base0 lzA) ((owB.ext (x2.trans x3)).base0 lzB) (owD.base0 lzD) (hxd.trans (((((Ext.refl w0).trans x0).trans x1).trans x2).trans x3)) lg4)
                  have HSO := Lib.hid (And.intro soA (And.intro soB soD))
                  have z0 := BZ.cell 0
                  have f0 := BZ.frozen 0
                  have z1 := BZ.cell 1
                  have f1 := BZ.frozen 1
                  have z2 := BZ.cell 2
                  have f2 := BZ.frozen 2
                  have z3 := BZ.cell 3
                  have f3 := BZ.frozen 3
                  simp only [List.getElem?_toArray, List.getElem?_cons_zero, List.getElem?_cons_succ] at z0 z1 z2 z3
                  clear BZ bz hxd owA owB owD lzA lzB lzD soA soB soD SC1 SC2 SC3 x0 x1 x2 x3
                  generalize QA.length = la at *
                  generalize QB.length = lb at *
                  generalize QD.length = ld at *
                  go_wp2_with fail
                  go_meet
                  exact ⟨g4, QA, QB, QD, rfl, HSO, HP⟩
              · go_simp
                obtain ⟨y1, hy1⟩ : ∃ W', y0.alloc (.cells #[.int .i64 0, .slice none 0 0, .slice none 0 0, .slice none 0 0] 58) = W' := ⟨_, rfl⟩
                obtain ⟨g4, hg4⟩ : ∃ q, y0.heap.size = q := ⟨_, rfl⟩
                have x1 : Ext y0 y1 := by rw [← hy1]; exact Ext.alloc _ _
                have bz : Blk y1 g4 58 #[.int .i64 0, .slice none 0 0, .slice none 0 0, .slice none 0 0] := by rw [← hy1]; exact Blk.new _ _ _ _ hg4
                have lg4 : w2.heap.size ≤ g4 := by have := (hxd.trans ((Ext.refl w0).trans x0)).size; omega
                rw [hy1]
                try rw [hg4]
                clear hy1 hg4
                refine hK _ _ _ (fun _ hx => hx) (((Ext.refl w0).trans x0).trans x1) ?_
                clear hK K
                try simp only [Act.put, List.setIfInBounds_toArray, List.set_cons_zero, List.set_cons_succ]
                refine wpOrdT_keep (by rfl) (fun K hK => ?_)
                go_simp
                go_at_call 38
                with_reducible refine (SC2 y1 (hxd.trans (((Ext.refl w0).trans x0).trans x1))).mono ?_
                rintro e y2 ⟨uB, QB, rfl, soB, owB, x2⟩
                obtain ⟨AB, cB, rfl⟩ := owB.form
                have lzB : w2.heap.size ≤ y1.heap.size := (hxd.trans (((Ext.refl w0).trans x0).trans x1)).size
                refine hK _ _ ((((Ext.refl w0).trans x0).trans x1).trans x2) ?_
                clear hK K
                try simp only [Act.put, List.setIfInBounds_toArray, List.set_cons_zero, List.set_cons_succ]
                refine wpOrdT_keep (by rfl) (fun K hK => ?_)
                go_simp
                go_at_call 38
                with_reducible refine (SC3 y2 (hxd.trans ((((Ext.refl w0).trans x0).trans x1).trans x2))).mono ?_
                rintro e y3 ⟨uD, QD, rfl, soD, owD, x3⟩
                obtain ⟨AD, cD, rfl⟩ := owD.form
                have lzD : w2.heap.size ≤ y2.heap.size := (hxd.trans ((((Ext.refl w0).trans x0).trans x1).trans x2)).size
                refine hK _ _ (((((Ext.refl w0).trans x0).trans x1).trans x2).trans x3) ?_
                clear hK K
                try simp only [Act.put, List.setIfInBounds_toArray, List.set_cons_zero, List.set_cons_succ]
                refine wpOrdT_read (v := .agg #[.int .i64 (n : Int), .slice AA QA.length cA, .slice AB QB.length cB, .slice AD QD.length cD]) (by rfl) (Or.inl ⟨by rfl, fun x hx => by go_simp⟩) ?_
                try simp only [Act.put, List.setIfInBounds_toArray, List.set_cons_zero, List.set_cons_succ]
                refine wpOrdT_done ?_
                try simp only [List.drop_succ_cons, List.drop_zero]
                have BZ := (bz.ext (x2.trans x3))
                have HP : Hid (RdT w2 ((((y3.setCell ⟨g4, 0, none⟩ (.int .i64 (n : Int))).setCell ⟨g4, 1, none⟩ (.slice AA QA.length cA)).setCell ⟨g4, 2, none⟩ (.slice AB QB.length cB)).setCell ⟨g4, 3, none⟩ (.slice AD QD.length cD)) g4 n QA QB QD) := Lib.hid (RdT.put BZ ((owA.ext ((x1.trans x2).trans x3)).base0 lzA) ((owB.ext x3).base0 lzB) (owD.base0 lzD) (hxd.trans (((((Ext.refl w0).trans x0).trans x1).trans x2).trans x3)) lg4)
                have HSO := Lib.hid (And.intro soA (And.intro soB soD))
                have z0 := BZ.cell 0
                have f0 := BZ.frozen 0
                have z1 := BZ.cell 1
                have f1 := BZ.frozen 1
                have z2 := BZ.cell 2
                have f2 := BZ.frozen 2
                have z3 := BZ.cell 3
                have f3 := BZ.frozen 3
                simp only [List.getElem?_toArray, List.getElem?_cons_zero, List.getElem?_cons_succ] at z0 z1 z2 z3
                clear BZ bz hxd owA owB owD lzA lzB lzD soA soB soD SC1 SC2 SC3 x0 x1 x2 x3
                generalize QA.length = la at *
                generalize QB.length = lb at *
                generalize QD.length = ld at *
                go_wp2_with fail
                go_meet
                exact ⟨g4, QA, QB, QD, rfl, HSO, HP⟩
            · go_simp
              obtain ⟨y0, hy0⟩ : ∃ W', w0.alloc (.cells #[.int .i64 0, .slice none 0 0, .slice none 0 0, .slice none 0 0] 58) = W' := ⟨_, rfl⟩
              obtain ⟨g4, hg4⟩ : ∃ q, w0.heap.size = q := ⟨_, rfl⟩
              have x0 : Ext w0 y0 := by rw [← hy0]; exact Ext.alloc _ _
              have bz : Blk y0 g4 58 #[.int .i64 0, .slice none 0 0, .slice none 0 0, .slice none 0 0] := by rw [← hy0]; exact Blk.new _ _ _ _ hg4
              have lg4 : w2.heap.size ≤ g4 := by have := (hxd.trans (Ext.refl w0)).size; omega
              rw [hy0]
              try rw [hg4]
              clear hy0 hg4
              refine hK _ _ _ (fun _ hx => hx) ((Ext.refl w0).trans x0) ?_
              clear hK K
              try simp only [Act.put, List.setIfInBounds_toArray, List.set_cons_zero, List.set_cons_succ]
              refine wpOrdT_keep (by rfl) (fun K hK => ?_)
              go_simp
              go_at_call 38
              with_reducible refine (SC1 y0 (hxd.trans ((Ext.refl w0).trans x0))).mono ?_
              rintro e y1 ⟨uA, QA, rfl, soA, owA, x1⟩
              obtain ⟨AA, cA, rfl⟩ := owA.form
              have lzA : w2.heap.size ≤ y0.heap.size := (hxd.trans ((Ext.refl w0).trans x0)).size
              refine hK _ _ (((Ext.refl w0).trans x0).trans x1) ?_
              clear hK K
              try simp only [Act.put, List.setIfInBounds_toArray, List.set_cons_zero, List.set_cons_succ]
              refine wpOrdT_keep (by rfl) (fun K hK => ?_)
              go_simp
              go_at_call 38
              with_reducible refine (SC2 y1 (hxd.trans (((Ext.refl w0).trans x0).trans x1))).mono ?_
              rintro e y2 ⟨uB, QB, rfl, soB, owB, x2⟩
              obtain ⟨AB, cB, rfl⟩ := owB.form
              have lzB : w2.heap.size ≤ y1.heap.size := (hxd.trans (((Ext.refl w0).trans x0).trans x1)).size
              refine hK _ _ ((((Ext.refl w0).trans x0).trans x1).trans x2) ?_
              clear hK K
              try simp only [Act.put, List.setIfInBounds_toArray, List.set_cons_zero, List.set_cons_succ]
              refine wpOrdT_keep (by rfl) (fun K hK => ?_)
              go_simp
              go_at_call 38
              with_reducible refine (SC3 y2 (hxd.trans ((((Ext.refl w0).trans x0).trans x1).trans x2))).mono ?_
              rintro e y3 ⟨uD, QD, rfl, soD, owD, x3⟩
              obtain ⟨AD, cD, rfl⟩ := owD.form
              have lzD : w2.heap.size ≤ y2.heap.size := (hxd.trans ((((Ext.refl w0).trans x0).trans x1).trans x2)).size
              refine hK _ _ (((((Ext.refl w0).trans x0).trans x1).trans x2).trans x3) ?_
              clear hK K
              try simp only [Act.put, List.setIfInBounds_toArray, List.set_cons_zero, List.set_cons_succ]
              refine wpOrdT_read (v := .agg #[.int .i64 (n : Int), .slice AA QA.length cA, .slice AB QB.length cB, .slice AD QD.length cD]) (by rfl) (Or.inl ⟨by rfl, fun x hx => by go_simp⟩) ?_
              try simp only [Act.put, List.setIfInBounds_toArray, List.set_cons_zero, List.set_cons_succ]
              refine wpOrdT_done ?_
              try simp only [List.drop_succ_cons, List.drop_zero]
              have BZ := (bz.ext ((x1.trans x2).trans x3))
              have HP : Hid (RdT w2 ((((y3.setCell ⟨g4, 0, none⟩ (.int .i64 (n : Int))).setCell ⟨g4, 1, none⟩ (.slice AA QA.length cA)).setCell ⟨g4, 2, none⟩ (.slice AB QB.length cB)).setCell ⟨g4, 3, none⟩ (.slice AD QD.length cD)) g4 n QA QB QD) := Lib.hid (RdT.put BZ ((owA.ext (x2.trans x3)).base0 lzA) ((owB.ext x3).base0 lzB) (owD.base0 lzD) (hxd.trans (((((Ext.refl w0).trans x0).trans x1).trans x2).trans x3)) lg4)
              have HSO := Lib.hid (And.intro soA (And.intro soB soD))
              have z0 := BZ.cell 0
              have f0 := BZ.frozen 0
              have z1 := BZ.cell 1
              have f1 := BZ.frozen 1
              have z2 := BZ.cell 2
              have f2 := BZ.frozen 2
              have z3 := BZ.cell 3
              have f3 := BZ.frozen 3
              simp only [List.getElem?_toArray, List.getElem?_cons_zero, List.getElem?_cons_succ] at z0 z1 z2 z3
              clear BZ bz hxd owA owB owD lzA lzB lzD soA soB soD SC1 SC2 SC3 x0 x1 x2 x3
              generalize QA.length = la at *
              generalize QB.length = lb at *
              generalize QD.length = ld at *
              go_wp2_with fail
              go_meet
              exact ⟨g4, QA, QB, QD, rfl, HSO, HP⟩
          case rest =>
            obtain ⟨g4, L2, R2, C2, rfl, HSO, HRT⟩ := hcut
            clear x3 x4 x5 SC1 SC2 SC3
            obtain ⟨Al, cl, Ar, cr, Ac, cc, bS, oL, oR, oC⟩ := HRT.out.ex
            have n1 := HR.out.2.1.nl
            have n2 := HR.out.2.1.nr
            have n3 := HR.out.2.1.nc
            have n4 := HR.out.2.2.2.1
            have nB := HB0.out.2
            have q1 := nodup_len HSO.out.1.nodup (fun x hx => (HSO.out.1.mem x).1 hx)
            have q2 := nodup_len HSO.out.2.1.nodup (fun x hx => (HSO.out.2.1.mem x).1 hx)
            have q3 := nodup_len HSO.out.2.2.nodup (fun x hx => (HSO.out.2.2.mem x).1 hx)
            have zl2 := (HSO.out.1.mem _).2 (HR.out.2.1.sl _ HF1.out.zl)
            have zr2 := (HSO.out.2.1.mem _).2 (HR.out.2.1.sr _ HF1.out.zr)
            have zc2 := (HSO.out.2.2.mem _).2 (HR.out.2.1.sc _ HF1.out.zc)
            have CK := fun V (h : Ext wc V) => checked_c (.agg #[.int .i64 (n : Int), .slice Al L2.length cl, .slice Ar R2.length cr, .slice Ac C2.length cc]) ⟨n, L2, R2, C2⟩ V ⟨_, _, _, rfl, oL.lists.ext h, oR.lists.ext h, oC.lists.ext h⟩ ⟨by simp only; omega, by simp only; omega, by simp only; omega⟩ ⟨List.length_pos_of_mem zl2, List.length_pos_of_mem zr2⟩
              ⟨fun x hx => by rw [(HR.out.2.1.il x ((HSO.out.1.mem x).1 hx)).1]; omega, fun x hx => by rw [(HR.out.2.1.ir x ((HSO.out.2.1.mem x).1 hx)).1]; omega, fun x hx => by rw [(HR.out.2.1.ic x ((HSO.out.2.2.mem x).1 hx)).1]; omega⟩
            have d0 := bS.cell 0
            have d1 := bS.cell 1
            have d2 := bS.cell 2
            have d3 := bS.cell 3
            simp only [List.getElem?_toArray, List.getElem?_cons_zero, List.getElem?_cons_succ] at d0 d1 d2 d3
            have HX3 := Lib.hid (And.intro (HR.out.2.2.2.2.1.trans HRT.out.ext) (And.intro zl2 (And.intro zr2 zc2)))
            clear bS oL oR oC n1 n2 n3 n4 nB q1 q2 q3 zl2 zr2 zc2
            obtain ⟨la, hla⟩ : ∃ z, L2.length = z := ⟨_, rfl⟩
            obtain ⟨lb, hlb⟩ : ∃ z, R2.length = z := ⟨_, rfl⟩
            obtain ⟨lc, hlc⟩ : ∃ z, C2.length = z := ⟨_, rfl⟩
            rw [hla, hlb, hlc] at CK
            rw [hla] at d1
            rw [hlb] at d2
            rw [hlc] at d3
            have HLN := Lib.hid (And.intro hla (And.intro hlb hlc))
            have CK := CK wc (Ext.refl _)
            clear hla hlb hlc
            go_upto_region 7 with fail
            go_wp2_with fail
            refine CK.mono ?_
            rintro e w5 ⟨hchk, hx5⟩
            clear CK
            have d0 := hx5.cell d0
            have e25 : Ext w2 w5 := HRT.out.ext.trans hx5
            have eW5 : Ext W w5 := HX3.out.1.trans hx5
            rcases hchk with ⟨hok, u, rfl, An, cn, Aw, cw, rfl, oN, oW⟩ | ⟨hno, rfl⟩
            · have hb2 : la + lb + lc ≤ 300 := by
                unfold prfOk at hok
                simp only [Bool.and_eq_true, decide_eq_true_eq] at hok
                have h9 := hok.1.1.2
                have e9 : (proofX ⟨n, L2, R2, C2⟩).ws.length = L2.length + R2.length + C2.length := by simp [proofX]; omega
                rw [e9] at h9
                have := HLN.out
                omega
              have CN2 := fun V (h : Ext w2 V) => count_c gx gl gr gc ml mr mc n (2 * n + 2) m.sy m.st (.slice Am lr cm) L' R' C' L2 R2 C2 V (Blk.ext HR.out.2.2.1.clo h) ⟨(HR.out.2.2.1.l.ext h).tight HR.out.2.2.2.2.2.1 (by omega) HSO.out.1, HR.out.2.2.2.2.2.1, HSO.out.1⟩ ⟨(HR.out.2.2.1.r.ext h).tight HR.out.2.2.2.2.2.2.1 (by omega) HSO.out.2.1, HR.out.2.2.2.2.2.2.1, HSO.out.2.1⟩ ⟨(HR.out.2.2.1.c.ext h).tight HR.out.2.2.2.2.2.2.2 (by omega) HSO.out.2.2, HR.out.2.2.2.2.2.2.2, HSO.out.2.2⟩ (by omega) (by omega) (by have := HLN.out; omega) (by have := HLN.out; omega) (by have := HLN.out; omega)
              obtain ⟨b2, hb2e⟩ : ∃ b, L2.length + R2.length + C2.length = b := ⟨_, rfl⟩
              rw [hb2e] at CN2
              have HB2 : Hid (L2.length + R2.length + C2.length = b2 ∧ b2 ≤ 300) := Lib.hid ⟨hb2e, by have := HLN.out; omega⟩
              have P5 : PrfO wc.heap.size w5 (.agg #[.int .i64 (proofX ⟨n, L2, R2, C2⟩).k, .slice An (proofX ⟨n, L2, R2, C2⟩).ns.length cn, .slice Aw (proofX ⟨n, L2, R2, C2⟩).ws.length cw]) (proofX ⟨n, L2, R2, C2⟩) := ⟨An, cn, Aw, cw, rfl, oN, oW⟩
              obtain ⟨P, hP⟩ : ∃ q, proofX ⟨n, L2, R2, C2⟩ = q := ⟨_, rfl⟩
              rw [hP] at P5
              rw [show (proofX ⟨n, L2, R2, C2⟩).k = P.k by rw [hP], show (proofX ⟨n, L2, R2, C2⟩).ns.length = P.ns.length by rw [hP], show (proofX ⟨n, L2, R2, C2⟩).ws.length = P.ws.length by rw [hP]]
              obtain ⟨pk, hpk⟩ : ∃ q, P.k = q := ⟨_, rfl⟩
              obtain ⟨pn, hpn⟩ : ∃ q, P.ns.length = q := ⟨_, rfl⟩
              obtain ⟨pw, hpw⟩ : ∃ q, P.ws.length = q := ⟨_, rfl⟩
              rw [hpk, hpn, hpw] at P5 ⊢
              obtain ⟨V, hV⟩ : ∃ V, w5.alloc (.cells #[.int .i64 pk, .slice An pn cn, .slice Aw pw cw] 34) = V := ⟨_, rfl⟩
              obtain ⟨gq, hgq⟩ : ∃ q, w5.heap.size = q := ⟨_, rfl⟩
              have hxv : Ext w5 V := by rw [← hV]; exact Ext.alloc _ _
              have bV : Blk V gq 34 #[.int .i64 pk, .slice An pn cn, .slice Aw pw cw] := by rw [← hV]; exact Blk.new _ _ _ _ hgq
              have CN2 := CN2 V (e25.trans hxv)
              have HP := Lib.hid (And.intro (P5.ext hxv) (And.intro bV (And.intro (e25.trans hxv) (And.intro (eW5.trans hxv) (And.intro hP hok)))))
              clear hok oN oW P5 bV hxv e25 eW5 hx5 hP hpk hpn hpw hb2 hb2e d0 d1 d2 d3
              go_upto_region 8 with fail
              try rw [hV]
              try rw [hgq]
              clear hV hgq
              go_wp2_with fail
              refine CN2.mono ?_
              rintro e w6 ⟨rfl, hx6⟩
              clear CN2
              by_cases heq : b2 = b0
              · have hbb : ((b2 : Int) == (b0 : Int)) = true := by simp [heq]
                have HEQ := Lib.hid heq
                have eW6 : Ext W w6 := HP.out.2.2.2.1.trans hx6
                have bV6 := HP.out.2.1.ext hx6
                have d0 := bV6.cell 0
                have d1 := bV6.cell 1
                have d2 := bV6.cell 2
                have bO := HH.out.2.2.1.ext eW6
                have o0 := bO.cell 0
                have o1 := bO.cell 1
                have o2 := bO.cell 2
                have z0 := bO.frozen 0
                have z1 := bO.frozen 1
                have z2 := bO.frozen 2
                simp only [List.getElem?_toArray, List.getElem?_cons_zero, List.getElem?_cons_succ] at d0 d1 d2 o0 o1 o2
                have HFIN : Hid (PrfO w.heap.size (((w6.setCell ⟨g + 1, 0, none⟩ (.int .i64 pk)).setCell ⟨g + 1, 1, none⟩ (.slice An pn cn)).setCell ⟨g + 1, 2, none⟩ (.slice Aw pw cw)) (.agg #[.int .i64 pk, .slice An pn cn, .slice Aw pw cw]) (proofX ⟨n, L2, R2, C2⟩) ∧ Ext w (((w6.setCell ⟨g + 1, 0, none⟩ (.int .i64 pk)).setCell ⟨g + 1, 1, none⟩ (.slice An pn cn)).setCell ⟨g + 1, 2, none⟩ (.slice Aw pw cw))) := Lib.hid (by
                  have hgw := HH.out.2.2.2.2.1
                  have b0' := bO.set_ 0 (.int .i64 pk)
                  have b1' := b0'.set_ 1 (.slice An pn cn)
                  rw [HP.out.2.2.2.2.1]
                  have hwc : w.heap.size ≤ wc.heap.size := by have := HH.out.1.size; have := HX3.out.1.size; omega
                  exact ⟨((((HP.out.1.ext hx6).farX bO (by decide) (by decide) _ _).farX b0' (by decide) (by decide) _ _).farX b1' (by decide) (by decide) _ _).base0 hwc, (((HH.out.1.trans eW6).setCell (p := ⟨g + 1, 0, none⟩) (by simp only; omega) _).setCell (p := ⟨g + 1, 1, none⟩) (by simp only; omega) _).setCell (p := ⟨g + 1, 2, none⟩) (by simp only; omega) _⟩)
                have HFND : Hid (∃ s : SetsD, s = ⟨n, L2, R2, C2⟩ ∧ prfOk (proofX s) = true ∧ s.n = n ∧ SetsOk s ∧ SetsIn m.sy m.st s ∧ Closed m s ∧ riseB s.l = true ∧ riseB s.r = true ∧ riseB s.c = true ∧ s.l.length ≤ 300 ∧ s.r.length ≤ 300 ∧ s.c.length ≤ 300) := Lib.hid (by
                  obtain ⟨so1, so2, so3⟩ := HSO.out
                  have hR := HR.out.2.1
                  have hb := HB2.out
                  have hb0 := HB0.out
                  refine ⟨_, rfl, HP.out.2.2.2.2.2, rfl, ⟨hn1, hn4, fun x hx => (hR.il x ((so1.mem x).1 hx)).1, fun x hx => (hR.ir x ((so2.mem x).1 hx)).1, fun x hx => (hR.ic x ((so3.mem x).1 hx)).1⟩, ⟨fun x hx => (hR.il x ((so1.mem x).1 hx)).2, fun x hx => (hR.ir x ((so2.mem x).1 hx)).2, fun x hx => (hR.ic x ((so3.mem x).1 hx)).2⟩, ?_, so1.riseB, so2.riseB, so3.riseB, by simp only; omega, by simp only; omega, by simp only; omega⟩
                  exact closed_of HF1.out.sl HF1.out.sr HF1.out.sc HR.out.1 hR so1 so2 so3 hn1 hn4 HF1.out.zl HF1.out.zr HF1.out.zc (by omega))
                clear bV6 bO eW6 hx6 heq
                go_wp2
                refine bodyPost_ret (v := .tuple #[.agg #[.int .i64 pk, .slice An pn cn, .slice Aw pw cw], .int .i64 0]) (by simp [results, Tryz.results25, go_sem, o0, o1, o2]) rfl ?_
                obtain ⟨s, hs, h1⟩ := HFND.out
                refine ⟨.inl ⟨s, _, rfl, by rw [hs]; exact HFIN.out.1, h1⟩, HFIN.out.2⟩
              · have hbb : ((b2 : Int) == (b0 : Int)) = false := by simp; omega
                have HREL : Hid (FcS W w6 gx gl gr gc ml mr mc n m (.slice Am lr cm) L2 R2 C2 ∧ mapSz w6 ml + mapSz w6 mr + mapSz w6 mc = b2 ∧ b0 < b2 ∧ b2 ≤ 300) := Lib.hid (by
                  obtain ⟨so1, so2, so3⟩ := HSO.out
                  obtain ⟨hS0, hR, hW, _, _, gL, gR, gC⟩ := HR.out
                  have e26 := HP.out.2.2.1.trans hx6
                  have hW6 := hW.ext e26
                  have t1 := hW6.l.tight gL (by omega) so1
                  have t2 := hW6.r.tight gR (by omega) so2
                  have t3 := hW6.c.tight gC (by omega) so3
                  have m1 := hW6.l.tab.mapSz gL (by omega) so1.nodup so1.mem
                  have m2 := hW6.r.tab.mapSz gR (by omega) so2.nodup so2.mem
                  have m3 := hW6.c.tab.mapSz gC (by omega) so3.nodup so3.mem
                  have hb := HB2.out
                  have hb0 := HB0.out
                  have l1 := nodup_len HF1.out.sl.nodup (fun x hx => (so1.mem x).2 (hR.sl x hx))
                  have l2 := nodup_len HF1.out.sr.nodup (fun x hx => (so2.mem x).2 (hR.sr x hx))
                  have l3 := nodup_len HF1.out.sc.nodup (fun x hx => (so3.mem x).2 (hR.sc x hx))
                  rw [← so1.anyT] at t1
                  rw [← so2.anyT] at t2
                  rw [← so3.anyT] at t3
                  refine ⟨⟨⟨hW6.clo, t1, t2, t3, MapsO.of_ext (Ext.refl _)⟩, HF1.out.ap, HF1.out.lo, HP.out.2.2.2.1.trans hx6, so1.self, so2.self, so3.self, fun x hx => hR.il x ((so1.mem x).1 hx), fun x hx => hR.ir x ((so2.mem x).1 hx), fun x hx => hR.ic x ((so3.mem x).1 hx), HX3.out.2.1, HX3.out.2.2.1, HX3.out.2.2.2, by omega⟩, by omega, by omega, by omega⟩)
                clear hx6 heq
                go_wp2
                go_roundw
                case rel => exact ⟨L2, R2, C2, Lib.hid HREL.out.1⟩
                case measure => have := HREL.out.2; have := HME.out; omega
            · clear hno
              obtain ⟨V, hV⟩ : ∃ V, V = w5.alloc (.cells #[.int .i64 0, .slice none 0 0, .slice none 0 0] 34) := ⟨_, rfl⟩
              obtain ⟨gq, hgq⟩ : ∃ q, w5.heap.size = q := ⟨_, rfl⟩
              have hxv : Ext w5 V := by rw [hV]; exact Ext.alloc _ _
              have bV : Blk V gq 34 #[.int .i64 0, .slice none 0 0, .slice none 0 0] := by rw [hV]; exact Blk.new _ _ _ _ hgq
              have eWV : Ext W V := eW5.trans hxv
              have c0 := bV.cell 0
              have c1 := bV.cell 1
              have c2 := bV.cell 2
              have bO := HH.out.2.2.1.ext eWV
              have o0 := bO.cell 0
              have o1 := bO.cell 1
              have o2 := bO.cell 2
              have z0 := bO.frozen 0
              have z1 := bO.frozen 1
              have z2 := bO.frozen 2
              simp only [List.getElem?_toArray, List.getElem?_cons_zero, List.getElem?_cons_succ] at c0 c1 c2 o0 o1 o2
              have HFIN : Hid (Ext w (((V.setCell ⟨g + 1, 0, none⟩ (.int .i64 0)).setCell ⟨g + 1, 1, none⟩ (.slice none 0 0)).setCell ⟨g + 1, 2, none⟩ (.slice none 0 0))) := Lib.hid (by
                have hgw := HH.out.2.2.2.2.1
                exact (((HH.out.1.trans eWV).setCell (p := ⟨g + 1, 0, none⟩) (by simp only; omega) _).setCell (p := ⟨g + 1, 1, none⟩) (by simp only; omega) _).setCell (p := ⟨g + 1, 2, none⟩) (by simp only; omega) _)
              clear bV bO eWV hxv eW5 e25 hx5 d0 d1 d2 d3
              go_upto_region 8 with fail
              try rw [← hV]
              try rw [hgq]
              clear hV hgq
              go_wp2
              refine bodyPost_ret (v := .tuple #[.agg #[.int .i64 0, .slice none 0 0, .slice none 0 0], .int .i64 5]) (by simp [results, Tryz.results25, go_sem, o0, o1, o2]) rfl ?_
              exact ⟨.inr (.inr rfl), HFIN.out⟩
end Go.Proofs.YtapjofbjedpmgaaGreat
end
section
set_option linter.unusedSimpArgs false
set_option linter.unusedVariables false
namespace Go.Proofs.YtapjofbjedpmgaaGreat
open Go Go.RowKit Go.Proofs
set_option maxHeartbeats 400000
def FnyR (base : Nat) (m : MachD) (e : Ending) (w' : World) : Prop :=
  (∃ s u, e = .returned (.tuple #[u, .int .i64 0]) ∧ PrfO base w' u (proofX s) ∧ prfOk (proofX s) = true ∧ SetsOk s ∧ SetsIn m.sy m.st s ∧ Closed m s ∧ riseB s.l = true ∧ riseB s.r = true ∧ riseB s.c = true ∧ s.l.length ≤ 300 ∧ s.r.length ≤ 300 ∧ s.c.length ≤ 300) ∨
    (∃ cd : Int, (cd = 3 ∨ cd = 5) ∧ e = .returned (.tuple #[.agg #[.int .i64 0, .slice none 0 0, .slice none 0 0], .int .i64 cd]))
set_option maxRecDepth 200000 in
set_option maxHeartbeats 8000000 in
theorem FindAnyContexts_c (N : Nat) (m : MachD) (rv : Value) (w : World) (hr : Rules w rv m.rules) (hm : machOk m = true) (hn1 : 1 ≤ N) (hn4 : N ≤ 4) :
    Calls Tryz.prog 7 #[.agg #[.int .i64 m.sy, .int .i64 m.st, rv], .int .i64 (N : Int)] w fun e w' => FnyR w.heap.size m e w' ∧ Ext w w' := by
  obtain ⟨Am, cm, rfl, _, _⟩ := id hr.form
  obtain ⟨W, hW⟩ : ∃ W, W = (w.alloc (.cells #[.int .i64 m.sy, .int .i64 m.st, .slice Am m.rules.length cm] 26)).alloc (.cells #[.int .i64 0, .slice none 0 0, .slice none 0 0] 34) := ⟨_, rfl⟩
  obtain ⟨g, hg⟩ : ∃ g, w.heap.size = g := ⟨_, rfl⟩
  have hX : Ext w W := by rw [hW]; exact (Ext.alloc _ _).trans (Ext.alloc _ _)
  have bM : Blk W g 26 #[.int .i64 m.sy, .int .i64 m.st, .slice Am m.rules.length cm] := by rw [hW]; exact (Blk.new _ _ _ _ hg).alloc _
  have bO : Blk W (g + 1) 34 #[.int .i64 0, .slice none 0 0, .slice none 0 0] := by rw [hW]; exact Blk.new _ _ _ _ (by simp [hg])
  have VM := ValidMachine_c (.agg #[.int .i64 m.sy, .int .i64 m.st, .slice Am m.rules.length cm]) m W ⟨_, rfl, hr.ext hX⟩
  rw [hm] at VM
  have hcs := contextSizeOk_c (N : Int)
  have hin : inB (N : Int) 1 4 = true := inB_true ⟨by omega, by omega⟩
  rw [hin] at hcs
  have m0 := bM.cell 0
  have m1 := bM.cell 1
  have m2 := bM.cell 2
  simp only [List.getElem?_toArray, List.getElem?_cons_zero, List.getElem?_cons_succ] at m0 m1 m2
  have HH := Lib.hid (And.intro hX (And.intro bM (And.intro bO (And.intro (hr.ext hX) (And.intro hg hm)))))
  obtain ⟨lr, hlr⟩ : ∃ k, m.rules.length = k := ⟨_, rfl⟩
  rw [hlr] at m2 hW VM ⊢
  have HLR := Lib.hid hlr
  clear hX bM bO hr hm hlr hin
  go_enter Tryz.func7, Tryz.ntmps7
  go_upto_region 1 with fail
  try rw [← hW]
  try rw [hg]
  clear hW hg
  go_wp2_with fail
  refine VM.mono ?_
  rintro e w1 ⟨rfl, hx1⟩
  clear VM
  go_wp2_with fail
  refine (hcs _).mono ?_
  rintro e w2 ⟨rfl, rfl⟩
  clear hcs
  obtain ⟨V, hV⟩ : ∃ V, V = w1.alloc (.cells #[.int .i64 0, .slice none 0 0, .slice none 0 0] 34) := ⟨_, rfl⟩
  obtain ⟨gp, hgp⟩ : ∃ g, w1.heap.size = g := ⟨_, rfl⟩
  have hxv : Ext w1 V := by rw [hV]; exact Ext.alloc _ _
  have bP : Blk V gp 34 #[.int .i64 0, .slice none 0 0, .slice none 0 0] := by rw [hV]; exact Blk.new _ _ _ _ hgp
  have hglo : W.heap.size ≤ gp := by have := hx1.size; omega
  have HV := Lib.hid (And.intro bP (hx1.trans hxv))
  clear bP hxv hx1 m0 m1 m2
  go_upto_region 6 with fail
  try rw [← hV]
  try rw [hgp]
  clear hV hgp
  go_wp2
  go_loopw [7, 19] (fun cv i wr => ∃ (k : Nat) (cd : Int), k ≤ N ∧ i = .int .i64 (k : Int) ∧ cv = .int .i64 cd ∧ Hid ((k = 0 ∨ cd = 3 ∨ cd = 5) ∧ Blk wr gp 34 #[.int .i64 0, .slice none 0 0, .slice none 0 0] ∧ Ext W wr)) (fun _ i _ => N - (intOf i).toNat)
  case atStart => exact ⟨0, 0, Nat.zero_le _, rfl, rfl, Lib.hid ⟨.inl rfl, HV.out⟩⟩
  case round =>
    clear HV
    obtain ⟨k, cd, hk, rfl, rfl, HR⟩ := hrel
    by_cases hlt : k < N
    · have hd : decide ((k : Int) < (N : Int)) = true := decide_eq_true (by omega)
      have hd' : (k : Int) < (N : Int) := by omega
      have hwk : IntKind.i64.wrap ((k : Int) + 1) = ((k + 1 : Nat) : Int) := by rw [show (k : Int) + 1 = ((k + 1 : Nat) : Int) by omega]; exact IntWalk.i64_in _ (by omega)
      obtain ⟨k3, hk3⟩ : ∃ q, k + 1 = q := ⟨_, rfl⟩
      rw [hk3] at hwk
      have FC := findContexts_c k3 m (.slice Am lr cm) wr (by have := HH.out.2.2.2.1.ext HR.out.2.2; rw [HLR.out] at this; exact this) HH.out.2.2.2.2.2 (by omega) (by omega)
      have HK3 := Lib.hid hk3
      clear hk3
      have bM := HH.out.2.1.ext HR.out.2.2
      rw [HLR.out] at bM
      have m0 := bM.cell 0
      have m1 := bM.cell 1
      have m2 := bM.cell 2
      simp only [List.getElem?_toArray, List.getElem?_cons_zero, List.getElem?_cons_succ] at m0 m1 m2
      clear bM
      go_wp2_with fail
      refine FC.mono ?_
      rintro e w5 ⟨hfnd, hx5⟩
      clear FC m0 m1 m2
      have bP5 := HR.out.2.1.ext hx5
      have y0 := bP5.cell 0
      have y1 := bP5.cell 1
      have y2 := bP5.cell 2
      have f0 := bP5.frozen 0
      have f1 := bP5.frozen 1
      have f2 := bP5.frozen 2
      simp only [List.getElem?_toArray, List.getElem?_cons_zero, List.getElem?_cons_succ] at y0 y1 y2
      have eW5 := HR.out.2.2.trans hx5
      rcases hfnd with ⟨s, u, rfl, ⟨An, cn, Aw, cw, rfl, oN, oW⟩, h1, _, h2, h3, h4, h5, h6, h7, h8, h9, h10⟩ | hfail
      · have P5 : PrfO wr.heap.size w5 (.agg #[.int .i64 (proofX s).k, .slice An (proofX s).ns.length cn, .slice Aw (proofX s).ws.length cw]) (proofX s) := ⟨An, cn, Aw, cw, rfl, oN, oW⟩
        have HS := Lib.hid (And.intro h1 (And.intro h2 (And.intro h3 (And.intro h4 (And.intro h5 (And.intro h6 (And.intro h7 (And.intro h8 (And.intro h9 h10)))))))))
        clear h1 h2 h3 h4 h5 h6 h7 h8 h9 h10 oN oW
        obtain ⟨pk, hpk⟩ : ∃ q, (proofX s).k = q := ⟨_, rfl⟩
        obtain ⟨pn, hpn⟩ : ∃ q, (proofX s).ns.length = q := ⟨_, rfl⟩
        obtain ⟨pw, hpw⟩ : ∃ q, (proofX s).ws.length = q := ⟨_, rfl⟩
        rw [hpk, hpn, hpw] at P5 ⊢
        have b0 := bP5.set_ 0 (.int .i64 pk)
        have b1 := b0.set_ 1 (.slice An pn cn)
        have b2 := b1.set_ 2 (.slice Aw pw cw)
        have P6 := ((P5.farX bP5 (by decide) (by decide) 0 (.int .i64 pk)).farX b0 (by decide) (by decide) 1 (.slice An pn cn)).farX b1 (by decide) (by decide) 2 (.slice Aw pw cw)
        have eW6 : Ext W (((w5.setCell ⟨gp, 0, none⟩ (.int .i64 pk)).setCell ⟨gp, 1, none⟩ (.slice An pn cn)).setCell ⟨gp, 2, none⟩ (.slice Aw pw cw)) := ((eW5.setCell (p := ⟨gp, 0, none⟩) hglo _).setCell (p := ⟨gp, 1, none⟩) hglo _).setCell (p := ⟨gp, 2, none⟩) hglo _
        have B6 : Blk (((w5.setCell ⟨gp, 0, none⟩ (.int .i64 pk)).setCell ⟨gp, 1, none⟩ (.slice An pn cn)).setCell ⟨gp, 2, none⟩ (.slice Aw pw cw)) gp 34 #[.int .i64 pk, .slice An pn cn, .slice Aw pw cw] := by simpa using b2
        obtain ⟨V, hV⟩ : ∃ V, V = (((w5.setCell ⟨gp, 0, none⟩ (.int .i64 pk)).setCell ⟨gp, 1, none⟩ (.slice An pn cn)).setCell ⟨gp, 2, none⟩ (.slice Aw pw cw)) := ⟨_, rfl⟩
        rw [← hV] at P6 eW6 B6
        have d0 := B6.cell 0
        have d1 := B6.cell 1
        have d2 := B6.cell 2
        have bO := HH.out.2.2.1.ext eW6
        have o0 := bO.cell 0
        have o1 := bO.cell 1
        have o2 := bO.cell 2
        have z0 := bO.frozen 0
        have z1 := bO.frozen 1
        have z2 := bO.frozen 2
        simp only [List.getElem?_toArray, List.getElem?_cons_zero, List.getElem?_cons_succ] at d0 d1 d2 o0 o1 o2
        have HFIN : Hid (PrfO w.heap.size (((V.setCell ⟨g + 1, 0, none⟩ (.int .i64 pk)).setCell ⟨g + 1, 1, none⟩ (.slice An pn cn)).setCell ⟨g + 1, 2, none⟩ (.slice Aw pw cw)) (.agg #[.int .i64 pk, .slice An pn cn, .slice Aw pw cw]) (proofX s) ∧ Ext w (((V.setCell ⟨g + 1, 0, none⟩ (.int .i64 pk)).setCell ⟨g + 1, 1, none⟩ (.slice An pn cn)).setCell ⟨g + 1, 2, none⟩ (.slice Aw pw cw))) := Lib.hid (by
          have hgw := HH.out.2.2.2.2.1
          have c0 := bO.set_ 0 (.int .i64 pk)
          have c1 := c0.set_ 1 (.slice An pn cn)
          have hwr : w.heap.size ≤ wr.heap.size := (HH.out.1.trans HR.out.2.2).size
          exact ⟨(((P6.farX bO (by decide) (by decide) _ _).farX c0 (by decide) (by decide) _ _).farX c1 (by decide) (by decide) _ _).base0 hwr, (((HH.out.1.trans eW6).setCell (p := ⟨g + 1, 0, none⟩) (by simp only; omega) _).setCell (p := ⟨g + 1, 1, none⟩) (by simp only; omega) _).setCell (p := ⟨g + 1, 2, none⟩) (by simp only; omega) _⟩)
        clear P5 P6 b0 b1 b2 B6 eW6 eW5 bO bP5 hx5 hpk hpn hpw
        go_upto_region 10 with fail
        try rw [← hV]
        clear hV y0 y1 y2 f0 f1 f2
        go_wp2
        refine bodyPost_ret (v := .tuple #[.agg #[.int .i64 pk, .slice An pn cn, .slice Aw pw cw], .int .i64 0]) (by simp [results, Tryz.results7, go_sem, o0, o1, o2]) rfl ?_
        exact ⟨.inl ⟨s, _, rfl, HFIN.out.1, HS.out⟩, HFIN.out.2⟩
      · obtain ⟨c5, hc5, rfl⟩ : ∃ c5 : Int, (c5 = 3 ∨ c5 = 5) ∧ e = .returned (.tuple #[.agg #[.int .i64 0, .slice none 0 0, .slice none 0 0], .int .i64 c5]) := by
          rcases hfail with h | h
          · exact ⟨3, .inl rfl, h⟩
          · exact ⟨5, .inr rfl, h⟩
        have hne : (c5 == 0) = false := by rcases hc5 with h | h <;> subst h <;> rfl
        have HREL : Hid ((k + 1 = 0 ∨ c5 = 3 ∨ c5 = 5) ∧ Blk (((w5.setCell ⟨gp, 0, none⟩ (.int .i64 0)).setCell ⟨gp, 1, none⟩ (.slice none 0 0)).setCell ⟨gp, 2, none⟩ (.slice none 0 0)) gp 34 #[.int .i64 0, .slice none 0 0, .slice none 0 0] ∧ Ext W (((w5.setCell ⟨gp, 0, none⟩ (.int .i64 0)).setCell ⟨gp, 1, none⟩ (.slice none 0 0)).setCell ⟨gp, 2, none⟩ (.slice none 0 0))) := Lib.hid (by
          have b2 := ((bP5.set_ 0 (.int .i64 0)).set_ 1 (.slice none 0 0)).set_ 2 (.slice none 0 0)
          exact ⟨.inr hc5, by simpa using b2, ((eW5.setCell (p := ⟨gp, 0, none⟩) hglo _).setCell (p := ⟨gp, 1, none⟩) hglo _).setCell (p := ⟨gp, 2, none⟩) hglo _⟩)
        clear hfail hc5 eW5 bP5 hx5
        go_wp2
        go_roundw
        case rel => exact ⟨k + 1, c5, by omega, by rw [HK3.out], rfl, HREL⟩
        case measure => have := HK3.out; simp [intOf]; omega
    · have hd : decide ((k : Int) < (N : Int)) = false := decide_eq_false (by omega)
      have hd' : ¬ (k : Int) < (N : Int) := by omega
      have hcd : cd = 3 ∨ cd = 5 := by rcases HR.out.1 with h | h; omega; exact h
      have bP := HR.out.2.1
      have eW := HR.out.2.2
      have d0 := bP.cell 0
      have d1 := bP.cell 1
      have d2 := bP.cell 2
      have bO := HH.out.2.2.1.ext eW
      have o0 := bO.cell 0
      have o1 := bO.cell 1
      have o2 := bO.cell 2
      have z0 := bO.frozen 0
      have z1 := bO.frozen 1
      have z2 := bO.frozen 2
      simp only [List.getElem?_toArray, List.getElem?_cons_zero, List.getElem?_cons_succ] at d0 d1 d2 o0 o1 o2
      have HFIN : Hid (Ext w (((wr.setCell ⟨g + 1, 0, none⟩ (.int .i64 0)).setCell ⟨g + 1, 1, none⟩ (.slice none 0 0)).setCell ⟨g + 1, 2, none⟩ (.slice none 0 0))) := Lib.hid (by
        have hgw := HH.out.2.2.2.2.1
        exact (((HH.out.1.trans eW).setCell (p := ⟨g + 1, 0, none⟩) (by simp only; omega) _).setCell (p := ⟨g + 1, 1, none⟩) (by simp only; omega) _).setCell (p := ⟨g + 1, 2, none⟩) (by simp only; omega) _)
      have HCD := Lib.hid hcd
      clear bP bO eW hcd
      go_wp2
      refine bodyPost_ret (v := .tuple #[.agg #[.int .i64 0, .slice none 0 0, .slice none 0 0], .int .i64 cd]) (by simp [results, Tryz.results7, go_sem, o0, o1, o2]) rfl ?_
      exact ⟨.inr ⟨cd, HCD.out, rfl⟩, HFIN.out⟩
end Go.Proofs.YtapjofbjedpmgaaGreat
end
section
set_option linter.unusedSimpArgs false
set_option linter.unusedVariables false
namespace Go.Proofs.YtapjofbjedpmgaaGreat
open Go Go.RowKit Go.Proofs
set_option maxHeartbeats 400000
theorem winL_good {xs : List Int} {n : Nat} (hz : ∀ z ∈ xs, smallQ z) : GoodL n (winL xs n xs.length) := by
  refine ⟨fun x hx => ?_, fun x hx => ?_⟩
  · unfold winL at hx
    rcases List.mem_cons.1 hx with rfl | hx
    · simp
    · obtain ⟨i, _, rfl⟩ := List.mem_map.1 hx
      exact cellsF_len _ _ _
  · unfold winL at hx
    rcases List.mem_cons.1 hx with rfl | hx
    · intro z hz; rw [(List.mem_replicate.1 hz).2]; simp [smallQ]
    · obtain ⟨i, _, rfl⟩ := List.mem_map.1 hx
      exact cellsF_small hz _ _
theorem winL_length (xs : List Int) (n k : Nat) : (winL xs n k).length = 1 + (k - 1) := by unfold winL; simp; omega
theorem all_sort {L S : List (List Int)} (h : SortOf L S) (p : List Int → Bool) : S.all p = L.all p := by
  rw [Bool.eq_iff_iff, List.all_eq_true, List.all_eq_true]
  exact ⟨fun a x hx => a x ((h.mem x).2 hx), fun a x hx => a x ((h.mem x).1 hx)⟩
theorem joinCtx_c (g1 : Nat) (v1 v2 : Value) (x1 x2 : List Int) (wr : World) (hg : wr.heap.size = g1) (h1 : Ints wr v1 x1) (h2 : Ints wr v2 x2) (f1 : Flat v1) (f2 : Flat v2) (hl : x1.length + x2.length ≤ 1000) :
    Calls Tryz.prog 35 #[.slice (some ⟨g1, 0, none⟩) 2 2] (wr.alloc (.cells #[v1, v2] 27)) fun e w' => ∃ u, e = .returned u ∧ OwnInts g1 w' u (x1 ++ x2) ∧ Ext wr w' := by
  have hx := Ext.alloc wr (.cells #[v1, v2] 27)
  have b2 : Blk (wr.alloc (.cells #[v1, v2] 27)) g1 27 #[v1, v2] := Blk.new _ _ _ _ hg
  refine (joinedB_c g1 [v1, v2] [x1, x2] _ b2 rfl (fun i hi => ?_) (by simp) (by simp [tot]; omega)).mono ?_
  · match i, hi with
    | 0, _ => exact ⟨_, rfl, h1.ext hx, f1⟩
    | 1, _ => exact ⟨_, rfl, h2.ext hx, f2⟩
  · rintro e w' ⟨u, rfl, o, x⟩
    have e2 : [x1, x2].flatten = x1 ++ x2 := by simp
    rw [e2] at o
    exact ⟨u, rfl, ownsRow_base o (by have := hx.size; omega), hx.trans x⟩
set_option maxRecDepth 200000 in
set_option maxHeartbeats 8000000 in
theorem IsCovered_c (rvm lv rv : Value) (vp : Value) (m : MachD) (p : ProofD) (s : SetsD) (c : ConfD) (w : World) (hr : Rules w rvm m.rules) (hm : machOk m = true) (h : PrfL w vp p) (hp : prfOk p = true) (hs : setsB p = true) (h4 : 4 ≤ p.ns.length) (hS : setsP p = s)
    (hO : SetsOk s) (gl : GoodL s.n s.l) (gr : GoodL s.n s.r) (gc : GoodL (2 * s.n + 2) s.c) (hlen : s.l.length ≤ 1000 ∧ s.r.length ≤ 1000 ∧ s.c.length ≤ 1000) (hl : Ints w lv c.l) (hq : Ints w rv c.r) (hc : confB m c = true) :
    Calls Tryz.prog 9 #[.agg #[.int .i64 m.sy, .int .i64 m.st, rvm], vp, .agg #[.int .i64 c.q, lv, rv]] w fun e w' => e = .returned (.bool (covX s c)) ∧ Ext w w' := by
  obtain ⟨Am, cm, rfl, _, _⟩ := id hr.form
  obtain ⟨A1, c1, rfl, _, _⟩ := id hl.form
  obtain ⟨A2, c2, rfl, _, _⟩ := id hq.form
  obtain ⟨nv, wv, rfl, hn, hw⟩ := id h
  obtain ⟨An, cn, rfl, _, _⟩ := id hn.form
  obtain ⟨Aw, cw, rfl, _, _⟩ := id hw.form
  obtain ⟨⟨s1, s2, s3, s4⟩, _, _⟩ := machOk_five hm
  have hcb := hc
  simp only [confB, sideOk, Bool.and_eq_true, decide_eq_true_eq, List.all_eq_true, inB_iff] at hcb
  obtain ⟨⟨⟨q0, q1⟩, ⟨⟨ll, lz⟩, _⟩⟩, ⟨⟨rl, rz⟩, _⟩⟩ := hcb
  have zl : ∀ z ∈ c.l, smallQ z := fun z hz => by have := lz z hz; exact ⟨by omega, by omega⟩
  have zr : ∀ z ∈ c.r, smallQ z := fun z hz => by have := rz z hz; exact ⟨by omega, by omega⟩
  have zr1 : ∀ z ∈ c.r.drop 1, smallQ z := fun z hz => zr z (List.mem_of_mem_drop hz)
  have zx : ∀ z ∈ c.q :: ctxF c s.n, smallQ z := fun z hz => by
    rcases List.mem_cons.1 hz with rfl | hz
    · exact ⟨by omega, by omega⟩
    · unfold ctxF at hz
      rcases List.mem_append.1 hz with hz | hz
      · exact cellsF_small zl _ _ z hz
      · exact cellsF_small zr _ _ z hz
  have n1 := hO.n1
  have n4 := hO.n4
  obtain ⟨W, hW⟩ : ∃ W, W = ((w.alloc (.cells #[.int .i64 m.sy, .int .i64 m.st, .slice Am m.rules.length cm] 26)).alloc (.cells #[.int .i64 p.k, .slice An p.ns.length cn, .slice Aw p.ws.length cw] 34)).alloc (.cells #[.int .i64 c.q, .slice A1 c.l.length c1, .slice A2 c.r.length c2] 29) := ⟨_, rfl⟩
  obtain ⟨g, hg⟩ : ∃ g, w.heap.size = g := ⟨_, rfl⟩
  have hX : Ext w W := by rw [hW]; exact ((Ext.alloc _ _).trans (Ext.alloc _ _)).trans (Ext.alloc _ _)
  have bM : Blk W g 26 #[.int .i64 m.sy, .int .i64 m.st, .slice Am m.rules.length cm] := by rw [hW]; exact ((Blk.new _ _ _ _ hg).alloc _).alloc _
  have bP : Blk W (g + 1) 34 #[.int .i64 p.k, .slice An p.ns.length cn, .slice Aw p.ws.length cw] := by rw [hW]; exact (Blk.new _ _ _ _ (by simp [hg])).alloc _
  have bC : Blk W (g + 1 + 1) 29 #[.int .i64 c.q, .slice A1 c.l.length c1, .slice A2 c.r.length c2] := by rw [hW]; exact Blk.new _ _ _ _ (by simp [hg])
  have VC := ValidConfig_c _ _ m c W ⟨_, rfl, hr.ext hX⟩ ⟨_, _, rfl, hl.ext hX, hq.ext hX⟩
  rw [hm, hc] at VC
  have SO := fun W' (h' : Ext W W') => setsOf_c _ p W' ((h.ext hX).ext h') hp hs h4
  rw [hS] at SO
  have HG := Lib.hid (And.intro hO (And.intro gl (And.intro gr (And.intro gc (And.intro hlen (And.intro zl (And.intro zr1 zx)))))))
  have HH := Lib.hid (And.intro hX (And.intro bM (And.intro bP (And.intro bC (And.intro (hl.ext hX) (And.intro (hq.ext hX) (And.intro ll rl)))))))
  have m0 := bM.cell 0
  have m1 := bM.cell 1
  have m2 := bM.cell 2
  have p0 := bP.cell 0
  have p1 := bP.cell 1
  have p2 := bP.cell 2
  have c0 := bC.cell 0
  have d1 := bC.cell 1
  have d2 := bC.cell 2
  simp only [List.getElem?_toArray, List.getElem?_cons_zero, List.getElem?_cons_succ] at m0 m1 m2 p0 p1 p2 c0 d1 d2
  clear hX bM bP bC hr hm h hp hs h4 hS hO gl gr gc hlen hl hq hc lz rz zl zr zr1 zx hn hw
  obtain ⟨ln, hln⟩ : ∃ k, p.ns.length = k := ⟨_, rfl⟩
  obtain ⟨lw, hlw⟩ : ∃ k, p.ws.length = k := ⟨_, rfl⟩
  obtain ⟨lr, hlr⟩ : ∃ k, m.rules.length = k := ⟨_, rfl⟩
  rw [hln] at p1 SO
  rw [hlw] at p2 SO
  rw [hlr] at m2 VC
  rw [hln, hlw, hlr] at hW ⊢
  clear hln hlw hlr
  go_enter Tryz.func9, Tryz.ntmps9
  go_upto_region 1 with fail
  try rw [← hW]
  try rw [hg]
  clear hW hg
  go_wp2_with fail
  refine VC.mono ?_
  rintro e w1 ⟨rfl, hx1⟩
  clear VC m0 m1 m2
  have SO := SO w1 hx1
  have p0 := hx1.cell p0
  have p1 := hx1.cell p1
  have p2 := hx1.cell p2
  go_wp2_with fail
  refine SO.mono ?_
  rintro e w2 ⟨⟨u, rfl, Al, cl, Ar, cr, Ac, cc, rfl, oL, oR, oC⟩, hx2⟩
  clear SO p0 p1 p2
  obtain ⟨V, hV⟩ : ∃ V, w2.alloc (.cells #[.int .i64 (s.n : Int), .slice Al s.l.length cl, .slice Ar s.r.length cr, .slice Ac s.c.length cc] 58) = V := ⟨_, rfl⟩
  obtain ⟨gs, hgs⟩ : ∃ q, w2.heap.size = q := ⟨_, rfl⟩
  have hxv : Ext w2 V := by rw [← hV]; exact Ext.alloc _ _
  have bV : Blk V gs 58 #[.int .i64 (s.n : Int), .slice Al s.l.length cl, .slice Ar s.r.length cr, .slice Ac s.c.length cc] := by rw [← hV]; exact Blk.new _ _ _ _ hgs
  have hWV := (hx1.trans hx2).trans hxv
  have HV := Lib.hid (And.intro bV (And.intro (oL.lists.ext hxv) (And.intro (oR.lists.ext hxv) (And.intro (oC.lists.ext hxv) hWV))))
  clear bV hxv hx1 hx2 oL oR oC
  go_upto_region 6 with fail
  try rw [hV]
  try rw [hgs]
  clear hV hgs
  have c0 := hWV.cell c0
  have d1 := hWV.cell d1
  have d2 := hWV.cell d2
  have e0 := HV.out.1.cell 0
  have e1 := HV.out.1.cell 1
  have e2 := HV.out.1.cell 2
  have e3 := HV.out.1.cell 3
  simp only [List.getElem?_toArray, List.getElem?_cons_zero, List.getElem?_cons_succ] at e0 e1 e2 e3
  clear hWV
  obtain ⟨X, hXX⟩ : ∃ q, ctxF c s.n = q := ⟨_, rfl⟩
  have hXl : X.length = 2 * s.n + 1 := by rw [← hXX, ctxF_len]
  have HXX := Lib.hid (And.intro hXX hXl)
  clear hXX hXl
  go_cut [9] (fun u wx => OwnInts V.heap.size wx u (c.q :: X) ∧ Ext V wx)
  case first =>
    refine wp_region_ordT 7 (readsT [0, 1, 3, 4, 5] (.fork 2 (.stir 6 .done) 6 (.stir 2 .done))) (by kernel_rfl) (by kernel_rfl) (fun _ _ _ _ _ h => h) ?_
    simp only [readsT]
    iterate 5 (refine wpOrdT_read (v := ?_) (by rfl) (Or.inl ⟨by rfl, fun x hx => ?_⟩) ?_; rotate_left; (· have hx' := (Ext.drew V).trans hx; have c0 := hx'.cell c0; have d1 := hx'.cell d1; have d2 := hx'.cell d2; have e0 := hx'.cell e0; go_simp; try with_reducible rfl); try simp only [Act.put, List.setIfInBounds_toArray, List.set_cons_zero, List.set_cons_succ])
    have hxd : Ext V V.drew := Ext.drew V
    have CO := fun W' (h' : Ext V W') => contextOf_c c (.slice A1 c.l.length c1) (.slice A2 c.r.length c2) s.n W' ((HH.out.2.2.2.2.1.ext HV.out.2.2.2.2).ext h') ((HH.out.2.2.2.2.2.1.ext HV.out.2.2.2.2).ext h') (by omega)
    have hXl : X.length ≤ 9 := by have := HXX.out.2; omega
    rw [HXX.out.1] at CO
    generalize V.drew = w0 at *
    clear c0 d1 d2 e0 e1 e2 e3
    refine wpOrdT_forks (by rfl) (by rfl) (fun K hK => ?_) (fun K hK => ?_)
    · go_simp
      obtain ⟨w3, h3⟩ : ∃ W', w0.alloc (.cells #[.int .i64 c.q] 2) = W' := ⟨_, rfl⟩
      obtain ⟨ga, hga⟩ : ∃ q, w0.heap.size = q := ⟨_, rfl⟩
      have x3 : Ext w0 w3 := by rw [← h3]; exact Ext.alloc _ _
      have b3 : Blk w3 ga 2 #[.int .i64 c.q] := by rw [← h3]; exact Blk.new _ _ _ _ hga
      rw [h3]
      try rw [hga]
      refine hK _ _ _ (fun _ hx => hx) x3 ?_
      clear hK K h3
      try simp only [Act.put, List.setIfInBounds_toArray, List.set_cons_zero, List.set_cons_succ]
      refine wpOrdT_keep (by rfl) (fun K hK => ?_)
      go_simp
      go_at_call 36
      refine (CO w3 (hxd.trans x3)).mono ?_
      rintro e w4 ⟨u, rfl, ou, x4⟩
      obtain ⟨Au, cu, rfl, _, _, _⟩ := (ownsRow_row ou).form
      refine hK _ _ (x3.trans x4) ?_
      clear hK K CO
      try simp only [Act.put, List.setIfInBounds_toArray, List.set_cons_zero, List.set_cons_succ]
      refine wpOrdT_done ?_
      try simp only [List.drop_succ_cons, List.drop_zero]
      have JC := joinCtx_c w4.heap.size (.slice (some ⟨ga, 0, none⟩) 1 1) (.slice Au X.length cu) [c.q] X w4 rfl (ints_one (b3.ext x4)) (ownsRow_row ou) (.inr ⟨_, _, _, _, rfl⟩) (OwnInts.flat ou) (by simp; omega)
      have hs4 : V.heap.size ≤ w4.heap.size := ((hxd.trans x3).trans x4).size
      have HX4 := Lib.hid (And.intro ((hxd.trans x3).trans x4) hs4)
      clear ou b3 x3 x4 hxd hs4
      generalize X.length = nx at *
      go_wp2_with fail
      refine JC.mono ?_
      rintro e w5 ⟨u, rfl, o5, x5⟩
      have HO := Lib.hid (And.intro o5 x5)
      clear JC o5 x5
      go_wp2
      go_meet
      exact ⟨ownsRow_base HO.out.1 HX4.out.2, HX4.out.1.trans HO.out.2⟩
    · go_simp
      go_at_call 36
      refine (CO w0 hxd).mono ?_
      rintro e w3 ⟨u, rfl, ou, x3⟩
      obtain ⟨Au, cu, rfl, _, _, _⟩ := (ownsRow_row ou).form
      refine hK _ _ _ (fun _ hx => hx) x3 ?_
      clear hK K CO
      try simp only [Act.put, List.setIfInBounds_toArray, List.set_cons_zero, List.set_cons_succ]
      refine wpOrdT_keep (by rfl) (fun K hK => ?_)
      go_simp
      obtain ⟨w4, h4⟩ : ∃ W', w3.alloc (.cells #[.int .i64 c.q] 2) = W' := ⟨_, rfl⟩
      obtain ⟨ga, hga⟩ : ∃ q, w3.heap.size = q := ⟨_, rfl⟩
      have x4 : Ext w3 w4 := by rw [← h4]; exact Ext.alloc _ _
      have b4 : Blk w4 ga 2 #[.int .i64 c.q] := by rw [← h4]; exact Blk.new _ _ _ _ hga
      rw [h4]
      try rw [hga]
      refine hK _ _ (x3.trans x4) ?_
      clear hK K h4
      try simp only [Act.put, List.setIfInBounds_toArray, List.set_cons_zero, List.set_cons_succ]
      refine wpOrdT_done ?_
      try simp only [List.drop_succ_cons, List.drop_zero]
      have JC := joinCtx_c w4.heap.size (.slice (some ⟨ga, 0, none⟩) 1 1) (.slice Au X.length cu) [c.q] X w4 rfl (ints_one b4) (ownsRow_row (ownsRow_ext ou x4)) (.inr ⟨_, _, _, _, rfl⟩) (OwnInts.flat ou) (by simp; omega)
      have hs4 : V.heap.size ≤ w4.heap.size := ((hxd.trans x3).trans x4).size
      have HX4 := Lib.hid (And.intro ((hxd.trans x3).trans x4) hs4)
      clear ou b4 x3 x4 hxd hs4
      generalize X.length = nx at *
      go_wp2_with fail
      refine JC.mono ?_
      rintro e w5 ⟨u, rfl, o5, x5⟩
      have HO := Lib.hid (And.intro o5 x5)
      clear JC o5 x5
      go_wp2
      go_meet
      exact ⟨ownsRow_base HO.out.1 HX4.out.2, HX4.out.1.trans HO.out.2⟩
  case rest =>
    obtain ⟨ou, hxc⟩ := hcut
    obtain ⟨bx, ox, cx, rfl⟩ := ints_at (ownsRow_row ou) (by simp)
    have IX := ownsRow_row ou
    have HXC := Lib.hid ((HH.out.1.trans HV.out.2.2.2.2).trans hxc)
    have c0 := hxc.cell c0
    have d1 := hxc.cell d1
    have d2 := hxc.cell d2
    have e0 := hxc.cell e0
    have e1 := hxc.cell e1
    have e2 := hxc.cell e2
    have e3 := hxc.cell e3
    have HC3 := HV.out.2.2.2.1.ext hxc
    have HL3 := HV.out.2.1.ext hxc
    have HR3 := HV.out.2.2.1.ext hxc
    have HCL := (HH.out.2.2.2.2.1.ext HV.out.2.2.2.2).ext hxc
    have HCR := (HH.out.2.2.2.2.2.1.ext HV.out.2.2.2.2).ext hxc
    have HBY := beyV_ints HCR
    have HXS : Hid (∀ z ∈ c.q :: X, smallQ z) := Lib.hid (by rw [← HXX.out.1]; exact HG.out.2.2.2.2.2.2.2)
    obtain ⟨y1, hy1⟩ : ∃ y, anyT s.c (padI (c.q :: X)) = y := ⟨_, rfl⟩
    obtain ⟨y2, hy2⟩ : ∃ y, (winL c.l s.n c.l.length).all (inT s.l) = y := ⟨_, rfl⟩
    obtain ⟨y3, hy3⟩ : ∃ y, (winL (c.r.drop 1) s.n (c.r.drop 1).length).all (inT s.r) = y := ⟨_, rfl⟩
    have HE : Hid (covX s c = (y1 && y2 && y3)) := Lib.hid (by
      unfold covX
      rw [hy2, hy3, HXX.out.1]
      show (anyT s.c (padI (c.q :: X)) && y2 && y3) = _
      rw [hy1])
    have HY1 := Lib.hid hy1
    have HY2 := Lib.hid hy2
    have HY3 := Lib.hid hy3
    obtain ⟨k1, hk1⟩ : ∃ k, 2 * s.n = k := ⟨_, rfl⟩
    obtain ⟨k2, hk2⟩ : ∃ k, 2 * s.n + 2 = k := ⟨_, rfl⟩
    have hwm : IntKind.i64.wrap (2 * (s.n : Int)) = (k1 : Int) := by rw [show 2 * (s.n : Int) = (k1 : Int) by omega]; exact IntWalk.i64_in _ (by omega)
    have hwp : IntKind.i64.wrap ((k1 : Int) + 2) = (k2 : Int) := by rw [show (k1 : Int) + 2 = (k2 : Int) by omega]; exact IntWalk.i64_in _ (by omega)
    have GC : Hid (GoodL k2 s.c) := Lib.hid (by rw [← hk2]; exact HG.out.2.2.2.1)
    have HK2 := Lib.hid hk2
    have hk2l : k2 ≤ 10 := by omega
    have hk2p : 1 ≤ k2 := by omega
    clear hk1 hk2
    clear hy1 hy2 hy3 ou
    obtain ⟨nX, hnX⟩ : ∃ q, (c.q :: X).length = q := ⟨_, rfl⟩
    rw [hnX]
    have HXN := Lib.hid hnX
    clear hnX
    go_upto_region 7 with fail
    have hxd : Ext wc wc.drew := Ext.drew wc
    cases y1 with
    | false =>
      refine wp_region_ordT 38 (readsT [0, 1, 2, 3, 4, 5, 7] (.stir 6 (.stir 8 (readsT [9, 10, 11, 12, 13, 15, 16, 17, 18] (.stir 14 (.stir 19 (.stir 20 (.stir 21 (readsT [22, 23, 24, 25, 26, 27, 29, 30, 32, 33] (.stir 28 (.stir 31 (.stir 34 (.stir 35 (.stir 36 (readsT [37] .done))))))))))))))) (by kernel_rfl) (by kernel_rfl) (fun _ _ _ _ _ h => h) ?_
      simp only [readsT]
      generalize wc.drew = w0 at *
      (refine wpOrdT_read (v := ?_) (by rfl) (Or.inl ⟨by rfl, fun x hx => ?_⟩) ?_; rotate_left; (· have hx' : Ext wc x := hxd.trans hx; have c0 := hx'.cell c0; have d1 := hx'.cell d1; have d2 := hx'.cell d2; have e0 := hx'.cell e0; have e1 := hx'.cell e1; have e2 := hx'.cell e2; have e3 := hx'.cell e3; go_simp; try first | with_reducible rfl | (rw [hwm]; try with_reducible rfl) | (rw [hwp]; try with_reducible rfl)); try simp only [Act.put, List.setIfInBounds_toArray, List.set_cons_zero, List.set_cons_succ])
      (refine wpOrdT_read (v := ?_) (by rfl) (Or.inl ⟨by rfl, fun x hx => ?_⟩) ?_; rotate_left; (· have hx' : Ext wc x := hxd.trans hx; have c0 := hx'.cell c0; have d1 := hx'.cell d1; have d2 := hx'.cell d2; have e0 := hx'.cell e0; have e1 := hx'.cell e1; have e2 := hx'.cell e2; have e3 := hx'.cell e3; go_simp; try first | with_reducible rfl | (rw [hwm]; try with_reducible rfl) | (rw [hwp]; try with_reducible rfl)); try simp only [Act.put, List.setIfInBounds_toArray, List.set_cons_zero, List.set_cons_succ])
      (refine wpOrdT_read (v := ?_) (by rfl) (Or.inl ⟨by rfl, fun x hx => ?_⟩) ?_; rotate_left; (· have hx' : Ext wc x := hxd.trans hx; have c0 := hx'.cell c0; have d1 := hx'.cell d1; have d2 := hx'.cell d2; have e0 := hx'.cell e0; have e1 := hx'.cell e1; have e2 := hx'.cell e2; have e3 := hx'.cell e3; go_simp; try first | with_reducible rfl | (rw [hwm]; try with_reducible rfl) | (rw [hwp]; try with_reducible rfl)); try simp only [Act.put, List.setIfInBounds_toArray, List.set_cons_zero, List.set_cons_succ])
      (refine wpOrdT_read (v := ?_) (by rfl) (Or.inl ⟨by rfl, fun x hx => ?_⟩) ?_; rotate_left; (· have hx' : Ext wc x := hxd.trans hx; have c0 := hx'.cell c0; have d1 := hx'.cell d1; have d2 := hx'.cell d2; have e0 := hx'.cell e0; have e1 := hx'.cell e1; have e2 := hx'.cell e2; have e3 := hx'.cell e3; go_simp; try first | with_reducible rfl | (rw [hwm]; try with_reducible rfl) | (rw [hwp]; try with_reducible rfl)); try simp only [Act.put, List.setIfInBounds_toArray, List.set_cons_zero, List.set_cons_succ])
      (refine wpOrdT_read (v := ?_) (by rfl) (Or.inl ⟨by rfl, fun x hx => ?_⟩) ?_; rotate_left; (· have hx' : Ext wc x := hxd.trans hx; have c0 := hx'.cell c0; have d1 := hx'.cell d1; have d2 := hx'.cell d2; have e0 := hx'.cell e0; have e1 := hx'.cell e1; have e2 := hx'.cell e2; have e3 := hx'.cell e3; go_simp; try first | with_reducible rfl | (rw [hwm]; try with_reducible rfl) | (rw [hwp]; try with_reducible rfl)); try simp only [Act.put, List.setIfInBounds_toArray, List.set_cons_zero, List.set_cons_succ])
      (refine wpOrdT_read (v := ?_) (by rfl) (Or.inl ⟨by rfl, fun x hx => ?_⟩) ?_; rotate_left; (· have hx' : Ext wc x := hxd.trans hx; have c0 := hx'.cell c0; have d1 := hx'.cell d1; have d2 := hx'.cell d2; have e0 := hx'.cell e0; have e1 := hx'.cell e1; have e2 := hx'.cell e2; have e3 := hx'.cell e3; go_simp; try first | with_reducible rfl | (rw [hwm]; try with_reducible rfl) | (rw [hwp]; try with_reducible rfl)); try simp only [Act.put, List.setIfInBounds_toArray, List.set_cons_zero, List.set_cons_succ])
      (refine wpOrdT_read (v := ?_) (by rfl) (Or.inl ⟨by rfl, fun x hx => ?_⟩) ?_; rotate_left; (· have hx' : Ext wc x := hxd.trans hx; have c0 := hx'.cell c0; have d1 := hx'.cell d1; have d2 := hx'.cell d2; have e0 := hx'.cell e0; have e1 := hx'.cell e1; have e2 := hx'.cell e2; have e3 := hx'.cell e3; go_simp; try first | with_reducible rfl | (rw [hwm]; try with_reducible rfl) | (rw [hwp]; try with_reducible rfl)); try simp only [Act.put, List.setIfInBounds_toArray, List.set_cons_zero, List.set_cons_succ])
      refine wpOrdT_keep (by rfl) (fun K hK => ?_)
      go_simp
      go_at_call 28
      with_reducible refine (setOf_c k2 (.slice Ac s.c.length cc) s.c w0 (HC3.ext (hxd.trans (Ext.refl w0))) (by have := HG.out.2.2.2.2.1; omega) (fun x hx => ⟨by rw [GC.out.len x hx]; omega, by rw [GC.out.len x hx]; omega, GC.out.small x hx⟩)).mono ?_
      rintro e v0 ⟨gC, mC, rfl, hC, _, _, _, x0⟩
      refine hK _ _ ((Ext.refl w0).trans x0) ?_
      clear hK K
      try simp only [Act.put, List.setIfInBounds_toArray, List.set_cons_zero, List.set_cons_succ]
      refine wpOrdT_keep (by rfl) (fun K hK => ?_)
      go_simp
      go_at_call 29
      have HA := has_c gC mC _ k2 bx ox cx (anyT s.c) (c.q :: X) v0 hC (IX.ext (hxd.trans ((Ext.refl w0).trans x0))) (by have := HXX.out.2; simp only [List.length_cons]; omega) (by simp) HXS.out
      rw [HY1.out, HXN.out] at HA
      with_reducible refine HA.mono ?_
      rintro e v1 ⟨rfl, x1⟩
      refine hK _ _ (((Ext.refl w0).trans x0).trans x1) ?_
      clear hK K
      try simp only [Act.put, List.setIfInBounds_toArray, List.set_cons_zero, List.set_cons_succ]
      refine wpOrdT_read (v := .bool false) (by rfl) (Or.inl ⟨by rfl, fun x hx => by go_simp⟩) ?_
      try simp only [Act.put, List.setIfInBounds_toArray, List.set_cons_zero, List.set_cons_succ]
      refine wpOrdT_read (v := undef) (by rfl) (Or.inr ⟨by rfl, by rfl⟩) ?_
      try simp only [Act.put, List.setIfInBounds_toArray, List.set_cons_zero, List.set_cons_succ]
      refine wpOrdT_read (v := undef) (by rfl) (Or.inr ⟨by rfl, by rfl⟩) ?_
      try simp only [Act.put, List.setIfInBounds_toArray, List.set_cons_zero, List.set_cons_succ]
      refine wpOrdT_read (v := undef) (by rfl) (Or.inr ⟨by rfl, by rfl⟩) ?_
      try simp only [Act.put, List.setIfInBounds_toArray, List.set_cons_zero, List.set_cons_succ]
      refine wpOrdT_read (v := undef) (by rfl) (Or.inr ⟨by rfl, by rfl⟩) ?_
      try simp only [Act.put, List.setIfInBounds_toArray, List.set_cons_zero, List.set_cons_succ]
      refine wpOrdT_read (v := undef) (by rfl) (Or.inr ⟨by rfl, by rfl⟩) ?_
      try simp only [Act.put, List.setIfInBounds_toArray, List.set_cons_zero, List.set_cons_succ]
      refine wpOrdT_read (v := undef) (by rfl) (Or.inr ⟨by rfl, by rfl⟩) ?_
      try simp only [Act.put, List.setIfInBounds_toArray, List.set_cons_zero, List.set_cons_succ]
      refine wpOrdT_read (v := undef) (by rfl) (Or.inr ⟨by rfl, by rfl⟩) ?_
      try simp only [Act.put, List.setIfInBounds_toArray, List.set_cons_zero, List.set_cons_succ]
      refine wpOrdT_read (v := undef) (by rfl) (Or.inr ⟨by rfl, by rfl⟩) ?_
      try simp only [Act.put, List.setIfInBounds_toArray, List.set_cons_zero, List.set_cons_succ]
      refine wpOrdT_keep (by rfl) (fun K hK => ?_)
      rw [if_neg (by intro hh; cases hh)]
      refine hK _ _ (((Ext.refl w0).trans x0).trans x1) ?_
      clear hK K
      try simp only [Act.put, List.setIfInBounds_toArray, List.set_cons_zero, List.set_cons_succ]
      refine wpOrdT_keep (by rfl) (fun K hK => ?_)
      rw [if_neg (by intro hh; cases hh)]
      refine hK _ _ (((Ext.refl w0).trans x0).trans x1) ?_
      clear hK K
      try simp only [Act.put, List.setIfInBounds_toArray, List.set_cons_zero, List.set_cons_succ]
      refine wpOrdT_keep (by rfl) (fun K hK => ?_)
      rw [if_neg (by intro hh; cases hh)]
      refine hK _ _ (((Ext.refl w0).trans x0).trans x1) ?_
      clear hK K
      try simp only [Act.put, List.setIfInBounds_toArray, List.set_cons_zero, List.set_cons_succ]
      refine wpOrdT_keep (by rfl) (fun K hK => ?_)
      rw [if_neg (by intro hh; cases hh)]
      refine hK _ _ (((Ext.refl w0).trans x0).trans x1) ?_
      clear hK K
      try simp only [Act.put, List.setIfInBounds_toArray, List.set_cons_zero, List.set_cons_succ]
      refine wpOrdT_read (v := .bool false) (by rfl) (Or.inl ⟨by rfl, fun x hx => by go_simp⟩) ?_
      try simp only [Act.put, List.setIfInBounds_toArray, List.set_cons_zero, List.set_cons_succ]
      refine wpOrdT_read (v := .bool false) (by rfl) (Or.inl ⟨by rfl, fun x hx => by go_simp⟩) ?_
      try simp only [Act.put, List.setIfInBounds_toArray, List.set_cons_zero, List.set_cons_succ]
      refine wpOrdT_read (v := undef) (by rfl) (Or.inr ⟨by rfl, by rfl⟩) ?_
      try simp only [Act.put, List.setIfInBounds_toArray, List.set_cons_zero, List.set_cons_succ]
      refine wpOrdT_read (v := undef) (by rfl) (Or.inr ⟨by rfl, by rfl⟩) ?_
      try simp only [Act.put, List.setIfInBounds_toArray, List.set_cons_zero, List.set_cons_succ]
      refine wpOrdT_read (v := undef) (by rfl) (Or.inr ⟨by rfl, by rfl⟩) ?_
      try simp only [Act.put, List.setIfInBounds_toArray, List.set_cons_zero, List.set_cons_succ]
      refine wpOrdT_read (v := undef) (by rfl) (Or.inr ⟨by rfl, by rfl⟩) ?_
      try simp only [Act.put, List.setIfInBounds_toArray, List.set_cons_zero, List.set_cons_succ]
      refine wpOrdT_read (v := undef) (by rfl) (Or.inr ⟨by rfl, by rfl⟩) ?_
      try simp only [Act.put, List.setIfInBounds_toArray, List.set_cons_zero, List.set_cons_succ]
      refine wpOrdT_read (v := undef) (by rfl) (Or.inr ⟨by rfl, by rfl⟩) ?_
      try simp only [Act.put, List.setIfInBounds_toArray, List.set_cons_zero, List.set_cons_succ]
      refine wpOrdT_read (v := undef) (by rfl) (Or.inr ⟨by rfl, by rfl⟩) ?_
      try simp only [Act.put, List.setIfInBounds_toArray, List.set_cons_zero, List.set_cons_succ]
      refine wpOrdT_read (v := undef) (by rfl) (Or.inr ⟨by rfl, by rfl⟩) ?_
      try simp only [Act.put, List.setIfInBounds_toArray, List.set_cons_zero, List.set_cons_succ]
      refine wpOrdT_keep (by rfl) (fun K hK => ?_)
      rw [if_neg (by intro hh; cases hh)]
      refine hK _ _ (((Ext.refl w0).trans x0).trans x1) ?_
      clear hK K
      try simp only [Act.put, List.setIfInBounds_toArray, List.set_cons_zero, List.set_cons_succ]
      refine wpOrdT_keep (by rfl) (fun K hK => ?_)
      rw [if_neg (by intro hh; cases hh)]
      refine hK _ _ (((Ext.refl w0).trans x0).trans x1) ?_
      clear hK K
      try simp only [Act.put, List.setIfInBounds_toArray, List.set_cons_zero, List.set_cons_succ]
      refine wpOrdT_keep (by rfl) (fun K hK => ?_)
      rw [if_neg (by intro hh; cases hh)]
      refine hK _ _ (((Ext.refl w0).trans x0).trans x1) ?_
      clear hK K
      try simp only [Act.put, List.setIfInBounds_toArray, List.set_cons_zero, List.set_cons_succ]
      refine wpOrdT_keep (by rfl) (fun K hK => ?_)
      rw [if_neg (by intro hh; cases hh)]
      refine hK _ _ (((Ext.refl w0).trans x0).trans x1) ?_
      clear hK K
      try simp only [Act.put, List.setIfInBounds_toArray, List.set_cons_zero, List.set_cons_succ]
      refine wpOrdT_keep (by rfl) (fun K hK => ?_)
      rw [if_neg (by intro hh; cases hh)]
      refine hK _ _ (((Ext.refl w0).trans x0).trans x1) ?_
      clear hK K
      try simp only [Act.put, List.setIfInBounds_toArray, List.set_cons_zero, List.set_cons_succ]
      refine wpOrdT_read (v := .bool false) (by rfl) (Or.inl ⟨by rfl, fun x hx => by go_simp⟩) ?_
      try simp only [Act.put, List.setIfInBounds_toArray, List.set_cons_zero, List.set_cons_succ]
      refine wpOrdT_done ?_
      try simp only [List.drop_succ_cons, List.drop_zero]
      have HF := Lib.hid (HXC.out.trans (hxd.trans (((Ext.refl w0).trans x0).trans x1)))
      clear c0 d1 d2 e0 e1 e2 e3
      go_wp2
      go_ret
      exact ⟨by rw [HE.out]; rfl, HF.out⟩
    | true =>
      cases y2 with
      | false =>
        refine wp_region_ordT 38 (readsT [0, 1, 2, 3, 4, 5, 7] (.stir 6 (.stir 8 (readsT [9, 10, 11, 12, 13, 15, 16, 17, 18] (.stir 14 (.stir 19 (.stir 20 (.stir 21 (readsT [22, 23, 24, 25, 26, 27, 29, 30, 32, 33] (.stir 28 (.stir 31 (.stir 34 (.stir 35 (.stir 36 (readsT [37] .done))))))))))))))) (by kernel_rfl) (by kernel_rfl) (fun _ _ _ _ _ h => h) ?_
        simp only [readsT]
        generalize wc.drew = w0 at *
        (refine wpOrdT_read (v := ?_) (by rfl) (Or.inl ⟨by rfl, fun x hx => ?_⟩) ?_; rotate_left; (· have hx' : Ext wc x := hxd.trans hx; have c0 := hx'.cell c0; have d1 := hx'.cell d1; have d2 := hx'.cell d2; have e0 := hx'.cell e0; have e1 := hx'.cell e1; have e2 := hx'.cell e2; have e3 := hx'.cell e3; go_simp; try first | with_reducible rfl | (rw [hwm]; try with_reducible rfl) | (rw [hwp]; try with_reducible rfl)); try simp only [Act.put, List.setIfInBounds_toArray, List.set_cons_zero, List.set_cons_succ])
        (refine wpOrdT_read (v := ?_) (by rfl) (Or.inl ⟨by rfl, fun x hx => ?_⟩) ?_; rotate_left; (· have hx' : Ext wc x := hxd.trans hx; have c0 := hx'.cell c0; have d1 := hx'.cell d1; have d2 := hx'.cell d2; have e0 := hx'.cell e0; have e1 := hx'.cell e1; have e2 := hx'.cell e2; have e3 := hx'.cell e3; go_simp; try first | with_reducible rfl | (rw [hwm]; try with_reducible rfl) | (rw [hwp]; try with_reducible rfl)); try simp only [Act.put, List.setIfInBounds_toArray, List.set_cons_zero, List.set_cons_succ])
        (refine wpOrdT_read (v := ?_) (by rfl) (Or.inl ⟨by rfl, fun x hx => ?_⟩) ?_; rotate_left; (· have hx' : Ext wc x := hxd.trans hx; have c0 := hx'.cell c0; have d1 := hx'.cell d1; have d2 := hx'.cell d2; have e0 := hx'.cell e0; have e1 := hx'.cell e1; have e2 := hx'.cell e2; have e3 := hx'.cell e3; go_simp; try first | with_reducible rfl | (rw [hwm]; try with_reducible rfl) | (rw [hwp]; try with_reducible rfl)); try simp only [Act.put, List.setIfInBounds_toArray, List.set_cons_zero, List.set_cons_succ])
        (refine wpOrdT_read (v := ?_) (by rfl) (Or.inl ⟨by rfl, fun x hx => ?_⟩) ?_; rotate_left; (· have hx' : Ext wc x := hxd.trans hx; have c0 := hx'.cell c0; have d1 := hx'.cell d1; have d2 := hx'.cell d2; have e0 := hx'.cell e0; have e1 := hx'.cell e1; have e2 := hx'.cell e2; have e3 := hx'.cell e3; go_simp; try first | with_reducible rfl | (rw [hwm]; try with_reducible rfl) | (rw [hwp]; try with_reducible rfl)); try simp only [Act.put, List.setIfInBounds_toArray, List.set_cons_zero, List.set_cons_succ])
        (refine wpOrdT_read (v := ?_) (by rfl) (Or.inl ⟨by rfl, fun x hx => ?_⟩) ?_; rotate_left; (· have hx' : Ext wc x := hxd.trans hx; have c0 := hx'.cell c0; have d1 := hx'.cell d1; have d2 := hx'.cell d2; have e0 := hx'.cell e0; have e1 := hx'.cell e1; have e2 := hx'.cell e2; have e3 := hx'.cell e3; go_simp; try first | with_reducible rfl | (rw [hwm]; try with_reducible rfl) | (rw [hwp]; try with_reducible rfl)); try simp only [Act.put, List.setIfInBounds_toArray, List.set_cons_zero, List.set_cons_succ])
        (refine wpOrdT_read (v := ?_) (by rfl) (Or.inl ⟨by rfl, fun x hx => ?_⟩) ?_; rotate_left; (· have hx' : Ext wc x := hxd.trans hx; have c0 := hx'.cell c0; have d1 := hx'.cell d1; have d2 := hx'.cell d2; have e0 := hx'.cell e0; have e1 := hx'.cell e1; have e2 := hx'.cell e2; have e3 := hx'.cell e3; go_simp; try first | with_reducible rfl | (rw [hwm]; try with_reducible rfl) | (rw [hwp]; try with_reducible rfl)); try simp only [Act.put, List.setIfInBounds_toArray, List.set_cons_zero, List.set_cons_succ])
        (refine wpOrdT_read (v := ?_) (by rfl) (Or.inl ⟨by rfl, fun x hx => ?_⟩) ?_; rotate_left; (· have hx' : Ext wc x := hxd.trans hx; have c0 := hx'.cell c0; have d1 := hx'.cell d1; have d2 := hx'.cell d2; have e0 := hx'.cell e0; have e1 := hx'.cell e1; have e2 := hx'.cell e2; have e3 := hx'.cell e3; go_simp; try first | with_reducible rfl | (rw [hwm]; try with_reducible rfl) | (rw [hwp]; try with_reducible rfl)); try simp only [Act.put, List.setIfInBounds_toArray, List.set_cons_zero, List.set_cons_succ])
        refine wpOrdT_keep (by rfl) (fun K hK => ?_)
        go_simp
        go_at_call 28
        with_reducible refine (setOf_c k2 (.slice Ac s.c.length cc) s.c w0 (HC3.ext (hxd.trans (Ext.refl w0))) (by have := HG.out.2.2.2.2.1; omega) (fun x hx => ⟨by rw [GC.out.len x hx]; omega, by rw [GC.out.len x hx]; omega, GC.out.small x hx⟩)).mono ?_
        rintro e v0 ⟨gC, mC, rfl, hC, _, _, _, x0⟩
        refine hK _ _ ((Ext.refl w0).trans x0) ?_
        clear hK K
        try simp only [Act.put, List.setIfInBounds_toArray, List.set_cons_zero, List.set_cons_succ]
        refine wpOrdT_keep (by rfl) (fun K hK => ?_)
        go_simp
        go_at_call 29
        have HA := has_c gC mC _ k2 bx ox cx (anyT s.c) (c.q :: X) v0 hC (IX.ext (hxd.trans ((Ext.refl w0).trans x0))) (by have := HXX.out.2; simp only [List.length_cons]; omega) (by simp) HXS.out
        rw [HY1.out, HXN.out] at HA
        with_reducible refine HA.mono ?_
        rintro e v1 ⟨rfl, x1⟩
        refine hK _ _ (((Ext.refl w0).trans x0).trans x1) ?_
        clear hK K
        try simp only [Act.put, List.setIfInBounds_toArray, List.set_cons_zero, List.set_cons_succ]
        refine wpOrdT_read (v := .bool true) (by rfl) (Or.inl ⟨by rfl, fun x hx => by go_simp⟩) ?_
        try simp only [Act.put, List.setIfInBounds_toArray, List.set_cons_zero, List.set_cons_succ]
        (refine wpOrdT_read (v := ?_) (by rfl) (Or.inl ⟨by rfl, fun x hx => ?_⟩) ?_; rotate_left; (· have hx' : Ext wc x := hxd.trans hx; have c0 := hx'.cell c0; have d1 := hx'.cell d1; have d2 := hx'.cell d2; have e0 := hx'.cell e0; have e1 := hx'.cell e1; have e2 := hx'.cell e2; have e3 := hx'.cell e3; go_simp; try first | with_reducible rfl | (rw [hwm]; try with_reducible rfl) | (rw [hwp]; try with_reducible rfl)); try simp only [Act.put, List.setIfInBounds_toArray, List.set_cons_zero, List.set_cons_succ])
        (refine wpOrdT_read (v := ?_) (by rfl) (Or.inl ⟨by rfl, fun x hx => ?_⟩) ?_; rotate_left; (· have hx' : Ext wc x := hxd.trans hx; have c0 := hx'.cell c0; have d1 := hx'.cell d1; have d2 := hx'.cell d2; have e0 := hx'.cell e0; have e1 := hx'.cell e1; have e2 := hx'.cell e2; have e3 := hx'.cell e3; go_simp; try first | with_reducible rfl | (rw [hwm]; try with_reducible rfl) | (rw [hwp]; try with_reducible rfl)); try simp only [Act.put, List.setIfInBounds_toArray, List.set_cons_zero, List.set_cons_succ])
        (refine wpOrdT_read (v := ?_) (by rfl) (Or.inl ⟨by rfl, fun x hx => ?_⟩) ?_; rotate_left; (· have hx' : Ext wc x := hxd.trans hx; have c0 := hx'.cell c0; have d1 := hx'.cell d1; have d2 := hx'.cell d2; have e0 := hx'.cell e0; have e1 := hx'.cell e1; have e2 := hx'.cell e2; have e3 := hx'.cell e3; go_simp; try first | with_reducible rfl | (rw [hwm]; try with_reducible rfl) | (rw [hwp]; try with_reducible rfl)); try simp only [Act.put, List.setIfInBounds_toArray, List.set_cons_zero, List.set_cons_succ])
        (refine wpOrdT_read (v := ?_) (by rfl) (Or.inl ⟨by rfl, fun x hx => ?_⟩) ?_; rotate_left; (· have hx' : Ext wc x := hxd.trans hx; have c0 := hx'.cell c0; have d1 := hx'.cell d1; have d2 := hx'.cell d2; have e0 := hx'.cell e0; have e1 := hx'.cell e1; have e2 := hx'.cell e2; have e3 := hx'.cell e3; go_simp; try first | with_reducible rfl | (rw [hwm]; try with_reducible rfl) | (rw [hwp]; try with_reducible rfl)); try simp only [Act.put, List.setIfInBounds_toArray, List.set_cons_zero, List.set_cons_succ])
        (refine wpOrdT_read (v := ?_) (by rfl) (Or.inl ⟨by rfl, fun x hx => ?_⟩) ?_; rotate_left; (· have hx' : Ext wc x := hxd.trans hx; have c0 := hx'.cell c0; have d1 := hx'.cell d1; have d2 := hx'.cell d2; have e0 := hx'.cell e0; have e1 := hx'.cell e1; have e2 := hx'.cell e2; have e3 := hx'.cell e3; go_simp; try first | with_reducible rfl | (rw [hwm]; try with_reducible rfl) | (rw [hwp]; try with_reducible rfl)); try simp only [Act.put, List.setIfInBounds_toArray, List.set_cons_zero, List.set_cons_succ])
        (refine wpOrdT_read (v := ?_) (by rfl) (Or.inl ⟨by rfl, fun x hx => ?_⟩) ?_; rotate_left; (· have hx' : Ext wc x := hxd.trans hx; have c0 := hx'.cell c0; have d1 := hx'.cell d1; have d2 := hx'.cell d2; have e0 := hx'.cell e0; have e1 := hx'.cell e1; have e2 := hx'.cell e2; have e3 := hx'.cell e3; go_simp; try first | with_reducible rfl | (rw [hwm]; try with_reducible rfl) | (rw [hwp]; try with_reducible rfl)); try simp only [Act.put, List.setIfInBounds_toArray, List.set_cons_zero, List.set_cons_succ])
        (refine wpOrdT_read (v := ?_) (by rfl) (Or.inl ⟨by rfl, fun x hx => ?_⟩) ?_; rotate_left; (· have hx' : Ext wc x := hxd.trans hx; have c0 := hx'.cell c0; have d1 := hx'.cell d1; have d2 := hx'.cell d2; have e0 := hx'.cell e0; have e1 := hx'.cell e1; have e2 := hx'.cell e2; have e3 := hx'.cell e3; go_simp; try first | with_reducible rfl | (rw [hwm]; try with_reducible rfl) | (rw [hwp]; try with_reducible rfl)); try simp only [Act.put, List.setIfInBounds_toArray, List.set_cons_zero, List.set_cons_succ])
        (refine wpOrdT_read (v := ?_) (by rfl) (Or.inl ⟨by rfl, fun x hx => ?_⟩) ?_; rotate_left; (· have hx' : Ext wc x := hxd.trans hx; have c0 := hx'.cell c0; have d1 := hx'.cell d1; have d2 := hx'.cell d2; have e0 := hx'.cell e0; have e1 := hx'.cell e1; have e2 := hx'.cell e2; have e3 := hx'.cell e3; go_simp; try first | with_reducible rfl | (rw [hwm]; try with_reducible rfl) | (rw [hwp]; try with_reducible rfl)); try simp only [Act.put, List.setIfInBounds_toArray, List.set_cons_zero, List.set_cons_succ])
        refine wpOrdT_keep (by rfl) (fun K hK => ?_)
        go_simp
        go_at_call 28
        with_reducible refine (setOf_c s.n (.slice Al s.l.length cl) s.l v1 (HL3.ext (hxd.trans (((Ext.refl w0).trans x0).trans x1))) (by have := HG.out.2.2.2.2.1; omega) (fun x hx => ⟨by rw [HG.out.2.1.len x hx]; omega, by rw [HG.out.2.1.len x hx]; omega, HG.out.2.1.small x hx⟩)).mono ?_
        rintro e v2 ⟨gL, mL, rfl, hL, _, _, _, x2⟩
        refine hK _ _ ((((Ext.refl w0).trans x0).trans x1).trans x2) ?_
        clear hK K
        try simp only [Act.put, List.setIfInBounds_toArray, List.set_cons_zero, List.set_cons_succ]
        refine wpOrdT_keep (by rfl) (fun K hK => ?_)
        go_simp
        go_at_call 37
        with_reducible refine (windowsOf_c s.n (.slice A1 c.l.length c1) (c.l) v2 (HCL.ext (hxd.trans ((((Ext.refl w0).trans x0).trans x1).trans x2))) (by have := HH.out.2.2.2.2.2.2; omega) (by omega) (by omega) HG.out.2.2.2.2.2.1).mono ?_
        rintro e v3 ⟨gWL, mWL, rfl, hWL, x3⟩
        refine hK _ _ (((((Ext.refl w0).trans x0).trans x1).trans x2).trans x3) ?_
        clear hK K
        try simp only [Act.put, List.setIfInBounds_toArray, List.set_cons_zero, List.set_cons_succ]
        refine wpOrdT_keep (by rfl) (fun K hK => ?_)
        go_simp
        go_at_call 38
        with_reducible refine (sorted_c gWL mWL _ s.n (winL (c.l) s.n (c.l).length) v3 hWL (winL_good HG.out.2.2.2.2.2.1) (by rw [winL_length]; omega) (by rw [winL_length]; have := HH.out.2.2.2.2.2.2; omega) (by omega) (by omega)).mono ?_
        rintro e v4 ⟨uSL, SSL, rfl, soSL, owSL, x4⟩
        obtain ⟨ASL, cSL, rfl⟩ := owSL.form
        refine hK _ _ ((((((Ext.refl w0).trans x0).trans x1).trans x2).trans x3).trans x4) ?_
        clear hK K
        try simp only [Act.put, List.setIfInBounds_toArray, List.set_cons_zero, List.set_cons_succ]
        refine wpOrdT_keep (by rfl) (fun K hK => ?_)
        go_simp
        go_at_call 31
        have CT := contains_c gL mL _ s.n (anyT s.l) _ SSL v4 (hL.ext (x3.trans x4)) owSL.lists (fun x hx => ⟨by rw [(soSL.good (winL_good HG.out.2.2.2.2.2.1)).len x hx]; omega, by rw [(soSL.good (winL_good HG.out.2.2.2.2.2.1)).len x hx]; omega, (soSL.good (winL_good HG.out.2.2.2.2.2.1)).small x hx⟩)
        have EQ := all_sort soSL (inT s.l)
        rw [HY2.out] at EQ
        have CT2 : Calls _ _ _ _ _ := CT
        rw [show (SSL.all fun x => anyT s.l (padI x)) = _ from EQ] at CT2
        with_reducible refine CT2.mono ?_
        rintro e v5 ⟨rfl, x5⟩
        clear CT CT2 EQ
        refine hK _ _ (((((((Ext.refl w0).trans x0).trans x1).trans x2).trans x3).trans x4).trans x5) ?_
        clear hK K
        try simp only [Act.put, List.setIfInBounds_toArray, List.set_cons_zero, List.set_cons_succ]
        refine wpOrdT_read (v := .bool false) (by rfl) (Or.inl ⟨by rfl, fun x hx => by go_simp⟩) ?_
        try simp only [Act.put, List.setIfInBounds_toArray, List.set_cons_zero, List.set_cons_succ]
        refine wpOrdT_read (v := .bool false) (by rfl) (Or.inl ⟨by rfl, fun x hx => by go_simp⟩) ?_
        try simp only [Act.put, List.setIfInBounds_toArray, List.set_cons_zero, List.set_cons_succ]
        refine wpOrdT_read (v := undef) (by rfl) (Or.inr ⟨by rfl, by rfl⟩) ?_
        try simp only [Act.put, List.setIfInBounds_toArray, List.set_cons_zero, List.set_cons_succ]
        refine wpOrdT_read (v := undef) (by rfl) (Or.inr ⟨by rfl, by rfl⟩) ?_
        try simp only [Act.put, List.setIfInBounds_toArray, List.set_cons_zero, List.set_cons_succ]
        refine wpOrdT_read (v := undef) (by rfl) (Or.inr ⟨by rfl, by rfl⟩) ?_
        try simp only [Act.put, List.setIfInBounds_toArray, List.set_cons_zero, List.set_cons_succ]
        refine wpOrdT_read (v := undef) (by rfl) (Or.inr ⟨by rfl, by rfl⟩) ?_
        try simp only [Act.put, List.setIfInBounds_toArray, List.set_cons_zero, List.set_cons_succ]
        refine wpOrdT_read (v := undef) (by rfl) (Or.inr ⟨by rfl, by rfl⟩) ?_
        try simp only [Act.put, List.setIfInBounds_toArray, List.set_cons_zero, List.set_cons_succ]
        refine wpOrdT_read (v := undef) (by rfl) (Or.inr ⟨by rfl, by rfl⟩) ?_
        try simp only [Act.put, List.setIfInBounds_toArray, List.set_cons_zero, List.set_cons_succ]
        refine wpOrdT_read (v := undef) (by rfl) (Or.inr ⟨by rfl, by rfl⟩) ?_
        try simp only [Act.put, List.setIfInBounds_toArray, List.set_cons_zero, List.set_cons_succ]
        refine wpOrdT_read (v := undef) (by rfl) (Or.inr ⟨by rfl, by rfl⟩) ?_
        try simp only [Act.put, List.setIfInBounds_toArray, List.set_cons_zero, List.set_cons_succ]
        refine wpOrdT_keep (by rfl) (fun K hK => ?_)
        rw [if_neg (by intro hh; cases hh)]
        refine hK _ _ (((((((Ext.refl w0).trans x0).trans x1).trans x2).trans x3).trans x4).trans x5) ?_
        clear hK K
        try simp only [Act.put, List.setIfInBounds_toArray, List.set_cons_zero, List.set_cons_succ]
        refine wpOrdT_keep (by rfl) (fun K hK => ?_)
        rw [if_neg (by intro hh; cases hh)]
        refine hK _ _ (((((((Ext.refl w0).trans x0).trans x1).trans x2).trans x3).trans x4).trans x5) ?_
        clear hK K
        try simp only [Act.put, List.setIfInBounds_toArray, List.set_cons_zero, List.set_cons_succ]
        refine wpOrdT_keep (by rfl) (fun K hK => ?_)
        rw [if_neg (by intro hh; cases hh)]
        refine hK _ _ (((((((Ext.refl w0).trans x0).trans x1).trans x2).trans x3).trans x4).trans x5) ?_
        clear hK K
        try simp only [Act.put, List.setIfInBounds_toArray, List.set_cons_zero, List.set_cons_succ]
        refine wpOrdT_keep (by rfl) (fun K hK => ?_)
        rw [if_neg (by intro hh; cases hh)]
        refine hK _ _ (((((((Ext.refl w0).trans x0).trans x1).trans x2).trans x3).trans x4).trans x5) ?_
        clear hK K
        try simp only [Act.put, List.setIfInBounds_toArray, List.set_cons_zero, List.set_cons_succ]
        refine wpOrdT_keep (by rfl) (fun K hK => ?_)
        rw [if_neg (by intro hh; cases hh)]
        refine hK _ _ (((((((Ext.refl w0).trans x0).trans x1).trans x2).trans x3).trans x4).trans x5) ?_
        clear hK K
        try simp only [Act.put, List.setIfInBounds_toArray, List.set_cons_zero, List.set_cons_succ]
        refine wpOrdT_read (v := .bool false) (by rfl) (Or.inl ⟨by rfl, fun x hx => by go_simp⟩) ?_
        try simp only [Act.put, List.setIfInBounds_toArray, List.set_cons_zero, List.set_cons_succ]
        refine wpOrdT_done ?_
        try simp only [List.drop_succ_cons, List.drop_zero]
        have HF := Lib.hid (HXC.out.trans (hxd.trans (((((((Ext.refl w0).trans x0).trans x1).trans x2).trans x3).trans x4).trans x5)))
        clear c0 d1 d2 e0 e1 e2 e3
        go_wp2
        go_ret
        exact ⟨by rw [HE.out]; rfl, HF.out⟩
      | true =>
        refine wp_region_ordT 38 (readsT [0, 1, 2, 3, 4, 5, 7] (.stir 6 (.stir 8 (readsT [9, 10, 11, 12, 13, 15, 16, 17, 18] (.stir 14 (.stir 19 (.stir 20 (.stir 21 (readsT [22, 23, 24, 25, 26, 27, 29, 30, 32, 33] (.stir 28 (.stir 31 (.stir 34 (.stir 35 (.stir 36 (readsT [37] .done))))))))))))))) (by kernel_rfl) (by kernel_rfl) (fun _ _ _ _ _ h => h) ?_
        simp only [readsT]
        generalize wc.drew = w0 at *
        (refine wpOrdT_read (v := ?_) (by rfl) (Or.inl ⟨by rfl, fun x hx => ?_⟩) ?_; rotate_left; (· have hx' : Ext wc x := hxd.trans hx; have c0 := hx'.cell c0; have d1 := hx'.cell d1; have d2 := hx'.cell d2; have e0 := hx'.cell e0; have e1 := hx'.cell e1; have e2 := hx'.cell e2; have e3 := hx'.cell e3; go_simp; try first | with_reducible rfl | (rw [hwm]; try with_reducible rfl) | (rw [hwp]; try with_reducible rfl)); try simp only [Act.put, List.setIfInBounds_toArray, List.set_cons_zero, List.set_cons_succ])
        (refine wpOrdT_read (v := ?_) (by rfl) (Or.inl ⟨by rfl, fun x hx => ?_⟩) ?_; rotate_left; (· have hx' : Ext wc x := hxd.trans hx; have c0 := hx'.cell c0; have d1 := hx'.cell d1; have d2 := hx'.cell d2; have e0 := hx'.cell e0; have e1 := hx'.cell e1; have e2 := hx'.cell e2; have e3 := hx'.cell e3; go_simp; try first | with_reducible rfl | (rw [hwm]; try with_reducible rfl) | (rw [hwp]; try with_reducible rfl)); try simp only [Act.put, List.setIfInBounds_toArray, List.set_cons_zero, List.set_cons_succ])
        (refine wpOrdT_read (v := ?_) (by rfl) (Or.inl ⟨by rfl, fun x hx => ?_⟩) ?_; rotate_left; (· have hx' : Ext wc x := hxd.trans hx; have c0 := hx'.cell c0; have d1 := hx'.cell d1; have d2 := hx'.cell d2; have e0 := hx'.cell e0; have e1 := hx'.cell e1; have e2 := hx'.cell e2; have e3 := hx'.cell e3; go_simp; try first | with_reducible rfl | (rw [hwm]; try with_reducible rfl) | (rw [hwp]; try with_reducible rfl)); try simp only [Act.put, List.setIfInBounds_toArray, List.set_cons_zero, List.set_cons_succ])
        (refine wpOrdT_read (v := ?_) (by rfl) (Or.inl ⟨by rfl, fun x hx => ?_⟩) ?_; rotate_left; (· have hx' : Ext wc x := hxd.trans hx; have c0 := hx'.cell c0; have d1 := hx'.cell d1; have d2 := hx'.cell d2; have e0 := hx'.cell e0; have e1 := hx'.cell e1; have e2 := hx'.cell e2; have e3 := hx'.cell e3; go_simp; try first | with_reducible rfl | (rw [hwm]; try with_reducible rfl) | (rw [hwp]; try with_reducible rfl)); try simp only [Act.put, List.setIfInBounds_toArray, List.set_cons_zero, List.set_cons_succ])
        (refine wpOrdT_read (v := ?_) (by rfl) (Or.inl ⟨by rfl, fun x hx => ?_⟩) ?_; rotate_left; (· have hx' : Ext wc x := hxd.trans hx; have c0 := hx'.cell c0; have d1 := hx'.cell d1; have d2 := hx'.cell d2; have e0 := hx'.cell e0; have e1 := hx'.cell e1; have e2 := hx'.cell e2; have e3 := hx'.cell e3; go_simp; try first | with_reducible rfl | (rw [hwm]; try with_reducible rfl) | (rw [hwp]; try with_reducible rfl)); try simp only [Act.put, List.setIfInBounds_toArray, List.set_cons_zero, List.set_cons_succ])
        (refine wpOrdT_read (v := ?_) (by rfl) (Or.inl ⟨by rfl, fun x hx => ?_⟩) ?_; rotate_left; (· have hx' : Ext wc x := hxd.trans hx; have c0 := hx'.cell c0; have d1 := hx'.cell d1; have d2 := hx'.cell d2; have e0 := hx'.cell e0; have e1 := hx'.cell e1; have e2 := hx'.cell e2; have e3 := hx'.cell e3; go_simp; try first | with_reducible rfl | (rw [hwm]; try with_reducible rfl) | (rw [hwp]; try with_reducible rfl)); try simp only [Act.put, List.setIfInBounds_toArray, List.set_cons_zero, List.set_cons_succ])
        (refine wpOrdT_read (v := ?_) (by rfl) (Or.inl ⟨by rfl, fun x hx => ?_⟩) ?_; rotate_left; (· have hx' : Ext wc x := hxd.trans hx; have c0 := hx'.cell c0; have d1 := hx'.cell d1; have d2 := hx'.cell d2; have e0 := hx'.cell e0; have e1 := hx'.cell e1; have e2 := hx'.cell e2; have e3 := hx'.cell e3; go_simp; try first | with_reducible rfl | (rw [hwm]; try with_reducible rfl) | (rw [hwp]; try with_reducible rfl)); try simp only [Act.put, List.setIfInBounds_toArray, List.set_cons_zero, List.set_cons_succ])
        refine wpOrdT_keep (by rfl) (fun K hK => ?_)
        go_simp
        go_at_call 28
        with_reducible refine (setOf_c k2 (.slice Ac s.c.length cc) s.c w0 (HC3.ext (hxd.trans (Ext.refl w0))) (by have := HG.out.2.2.2.2.1; omega) (fun x hx => ⟨by rw [GC.out.len x hx]; omega, by rw [GC.out.len x hx]; omega, GC.out.small x hx⟩)).mono ?_
        rintro e v0 ⟨gC, mC, rfl, hC, _, _, _, x0⟩
        refine hK _ _ ((Ext.refl w0).trans x0) ?_
        clear hK K
        try simp only [Act.put, List.setIfInBounds_toArray, List.set_cons_zero, List.set_cons_succ]
        refine wpOrdT_keep (by rfl) (fun K hK => ?_)
        go_simp
        go_at_call 29
        have HA := has_c gC mC _ k2 bx ox cx (anyT s.c) (c.q :: X) v0 hC (IX.ext (hxd.trans ((Ext.refl w0).trans x0))) (by have := HXX.out.2; simp only [List.length_cons]; omega) (by simp) HXS.out
        rw [HY1.out, HXN.out] at HA
        with_reducible refine HA.mono ?_
        rintro e v1 ⟨rfl, x1⟩
        refine hK _ _ (((Ext.refl w0).trans x0).trans x1) ?_
        clear hK K
        try simp only [Act.put, List.setIfInBounds_toArray, List.set_cons_zero, List.set_cons_succ]
        refine wpOrdT_read (v := .bool true) (by rfl) (Or.inl ⟨by rfl, fun x hx => by go_simp⟩) ?_
        try simp only [Act.put, List.setIfInBounds_toArray, List.set_cons_zero, List.set_cons_succ]
        (refine wpOrdT_read (v := ?_) (by rfl) (Or.inl ⟨by rfl, fun x hx => ?_⟩) ?_; rotate_left; (· have hx' : Ext wc x := hxd.trans hx; have c0 := hx'.cell c0; have d1 := hx'.cell d1; have d2 := hx'.cell d2; have e0 := hx'.cell e0; have e1 := hx'.cell e1; have e2 := hx'.cell e2; have e3 := hx'.cell e3; go_simp; try first | with_reducible rfl | (rw [hwm]; try with_reducible rfl) | (rw [hwp]; try with_reducible rfl)); try simp only [Act.put, List.setIfInBounds_toArray, List.set_cons_zero, List.set_cons_succ])
        (refine wpOrdT_read (v := ?_) (by rfl) (Or.inl ⟨by rfl, fun x hx => ?_⟩) ?_; rotate_left; (· have hx' : Ext wc x := hxd.trans hx; have c0 := hx'.cell c0; have d1 := hx'.cell d1; have d2 := hx'.cell d2; have e0 := hx'.cell e0; have e1 := hx'.cell e1; have e2 := hx'.cell e2; have e3 := hx'.cell e3; go_simp; try first | with_reducible rfl | (rw [hwm]; try with_reducible rfl) | (rw [hwp]; try with_reducible rfl)); try simp only [Act.put, List.setIfInBounds_toArray, List.set_cons_zero, List.set_cons_succ])
        (refine wpOrdT_read (v := ?_) (by rfl) (Or.inl ⟨by rfl, fun x hx => ?_⟩) ?_; rotate_left; (· have hx' : Ext wc x := hxd.trans hx; have c0 := hx'.cell c0; have d1 := hx'.cell d1; have d2 := hx'.cell d2; have e0 := hx'.cell e0; have e1 := hx'.cell e1; have e2 := hx'.cell e2; have e3 := hx'.cell e3; go_simp; try first | with_reducible rfl | (rw [hwm]; try with_reducible rfl) | (rw [hwp]; try with_reducible rfl)); try simp only [Act.put, List.setIfInBounds_toArray, List.set_cons_zero, List.set_cons_succ])
        (refine wpOrdT_read (v := ?_) (by rfl) (Or.inl ⟨by rfl, fun x hx => ?_⟩) ?_; rotate_left; (· have hx' : Ext wc x := hxd.trans hx; have c0 := hx'.cell c0; have d1 := hx'.cell d1; have d2 := hx'.cell d2; have e0 := hx'.cell e0; have e1 := hx'.cell e1; have e2 := hx'.cell e2; have e3 := hx'.cell e3; go_simp; try first | with_reducible rfl | (rw [hwm]; try with_reducible rfl) | (rw [hwp]; try with_reducible rfl)); try simp only [Act.put, List.setIfInBounds_toArray, List.set_cons_zero, List.set_cons_succ])
        (refine wpOrdT_read (v := ?_) (by rfl) (Or.inl ⟨by rfl, fun x hx => ?_⟩) ?_; rotate_left; (· have hx' : Ext wc x := hxd.trans hx; have c0 := hx'.cell c0; have d1 := hx'.cell d1; have d2 := hx'.cell d2; have e0 := hx'.cell e0; have e1 := hx'.cell e1; have e2 := hx'.cell e2; have e3 := hx'.cell e3; go_simp; try first | with_reducible rfl | (rw [hwm]; try with_reducible rfl) | (rw [hwp]; try with_reducible rfl)); try simp only [Act.put, List.setIfInBounds_toArray, List.set_cons_zero, List.set_cons_succ])
        (refine wpOrdT_read (v := ?_) (by rfl) (Or.inl ⟨by rfl, fun x hx => ?_⟩) ?_; rotate_left; (· have hx' : Ext wc x := hxd.trans hx; have c0 := hx'.cell c0; have d1 := hx'.cell d1; have d2 := hx'.cell d2; have e0 := hx'.cell e0; have e1 := hx'.cell e1; have e2 := hx'.cell e2; have e3 := hx'.cell e3; go_simp; try first | with_reducible rfl | (rw [hwm]; try with_reducible rfl) | (rw [hwp]; try with_reducible rfl)); try simp only [Act.put, List.setIfInBounds_toArray, List.set_cons_zero, List.set_cons_succ])
        (refine wpOrdT_read (v := ?_) (by rfl) (Or.inl ⟨by rfl, fun x hx => ?_⟩) ?_; rotate_left; (· have hx' : Ext wc x := hxd.trans hx; have c0 := hx'.cell c0; have d1 := hx'.cell d1; have d2 := hx'.cell d2; have e0 := hx'.cell e0; have e1 := hx'.cell e1; have e2 := hx'.cell e2; have e3 := hx'.cell e3; go_simp; try first | with_reducible rfl | (rw [hwm]; try with_reducible rfl) | (rw [hwp]; try with_reducible rfl)); try simp only [Act.put, List.setIfInBounds_toArray, List.set_cons_zero, List.set_cons_succ])
        (refine wpOrdT_read (v := ?_) (by rfl) (Or.inl ⟨by rfl, fun x hx => ?_⟩) ?_; rotate_left; (· have hx' : Ext wc x := hxd.trans hx; have c0 := hx'.cell c0; have d1 := hx'.cell d1; have d2 := hx'.cell d2; have e0 := hx'.cell e0; have e1 := hx'.cell e1; have e2 := hx'.cell e2; have e3 := hx'.cell e3; go_simp; try first | with_reducible rfl | (rw [hwm]; try with_reducible rfl) | (rw [hwp]; try with_reducible rfl)); try simp only [Act.put, List.setIfInBounds_toArray, List.set_cons_zero, List.set_cons_succ])
        refine wpOrdT_keep (by rfl) (fun K hK => ?_)
        go_simp
        go_at_call 28
        with_reducible refine (setOf_c s.n (.slice Al s.l.length cl) s.l v1 (HL3.ext (hxd.trans (((Ext.refl w0).trans x0).trans x1))) (by have := HG.out.2.2.2.2.1; omega) (fun x hx => ⟨by rw [HG.out.2.1.len x hx]; omega, by rw [HG.out.2.1.len x hx]; omega, HG.out.2.1.small x hx⟩)).mono ?_
        rintro e v2 ⟨gL, mL, rfl, hL, _, _, _, x2⟩
        refine hK _ _ ((((Ext.refl w0).trans x0).trans x1).trans x2) ?_
        clear hK K
        try simp only [Act.put, List.setIfInBounds_toArray, List.set_cons_zero, List.set_cons_succ]
        refine wpOrdT_keep (by rfl) (fun K hK => ?_)
        go_simp
        go_at_call 37
        with_reducible refine (windowsOf_c s.n (.slice A1 c.l.length c1) (c.l) v2 (HCL.ext (hxd.trans ((((Ext.refl w0).trans x0).trans x1).trans x2))) (by have := HH.out.2.2.2.2.2.2; omega) (by omega) (by omega) HG.out.2.2.2.2.2.1).mono ?_
        rintro e v3 ⟨gWL, mWL, rfl, hWL, x3⟩
        refine hK _ _ (((((Ext.refl w0).trans x0).trans x1).trans x2).trans x3) ?_
        clear hK K
        try simp only [Act.put, List.setIfInBounds_toArray, List.set_cons_zero, List.set_cons_succ]
        refine wpOrdT_keep (by rfl) (fun K hK => ?_)
        go_simp
        go_at_call 38
        with_reducible refine (sorted_c gWL mWL _ s.n (winL (c.l) s.n (c.l).length) v3 hWL (winL_good HG.out.2.2.2.2.2.1) (by rw [winL_length]; omega) (by rw [winL_length]; have := HH.out.2.2.2.2.2.2; omega) (by omega) (by omega)).mono ?_
        rintro e v4 ⟨uSL, SSL, rfl, soSL, owSL, x4⟩
        obtain ⟨ASL, cSL, rfl⟩ := owSL.form
        refine hK _ _ ((((((Ext.refl w0).trans x0).trans x1).trans x2).trans x3).trans x4) ?_
        clear hK K
        try simp only [Act.put, List.setIfInBounds_toArray, List.set_cons_zero, List.set_cons_succ]
        refine wpOrdT_keep (by rfl) (fun K hK => ?_)
        go_simp
        go_at_call 31
        have CT := contains_c gL mL _ s.n (anyT s.l) _ SSL v4 (hL.ext (x3.trans x4)) owSL.lists (fun x hx => ⟨by rw [(soSL.good (winL_good HG.out.2.2.2.2.2.1)).len x hx]; omega, by rw [(soSL.good (winL_good HG.out.2.2.2.2.2.1)).len x hx]; omega, (soSL.good (winL_good HG.out.2.2.2.2.2.1)).small x hx⟩)
        have EQ := all_sort soSL (inT s.l)
        rw [HY2.out] at EQ
        have CT2 : Calls _ _ _ _ _ := CT
        rw [show (SSL.all fun x => anyT s.l (padI x)) = _ from EQ] at CT2
        with_reducible refine CT2.mono ?_
        rintro e v5 ⟨rfl, x5⟩
        clear CT CT2 EQ
        refine hK _ _ (((((((Ext.refl w0).trans x0).trans x1).trans x2).trans x3).trans x4).trans x5) ?_
        clear hK K
        try simp only [Act.put, List.setIfInBounds_toArray, List.set_cons_zero, List.set_cons_succ]
        refine wpOrdT_read (v := .bool true) (by rfl) (Or.inl ⟨by rfl, fun x hx => by go_simp⟩) ?_
        try simp only [Act.put, List.setIfInBounds_toArray, List.set_cons_zero, List.set_cons_succ]
        refine wpOrdT_read (v := .bool true) (by rfl) (Or.inl ⟨by rfl, fun x hx => by go_simp⟩) ?_
        try simp only [Act.put, List.setIfInBounds_toArray, List.set_cons_zero, List.set_cons_succ]
        (refine wpOrdT_read (v := ?_) (by rfl) (Or.inl ⟨by rfl, fun x hx => ?_⟩) ?_; rotate_left; (· have hx' : Ext wc x := hxd.trans hx; have c0 := hx'.cell c0; have d1 := hx'.cell d1; have d2 := hx'.cell d2; have e0 := hx'.cell e0; have e1 := hx'.cell e1; have e2 := hx'.cell e2; have e3 := hx'.cell e3; go_simp; try first | with_reducible rfl | (rw [hwm]; try with_reducible rfl) | (rw [hwp]; try with_reducible rfl)); try simp only [Act.put, List.setIfInBounds_toArray, List.set_cons_zero, List.set_cons_succ])
        (refine wpOrdT_read (v := ?_) (by rfl) (Or.inl ⟨by rfl, fun x hx => ?_⟩) ?_; rotate_left; (· have hx' : Ext wc x := hxd.trans hx; have c0 := hx'.cell c0; have d1 := hx'.cell d1; have d2 := hx'.cell d2; have e0 := hx'.cell e0; have e1 := hx'.cell e1; have e2 := hx'.cell e2; have e3 := hx'.cell e3; go_simp; try first | with_reducible rfl | (rw [hwm]; try with_reducible rfl) | (rw [hwp]; try with_reducible rfl)); try simp only [Act.put, List.setIfInBounds_toArray, List.set_cons_zero, List.set_cons_succ])
        (refine wpOrdT_read (v := ?_) (by rfl) (Or.inl ⟨by rfl, fun x hx => ?_⟩) ?_; rotate_left; (· have hx' : Ext wc x := hxd.trans hx; have c0 := hx'.cell c0; have d1 := hx'.cell d1; have d2 := hx'.cell d2; have e0 := hx'.cell e0; have e1 := hx'.cell e1; have e2 := hx'.cell e2; have e3 := hx'.cell e3; go_simp; try first | with_reducible rfl | (rw [hwm]; try with_reducible rfl) | (rw [hwp]; try with_reducible rfl)); try simp only [Act.put, List.setIfInBounds_toArray, List.set_cons_zero, List.set_cons_succ])
        (refine wpOrdT_read (v := ?_) (by rfl) (Or.inl ⟨by rfl, fun x hx => ?_⟩) ?_; rotate_left; (· have hx' : Ext wc x := hxd.trans hx; have c0 := hx'.cell c0; have d1 := hx'.cell d1; have d2 := hx'.cell d2; have e0 := hx'.cell e0; have e1 := hx'.cell e1; have e2 := hx'.cell e2; have e3 := hx'.cell e3; go_simp; try first | with_reducible rfl | (rw [hwm]; try with_reducible rfl) | (rw [hwp]; try with_reducible rfl)); try simp only [Act.put, List.setIfInBounds_toArray, List.set_cons_zero, List.set_cons_succ])
        (refine wpOrdT_read (v := ?_) (by rfl) (Or.inl ⟨by rfl, fun x hx => ?_⟩) ?_; rotate_left; (· have hx' : Ext wc x := hxd.trans hx; have c0 := hx'.cell c0; have d1 := hx'.cell d1; have d2 := hx'.cell d2; have e0 := hx'.cell e0; have e1 := hx'.cell e1; have e2 := hx'.cell e2; have e3 := hx'.cell e3; go_simp; try first | with_reducible rfl | (rw [hwm]; try with_reducible rfl) | (rw [hwp]; try with_reducible rfl)); try simp only [Act.put, List.setIfInBounds_toArray, List.set_cons_zero, List.set_cons_succ])
        (refine wpOrdT_read (v := ?_) (by rfl) (Or.inl ⟨by rfl, fun x hx => ?_⟩) ?_; rotate_left; (· have hx' : Ext wc x := hxd.trans hx; have c0 := hx'.cell c0; have d1 := hx'.cell d1; have d2 := hx'.cell d2; have e0 := hx'.cell e0; have e1 := hx'.cell e1; have e2 := hx'.cell e2; have e3 := hx'.cell e3; go_simp; try first | with_reducible rfl | (rw [hwm]; try with_reducible rfl) | (rw [hwp]; try with_reducible rfl)); try simp only [Act.put, List.setIfInBounds_toArray, List.set_cons_zero, List.set_cons_succ])
        (refine wpOrdT_read (v := ?_) (by rfl) (Or.inl ⟨by rfl, fun x hx => ?_⟩) ?_; rotate_left; (· have hx' : Ext wc x := hxd.trans hx; have c0 := hx'.cell c0; have d1 := hx'.cell d1; have d2 := hx'.cell d2; have e0 := hx'.cell e0; have e1 := hx'.cell e1; have e2 := hx'.cell e2; have e3 := hx'.cell e3; go_simp; try first | with_reducible rfl | (rw [hwm]; try with_reducible rfl) | (rw [hwp]; try with_reducible rfl)); try simp only [Act.put, List.setIfInBounds_toArray, List.set_cons_zero, List.set_cons_succ])
        (refine wpOrdT_read (v := ?_) (by rfl) (Or.inl ⟨by rfl, fun x hx => ?_⟩) ?_; rotate_left; (· have hx' : Ext wc x := hxd.trans hx; have c0 := hx'.cell c0; have d1 := hx'.cell d1; have d2 := hx'.cell d2; have e0 := hx'.cell e0; have e1 := hx'.cell e1; have e2 := hx'.cell e2; have e3 := hx'.cell e3; go_simp; try first | with_reducible rfl | (rw [hwm]; try with_reducible rfl) | (rw [hwp]; try with_reducible rfl)); try simp only [Act.put, List.setIfInBounds_toArray, List.set_cons_zero, List.set_cons_succ])
        refine wpOrdT_keep (by rfl) (fun K hK => ?_)
        go_simp
        go_at_call 28
        with_reducible refine (setOf_c s.n (.slice Ar s.r.length cr) s.r v5 (HR3.ext (hxd.trans (((((((Ext.refl w0).trans x0).trans x1).trans x2).trans x3).trans x4).trans x5))) (by have := HG.out.2.2.2.2.1; omega) (fun x hx => ⟨by rw [HG.out.2.2.1.len x hx]; omega, by rw [HG.out.2.2.1.len x hx]; omega, HG.out.2.2.1.small x hx⟩)).mono ?_
        rintro e v6 ⟨gR, mR, rfl, hR, _, _, _, x6⟩
        refine hK _ _ ((((((((Ext.refl w0).trans x0).trans x1).trans x2).trans x3).trans x4).trans x5).trans x6) ?_
        clear hK K
        try simp only [Act.put, List.setIfInBounds_toArray, List.set_cons_zero, List.set_cons_succ]
        refine wpOrdT_keep (by rfl) (fun K hK => ?_)
        go_simp
        go_at_call 39
        with_reducible refine (beyond_c (.slice A2 c.r.length c2) c.r v6 (HCR.ext (hxd.trans ((((((((Ext.refl w0).trans x0).trans x1).trans x2).trans x3).trans x4).trans x5).trans x6)))).mono ?_
        rintro e v7 ⟨rfl, hww⟩
        have x7 : Ext v6 v7 := by rw [← hww]; exact Ext.refl _
        clear hww
        refine hK _ _ (((((((((Ext.refl w0).trans x0).trans x1).trans x2).trans x3).trans x4).trans x5).trans x6).trans x7) ?_
        clear hK K
        try simp only [Act.put, List.setIfInBounds_toArray, List.set_cons_zero, List.set_cons_succ]
        refine wpOrdT_keep (by rfl) (fun K hK => ?_)
        go_simp
        go_at_call 37
        with_reducible refine (windowsOf_c s.n (beyV (.slice A2 c.r.length c2) c.r.length) (c.r.drop 1) v7 (HBY.ext (hxd.trans (((((((((Ext.refl w0).trans x0).trans x1).trans x2).trans x3).trans x4).trans x5).trans x6).trans x7))) (by rw [List.length_drop]; have := HH.out.2.2.2.2.2.2; omega) (by omega) (by omega) HG.out.2.2.2.2.2.2.1).mono ?_
        rintro e v8 ⟨gWR, mWR, rfl, hWR, x8⟩
        refine hK _ _ ((((((((((Ext.refl w0).trans x0).trans x1).trans x2).trans x3).trans x4).trans x5).trans x6).trans x7).trans x8) ?_
        clear hK K
        try simp only [Act.put, List.setIfInBounds_toArray, List.set_cons_zero, List.set_cons_succ]
        refine wpOrdT_keep (by rfl) (fun K hK => ?_)
        go_simp
        go_at_call 38
        with_reducible refine (sorted_c gWR mWR _ s.n (winL (c.r.drop 1) s.n (c.r.drop 1).length) v8 hWR (winL_good HG.out.2.2.2.2.2.2.1) (by rw [winL_length]; omega) (by rw [winL_length]; rw [List.length_drop]; have := HH.out.2.2.2.2.2.2; omega) (by omega) (by omega)).mono ?_
        rintro e v9 ⟨uSR, SSR, rfl, soSR, owSR, x9⟩
        obtain ⟨ASR, cSR, rfl⟩ := owSR.form
        refine hK _ _ (((((((((((Ext.refl w0).trans x0).trans x1).trans x2).trans x3).trans x4).trans x5).trans x6).trans x7).trans x8).trans x9) ?_
        clear hK K
        try simp only [Act.put, List.setIfInBounds_toArray, List.set_cons_zero, List.set_cons_succ]
        refine wpOrdT_keep (by rfl) (fun K hK => ?_)
        go_simp
        go_at_call 31
        have CT := contains_c gR mR _ s.n (anyT s.r) _ SSR v9 (hR.ext ((x7.trans x8).trans x9)) owSR.lists (fun x hx => ⟨by rw [(soSR.good (winL_good HG.out.2.2.2.2.2.2.1)).len x hx]; omega, by rw [(soSR.good (winL_good HG.out.2.2.2.2.2.2.1)).len x hx]; omega, (soSR.good (winL_good HG.out.2.2.2.2.2.2.1)).small x hx⟩)
        have EQ := all_sort soSR (inT s.r)
        rw [HY3.out] at EQ
        have CT2 : Calls _ _ _ _ _ := CT
        rw [show (SSR.all fun x => anyT s.r (padI x)) = _ from EQ] at CT2
        with_reducible refine CT2.mono ?_
        rintro e v10 ⟨rfl, x10⟩
        clear CT CT2 EQ
        refine hK _ _ ((((((((((((Ext.refl w0).trans x0).trans x1).trans x2).trans x3).trans x4).trans x5).trans x6).trans x7).trans x8).trans x9).trans x10) ?_
        clear hK K
        try simp only [Act.put, List.setIfInBounds_toArray, List.set_cons_zero, List.set_cons_succ]
        refine wpOrdT_read (v := .bool y3) (by rfl) (Or.inl ⟨by rfl, fun x hx => by go_simp⟩) ?_
        try simp only [Act.put, List.setIfInBounds_toArray, List.set_cons_zero, List.set_cons_succ]
        refine wpOrdT_done ?_
        try simp only [List.drop_succ_cons, List.drop_zero]
        have HF := Lib.hid (HXC.out.trans (hxd.trans ((((((((((((Ext.refl w0).trans x0).trans x1).trans x2).trans x3).trans x4).trans x5).trans x6).trans x7).trans x8).trans x9).trans x10)))
        clear c0 d1 d2 e0 e1 e2 e3
        go_wp2
        go_ret
        exact ⟨by rw [HE.out]; cases y3 <;> rfl, HF.out⟩
end Go.Proofs.YtapjofbjedpmgaaGreat
end
