/- Contract of the program's list of the nodes at which a machine halts. The machine is valid, the size is from 1 to 9. -/
import Derived.Test.YtdkdmcaehinkhaaDoorSeg2
namespace Go.Proofs.YtdkdmcaehinkhaaDoor
open Go Go.RowKit Go.Proofs
set_option maxHeartbeats 400000
theorem rowInfo : (Tryd.prog.info? 38).map (fun i => (i.zero, i.size, i.bytes)) = some (some (.slice none 0 0), 1, 24) := by kernel_rfl
/-- A row is appended. -/
theorem OwnIntRows.snoc {base : Nat} {w w' : World} {v v' u : Value} {xss : List (List Int)} {ys : List Int} {vs : List Value} (h1 : w.ownsRow base 38 1 v xss.length vs)
    (h2 : ∀ i, (h : i < xss.length) → ∃ u, vs[i]? = some u ∧ OwnInts base w u xss[i])
    (h3 : ∀ (i j : Nat) (u u' : Value) (g : Nat), vs[i]? = some u → vs[j]? = some u' → u.ownBlock = some g → u'.ownBlock = some g → i = j)
    (hu : OwnInts base w u ys) (hne : ∀ (i : Nat) (u' : Value) (g : Nat), vs[i]? = some u' → u'.ownBlock = some g → u.ownBlock ≠ some g)
    (ho : w'.ownsRow base 38 1 v' (xss.length + 1) (vs ++ [u])) (hg : w.grownBy w' v.ownBlock) : OwnIntRows base w' v' (xss ++ [ys]) := by
  have hl := h1.1
  have keep : ∀ {x : Value} {zs : List Int}, OwnInts base w x zs → OwnInts base w' x zs := fun hx => World.ownsRow.kept hx hg (own_ne hx h1 (by decide))
  refine ⟨vs ++ [u], by simpa using ho, fun i hi => ?_, ?_⟩
  · by_cases h : i < xss.length
    · obtain ⟨x, e, hx⟩ := h2 i h
      exact ⟨x, by rw [List.getElem?_append_left (by omega), e], by rw [List.getElem_append_left h]; exact keep hx⟩
    · have hie : i = xss.length := by simp at hi; omega
      subst hie
      exact ⟨u, by rw [List.getElem?_append_right (by omega)]; simp [hl], by simpa using keep hu⟩
  · intro i j x y g hx hy hgx hgy
    have hlv : vs.length = xss.length := by omega
    by_cases hi : i < vs.length <;> by_cases hj : j < vs.length
    · rw [List.getElem?_append_left hi] at hx
      rw [List.getElem?_append_left hj] at hy
      exact h3 i j x y g hx hy hgx hgy
    · rw [List.getElem?_append_left hi] at hx
      rw [List.getElem?_append_right (by omega)] at hy
      have : u = y := by
        have := (List.getElem?_eq_some_iff.1 hy).1
        have e : j - vs.length = 0 := by simp at this; omega
        rw [e] at hy; simpa using hy
      subst this
      exact absurd hgy (hne i x g hx hgx)
    · rw [List.getElem?_append_right (by omega)] at hx
      rw [List.getElem?_append_left hj] at hy
      have : u = x := by
        have := (List.getElem?_eq_some_iff.1 hx).1
        have e : i - vs.length = 0 := by simp at this; omega
        rw [e] at hx; simpa using hx
      subst this
      exact absurd hgx (hne j y g hy hgy)
    · rw [List.getElem?_append_right (by omega)] at hx hy
      have a1 := (List.getElem?_eq_some_iff.1 hx).1
      have a2 := (List.getElem?_eq_some_iff.1 hy).1
      simp at a1 a2
      omega
/-- The rows of a list lie below the heap's end: a row that is made later lies in another block. -/
theorem rows_ne {base : Nat} {w w' : World} {u : Value} {xss : List (List Int)} {ys : List Int} {vs : List Value} {n : Nat} {v : Value} (h1 : w.ownsRow base 38 1 v n vs) (hn : n = xss.length)
    (h2 : ∀ i, (h : i < xss.length) → ∃ u, vs[i]? = some u ∧ OwnInts base w u xss[i]) (hu : OwnInts w.heap.size w' u ys) :
    ∀ (i : Nat) (u' : Value) (g : Nat), vs[i]? = some u' → u'.ownBlock = some g → u.ownBlock ≠ some g := by
  intro i u' g hi hg hg'
  have hl := h1.1
  have hil : i < xss.length := by have := (List.getElem?_eq_some_iff.1 hi).1; omega
  obtain ⟨x, e, hx⟩ := h2 i hil
  rw [hi] at e
  injection e with e
  subst e
  have a := (hx.lt g hg).2
  have b := (hu.lt g hg').1
  omega
theorem OwnParts.apart {b : Nat} {w w' : World} {v l : Value} {ps : List (Int × Int)} (h : OwnParts b w v ps) {base n : Nat} {vs : List Value} (ho : w.ownsRow base 38 1 l n vs) (hg : w.grownBy w' l.ownBlock) : OwnParts b w' v ps := by
  obtain ⟨us, h1, h2⟩ := h
  refine ⟨us, World.ownsRow.kept h1 hg (own_ne h1 ho (by decide)), fun i hi => ?_⟩
  obtain ⟨c, e0, e1, e2, hb⟩ := h2 i hi
  exact ⟨c, e0, e1, e2, hb.apart ho (by decide) hg⟩
/-- The nodes at which a machine halts. -/
def startsOf (n : Nat) (ps : List (Int × Int)) : List (List Int) := ps.map fun p => segNode (List.replicate (n + 2) (-1)) ((n : Int) / 2) p.1 p.2
theorem startsOf_take (n : Nat) (ps : List (Int × Int)) (k : Nat) (h : k < ps.length) : startsOf n (ps.take (k + 1)) = startsOf n (ps.take k) ++ [segNode (List.replicate (n + 2) (-1)) ((n : Int) / 2) ps[k].1 ps[k].2] := by
  unfold startsOf; rw [List.take_succ_eq_append_getElem h, List.map_append]; rfl
theorem OwnInts.base {b b' : Nat} {w : World} {v : Value} {zs : List Int} (h : OwnInts b w v zs) (hb : b' ≤ b) : OwnInts b' w v zs := ownsRow_base h hb
set_option maxHeartbeats 1600000 in
theorem segmentStarts_c (v : Value) (m : MachD) (n : Nat) (w : World) (h : Mach w v m) (hn : m.rules.length ≤ 6000) (h1 : 2 ≤ m.sy) (h2 : m.sy ≤ 6) (n1 : 1 ≤ n) (n2 : n ≤ 9) :
    Calls Tryd.prog 58 #[v, .int .i64 n] w fun e w' => ∃ u, e = .returned u ∧ OwnIntRows w.heap.size w' u (startsOf n (partsOf m.sy (freeTo m.rules m.rules.length))) ∧ Ext w w' := by
  obtain ⟨rv, rfl, hr⟩ := h
  obtain ⟨i0, hi, hz0, hz1, hz2⟩ := info_parts rowInfo
  have hps : (partsOf m.sy (freeTo m.rules m.rules.length)).length ≤ 6000 := by have := freeTo_length m.rules m.rules.length; simp [partsOf]; omega
  go_enter Tryd.func58, Tryd.ntmps58
  obtain ⟨Ar, cr, rfl, _, _⟩ := hr.form
  go_wp2_with fail
  refine (haltingPartials_c _ m _ ⟨_, rfl, hr.ext ((Ext.alloc _ _).trans (Ext.alloc _ _))⟩ hn h1 h2).mono ?_
  rintro e w1 ⟨u, rfl, hu, hx1⟩
  have hX : Ext w w1 := ((Ext.alloc _ _).trans (Ext.alloc _ _)).trans hx1
  have hown0 : w1.ownsRow w.heap.size 38 1 (.slice (some ⟨w.heap.size + 1, 0, none⟩) 0 0) 0 [] := by
    refine ownsRow_ext ?_ hx1
    have := World.ownsRow_made (base := w.heap.size) (e := 38) (size := 1) (w.alloc (.cells #[.int .i64 m.sy, .int .i64 m.st, .slice Ar m.rules.length cr] 31)) #[] 0 (by simp) (by unfold maxLen; omega) (by simp)
    simpa using this
  generalize hZ : partsOf m.sy (freeTo m.rules m.rules.length) = ps at *
  have HZ := Lib.hid hZ
  clear hZ
  obtain ⟨bz, hu⟩ : ∃ bz, OwnParts bz w1 u ps := ⟨_, hu⟩
  obtain ⟨Az, cz, rfl, h5, h5'⟩ := hu.form
  clear hx1 hr
  go_wp2
  go_loopw [5, 13] (fun l i wr => ∃ k : Nat, k ≤ ps.length ∧ i = .int .i64 k ∧ Ext w wr ∧ OwnParts bz wr (.slice Az ps.length cz) ps ∧ OwnIntRows w.heap.size wr l (startsOf n (ps.take k))) (fun _ i _ => ps.length - (intOf i).toNat)
  case atStart => exact ⟨0, Nat.zero_le _, rfl, hX, hu, ⟨[], by simpa [startsOf] using hown0, fun i hi => by simp [startsOf] at hi, fun i j u u' g hi => by simp at hi⟩⟩
  case round =>
    clear hX hu hown0
    obtain ⟨k, hk, rfl, hX, hu, ho⟩ := hrel
    have hsl : (startsOf n (ps.take k)).length = k := by simp [startsOf]; omega
    obtain ⟨Al, cl, rfl, h6, h6'⟩ := ho.rows.form
    by_cases hlt : k < ps.length
    · obtain ⟨gz, rfl, bc, c0, c1, c2, c3⟩ := hu.at hlt
      have HP := Lib.hid (startsOf_take n ps k hlt)
      have HL := Lib.hid hsl
      have hkl : (startsOf n (ps.take k)).length ≤ 6000 := by omega
      clear hsl
      go_wp2_with fail
      refine (Repeat_c (wr.heap.size + 1) (n + 2) (-1) _ (Blk.new _ _ _ _ (by simp)) (by omega) (by omega)).mono ?_
      rintro e wq ⟨uq, rfl, huq, hxq⟩
      have hL3 : 3 ≤ (List.replicate (n + 2) (-1 : Int)).length := by simp; omega
      have hL4 : (List.replicate (n + 2) (-1 : Int)).length ≤ 1048576 := by simp; omega
      generalize List.replicate (n + 2) (-1 : Int) = L at *
      obtain ⟨Aq, cq, rfl, _, _⟩ := huq.ints.form
      have hXq : Ext wr wq := ((Ext.alloc _ _).trans (Ext.alloc _ _)).trans hxq
      have bX := ((Blk.new wr wr.heap.size _ _ rfl).alloc (.cells #[.int .i64 (-1)] 2)).ext hxq
      have k0 := bX.cell 0
      have k1 := bX.cell 2
      simp only [List.getElem?_toArray, List.getElem?_cons_zero, List.getElem?_cons_succ] at k0 k1
      have bC := c3.ext hXq
      have k2 := bC.cell 0
      simp only [List.getElem?_toArray, List.getElem?_cons_zero] at k2
      have hup : OwnParts bz wq (.slice (some ⟨gz, 0, none⟩) ps.length cz) ps := hu.ext hXq
      have ho := ho.ext hXq
      have hX := hX.trans hXq
      have hui := huq.ints
      clear c0 c1 c2 c3 hxq hXq hu huq
      generalize hps1 : ps[k].1 = pq at *
      generalize hps2 : ps[k].2 = py at *
      clear hps1 hps2
      obtain ⟨vs, o1, o2, o3⟩ := ho
      obtain ⟨hh, hd0⟩ : ∃ q, (n : Int) / 2 = q := ⟨_, rfl⟩
      have hd1 : (n : Int).tdiv 2 = hh := by rw [Int.tdiv_eq_ediv_of_nonneg (by omega)]; exact hd0
      have hd2 : IntKind.i64.wrap hh = hh := IntWalk.i64_in _ (by omega)
      have hd3 : 0 ≤ hh := by omega
      have hd4 : hh ≤ 9 := by omega
      rw [hd0] at HP
      have hsz := hX.size
      have x0 := (Ext.drew wq).cell k0
      have x1 := (Ext.drew wq).cell k1
      have x2 := (Ext.drew wq).cell k2
      go_wp2_with fail
      set_option maxRecDepth 20000 in
      go_region_held3 (fun w' => w'.cell? ⟨wr.heap.size, 0, none⟩ = some (.int .i64 pq) ∧ w'.cell? ⟨wr.heap.size, 2, none⟩ = some (.slice (some ⟨bc, 0, none⟩) 1 1) ∧ w'.cell? ⟨bc, 0, none⟩ = some (.int .i64 py))
        (first | go_keep | exact ⟨hx3.cell x0, hx3.cell x1, hx3.cell x2⟩ | exact ⟨l0, l1, l2⟩)
        (first
          | (go_at_call 76; ((with_reducible refine (segmentNode_c _ L hh pq py _ (hui.ext (Ext.drew _)) hL3 hL4 (by omega) (by omega)).mono ?_)); rintro e w3 ⟨u3, rfl, hu3, hx3⟩; obtain ⟨A3, c3, rfl, _, _⟩ := hu3.ints.form)
          | (refine step_append_lies _ (by rfl) _ _ _ (by rfl) w.heap.size 38 i0 _ 1 24 Tryd.underlying26 hi hz0 hz1 hz2 rfl (by omega) _ _ vs (by rfl) ((ownsRow_ext (ownsRow_ext o1 (Ext.drew _)) hx3).alloc _) ⟨w3.heap.size, 0, none⟩ 1 1 [.slice A3 L.length c3] (by rfl) (by rfl) (World.news_of_block (cs := #[.slice A3 L.length c3]) (t := 38) (fr := (0, 0)) (Blk.new w3 w3.heap.size _ _ rfl)) (by simp [Value.oneCell']) (by omega) (by unfold maxLen; omega) (by omega) (by have := hx3.size; simp at this; simp; omega) (w3.heap.size + 1) (by simp) ?_; intro gg cap w4 hown4 hgrow hat hlt4; have hO := (ownsRow_ext (ownsRow_ext o1 (Ext.drew _)) hx3).alloc (.cells #[.slice A3 L.length c3] 38); have bX4 := Blk.apart ((bX.drew.ext hx3).alloc _) hO (by decide) hgrow; have bC4 := Blk.apart ((bC.drew.ext hx3).alloc _) hO (by decide) hgrow; have l0 := bX4.cell 0; have l1 := bX4.cell 2; have l2 := bC4.cell 0; simp only [List.getElem?_toArray, List.getElem?_cons_zero, List.getElem?_cons_succ] at l0 l1 l2))
      have hu3' : OwnInts wq.drew.heap.size w3 (.slice A3 L.length c3) (segNode L hh pq py) := by have := hu3; rwa [segNode_length] at this
      have R : OwnIntRows w.heap.size w4 (.slice (some ⟨gg, 0, none⟩) ((startsOf n (ps.take k)).length + 1) cap) (startsOf n (ps.take (k + 1))) := by
        rw [HP.out]
        have hO2 : ∀ i, (h : i < (startsOf n (ps.take k)).length) → ∃ u, vs[i]? = some u ∧ OwnInts w.heap.size wq.drew u (startsOf n (ps.take k))[i] := o2
        refine OwnIntRows.snoc (u := .slice A3 L.length c3) hO (fun i hi => ?_) o3 ((hu3'.ext (Ext.alloc _ _)).base (by simpa using hsz)) (rows_ne (w := wq.drew) (xss := startsOf n (ps.take k)) (by exact o1) rfl hO2 hu3') hown4 hgrow
        obtain ⟨u', e, hu'⟩ := o2 i hi
        exact ⟨u', e, ((hu'.ext (Ext.drew _)).ext hx3).ext (Ext.alloc _ _)⟩
      have hX4 : Ext w w4 := (((hX.trans (Ext.drew _)).trans hx3).trans (Ext.alloc _ _)).grown hgrow (fun b hb => (o1.lt b hb).1)
      have hup4 : OwnParts bz w4 (.slice (some ⟨gz, 0, none⟩) ps.length cz) ps := OwnParts.apart (((hup.ext (Ext.drew _)).ext hx3).ext (Ext.alloc _ _)) hO hgrow
      clear o1 o2 o3 hown4 hgrow hat l0 l1 l2 k0 k1 k2 x0 x1 x2 hO bX bC bX4 bC4 hup hu3 hu3' hui
      go_wp2
      go_roundw
      case rel => exact ⟨k + 1, by omega, by go_num, hX4, hup4, R⟩
      case measure => simp [intOf]; omega
    · have HK := Lib.hid (show ps.take k = ps from List.take_of_length_le (by omega))
      clear hsl
      go_wp2
      go_ret
      exact ⟨_, rfl, by rw [HZ.out]; have := ho; rw [HK.out] at this; rw [HK.out]; exact this, hX⟩
end Go.Proofs.YtdkdmcaehinkhaaDoor
