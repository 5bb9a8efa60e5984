/- What a bouncer's proof for three records says; plain.
Contract: the search of a formula tape with two repeaters.
Contract: the search of a formula tape with two repeaters. -/
import Derived.Test.YtojiammendjpkaaGreatB38
import Derived.Test.YtojiammendjpkaaGreatB37
import Derived.Test.YtojiammendjpkaaGreatB19
section
set_option linter.unusedSimpArgs false
set_option linter.unusedVariables false
namespace Go.Proofs.YtojiammendjpkaaGreat
open Go Go.RowKit Go.Proofs
set_option maxHeartbeats 400000
theorem evs_get {α : Type} : ∀ (l : List α) (i : Nat), (evs l)[i]? = l[2 * i]?
  | [], i => by simp [evs]
  | [a], i => by
    cases i with
    | zero => rfl
    | succ i => simp [evs, show 2 * (i + 1) = 2 * i + 1 + 1 by omega]
  | a :: b :: l, i => by
    cases i with
    | zero => rfl
    | succ i =>
      show (a :: evs l)[i + 1]? = _
      rw [List.getElem?_cons_succ, evs_get l i, show 2 * (i + 1) = 2 * i + 1 + 1 by omega, List.getElem?_cons_succ, List.getElem?_cons_succ]
theorem ods_get {α : Type} : ∀ (l : List α) (i : Nat), (ods l)[i]? = l[2 * i + 1]?
  | [], i => by simp [ods]
  | [a], i => by simp [ods]
  | a :: b :: l, i => by
    cases i with
    | zero => rfl
    | succ i =>
      show (b :: ods l)[i + 1]? = _
      rw [List.getElem?_cons_succ, ods_get l i, show 2 * (i + 1) + 1 = 2 * i + 1 + 1 + 1 by omega, List.getElem?_cons_succ, List.getElem?_cons_succ]
theorem Tried.words {a b : List Int} {ps : List (List Int)} {m : MachD} (hm : machOk m = true) (h : Tried a b ps) (ha : ∀ z ∈ a, 0 ≤ z ∧ z < m.sy) (hb : ∀ z ∈ b, 0 ≤ z ∧ z < m.sy) : ps.all wordB = true := by
  obtain ⟨_, h6, _, _⟩ := machOk_bounds hm
  refine List.all_eq_true.2 fun x hx => ?_
  obtain ⟨h1, h2⟩ := h.wl x hx
  unfold wordB
  rw [Bool.and_eq_true]
  refine ⟨decide_eq_true (by omega), List.all_eq_true.2 fun z hz => inB_iff.2 ?_⟩
  have := (h2 z hz).elim (ha z) (hb z)
  omega
theorem repL_two : ∀ c, repL [2] c = List.replicate c 2
  | 0 => rfl
  | c + 1 => by
    rw [repL_succ, repL_two c]
    rfl
/-- What the search of a bouncer's steps finds, where the visitor stops at the first. -/
theorem acc_first {m : MachD} (hm : machOk m = true) {f : FoD} {cs : List Int} {c : ConfD} (hok : foOk m f = true) (hl : cs.length = f.rs.length) (hz : ∀ o ∈ f.os, 0 ≤ o) (hc : ∀ z ∈ cs, z = 2) :
    accV (fun _ => false) m f cs c = [] ∨ ∃ k, accV (fun _ => false) m f cs c = [k] ∧ 1 ≤ k ∧ k ≤ 400 ∧ startB f cs c = true ∧ ∃ l, accR m f cs 400 1 f false = k :: l := by
  unfold accV
  by_cases hs : startB f cs c = true
  · rw [if_pos hs]
    cases hr : accR m f cs 400 1 f false with
    | nil => exact .inl rfl
    | cons k l =>
      have hmem : k ∈ accR m f cs 400 1 f false := by rw [hr]; exact List.mem_cons_self
      obtain ⟨g, d, h1, h2, h3, _⟩ := acc_means hm f cs 400 1 f false k hmem hok hl (fun j hj => by
        have hos := (foOk_parts hok).2.2.1
        have e1 : cs.getD j 0 = cs[j] := by simp [List.getD, List.getElem?_eq_getElem hj]
        have hj' : j < f.os.length := by omega
        have e2 : f.os.getD j 0 = f.os[j] := by simp [List.getD, List.getElem?_eq_getElem hj']
        rw [e1, e2, hc _ (List.getElem_mem hj)]
        have := hz _ (List.getElem_mem hj')
        omega)
      refine .inr ⟨k, ?_, by omega, by omega, hs, l, rfl⟩
      unfold runV
      rw [if_neg (by simp)]
  · rw [if_neg hs]
    exact .inl rfl
/-- A record that is met on the run from the blank tape. -/
structure RecG (m : MachD) (w : World) (x : RecV) : Prop where
  pos : 1 ≤ x.n
  run : RunsTo m blankC x.n
  conf : x.c = cfgI m blankC x.n
  le : x.n ≤ 20000
  l : Ints w x.lv x.c.l
  r : Ints w x.rv x.c.r
  fl : Flat x.lv
  fr : Flat x.rv
theorem RecG.ext {m : MachD} {w w' : World} {x : RecV} (h : RecG m w x) (he : Ext w w') : RecG m w' x := ⟨h.pos, h.run, h.conf, h.le, h.l.ext he, h.r.ext he, h.fl, h.fr⟩
theorem RecG.good {m : MachD} (hm : machOk m = true) {w : World} {x : RecV} (h : RecG m w x) : IGood m x.c := by
  rw [h.conf]
  exact cfg_good hm (blank_good hm) _ h.run.no
theorem RecG.len {m : MachD} {w : World} {x : RecV} (h : RecG m w x) : x.c.l.length ≤ 200 ∧ x.c.r.length ≤ 200 := by
  have := h.run.fit x.n (Nat.le_refl _)
  rw [← h.conf] at this
  simpa [fitI] using this
/-- The line of a record. -/
def lineR (x : RecV) : List Int := x.c.l.reverse ++ [0]
theorem RecG.line {m : MachD} (hm : machOk m = true) {w : World} {x : RecV} (h : RecG m w x) : (lineR x).length ≤ 201 ∧ ∀ z ∈ lineR x, 0 ≤ z ∧ z < m.sy := by
  obtain ⟨h2, _, _, _⟩ := machOk_bounds hm
  refine ⟨by have := h.len.1; unfold lineR; rw [List.length_append, List.length_reverse]; simp only [List.length_cons, List.length_nil]; omega, fun z hz => ?_⟩
  unfold lineR at hz
  rcases List.mem_append.1 hz with hz | hz
  · exact (h.good hm).l z (List.mem_reverse.1 hz)
  · rw [List.mem_singleton.1 hz]
    omega
/-- The proof that is made is in order. -/
theorem bnc_of {m : MachD} (hm : machOk m = true) {w : World} {x : RecV} (hx : RecG m w x) {a b : List Int} {ps : List (List Int)} (hT : Tried a b ps) (ha : ∀ z ∈ a, 0 ≤ z ∧ z < m.sy) (hb : ∀ z ∈ b, 0 ≤ z ∧ z < m.sy) {k : Nat}
    (h2 : k ≤ 400) (hs : startB (bncF x.c.q ps) (List.replicate (ods ps).length 2) x.c = true) (hl : ∃ l, accR m (bncF x.c.q ps) (List.replicate (ods ps).length 2) 400 1 (bncF x.c.q ps) false = k :: l) :
    BncOk m x.n k (bncF x.c.q ps) (List.replicate (ods ps).length 2) ps := by
  have hq := (hx.good hm)
  obtain ⟨hok, hat⟩ := hT.ok ⟨hq.q0, hq.q1⟩ ha hb
  refine ⟨rfl, rfl, ?_, fun y hy => by have := (hT.wl y hy).1; omega, hT.words hm ha hb, by simp [bncF], hx.le, hx.run, by rw [← hx.conf]; rfl, hok, hat, fun z hz => List.eq_of_mem_replicate hz, h2, by rw [← hx.conf]; exact hs, hl⟩
  have := hT.ln
  have := ods_len ps
  rw [List.length_replicate]
  omega
end Go.Proofs.YtojiammendjpkaaGreat
end
section
set_option linter.unusedSimpArgs false
set_option linter.unusedVariables false
namespace Go.Proofs.YtojiammendjpkaaGreat
open Go Go.RowKit Go.Proofs
set_option maxHeartbeats 400000
/-- What a try leaves: the formula tape in a new block, and whether it fits. -/
def TryAt (w : World) (f : FoD) (u1 u2 : Value) (wx : World) : Prop :=
  ∃ (gN : Nat) (b : Bool), u1 = .pointer (some ⟨gN, 0, none⟩) ∧ u2 = .bool b ∧ Hid (Ext w wx ∧ ∃ (A1 A2 A3 : Option Addr) (n1 n2 n3 c1 c2 c3 : Nat), Blk wx gN 49 #[.int .i64 f.q, .int .i64 f.hd, .int .i64 f.at_, .slice A1 n1 c1, .slice A2 n2 c2, .slice A3 n3 c3] ∧ OwnFo w.heap.size wx (.agg #[.int .i64 f.q, .int .i64 f.hd, .int .i64 f.at_, .slice A1 n1 c1, .slice A2 n2 c2, .slice A3 n3 c3]) f)
theorem lists5 {w : World} {ba oa ca bb ob cb : Nat} {a b : List Int} (ha : Ints w (.slice (some ⟨ba, oa, none⟩) a.length ca) a) (hb : Ints w (.slice (some ⟨bb, ob, none⟩) b.length cb) b) {i j k g : Nat} (h1 : i ≤ j) (h2 : j ≤ a.length) (h3 : k ≤ g) (h4 : j + g ≤ b.length) {gP : Nat} (hP : Blk w gP 27 #[.slice (some ⟨ba, oa, none⟩) i ca, .slice (some ⟨bb, ob + i, none⟩) k (cb - i), .slice (some ⟨ba, oa + i, none⟩) (j - i) (ca - i), .slice (some ⟨bb, ob + (j + k), none⟩) (g - k) (cb - (j + k)), .slice (some ⟨ba, oa + j, none⟩) (a.length - j) (ca - j)]) :
    Lists w (.slice (some ⟨gP, 0, none⟩) 5 5) (parts5 a b i j k g) := by
  refine lists_blk (us := [.slice (some ⟨ba, oa, none⟩) i ca, .slice (some ⟨bb, ob + i, none⟩) k (cb - i), .slice (some ⟨ba, oa + i, none⟩) (j - i) (ca - i), .slice (some ⟨bb, ob + (j + k), none⟩) (g - k) (cb - (j + k)), .slice (some ⟨ba, oa + j, none⟩) (a.length - j) (ca - j)]) (xss := parts5 a b i j k g) hP rfl (by simp) (fun n hn hn' => ?_)
  simp only [List.length_cons, List.length_nil] at hn
  have p1 : Ints w (.slice (some ⟨ba, oa, none⟩) i ca) (a.take i) := ha.take i (by omega)
  have p2 := hb.part i k (by omega)
  have p3 := ha.part i (j - i) (by omega)
  have p4 := hb.part (j + k) (g - k) (by omega)
  have p5 := ha.drop j h2
  have e : n = 0 ∨ n = 1 ∨ n = 2 ∨ n = 3 ∨ n = 4 := by omega
  rcases e with rfl | rfl | rfl | rfl | rfl
  · exact ⟨p1, .inr ⟨_, _, _, _, rfl⟩⟩
  · exact ⟨p2, .inr ⟨_, _, _, _, rfl⟩⟩
  · exact ⟨p3, .inr ⟨_, _, _, _, rfl⟩⟩
  · exact ⟨p4, .inr ⟨_, _, _, _, rfl⟩⟩
  · exact ⟨p5, .inr ⟨_, _, _, _, rfl⟩⟩
end Go.Proofs.YtojiammendjpkaaGreat
end
section
set_option linter.unusedSimpArgs false
set_option linter.unusedVariables false
namespace Go.Proofs.YtojiammendjpkaaGreat
open Go Go.RowKit Go.Proofs
set_option maxHeartbeats 400000
/-- What a search of a formula tape returns. -/
def FndRes (w : World) (q : Int) (a b : List Int) (good bad : Value → Prop) (e : Ending) (w' : World) : Prop :=
  Ext w w' ∧ ∃ v cd, e = .returned (.tuple #[v, cd]) ∧ ((bad cd ∧ v = .agg #[.int .i64 0, .int .i64 0, .int .i64 0, .slice none 0 0, .slice none 0 0, .slice none 0 0]) ∨ good cd ∧ ∃ ps, Tried a b ps ∧ OwnFo w.heap.size w' v (bncF q ps))
set_option maxRecDepth 20000 in
set_option maxHeartbeats 8000000 in
theorem twoRepeats_c (bm : Nat) (m : MachD) (mv : Value) (q : Int) (cv : Value) (ba oa ca bb ob cb : Nat) (a b C : List Int) (g : Nat) (w00 : World) (hM : Blk w00 bm 26 #[.int .i64 m.sy, .int .i64 m.st, mv])
    (ha : Ints w00 (.slice (some ⟨ba, oa, none⟩) a.length ca) a) (hb : Ints w00 (.slice (some ⟨bb, ob, none⟩) b.length cb) b) (hc : Ints w00 cv C) (hal : 1 ≤ a.length ∧ a.length ≤ 40) (hg : 1 ≤ g ∧ g ≤ 8) (hbl : b.length = a.length + g) :
    Calls Tryz.prog 159 #[.int .i64 q, .slice (some ⟨ba, oa, none⟩) a.length ca, .slice (some ⟨bb, ob, none⟩) b.length cb, cv] w00 (FndRes w00 q a b (fun v => v = .bool true) (fun v => v = .bool false)) := by
  obtain ⟨Ac, cc0, rfl, _, _⟩ := hc.form
  have hca : a.length ≤ ca := by
    obtain ⟨_, _, e, h, _⟩ := ha.form
    injection e with _ _ e3
    omega
  have hcb : b.length ≤ cb := by
    obtain ⟨_, _, e, h, _⟩ := hb.form
    injection e with _ _ e3
    omega
  obtain ⟨gO, hgO⟩ : ∃ g, w00.heap.size = g := ⟨_, rfl⟩
  obtain ⟨w, hw⟩ : ∃ W, W = w00.alloc (.cells #[.int .i64 0, .int .i64 0, .int .i64 0, .slice none 0 0, .slice none 0 0, .slice none 0 0] 49) := ⟨_, rfl⟩
  have hX : Ext w00 w := by rw [hw]; exact Ext.alloc _ _
  have bO : Blk w gO 49 #[.int .i64 0, .int .i64 0, .int .i64 0, .slice none 0 0, .slice none 0 0, .slice none 0 0] := by rw [hw]; exact Blk.new _ _ _ _ hgO
  have HW := Lib.hid (And.intro hX (And.intro bO hgO))
  have HIN := Lib.hid (And.intro (hM.ext hX) (And.intro (ha.ext hX) (And.intro (hb.ext hX) (hc.ext hX))))
  have hw1 : IntKind.i64.wrap ((b.length : Int) - (a.length : Int)) = (g : Int) := by rw [show (b.length : Int) - (a.length : Int) = (g : Int) by omega]; exact IntWalk.i64_in _ (by omega)
  have HBL := Lib.hid hbl
  have hbl2 : a.length + g ≤ b.length ∧ b.length ≤ a.length + g := by omega
  clear hX bO hM ha hb hc hbl
  go_enter Tryz.func159, Tryz.ntmps159
  go_upto_region 1 with fail
  try rw [← hw]
  try rw [hgO]
  clear hw hgO
  go_wp2_with fail
  clear hw1
  go_loopw [11] (fun s wr => ∃ k : Nat, 1 ≤ k ∧ k ≤ g ∧ s = .int .i64 (k : Int) ∧ Hid (Ext w wr)) (fun s _ => g - (intOf s).toNat)
  case atStart => exact ⟨1, Nat.le_refl _, hg.1, rfl, Lib.hid (Ext.refl _)⟩
  case round =>
    obtain ⟨k, hk1, hk2, rfl, HXK⟩ := hrel
    by_cases hkg : k < g
    · have hdk : decide ((k : Int) < (g : Int)) = true := decide_eq_true (by omega)
      go_wp2_with fail
      go_loopw [28] (fun s wr2 => ∃ i : Nat, i ≤ a.length ∧ s = .int .i64 (i : Int) ∧ Hid (Ext w wr2)) (fun s _ => a.length - (intOf s).toNat)
      case atStart => exact ⟨0, Nat.zero_le _, rfl, HXK⟩
      case round =>
        obtain ⟨i, hi, rfl, HXI⟩ := hrel
        by_cases hia : i < a.length
        · have hdi : decide ((i : Int) < (a.length : Int)) = true := decide_eq_true (by omega)
          go_wp2_with fail
          go_loopw [13] (fun s wr3 => ∃ j : Nat, i ≤ j ∧ j ≤ a.length ∧ s = .int .i64 (j : Int) ∧ Hid (Ext w wr3)) (fun s _ => a.length - (intOf s).toNat)
          case atStart => exact ⟨i, Nat.le_refl _, by omega, rfl, HXI⟩
          case round =>
            obtain ⟨j, hij, hj, rfl, HXJ⟩ := hrel
            by_cases hja : j < a.length
            · have hdj : decide ((j : Int) < (a.length : Int)) = true := decide_eq_true (by omega)
              have hxr := HXJ.out
              obtain ⟨f0, hf0⟩ : ∃ f, bncF q (parts5 a b i j k g) = f := ⟨_, rfl⟩
              go_upto_region 11 with fail
              go_cut [14, 15] (fun u1 u2 wx => TryAt w f0 u1 u2 wx)
              case first =>
                have hwik : IntKind.i64.wrap ((i : Int) + (k : Int)) = ((i + k : Nat) : Int) := by rw [show (i : Int) + (k : Int) = ((i + k : Nat) : Int) by omega]; exact IntWalk.i64_in _ (by omega)
                have hwjk : IntKind.i64.wrap ((j : Int) + (k : Int)) = ((j + k : Nat) : Int) := by rw [show (j : Int) + (k : Int) = ((j + k : Nat) : Int) by omega]; exact IntWalk.i64_in _ (by omega)
                have hwjg : IntKind.i64.wrap ((j : Int) + (g : Int)) = ((j + g : Nat) : Int) := by rw [show (j : Int) + (g : Int) = ((j + g : Nat) : Int) by omega]; exact IntWalk.i64_in _ (by omega)
                have BC : ∀ x, Ext w x → ∀ gP, Blk x gP 27 #[.slice (some ⟨ba, oa, none⟩) i ca, .slice (some ⟨bb, ob + i, none⟩) k (cb - i), .slice (some ⟨ba, oa + i, none⟩) (j - i) (ca - i), .slice (some ⟨bb, ob + (j + k), none⟩) (g - k) (cb - (j + k)), .slice (some ⟨ba, oa + j, none⟩) (a.length - j) (ca - j)] → Calls Tryz.prog 158 #[.int .i64 q, .slice (some ⟨bb, ob, none⟩) b.length cb, .slice Ac C.length cc0, .slice (some ⟨gP, 0, none⟩) 5 5] x fun e w' => Ext x w' ∧ ∃ b v, e = .returned (.tuple #[v, .bool b]) ∧ OwnFo w.heap.size w' v f0 := fun x hx gP hP =>
                  (bounced_c bm m mv q _ _ _ b C (parts5 a b i j k g) x (HIN.out.1.ext hx) (HIN.out.2.2.1.ext hx) (HIN.out.2.2.2.ext hx) (lists5 (HIN.out.2.1.ext hx) (HIN.out.2.2.1.ext hx) hij (by omega) (by omega) (by omega) hP) (.inr rfl)
                    (fun y hy => by have := ((tried5 hal.2 hij hja ⟨hk1, hkg⟩ hg.2 HBL.out).wl y hy).1; omega)).mono fun e w' h => ⟨h.1, by obtain ⟨b', v', e', o'⟩ := h.2; exact ⟨b', v', e', by rw [← hf0]; exact o'.base hx.size⟩⟩
                refine wp_region_ordT 34 (readsT [0, 1, 2, 3, 4, 5, 6, 7, 8, 9, 10, 11, 12, 13, 14, 15, 16, 17, 18, 19, 20, 21, 22, 23, 24, 25, 26] (.fork 27 (.fork 28 (readsT [29, 30, 31] (.stir 32 (.stir 33 .done))) 32 (.stir 28 (readsT [29, 30, 31] (.stir 33 .done)))) 32 (.stir 27 (.stir 28 (readsT [29, 30, 31] (.stir 33 .done)))))) (by kernel_rfl) (by kernel_rfl) (fun _ _ _ _ _ h => h) ?_
                simp only [readsT]
                refine wpOrdT_read (v := ?_) (by rfl) (Or.inl ⟨by rfl, fun x hx => ?_⟩) ?_; rotate_left; (· go_simp; try with_reducible rfl); try simp only [Act.put, List.setIfInBounds_toArray, List.set_cons_zero, List.set_cons_succ]
                refine wpOrdT_read (v := ?_) (by rfl) (Or.inl ⟨by rfl, fun x hx => ?_⟩) ?_; rotate_left; (· go_simp; try with_reducible rfl); try simp only [Act.put, List.setIfInBounds_toArray, List.set_cons_zero, List.set_cons_succ]
                refine wpOrdT_read (v := ?_) (by rfl) (Or.inl ⟨by rfl, fun x hx => ?_⟩) ?_; rotate_left; (· go_simp; try with_reducible rfl); try simp only [Act.put, List.setIfInBounds_toArray, List.set_cons_zero, List.set_cons_succ]
                refine wpOrdT_read (v := ?_) (by rfl) (Or.inl ⟨by rfl, fun x hx => ?_⟩) ?_; rotate_left; (· go_simp; try with_reducible rfl); try simp only [Act.put, List.setIfInBounds_toArray, List.set_cons_zero, List.set_cons_succ]
                refine wpOrdT_read (v := ?_) (by rfl) (Or.inl ⟨by rfl, fun x hx => ?_⟩) ?_; rotate_left; (· go_simp; try with_reducible rfl); try simp only [Act.put, List.setIfInBounds_toArray, List.set_cons_zero, List.set_cons_succ]
                refine wpOrdT_read (v := .slice (some ⟨ba, oa, none⟩) i ca) (by rfl) (Or.inl ⟨by rfl, fun x hx => ?_⟩) ?_
                · go_simp
                  intro hh
                  exact absurd hh (by omega)
                try simp only [Act.put, List.setIfInBounds_toArray, List.set_cons_zero, List.set_cons_succ]
                refine wpOrdT_read (v := ?_) (by rfl) (Or.inl ⟨by rfl, fun x hx => ?_⟩) ?_; rotate_left; (· go_simp; try with_reducible rfl); try simp only [Act.put, List.setIfInBounds_toArray, List.set_cons_zero, List.set_cons_succ]
                refine wpOrdT_read (v := ?_) (by rfl) (Or.inl ⟨by rfl, fun x hx => ?_⟩) ?_; rotate_left; (· go_simp; try with_reducible rfl); try simp only [Act.put, List.setIfInBounds_toArray, List.set_cons_zero, List.set_cons_succ]
                refine wpOrdT_read (v := ?_) (by rfl) (Or.inl ⟨by rfl, fun x hx => ?_⟩) ?_; rotate_left; (· go_simp; try with_reducible rfl); try simp only [Act.put, List.setIfInBounds_toArray, List.set_cons_zero, List.set_cons_succ]
                refine wpOrdT_read (v := ?_) (by rfl) (Or.inl ⟨by rfl, fun x hx => ?_⟩) ?_; rotate_left; (· go_simp; try with_reducible rfl); try simp only [Act.put, List.setIfInBounds_toArray, List.set_cons_zero, List.set_cons_succ]
                refine wpOrdT_read (v := ?_) (by rfl) (Or.inl ⟨by rfl, fun x hx => ?_⟩) ?_; rotate_left; (· go_simp; try with_reducible rfl); try simp only [Act.put, List.setIfInBounds_toArray, List.set_cons_zero, List.set_cons_succ]
                refine wpOrdT_read (v := .slice (some ⟨bb, ob + i, none⟩) k (cb - i)) (by rfl) (Or.inl ⟨by rfl, fun x hx => ?_⟩) ?_
                · go_simp
                  repeat (first | rw [if_pos (by omega)] | rw [if_neg (by omega)])
                  rw [show ((i : Int) + (k : Int)).toNat - i = k by omega]
                try simp only [Act.put, List.setIfInBounds_toArray, List.set_cons_zero, List.set_cons_succ]
                refine wpOrdT_read (v := ?_) (by rfl) (Or.inl ⟨by rfl, fun x hx => ?_⟩) ?_; rotate_left; (· go_simp; try with_reducible rfl); try simp only [Act.put, List.setIfInBounds_toArray, List.set_cons_zero, List.set_cons_succ]
                refine wpOrdT_read (v := ?_) (by rfl) (Or.inl ⟨by rfl, fun x hx => ?_⟩) ?_; rotate_left; (· go_simp; try with_reducible rfl); try simp only [Act.put, List.setIfInBounds_toArray, List.set_cons_zero, List.set_cons_succ]
                refine wpOrdT_read (v := ?_) (by rfl) (Or.inl ⟨by rfl, fun x hx => ?_⟩) ?_; rotate_left; (· go_simp; try with_reducible rfl); try simp only [Act.put, List.setIfInBounds_toArray, List.set_cons_zero, List.set_cons_succ]
                refine wpOrdT_read (v := .slice (some ⟨ba, oa + i, none⟩) (j - i) (ca - i)) (by rfl) (Or.inl ⟨by rfl, fun x hx => ?_⟩) ?_
                · go_simp
                  repeat (first | rw [if_pos (by omega)] | rw [if_neg (by omega)])
                try simp only [Act.put, List.setIfInBounds_toArray, List.set_cons_zero, List.set_cons_succ]
                refine wpOrdT_read (v := ?_) (by rfl) (Or.inl ⟨by rfl, fun x hx => ?_⟩) ?_; rotate_left; (· go_simp; try with_reducible rfl); try simp only [Act.put, List.setIfInBounds_toArray, List.set_cons_zero, List.set_cons_succ]
                refine wpOrdT_read (v := ?_) (by rfl) (Or.inl ⟨by rfl, fun x hx => ?_⟩) ?_; rotate_left; (· go_simp; try with_reducible rfl); try simp only [Act.put, List.setIfInBounds_toArray, List.set_cons_zero, List.set_cons_succ]
                refine wpOrdT_read (v := ?_) (by rfl) (Or.inl ⟨by rfl, fun x hx => ?_⟩) ?_; rotate_left; (· go_simp; try with_reducible rfl); try simp only [Act.put, List.setIfInBounds_toArray, List.set_cons_zero, List.set_cons_succ]
                refine wpOrdT_read (v := ?_) (by rfl) (Or.inl ⟨by rfl, fun x hx => ?_⟩) ?_; rotate_left; (· go_simp; try with_reducible rfl); try simp only [Act.put, List.setIfInBounds_toArray, List.set_cons_zero, List.set_cons_succ]
                refine wpOrdT_read (v := ?_) (by rfl) (Or.inl ⟨by rfl, fun x hx => ?_⟩) ?_; rotate_left; (· go_simp; try with_reducible rfl); try simp only [Act.put, List.setIfInBounds_toArray, List.set_cons_zero, List.set_cons_succ]
                refine wpOrdT_read (v := ?_) (by rfl) (Or.inl ⟨by rfl, fun x hx => ?_⟩) ?_; rotate_left; (· go_simp; try with_reducible rfl); try simp only [Act.put, List.setIfInBounds_toArray, List.set_cons_zero, List.set_cons_succ]
                refine wpOrdT_read (v := ?_) (by rfl) (Or.inl ⟨by rfl, fun x hx => ?_⟩) ?_; rotate_left; (· go_simp; try with_reducible rfl); try simp only [Act.put, List.setIfInBounds_toArray, List.set_cons_zero, List.set_cons_succ]
                refine wpOrdT_read (v := .slice (some ⟨bb, ob + (j + k), none⟩) (g - k) (cb - (j + k))) (by rfl) (Or.inl ⟨by rfl, fun x hx => ?_⟩) ?_
                · go_simp
                  repeat (first | rw [if_pos (by omega)] | rw [if_neg (by omega)])
                  rw [show ((j : Int) + (k : Int)).toNat = j + k by omega, show ((j : Int) + (g : Int)).toNat - (j + k) = g - k by omega]
                try simp only [Act.put, List.setIfInBounds_toArray, List.set_cons_zero, List.set_cons_succ]
                refine wpOrdT_read (v := ?_) (by rfl) (Or.inl ⟨by rfl, fun x hx => ?_⟩) ?_; rotate_left; (· go_simp; try with_reducible rfl); try simp only [Act.put, List.setIfInBounds_toArray, List.set_cons_zero, List.set_cons_succ]
                refine wpOrdT_read (v := ?_) (by rfl) (Or.inl ⟨by rfl, fun x hx => ?_⟩) ?_; rotate_left; (· go_simp; try with_reducible rfl); try simp only [Act.put, List.setIfInBounds_toArray, List.set_cons_zero, List.set_cons_succ]
                refine wpOrdT_read (v := .slice (some ⟨ba, oa + j, none⟩) (a.length - j) (ca - j)) (by rfl) (Or.inl ⟨by rfl, fun x hx => ?_⟩) ?_
                · go_simp
                  intro hh
                  omega
                try simp only [Act.put, List.setIfInBounds_toArray, List.set_cons_zero, List.set_cons_succ]
                have xD : Ext w wr.drew := hxr.trans (Ext.drew wr)
                generalize wr.drew = w0 at *
                refine wpOrdT_forks (by rfl) (by rfl) (fun K hK => ?_) (fun K hK => ?_)
                · go_simp
                  have bB : Blk (w0.alloc (.cells #[.slice (some ⟨ba, oa, none⟩) i ca, .slice (some ⟨bb, ob + i, none⟩) k (cb - i), .slice (some ⟨ba, oa + i, none⟩) (j - i) (ca - i), .slice (some ⟨bb, ob + (j + k), none⟩) (g - k) (cb - (j + k)), .slice (some ⟨ba, oa + j, none⟩) (a.length - j) (ca - j)] 27)) w0.heap.size 27 #[.slice (some ⟨ba, oa, none⟩) i ca, .slice (some ⟨bb, ob + i, none⟩) k (cb - i), .slice (some ⟨ba, oa + i, none⟩) (j - i) (ca - i), .slice (some ⟨bb, ob + (j + k), none⟩) (g - k) (cb - (j + k)), .slice (some ⟨ba, oa + j, none⟩) (a.length - j) (ca - j)] := Blk.new _ _ _ _ (rfl)
                  have xB : Ext w0 (w0.alloc (.cells #[.slice (some ⟨ba, oa, none⟩) i ca, .slice (some ⟨bb, ob + i, none⟩) k (cb - i), .slice (some ⟨ba, oa + i, none⟩) (j - i) (ca - i), .slice (some ⟨bb, ob + (j + k), none⟩) (g - k) (cb - (j + k)), .slice (some ⟨ba, oa + j, none⟩) (a.length - j) (ca - j)] 27)) := Ext.alloc _ _
                  refine hK (Ext w0) _ _ (fun _ h => h) xB ?_
                  clear hK K
                  try simp only [Act.put, List.setIfInBounds_toArray, List.set_cons_zero, List.set_cons_succ]
                  refine wpOrdT_forks (by rfl) (by rfl) (fun K hK => ?_) (fun K hK => ?_)
                  · go_simp
                    go_at_call 158
                    refine (BC _ (xD.trans xB) _ (bB)).mono ?_
                    rintro e wC ⟨hxC, bq, vq, rfl, wv, rv, ov, rfl, oW, oR, oO⟩
                    obtain ⟨A1, c1, rfl, _, _⟩ := oW.lists.form
                    obtain ⟨A2, c2, rfl, _, _⟩ := oR.lists.form
                    obtain ⟨A3, c3, rfl, _, _⟩ := oO.ints.form
                    have xC : Ext w0 wC := xB.trans hxC
                    refine hK (Ext w0) _ _ (fun _ h => h) xC ?_
                    clear hK K
                    try simp only [Act.put, List.setIfInBounds_toArray, List.set_cons_zero, List.set_cons_succ]
                    iterate 3 (refine wpOrdT_read (v := ?_) (by rfl) (Or.inl ⟨by rfl, fun x hx => ?_⟩) ?_; rotate_left; (· go_simp; try with_reducible rfl); try simp only [Act.put, List.setIfInBounds_toArray, List.set_cons_zero, List.set_cons_succ])
                    refine wpOrdT_keep (by rfl) (fun K hK => ?_)
                    go_simp
                    have bA : Blk (wC.alloc (.cells #[.int .i64 0, .int .i64 0, .int .i64 0, .slice none 0 0, .slice none 0 0, .slice none 0 0] 49)) wC.heap.size 49 #[.int .i64 0, .int .i64 0, .int .i64 0, .slice none 0 0, .slice none 0 0, .slice none 0 0] := Blk.new _ _ _ _ (rfl)
                    have xA : Ext w0 (wC.alloc (.cells #[.int .i64 0, .int .i64 0, .int .i64 0, .slice none 0 0, .slice none 0 0, .slice none 0 0] 49)) := xC.trans (Ext.alloc _ _)
                    have nA : w0.heap.size ≤ wC.heap.size := xC.size
                    refine hK _ _ xA ?_
                    clear hK K
                    try simp only [Act.put, List.setIfInBounds_toArray, List.set_cons_zero, List.set_cons_succ]
                    have oF0 : OwnFo w.heap.size wC (.agg #[.int .i64 f0.q, .int .i64 f0.hd, .int .i64 f0.at_, .slice A1 f0.ws.length c1, .slice A2 f0.rs.length c2, .slice A3 f0.os.length c3]) f0 := ⟨_, _, _, rfl, oW, oR, oO⟩
                    have oF : OwnFo w.heap.size (wC.alloc (.cells #[.int .i64 0, .int .i64 0, .int .i64 0, .slice none 0 0, .slice none 0 0, .slice none 0 0] 49)) (.agg #[.int .i64 f0.q, .int .i64 f0.hd, .int .i64 f0.at_, .slice A1 f0.ws.length c1, .slice A2 f0.rs.length c2, .slice A3 f0.os.length c3]) f0 := oF0.ext (Ext.alloc wC (.cells #[.int .i64 0, .int .i64 0, .int .i64 0, .slice none 0 0, .slice none 0 0, .slice none 0 0] 49))
                    generalize wC.alloc (.cells #[.int .i64 0, .int .i64 0, .int .i64 0, .slice none 0 0, .slice none 0 0, .slice none 0 0] 49) = wA at *
                    generalize wC.heap.size = gN at *
                    have y0 := bA.cell 0
                    have z0 := bA.frozen 0
                    have y1 := bA.cell 1
                    have z1 := bA.frozen 1
                    have y2 := bA.cell 2
                    have z2 := bA.frozen 2
                    have y3 := bA.cell 3
                    have z3 := bA.frozen 3
                    have y4 := bA.cell 4
                    have z4 := bA.frozen 4
                    have y5 := bA.cell 5
                    have z5 := bA.frozen 5
                    simp only [List.getElem?_toArray, List.getElem?_cons_zero, List.getElem?_cons_succ] at y0 y1 y2 y3 y4 y5
                    have xF := xD.trans xA
                    have HA := Lib.hid (And.intro bA (And.intro xA (And.intro nA (And.intro oF (And.intro xD xF)))))
                    clear bA xA nA oF xF
                    refine wpOrdT_keep (by rfl) (fun K hK => ?_)
                    go_simp
                    have nA := HA.out.2.2.1
                    refine hK _ _ ((((((HA.out.2.1.setCell nA _).setCell nA _).setCell nA _).setCell nA _).setCell nA _).setCell nA _) ?_
                    clear hK K
                    try simp only [Act.put, List.setIfInBounds_toArray, List.set_cons_zero, List.set_cons_succ]
                    refine wpOrdT_done ?_
                    try simp only [List.drop_succ_cons, List.drop_zero]
                    go_wp2_with fail
                    go_meet
                    have nA' : w.heap.size ≤ gN := Nat.le_trans HA.out.2.2.2.2.1.size nA
                    have xF := HA.out.2.2.2.2.2
                    have bA := HA.out.1
                    have oF := HA.out.2.2.2.1
                    exact ⟨_, _, rfl, rfl, Lib.hid ⟨(((((xF.setCell nA' _).setCell nA' _).setCell nA' _).setCell nA' _).setCell nA' _).setCell nA' _, _, _, _, _, _, _, _, _, _, (((((bA.set_ 0 _).set_ 1 _).set_ 2 _).set_ 3 _).set_ 4 _).set_ 5 _, oF.far6 bA (by decide) (by decide) _ _ _ _ _ _⟩⟩
                  · go_simp
                    have bA : Blk ((w0.alloc (.cells #[.slice (some ⟨ba, oa, none⟩) i ca, .slice (some ⟨bb, ob + i, none⟩) k (cb - i), .slice (some ⟨ba, oa + i, none⟩) (j - i) (ca - i), .slice (some ⟨bb, ob + (j + k), none⟩) (g - k) (cb - (j + k)), .slice (some ⟨ba, oa + j, none⟩) (a.length - j) (ca - j)] 27)).alloc (.cells #[.int .i64 0, .int .i64 0, .int .i64 0, .slice none 0 0, .slice none 0 0, .slice none 0 0] 49)) (w0.heap.size + 1) 49 #[.int .i64 0, .int .i64 0, .int .i64 0, .slice none 0 0, .slice none 0 0, .slice none 0 0] := Blk.new _ _ _ _ (World.size_alloc _ _)
                    have xA : Ext w0 ((w0.alloc (.cells #[.slice (some ⟨ba, oa, none⟩) i ca, .slice (some ⟨bb, ob + i, none⟩) k (cb - i), .slice (some ⟨ba, oa + i, none⟩) (j - i) (ca - i), .slice (some ⟨bb, ob + (j + k), none⟩) (g - k) (cb - (j + k)), .slice (some ⟨ba, oa + j, none⟩) (a.length - j) (ca - j)] 27)).alloc (.cells #[.int .i64 0, .int .i64 0, .int .i64 0, .slice none 0 0, .slice none 0 0, .slice none 0 0] 49)) := xB.trans (Ext.alloc _ _)
                    have nA : w0.heap.size ≤ (w0.heap.size + 1) := Nat.le_succ _
                    refine hK (Ext w0) _ _ (fun _ h => h) xA ?_
                    clear hK K
                    try simp only [Act.put, List.setIfInBounds_toArray, List.set_cons_zero, List.set_cons_succ]
                    refine wpOrdT_keep (by rfl) (fun K hK => ?_)
                    go_simp
                    go_at_call 158
                    refine (BC _ (xD.trans xA) _ (bB.alloc _)).mono ?_
                    rintro e wC ⟨hxC, bq, vq, rfl, wv, rv, ov, rfl, oW, oR, oO⟩
                    obtain ⟨A1, c1, rfl, _, _⟩ := oW.lists.form
                    obtain ⟨A2, c2, rfl, _, _⟩ := oR.lists.form
                    obtain ⟨A3, c3, rfl, _, _⟩ := oO.ints.form
                    have xC : Ext w0 wC := xA.trans hxC
                    refine hK _ _ xC ?_
                    clear hK K
                    try simp only [Act.put, List.setIfInBounds_toArray, List.set_cons_zero, List.set_cons_succ]
                    iterate 3 (refine wpOrdT_read (v := ?_) (by rfl) (Or.inl ⟨by rfl, fun x hx => ?_⟩) ?_; rotate_left; (· go_simp; try with_reducible rfl); try simp only [Act.put, List.setIfInBounds_toArray, List.set_cons_zero, List.set_cons_succ])
                    replace bA := bA.ext hxC
                    replace xA := xC
                    have oF : OwnFo w.heap.size wC (.agg #[.int .i64 f0.q, .int .i64 f0.hd, .int .i64 f0.at_, .slice A1 f0.ws.length c1, .slice A2 f0.rs.length c2, .slice A3 f0.os.length c3]) f0 := ⟨_, _, _, rfl, oW, oR, oO⟩
                    have y0 := bA.cell 0
                    have z0 := bA.frozen 0
                    have y1 := bA.cell 1
                    have z1 := bA.frozen 1
                    have y2 := bA.cell 2
                    have z2 := bA.frozen 2
                    have y3 := bA.cell 3
                    have z3 := bA.frozen 3
                    have y4 := bA.cell 4
                    have z4 := bA.frozen 4
                    have y5 := bA.cell 5
                    have z5 := bA.frozen 5
                    simp only [List.getElem?_toArray, List.getElem?_cons_zero, List.getElem?_cons_succ] at y0 y1 y2 y3 y4 y5
                    have xF := xD.trans xA
                    have HA := Lib.hid (And.intro bA (And.intro xA (And.intro nA (And.intro oF (And.intro xD xF)))))
                    clear bA xA nA oF xF
                    refine wpOrdT_keep (by rfl) (fun K hK => ?_)
                    go_simp
                    have nA := HA.out.2.2.1
                    refine hK _ _ ((((((HA.out.2.1.setCell nA _).setCell nA _).setCell nA _).setCell nA _).setCell nA _).setCell nA _) ?_
                    clear hK K
                    try simp only [Act.put, List.setIfInBounds_toArray, List.set_cons_zero, List.set_cons_succ]
                    refine wpOrdT_done ?_
                    try simp only [List.drop_succ_cons, List.drop_zero]
                    go_wp2_with fail
                    go_meet
                    have nA' : w.heap.size ≤ (w0.heap.size + 1) := Nat.le_trans HA.out.2.2.2.2.1.size nA
                    have xF := HA.out.2.2.2.2.2
                    have bA := HA.out.1
                    have oF := HA.out.2.2.2.1
                    exact ⟨_, _, rfl, rfl, Lib.hid ⟨(((((xF.setCell nA' _).setCell nA' _).setCell nA' _).setCell nA' _).setCell nA' _).setCell nA' _, _, _, _, _, _, _, _, _, _, (((((bA.set_ 0 _).set_ 1 _).set_ 2 _).set_ 3 _).set_ 4 _).set_ 5 _, oF.far6 bA (by decide) (by decide) _ _ _ _ _ _⟩⟩
                · go_simp
                  have bA : Blk (w0.alloc (.cells #[.int .i64 0, .int .i64 0, .int .i64 0, .slice none 0 0, .slice none 0 0, .slice none 0 0] 49)) w0.heap.size 49 #[.int .i64 0, .int .i64 0, .int .i64 0, .slice none 0 0, .slice none 0 0, .slice none 0 0] := Blk.new _ _ _ _ (rfl)
                  have xA : Ext w0 (w0.alloc (.cells #[.int .i64 0, .int .i64 0, .int .i64 0, .slice none 0 0, .slice none 0 0, .slice none 0 0] 49)) := Ext.alloc _ _
                  have nA : w0.heap.size ≤ w0.heap.size := Nat.le_refl _
                  refine hK (Ext w0) _ _ (fun _ h => h) xA ?_
                  clear hK K
                  try simp only [Act.put, List.setIfInBounds_toArray, List.set_cons_zero, List.set_cons_succ]
                  refine wpOrdT_keep (by rfl) (fun K hK => ?_)
                  go_simp
                  have bB : Blk ((w0.alloc (.cells #[.int .i64 0, .int .i64 0, .int .i64 0, .slice none 0 0, .slice none 0 0, .slice none 0 0] 49)).alloc (.cells #[.slice (some ⟨ba, oa, none⟩) i ca, .slice (some ⟨bb, ob + i, none⟩) k (cb - i), .slice (some ⟨ba, oa + i, none⟩) (j - i) (ca - i), .slice (some ⟨bb, ob + (j + k), none⟩) (g - k) (cb - (j + k)), .slice (some ⟨ba, oa + j, none⟩) (a.length - j) (ca - j)] 27)) (w0.heap.size + 1) 27 #[.slice (some ⟨ba, oa, none⟩) i ca, .slice (some ⟨bb, ob + i, none⟩) k (cb - i), .slice (some ⟨ba, oa + i, none⟩) (j - i) (ca - i), .slice (some ⟨bb, ob + (j + k), none⟩) (g - k) (cb - (j + k)), .slice (some ⟨ba, oa + j, none⟩) (a.length - j) (ca - j)] := Blk.new _ _ _ _ (World.size_alloc _ _)
                  have xB : Ext w0 ((w0.alloc (.cells #[.int .i64 0, .int .i64 0, .int .i64 0, .slice none 0 0, .slice none 0 0, .slice none 0 0] 49)).alloc (.cells #[.slice (some ⟨ba, oa, none⟩) i ca, .slice (some ⟨bb, ob + i, none⟩) k (cb - i), .slice (some ⟨ba, oa + i, none⟩) (j - i) (ca - i), .slice (some ⟨bb, ob + (j + k), none⟩) (g - k) (cb - (j + k)), .slice (some ⟨ba, oa + j, none⟩) (a.length - j) (ca - j)] 27)) := xA.trans (Ext.alloc _ _)
                  refine hK _ _ xB ?_
                  clear hK K
                  try simp only [Act.put, List.setIfInBounds_toArray, List.set_cons_zero, List.set_cons_succ]
                  refine wpOrdT_keep (by rfl) (fun K hK => ?_)
                  go_simp
                  go_at_call 158
                  refine (BC _ (xD.trans xB) _ (bB)).mono ?_
                  rintro e wC ⟨hxC, bq, vq, rfl, wv, rv, ov, rfl, oW, oR, oO⟩
                  obtain ⟨A1, c1, rfl, _, _⟩ := oW.lists.form
                  obtain ⟨A2, c2, rfl, _, _⟩ := oR.lists.form
                  obtain ⟨A3, c3, rfl, _, _⟩ := oO.ints.form
                  have xC : Ext w0 wC := xB.trans hxC
                  refine hK _ _ xC ?_
                  clear hK K
                  try simp only [Act.put, List.setIfInBounds_toArray, List.set_cons_zero, List.set_cons_succ]
                  iterate 3 (refine wpOrdT_read (v := ?_) (by rfl) (Or.inl ⟨by rfl, fun x hx => ?_⟩) ?_; rotate_left; (· go_simp; try with_reducible rfl); try simp only [Act.put, List.setIfInBounds_toArray, List.set_cons_zero, List.set_cons_succ])
                  replace bA := (bA.alloc _).ext hxC
                  replace xA := xC
                  have oF : OwnFo w.heap.size wC (.agg #[.int .i64 f0.q, .int .i64 f0.hd, .int .i64 f0.at_, .slice A1 f0.ws.length c1, .slice A2 f0.rs.length c2, .slice A3 f0.os.length c3]) f0 := ⟨_, _, _, rfl, oW, oR, oO⟩
                  have y0 := bA.cell 0
                  have z0 := bA.frozen 0
                  have y1 := bA.cell 1
                  have z1 := bA.frozen 1
                  have y2 := bA.cell 2
                  have z2 := bA.frozen 2
                  have y3 := bA.cell 3
                  have z3 := bA.frozen 3
                  have y4 := bA.cell 4
                  have z4 := bA.frozen 4
                  have y5 := bA.cell 5
                  have z5 := bA.frozen 5
                  simp only [List.getElem?_toArray, List.getElem?_cons_zero, List.getElem?_cons_succ] at y0 y1 y2 y3 y4 y5
                  have xF := xD.trans xA
                  have HA := Lib.hid (And.intro bA (And.intro xA (And.intro nA (And.intro oF (And.intro xD xF)))))
                  clear bA xA nA oF xF
                  refine wpOrdT_keep (by rfl) (fun K hK => ?_)
                  go_simp
                  have nA := HA.out.2.2.1
                  refine hK _ _ ((((((HA.out.2.1.setCell nA _).setCell nA _).setCell nA _).setCell nA _).setCell nA _).setCell nA _) ?_
                  clear hK K
                  try simp only [Act.put, List.setIfInBounds_toArray, List.set_cons_zero, List.set_cons_succ]
                  refine wpOrdT_done ?_
                  try simp only [List.drop_succ_cons, List.drop_zero]
                  go_wp2_with fail
                  go_meet
                  have nA' : w.heap.size ≤ w0.heap.size := Nat.le_trans HA.out.2.2.2.2.1.size nA
                  have xF := HA.out.2.2.2.2.2
                  have bA := HA.out.1
                  have oF := HA.out.2.2.2.1
                  exact ⟨_, _, rfl, rfl, Lib.hid ⟨(((((xF.setCell nA' _).setCell nA' _).setCell nA' _).setCell nA' _).setCell nA' _).setCell nA' _, _, _, _, _, _, _, _, _, _, (((((bA.set_ 0 _).set_ 1 _).set_ 2 _).set_ 3 _).set_ 4 _).set_ 5 _, oF.far6 bA (by decide) (by decide) _ _ _ _ _ _⟩⟩
              case rest =>
                obtain ⟨gN, bb2, rfl, rfl, HT⟩ := hcut
                obtain ⟨xT, A1, A2, A3, n1, n2, n3, c1, c2, c3, bN, oN⟩ := HT.out
                cases bb2 with
                | true =>
                  have y0 := bN.cell 0
                  have y1 := bN.cell 1
                  have y2 := bN.cell 2
                  have y3 := bN.cell 3
                  have y4 := bN.cell 4
                  have y5 := bN.cell 5
                  have bO := HW.out.2.1.ext xT
                  have q0 := bO.cell 0
                  have q1 := bO.cell 1
                  have q2 := bO.cell 2
                  have q3 := bO.cell 3
                  have q4 := bO.cell 4
                  have q5 := bO.cell 5
                  simp only [List.getElem?_toArray, List.getElem?_cons_zero, List.getElem?_cons_succ] at y0 y1 y2 y3 y4 y5 q0 q1 q2 q3 q4 q5
                  have z0 := bO.frozen 0
                  have z1 := bO.frozen 1
                  have z2 := bO.frozen 2
                  have z3 := bO.frozen 3
                  have z4 := bO.frozen 4
                  have z5 := bO.frozen 5
                  have HO := Lib.hid (And.intro bO (And.intro oN xT))
                  have HF0 := Lib.hid hf0
                  have HTR := Lib.hid (tried5 hal.2 hij hja ⟨hk1, hkg⟩ hg.2 HBL.out)
                  clear bN bO oN xT hf0
                  go_wp2
                  refine bodyPost_ret (v := .tuple #[.agg #[.int .i64 f0.q, .int .i64 f0.hd, .int .i64 f0.at_, .slice A1 n1 c1, .slice A2 n2 c2, .slice A3 n3 c3], .bool true]) (by simp [results, Tryz.results159, go_sem, q0, q1, q2, q3, q4, q5]) rfl ?_
                  exact ⟨ext_set6 (HW.out.1.trans HO.out.2.2) (by have := HW.out.2.2; omega) _ _ _ _ _ _, _, _, rfl, .inr ⟨rfl, _, HTR.out, by rw [HF0.out]; exact (HO.out.2.1.far6 HO.out.1 (by decide) (by decide) _ _ _ _ _ _).base HW.out.1.size⟩⟩
                | false =>
                  have hwj : IntKind.i64.wrap ((j : Int) + 1) = ((j + 1 : Nat) : Int) := by rw [show (j : Int) + 1 = ((j + 1 : Nat) : Int) by omega]; exact IntWalk.i64_in _ (by omega)
                  have HXT := Lib.hid xT
                  clear bN oN xT hf0 hxr
                  go_wp2
                  go_roundw
                  case rel => exact ⟨j + 1, by omega, by omega, by go_num, HXT⟩
                  case measure => simp [intOf]; omega
            · have hdj : decide ((j : Int) < (a.length : Int)) = false := decide_eq_false (by omega)
              have hwi : IntKind.i64.wrap ((i : Int) + 1) = ((i + 1 : Nat) : Int) := by rw [show (i : Int) + 1 = ((i + 1 : Nat) : Int) by omega]; exact IntWalk.i64_in _ (by omega)
              go_wp2
              go_roundw
              case rel => exact ⟨i + 1, by omega, by go_num, HXJ⟩
              case measure => simp [intOf]; omega
        · have hdi : decide ((i : Int) < (a.length : Int)) = false := decide_eq_false (by omega)
          have hwk : IntKind.i64.wrap ((k : Int) + 1) = ((k + 1 : Nat) : Int) := by rw [show (k : Int) + 1 = ((k + 1 : Nat) : Int) by omega]; exact IntWalk.i64_in _ (by omega)
          go_wp2
          go_roundw
          case rel => exact ⟨k + 1, by omega, by omega, by go_num, HXI⟩
          case measure => simp [intOf]; omega
    · have hdk : decide ((k : Int) < (g : Int)) = false := decide_eq_false (by omega)
      have bO := HW.out.2.1.ext HXK.out
      have q0 := bO.cell 0
      have z0 := bO.frozen 0
      have q1 := bO.cell 1
      have z1 := bO.frozen 1
      have q2 := bO.cell 2
      have z2 := bO.frozen 2
      have q3 := bO.cell 3
      have z3 := bO.frozen 3
      have q4 := bO.cell 4
      have z4 := bO.frozen 4
      have q5 := bO.cell 5
      have z5 := bO.frozen 5
      simp only [List.getElem?_toArray, List.getElem?_cons_zero, List.getElem?_cons_succ] at q0 q1 q2 q3 q4 q5
      clear bO
      go_wp2
      refine bodyPost_ret (v := .tuple #[.agg #[.int .i64 0, .int .i64 0, .int .i64 0, .slice none 0 0, .slice none 0 0, .slice none 0 0], .bool false]) (by simp [results, Tryz.results159, go_sem, q0, q1, q2, q3, q4, q5]) rfl ?_
      exact ⟨ext_set6 (HW.out.1.trans HXK.out) (by have := HW.out.2.2; omega) _ _ _ _ _ _, _, _, rfl, .inl ⟨rfl, rfl⟩⟩
end Go.Proofs.YtojiammendjpkaaGreat
end
