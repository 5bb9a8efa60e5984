/- Plain words: a run of a machine with several tapes stays among valid configurations; the texts of a run. No program runs here.
Plain words on formula tapes: the normal form, and the cells for which a formula tape stands.
Contract of the library's Repeat, for any short list. -/
import Derived.Test.YtapjofbjedpmgaaGreatC09
import Derived.Test.YtapjofbjedpmgaaGreatC13
import Derived.Test.YtapjofbjedpmgaaGreatC11
import Derived.Test.YtapjofbjedpmgaaGreatC08
import Derived.Test.YtapjofbjedpmgaaGreatC04
section
set_option linter.unusedVariables false
set_option linter.unusedSimpArgs false
namespace Go.Proofs.YtapjofbjedpmgaaGreat
open Go Go.RowKit Go.Proofs
theorem getD_in {xs : List Int} {hi : Int} (h : ∀ z ∈ xs, 0 ≤ z ∧ z ≤ hi) (h0 : 0 ≤ hi) (k : Nat) : 0 ≤ xs.getD k 0 ∧ xs.getD k 0 ≤ hi := by
  by_cases hk : k < xs.length
  · rw [List.getD_eq_getElem?_getD, List.getElem?_eq_getElem hk]
    exact h _ (List.getElem_mem hk)
  · rw [List.getD_eq_getElem?_getD, List.getElem?_eq_none (by omega)]
    exact ⟨Int.le_refl _, h0⟩
theorem MEnd.one {rs : List MRuleD} {c : MConfD} {N i j : Nat} (h : MEnd rs c N i) (h' : MEnd rs c N j) : i = j := by
  rcases Nat.lt_trichotomy i j with e | e | e
  · rcases h.stop with s | s
    · have := h'.le; omega
    · exact absurd s (h'.runs.no i e)
  · exact e
  · rcases h'.stop with s | s
    · have := h.le; omega
    · exact absurd s (h.runs.no j e)
end Go.Proofs.YtapjofbjedpmgaaGreat
end
section
set_option linter.unusedSimpArgs false
set_option linter.unusedVariables false
namespace Go.Proofs.YtapjofbjedpmgaaGreat
open Go Go.RowKit Go.Proofs
/-- A formula tape: the state, the wall on which the head is and its place there, the walls, the repeaters, the offsets. -/
structure FoD where
  q : Int
  hd : Int
  at_ : Int
  ws : List (List Int)
  rs : List (List Int)
  os : List Int
def wordIn (m : MachD) (w : List Int) (n : Nat) : Bool := decide (w.length ≤ n) && w.all fun z => inB z 0 (m.sy - 1)
def repIn (m : MachD) (w : List Int) : Bool := decide (1 ≤ w.length) && wordIn m w 20
def atOk (f : FoD) : Bool :=
  inB f.at_ 0 (((f.ws.getD f.hd.toNat []).length : Int) - 1) || (decide (f.at_ = ((f.ws.getD f.hd.toNat []).length : Int)) && decide (f.hd < (f.rs.length : Int))) || (decide (f.at_ = -1) && decide (0 < f.hd))
def foOk (m : MachD) (f : FoD) : Bool :=
  inB f.q 0 (m.st - 1) && inB (f.rs.length : Int) 1 3 && decide (f.ws.length = f.rs.length + 1) && decide (f.os.length = f.rs.length) && f.ws.all (fun w => wordIn m w 100) && f.rs.all (repIn m) &&
    f.os.all (fun z => inB z (-1000) 1000) && inB f.hd 0 (f.rs.length : Int) && atOk f
/-- The first wall without blanks at its beginning that are not under the head. -/
def stF (h0 : Bool) : List Int → Int → List Int × Int
  | [], a => ([], a)
  | z :: w, a => if z = 0 ∧ ¬ (h0 = true ∧ a = 0) then stF h0 w (if h0 then a - 1 else a) else (z :: w, a)
/-- The last wall without blanks at its end that are not under the head; the first n symbols are left. -/
def stE (hl : Bool) (a : Int) (w : List Int) : Nat → List Int
  | 0 => []
  | n + 1 => if w.getD n 0 = 0 ∧ ¬ (hl = true ∧ a = n) then stE hl a w n else w.take (n + 1)
def stripFo (f : FoD) : FoD :=
  let p := stF (decide (f.hd = 0)) (f.ws.getD 0 []) f.at_
  let ws := f.ws.set 0 p.1
  let l := ws.length - 1
  ⟨f.q, f.hd, p.2, ws.set l (stE (decide (f.hd = (l : Int))) p.2 (ws.getD l []) (ws.getD l []).length), f.rs, f.os⟩
structure Ro where
  u : List Int
  v : List Int
  x : List Int
  a : Int
/-- Symbols go from the wall u over the repeater v to the wall x. -/
def rotR (h0 h1 : Bool) : Nat → List Int → List Int → List Int → Int → Ro
  | 0, u, v, x, a => ⟨u, v, x, a⟩
  | k + 1, u, v, x, a =>
    if u.getD k 0 = v.getD (v.length - 1) 0 ∧ ¬ (h0 = true ∧ a = k) then rotR h0 h1 k (u.take k) (v.drop (v.length - 1) ++ v.take (v.length - 1)) (u.getD k 0 :: x) (if h1 then a + 1 else a)
    else ⟨u, v, x, a⟩
structure Ab where
  x : List Int
  a : Int
  o : Int
def begB (x v : List Int) : Bool := decide (v.length ≤ x.length) && lEq (x.take v.length) v
/-- The repeater v takes its words from the wall x. -/
def absR (h1 : Bool) (v : List Int) : Nat → List Int → Int → Int → Ab
  | 0, x, a, o => ⟨x, a, o⟩
  | k + 1, x, a, o =>
    if begB x v = true ∧ ¬ (h1 = true ∧ a < v.length) then absR h1 v k (x.drop v.length) (if h1 then a - v.length else a) (o + 1) else ⟨x, a, o⟩
/-- The head is on a repeater. -/
def touchB (f : FoD) (i : Int) : Bool :=
  (decide (f.at_ = -1) && decide (f.hd - 1 = i)) || (!decide (f.at_ = -1) && decide (f.at_ = ((f.ws.getD f.hd.toNat []).length : Int)) && decide (f.hd = i))
def rotAt (f : FoD) (i : Nat) : FoD :=
  if touchB f i then f else
    let R := rotR (decide (f.hd = (i : Int))) (decide (f.hd = (i : Int) + 1)) (f.ws.getD i []).length (f.ws.getD i []) (f.rs.getD i []) (f.ws.getD (i + 1) []) f.at_
    ⟨f.q, f.hd, R.a, (f.ws.set i R.u).set (i + 1) R.x, f.rs.set i R.v, f.os⟩
def absAt (f : FoD) (i : Nat) : FoD :=
  if touchB f i then f else
    let R := absR (decide (f.hd = (i : Int) + 1)) (f.rs.getD i []) (f.ws.getD (i + 1) []).length (f.ws.getD (i + 1) []) f.at_ (f.os.getD i 0)
    ⟨f.q, f.hd, R.a, f.ws.set (i + 1) R.x, f.rs, f.os.set i R.o⟩
def normFo (f : FoD) : FoD := (List.range f.rs.length).foldl absAt ((List.range f.rs.length).foldl rotAt (stripFo f))
/-- The cells. -/
def repL (r : List Int) (e : Nat) : List Int := (List.replicate e r).flatten
theorem repL_succ (r : List Int) (e : Nat) : repL r (e + 1) = r ++ repL r e := by simp [repL, List.replicate_succ]
theorem repL_length (r : List Int) (e : Nat) : (repL r e).length = e * r.length := by
  induction e with
  | zero => simp [repL]
  | succ e ih => rw [repL_succ, List.length_append, ih, Nat.succ_mul, Nat.add_comm]
def preF : List (List Int) → List (List Int) → List Nat → List Int
  | w :: ws, r :: rs, e :: es => w ++ repL r e ++ preF ws rs es
  | _, _, _ => []
def tapeF : List (List Int) → List (List Int) → List Nat → List Int
  | w :: ws, r :: rs, e :: es => w ++ repL r e ++ tapeF ws rs es
  | w :: _, _, _ => w
  | [], _, _ => []
def hoff (ws rs : List (List Int)) (es : List Nat) (k : Nat) : Nat := (preF (ws.take k) (rs.take k) (es.take k)).length
/-- The cell at a place of a list, blank beyond its ends. -/
def cellZ (l : List Int) (i : Int) : Int := if i < 0 then 0 else l.getD i.toNat 0
def SameL (l : List Int) (h : Int) (l' : List Int) (h' : Int) : Prop := ∀ i : Int, cellZ l (h + i) = cellZ l' (h' + i)
theorem SameL.refl (l : List Int) (h : Int) : SameL l h l h := fun _ => rfl
theorem SameL.trans {l l' l'' : List Int} {h h' h'' : Int} (a : SameL l h l' h') (b : SameL l' h' l'' h'') : SameL l h l'' h'' := fun i => (a i).trans (b i)
theorem cellZ_cons (z : Int) (l : List Int) (i : Int) : cellZ (z :: l) i = if i = 0 then z else cellZ l (i - 1) := by
  unfold cellZ
  by_cases h : i < 0
  · rw [if_pos h, if_neg (by omega), if_pos (by omega)]
  · rw [if_neg h]
    by_cases h0 : i = 0
    · subst h0; rfl
    · rw [if_neg h0, if_neg (by omega)]
      have e : i.toNat = (i - 1).toNat + 1 := by omega
      rw [e]
      rfl
theorem SameL.front (l : List Int) (h : Int) : SameL (0 :: l) h l (h - 1) := fun i => by
  rw [cellZ_cons]
  split
  · rename_i e
    unfold cellZ
    rw [if_pos (by omega)]
  · congr 1
    omega
end Go.Proofs.YtapjofbjedpmgaaGreat
end
section
set_option linter.unusedSimpArgs false
set_option linter.unusedVariables false
namespace Go.Proofs.YtapjofbjedpmgaaGreat
open Go Go.RowKit Go.Proofs
set_option maxHeartbeats 400000
theorem repL_get (r : List Int) : ∀ (c i : Nat), i < c * r.length → (repL r c)[i]? = r[i % r.length]?
  | 0, i, h => by simp at h
  | c + 1, i, h => by
    rw [repL_succ]
    by_cases hi : i < r.length
    · rw [List.getElem?_append_left hi, Nat.mod_eq_of_lt hi]
    · rw [List.getElem?_append_right (by omega), repL_get r c (i - r.length) (by rw [Nat.succ_mul] at h; omega)]
      congr 1
      conv => rhs; rw [show i = i - r.length + r.length by omega, Nat.add_mod_right]
theorem ivs_opt (xs : List Int) (i : Nat) : (ivs xs)[i]? = xs[i]?.map (Value.int .i64) := by simp [ivs]
/-- The cells go on as they began. -/
theorem repL_on (r : List Int) (c j m : Nat) (hj : r.length ∣ j) (hm : j + m ≤ c * r.length) : (ivs (repL r c)).take (j + m) = (ivs (repL r c)).take j ++ (ivs (repL r c)).take m := by
  have hl : (ivs (repL r c)).length = c * r.length := by rw [ivs_length, repL_length]
  apply List.ext_getElem?
  intro i
  by_cases h1 : i < j
  · rw [List.getElem?_take, if_pos (by omega), List.getElem?_append_left (by rw [List.length_take]; omega), List.getElem?_take, if_pos h1]
  · rw [List.getElem?_append_right (by rw [List.length_take]; omega), List.length_take, hl, Nat.min_eq_left (by omega)]
    by_cases h2 : i < j + m
    · rw [List.getElem?_take, if_pos h2, List.getElem?_take, if_pos (by omega), ivs_opt, ivs_opt, repL_get r c i (by omega), repL_get r c (i - j) (by omega)]
      congr 2
      obtain ⟨k, rfl⟩ := hj
      conv => lhs; rw [show i = i - r.length * k + r.length * k by omega, Nat.add_mul_mod_self_left]
    · rw [List.getElem?_take, if_neg h2, List.getElem?_take, if_neg (by omega)]
def RepG (w : World) (g : Nat) (r : List Int) (c : Nat) (j : Nat) (wr : World) : Prop := Ext w wr ∧ ∃ cur : List Value, wr.heap[g]? = some (.cells cur.toArray 2 (0, 0)) ∧ cur.length = c * r.length ∧ cur.take j = (ivs (repL r c)).take j
theorem splice_on {cur T N : List Value} {j : Nat} (h : cur.take j = T.take j) (hj : j ≤ cur.length) (hT : T.take (j + N.length) = T.take j ++ N) : (splice cur j N).take (j + N.length) = T.take (j + N.length) := by
  unfold splice
  rw [h, hT, ← List.append_assoc]
  have hl : (T.take j).length = j := by rw [← h, List.length_take]; omega
  rw [List.take_append_of_le_length (by rw [List.length_append, hl]; omega), List.take_of_length_le (by rw [List.length_append, hl]; omega)]
set_option maxRecDepth 100000 in
set_option maxHeartbeats 4000000 in
theorem RepeatG_c (b off c0 c : Nat) (r : List Int) (w : World) (hr : Ints w (.slice (some ⟨b, off, none⟩) r.length c0) r) (hn : 1 ≤ r.length) (h1 : 1 ≤ c) (h2 : c * r.length ≤ 100000) :
    Calls Tryz.prog 71 #[.slice (some ⟨b, off, none⟩) r.length c0, .int .i64 c] w fun e w' => ∃ u, e = .returned u ∧ OwnInts w.heap.size w' u (repL r c) ∧ Ext w w' := by
  obtain ⟨i0, hi, hz0, hz1, hz2⟩ := info_parts intInfo
  obtain ⟨n, hnn⟩ : ∃ n, r.length = n := ⟨_, rfl⟩
  obtain ⟨L, hL⟩ : ∃ L, c * r.length = L := ⟨_, rfl⟩
  have HN0 := Lib.hid hnn
  have HL := Lib.hid hL
  have hnL : n ≤ L := by rw [← hL, hnn]; exact Nat.le_mul_of_pos_left n h1
  have hcL : c ≤ L := by rw [← hL]; exact Nat.le_mul_of_pos_right c hn
  have hnc : n * c = L := by rw [← hL, hnn, Nat.mul_comm]
  have hf := hr.form
  obtain ⟨Aq, cq, hAq, hq1, hq2⟩ := hf
  injection hAq with e1 e2 e3
  subst e1 e3
  rw [hnn] at hn hr hq1 ⊢
  have hLb : L ≤ 100000 := by rw [← hL]; exact h2
  have HR : Hid (∀ k u, (ivs r)[k]? = some u → w.cell? ((⟨b, off, none⟩ : Addr).add k) = some u) := Lib.hid (fun k u hk => by
    have hk' : k < r.length := by simpa using (List.getElem?_eq_some_iff.1 hk).1
    obtain ⟨b', off', e, hc⟩ := (show Ints w (.slice (some ⟨b, off, none⟩) r.length c0) r by rw [hnn]; exact hr).at hk'
    injection e with e
    injection e with e1 e2
    subst e1 e2
    rw [ivs_get r k hk'] at hk
    have : (⟨b, off, none⟩ : Addr).add k = ⟨b, off + k, none⟩ := by unfold Addr.add; split <;> simp_all
    rw [this, ← hk]
    exact hc k hk')
  have hbw : b < w.heap.size := by
    have := HR.out 0 (.int .i64 r[0]) (ivs_get r 0 (by omega))
    have e : (⟨b, off, none⟩ : Addr).add 0 = ⟨b, off + 0, none⟩ := by unfold Addr.add; split <;> simp_all
    rw [e] at this
    exact World.block_lt_of_cell? w _ this
  have hd0 : decide ((c : Int) < 0) = false := decide_eq_false (by omega)
  clear hL hr h2 hnn
  go_enter Tryz.func71, Tryz.ntmps71
  go_wp2_with fail
  refine (Tryz.bits_Mul n c (by omega) (by omega) _).mono ?_
  rintro e w' ⟨rfl, rfl⟩
  rw [hnc, show L / 18446744073709551616 = 0 by omega, show L % 18446744073709551616 = L by omega]
  go_wp2_with (at_make; refine wpList_make_full _ rfl _ _ 27 rfl w'.heap.size 2 i0 _ 1 Tryz.underlying27 hi hz0 hz1 .i64 .i64 _ _ L rfl rfl ?d1 ?d2 ?c1 ?c2 ?c3 ?_)
  case d1 => rfl
  case d2 => rfl
  case c1 => rw [hz2]; omega
  case c2 => unfold maxLen; omega
  case c3 => exact Nat.le_refl _
  intro w1 hown hgr
  have hx1 : Ext w' w1 := (Ext.refl _).grown hgr (by simp)
  obtain ⟨cur, hg, hcl⟩ : ∃ cur : List Value, w1.heap[w'.heap.size]? = some (.cells cur.toArray 2 (0, 0)) ∧ cur.length = L := by
    rcases hown.2 with ⟨h', _⟩ | ⟨g', cap, cu, h', _, hg, _, _, hcs, _⟩
    · simp at h'
    · injection h' with e1 e2 e3
      injection e1 with e1
      injection e1 with e1 e4 e5
      subst e1 e3
      exact ⟨cu.toList, by simpa using hg, by simpa using hcs⟩
  have hgb : b < w'.heap.size := hbw
  clear hown hgr hi hz0 hz1 hz2 hbw
  generalize hG : w'.heap.size = g at *
  have HG := Lib.hid hG
  have HCL := Lib.hid hcl
  clear hG hcl
  have HIL : Hid ((ivs r).length = n) := Lib.hid (by rw [ivs_length]; exact HN0.out)
  obtain ⟨N0, hN0⟩ : ∃ N0, ivs r = N0 := ⟨_, rfl⟩
  rw [hN0] at HIL HR
  have HNE := Lib.hid hN0
  clear hN0
  go_wp2_with (with_reducible refine wpList_copy_splice rfl _ _ 27 27 rfl 2 Tryz.underlying27 intSize' (some ⟨g, 0, none⟩) (some ⟨b, off, none⟩) L L n c0 rfl rfl g 0 cur 2 hg N0 ?k1 ?k2 ?k3 ?k4 g w' ?k5 ?k6 ?_)
  case k1 => rw [HIL.out]; exact (Nat.min_eq_left hnL).symm
  case k2 =>
    intro _ k u hk
    have h := hx1.cell (HR.out k u hk)
    have e : (⟨b, off, none⟩ : Addr).add k = ⟨b, off + k, none⟩ := by unfold Addr.add; split <;> simp_all
    rw [e] at h
    exact h
  case k3 => have := HCL.out; have := HIL.out; omega
  case k4 =>
    intro u hu
    rw [← HNE.out] at hu
    simp only [ivs, List.mem_map] at hu
    obtain ⟨z, _, rfl⟩ := hu
    rfl
  case k5 => rw [← HG.out]; exact hx1
  case k6 => exact Nat.le_refl _
  intro w2 hg2 hbl2
  have hLeq := HL.out
  have hS : RepG w' g r c n w2 := by
    refine ⟨by unfold Ext; rw [HG.out]; exact hbl2, _, hg2.out, ?_, ?_⟩
    · rw [length_splice _ _ _ (by have := HCL.out; have := HIL.out; omega), HCL.out, hLeq]
    · have hIL := HIL.out
      have hT : (ivs (repL r c)).take n = N0 := by
        have hone := repL_succ r (c - 1)
        rw [show c - 1 + 1 = c by omega] at hone
        rw [hone, ← HNE.out]
        unfold ivs
        rw [List.map_append, List.take_append_of_le_length (by rw [List.length_map, HN0.out]; exact Nat.le_refl _), List.take_of_length_le (by rw [List.length_map, HN0.out]; exact Nat.le_refl _)]
      rw [hT]
      unfold splice
      rw [List.take_zero, List.nil_append, List.take_append_of_le_length (by omega), List.take_of_length_le (by omega)]
  have hIL := HIL.out
  clear hg hg2 hbl2 hx1 hLeq
  try rw [hIL]
  clear hIL
  go_wp2
  go_loopw [8] (fun i wr => ∃ j : Nat, n ≤ j ∧ j ≤ L ∧ i = .int .i64 j ∧ Hid (n ∣ j) ∧ RepG w' g r c j wr) (fun i _ => L - (intOf i).toNat)
  case atStart => exact ⟨n, Nat.le_refl _, hnL, rfl, Lib.hid (Nat.dvd_refl n), hS⟩
  case round =>
    clear hS
    obtain ⟨j, hj1, hj, rfl, HDV, hS⟩ := hrel
    by_cases hlt : j < L
    · obtain ⟨hx, cu, hgu, hcu, htk⟩ := hS
      have hcu : cu.length = L := by rw [hcu]; exact HL.out
      have HCU := Lib.hid hcu
      have HTK := Lib.hid htk
      obtain ⟨mm, hmm⟩ : ∃ mm, min j (L - j) = mm := ⟨_, rfl⟩
      have hm1 : 1 ≤ mm := by omega
      have hm2 : j + mm ≤ L := by omega
      have hm3 : mm ≤ j := by omega
      have HTL : Hid ((ivs (repL r c)).length = L) := Lib.hid (by rw [ivs_length, repL_length]; exact HL.out)
      obtain ⟨N, hN⟩ : ∃ N, (ivs (repL r c)).take mm = N := ⟨_, rfl⟩
      have hNl : N.length = mm := by rw [← hN, List.length_take, HTL.out]; omega
      have hcs : N.length = Nat.min j (L - j) := by rw [hNl, ← hmm]
      have hn0 : ¬ L = j := by omega
      have hj0 : (0 : Int) ≤ (j : Int) := by omega
      have hj2 : (j : Int) ≤ (L : Int) := by omega
      have hfit : j + N.length ≤ cu.length := by rw [hNl]; have := HCU.out; omega
      have h1c : ∀ u ∈ N, u.oneCell' = true := fun u hu => by
        rw [← hN] at hu
        have := List.mem_of_mem_take hu
        simp only [ivs, List.mem_map] at this
        obtain ⟨z, _, rfl⟩ := this
        rfl
      have hcells : ∀ k u, N[k]? = some u → wr.cell? ((⟨g, 0, none⟩ : Addr).add k) = some u := by
        intro k u hk
        have hk' : k < mm := by have := (List.getElem?_eq_some_iff.1 hk).1; omega
        have hadd : (⟨g, 0, none⟩ : Addr).add k = ⟨g, k, none⟩ := by unfold Addr.add; split <;> simp_all
        rw [hadd, cell_of_row wr g k _ _ (0, 0) hgu]
        have e : (cu.take j)[k]? = some u := by
          rw [HTK.out, List.getElem?_take, if_pos (by omega)]
          rw [← hN, List.getElem?_take, if_pos hk'] at hk
          exact hk
        rw [List.getElem?_take, if_pos (by omega)] at e
        simp only [List.getElem?_toArray, e]
      have hbl : Below g w' wr := by have := hx; unfold Ext at this; rwa [HG.out] at this
      have HN := Lib.hid hcs
      have HF := Lib.hid hfit
      have H1 := Lib.hid h1c
      have HC := Lib.hid hcells
      have HNN := Lib.hid hN
      have HNL := Lib.hid hNl
      clear hcs hfit h1c hcells hN hNl hcu htk
      go_wp2_with fail
      go_region_held3 (fun w' => True)
        (first | (go_keep; done) | trivial)
        ((refine step_copy_splice (by rfl) _ _ 27 27 (by rfl) 2 Tryz.underlying27 intSize' (some ⟨g, j, none⟩) (some ⟨g, 0, none⟩) (L - j) (L - j) j L (by rfl) (by rfl) g j cu 2 hgu N HN.out (fun _ => ⟨rfl, _, rfl, HC.out⟩) HF.out H1.out g w' hbl.drew (Nat.le_refl _) ?_; intro w3 hg3 hbl3))
      have hdv : n ∣ j + mm := by
        by_cases h : j ≤ L - j
        · have : mm = j := by omega
          rw [this]
          exact Nat.dvd_add HDV.out HDV.out
        · have : j + mm = L := by omega
          rw [this, ← hnc]
          exact Nat.dvd_mul_right n c
      have hS3 : RepG w' g r c (j + mm) w3 := by
        refine ⟨by unfold Ext; rw [HG.out]; exact hbl3, _, hg3.out, ?_, ?_⟩
        · rw [length_splice _ _ _ HF.out, HCU.out, HL.out]
        · rw [← HNL.out]
          refine splice_on HTK.out (by have := HCU.out; omega) ?_
          rw [HNL.out, repL_on r c j mm (by rw [HN0.out]; exact HDV.out) (by rw [HN0.out, Nat.mul_comm, hnc]; exact hm2), HNN.out]
      have HDM := Lib.hid hdv
      have hwr : IntKind.i64.wrap ((j : Int) + (N.length : Int)) = ((j + mm : Nat) : Int) := by
        rw [HNL.out, IntWalk.i64_in _ (by omega)]; omega
      rw [hwr]
      clear hwr hbl3 hg3 hgu hbl HN HF H1 HC HNN HNL hdv HDV HTL
      go_wp2
      go_roundw
      case rel => exact ⟨j + mm, by omega, by omega, rfl, HDM, hS3⟩
      case measure => simp [intOf]; omega
    · have hje : j = L := by omega
      subst hje
      go_wp2
      go_ret
      obtain ⟨hx, cu, hgu, hcu, htk⟩ := hS
      have hLe := HL.out
      refine ⟨.slice (some ⟨g, 0, none⟩) j j, rfl, ⟨by rw [ivs_length, repL_length, Nat.mul_one], .inr ⟨g, j, cu.toArray, by rw [repL_length, hLe], by rw [HG.out]; exact Nat.le_refl _, hgu, by rw [repL_length, hLe]; exact Nat.le_refl _, by unfold maxLen; omega, by simp [hcu, hLe], ?_⟩⟩, hx⟩
      simp only [repL_length, hLe, Nat.mul_one]
      rw [htk, List.take_of_length_le (by rw [ivs_length, repL_length, hLe]; exact Nat.le_refl _)]
end Go.Proofs.YtapjofbjedpmgaaGreat
end
