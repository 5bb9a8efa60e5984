/- Contracts of the laws' copies of lists of lists and of proofs. Lists are short.
Contracts of the program's tests on words and proofs. No condition.
Plain words: the normal form of a formula tape stands for the same cells. -/
import Derived.Test.YtapjofbjedpmgaaGreatC02
import Derived.Test.YtapjofbjedpmgaaGreatC04
import Derived.Test.YtapjofbjedpmgaaGreatC03
import Derived.Test.YtapjofbjedpmgaaGreatC14
section
namespace Go.Proofs.YtapjofbjedpmgaaGreat
open Go Go.RowKit Go.Proofs
set_option maxHeartbeats 400000
/-- The first k rows are copied. -/
def RowsTo (b : Nat) (w : World) (xss : List (List Int)) (k : Nat) (vs : List Value) : Prop :=
  (∀ i, (h : i < xss.length) → i < k → ∃ u, vs[i]? = some u ∧ OwnInts b w u xss[i]) ∧
    ∀ (i j : Nat) (u u' : Value) (g : Nat), i < k → j < k → vs[i]? = some u → vs[j]? = some u' → u.ownBlock = some g → u'.ownBlock = some g → i = j
theorem RowsTo.ext {b : Nat} {w w' : World} {xss : List (List Int)} {k : Nat} {vs : List Value} (h : RowsTo b w xss k vs) (he : Ext w w') : RowsTo b w' xss k vs :=
  ⟨fun i hi hk => by obtain ⟨u, e, hu⟩ := h.1 i hi hk; exact ⟨u, e, hu.ext he⟩, h.2⟩
theorem far_of_ne {w : World} {base base' : Nat} {e e' : TypeId} {size size' : Nat} {v v' : Value} {n n' : Nat} {xs xs' : List Value} (h : w.ownsRow base e size v n xs) (h' : w.ownsRow base' e' size' v' n' xs') (hne : e ≠ e') {g : Nat} (hg : v'.ownBlock = some g) : ∀ k, v.ownBlock = some k → k ≠ g := by
  intro k hk he
  rcases own_ne h h' hne with c | c
  · rw [c] at hk; cases hk
  · exact c (by rw [hk, hg, he])
theorem RowsTo.step {g c0 : Nat} {w w2 : World} {xss : List (List Int)} {k n : Nat} {vs : List Value} {u : Value} (h : RowsTo g w xss k vs) (hx : Ext w w2) (ho : w2.ownsRow g 27 1 (.slice (some ⟨g, 0, none⟩) n c0) n vs) (hk : k < xss.length) (hn : k < vs.length)
    (hu : OwnInts w.heap.size w2 u xss[k]) (hb : g ≤ w.heap.size) : RowsTo g (w2.setCell ⟨g, k, none⟩ u) xss (k + 1) (vs.set k u) := by
  have keep : ∀ {b : Nat} {v : Value} {zs : List Int}, OwnInts b w2 v zs → OwnInts b (w2.setCell ⟨g, k, none⟩ u) v zs := fun hv => ownsRow_far (p := ⟨g, k, none⟩) hv (far_of_ne hv ho (by decide) rfl) u
  refine ⟨fun i hi hik => ?_, fun i j x x' b hi hj hxi hxj hb1 hb2 => ?_⟩
  · by_cases c : i = k
    · subst c
      exact ⟨u, List.getElem?_set_self hn, keep (ownsRow_base hu hb)⟩
    · obtain ⟨x, e, hx'⟩ := h.1 i hi (by omega)
      exact ⟨x, by rw [List.getElem?_set_ne (Ne.symm c)]; exact e, keep (hx'.ext hx)⟩
  · have old : ∀ (i : Nat) (x : Value), i < k → vs[i]? = some x → x.ownBlock = some b → b < w.heap.size := fun i x hi hx1 hb1 => by
      obtain ⟨x', e, hx'⟩ := h.1 i (by omega) hi
      rw [hx1] at e
      injection e with e
      subst e
      exact (hx'.lt b hb1).2
    have new : u.ownBlock = some b → w.heap.size ≤ b := fun hb1 => (hu.lt b hb1).1
    by_cases ci : i = k <;> by_cases cj : j = k
    · omega
    · subst ci
      rw [List.getElem?_set_self hn] at hxi
      injection hxi with hxi
      subst hxi
      rw [List.getElem?_set_ne (Ne.symm cj)] at hxj
      have := old j x' (by omega) hxj hb2
      have := new hb1
      omega
    · subst cj
      rw [List.getElem?_set_self hn] at hxj
      injection hxj with hxj
      subst hxj
      rw [List.getElem?_set_ne (Ne.symm ci)] at hxi
      have := old i x (by omega) hxi hb1
      have := new hb2
      omega
    · rw [List.getElem?_set_ne (Ne.symm ci)] at hxi
      rw [List.getElem?_set_ne (Ne.symm cj)] at hxj
      exact h.2 i j x x' b (by omega) (by omega) hxi hxj hb1 hb2
theorem ownsRow_low {w : World} {base : Nat} {e : TypeId} {size : Nat} {v : Value} {n : Nat} {xs : List Value} (h : w.ownsRow base e size v n xs) {p : Addr} (hp : p.block < base) (u : Value) : (w.setCell p u).ownsRow base e size v n xs :=
  ownsRow_far h (fun k hk => by have := (h.lt k hk).1; omega) u
theorem OwnIntRows.low {w : World} {base : Nat} {v : Value} {xss : List (List Int)} (h : OwnIntRows base w v xss) {p : Addr} (hp : p.block < base) (u : Value) : OwnIntRows base (w.setCell p u) v xss := by
  obtain ⟨vs, h1, h2, h3⟩ := h
  exact ⟨vs, ownsRow_low h1 hp u, fun i hi => by obtain ⟨x, e, hx⟩ := h2 i hi; exact ⟨x, e, ownsRow_low hx hp u⟩, h3⟩
theorem OwnIntRows.base {w : World} {base base' : Nat} {v : Value} {xss : List (List Int)} (h : OwnIntRows base w v xss) (hb : base' ≤ base) : OwnIntRows base' w v xss := by
  obtain ⟨vs, h1, h2, h3⟩ := h
  exact ⟨vs, ownsRow_base h1 hb, fun i hi => by obtain ⟨x, e, hx⟩ := h2 i hi; exact ⟨x, e, ownsRow_base hx hb⟩, h3⟩
/-- A proof. -/
structure ProofD where
  k : Int
  ns : List Int
  ws : List (List Int)
deriving DecidableEq
def Prf (w : World) (v : Value) (p : ProofD) : Prop := ∃ nv wv, v = .agg #[.int .i64 p.k, nv, wv] ∧ Ints w nv p.ns ∧ IntRows w wv p.ws
theorem Prf.ext {w w' : World} {v : Value} {p : ProofD} (h : Prf w v p) (he : Ext w w') : Prf w' v p := by
  obtain ⟨nv, wv, hv, h1, h2⟩ := h; exact ⟨nv, wv, hv, h1.ext he, h2.ext he⟩
end Go.Proofs.YtapjofbjedpmgaaGreat
end
section
namespace Go.Proofs.YtapjofbjedpmgaaGreat
open Go Go.RowKit Go.Proofs
set_option maxHeartbeats 400000
def wordB (x : List Int) : Bool := decide (x.length ≤ 400) && x.all fun z => inB z 0 9
theorem isLetters_c (v : Value) (x : List Int) (w : World) (h : Ints w v x) :
    Calls Tryz.prog 131 #[v] w fun e w' => e = .returned (.bool (x.all fun z => inB z 0 9)) ∧ w = w' := by
  go_enter Tryz.func131, Tryz.ntmps131
  go_wp2_with fail
  refine (allWithin_c _ _ _ _ _ h).mono ?_
  rintro e w' ⟨rfl, rfl⟩
  go_wp2
  go_ret
  exact ⟨rfl, rfl⟩
theorem IsWord_c (v : Value) (x : List Int) (w : World) (h : Ints w v x) :
    Calls Tryz.prog 112 #[v] w fun e w' => e = .returned (.bool (wordB x)) ∧ w = w' := by
  obtain ⟨A, c, rfl, _, _⟩ := h.form
  by_cases hl : x.length ≤ 400
  · have H : wordB x = x.all fun z => inB z 0 9 := by simp [wordB, hl]
    rw [H]
    have hd : decide (x.length ≤ 400) = true := by simp [hl]
    go_enter Tryz.func112, Tryz.ntmps112
    go_wp2_with fail
    refine (isLetters_c _ _ _ h).mono ?_
    rintro e w' ⟨rfl, rfl⟩
    go_wp2
    go_ret
    exact ⟨rfl, rfl⟩
  · have H : wordB x = false := by simp [wordB, hl]
    rw [H]
    have hd : decide (x.length ≤ 400) = false := by simp [hl]
    go_enter Tryz.func112, Tryz.ntmps112
    go_wp2
    go_ret
    exact ⟨rfl, rfl⟩
theorem words1_c (v : Value) (x : List Int) (w : World) (h : Ints w v x) :
    Calls Tryz.prog 111 #[v] w fun e w' => e = .returned (.bool (!wordB x)) ∧ w = w' := by
  go_enter Tryz.func111, Tryz.ntmps111
  go_wp2_with fail
  refine (IsWord_c _ _ _ h).mono ?_
  rintro e w' ⟨rfl, rfl⟩
  go_wp2
  go_ret
  exact ⟨rfl, rfl⟩
def wordsTo (xss : List (List Int)) (k : Nat) : Prop := (xss.take k).all wordB = true
theorem wordsTo_step {xss : List (List Int)} {k : Nat} (h : wordsTo xss k) (hk : k < xss.length) (he : wordB xss[k] = true) : wordsTo xss (k + 1) := by
  unfold wordsTo at *
  rw [List.take_succ_eq_append_getElem hk, List.all_append, h]
  simp [he]
theorem wordsTo_end {xss : List (List Int)} {k : Nat} (h : wordsTo xss k) (hk : xss.length ≤ k) : xss.all wordB = true := by
  unfold wordsTo at h
  rwa [List.take_of_length_le hk] at h
theorem words_no {xss : List (List Int)} {k : Nat} (hk : k < xss.length) (he : wordB xss[k] = false) : xss.all wordB = false := by
  rw [List.all_eq_false]
  exact ⟨xss[k], List.getElem_mem hk, by simp [he]⟩
theorem indexWord_c (u : Value) (xss : List (List Int)) (w : World) (hu : IntRows w u xss) :
    Calls Tryz.prog 98 #[u, .func (.func 111) #[] #[]] w fun e w' => (∃ k : Int, e = .returned (.int .i64 k) ∧ decide (0 ≤ k) = !xss.all wordB) ∧ Ext w w' := by
  obtain ⟨A, c, rfl, h5, h5'⟩ := hu.form
  go_enter Tryz.func98, Tryz.ntmps98
  go_wp2
  go_loopw [8] (fun i wr => ∃ k : Nat, k ≤ xss.length ∧ i = .int .i64 k ∧ Ext w wr ∧ wordsTo xss k) (fun i _ => xss.length - (intOf i).toNat)
  case atStart => exact ⟨0, Nat.zero_le _, rfl, Ext.refl _, rfl⟩
  case round =>
    obtain ⟨k, hk, rfl, hx, ht⟩ := hrel
    by_cases hlt : k < xss.length
    · obtain ⟨b', off, rfl, hc⟩ := hu.at hlt
      obtain ⟨A1, d1, c0, r0⟩ := hc k hlt
      have c0 := hx.cell c0
      clear hc
      go_wp2_with fail
      refine (words1_c _ _ _ (r0.ext hx)).mono ?_
      rintro e w2 ⟨rfl, rfl⟩
      cases he : wordB xss[k] with
      | false =>
        have HM := Lib.hid (words_no hlt he)
        clear he
        go_wp2
        go_ret
        exact ⟨⟨k, rfl, by simp [HM.out]⟩, hx⟩
      | true =>
        have HM := Lib.hid (wordsTo_step ht hlt he)
        clear he
        go_wp2
        go_roundw
        case rel => exact ⟨k + 1, by omega, by go_num, hx, HM.out⟩
        case measure => simp [intOf]; omega
    · go_wp2
      go_ret
      exact ⟨⟨-1, rfl, by simp [wordsTo_end ht (by omega)]⟩, hx⟩
theorem containsWord_c (u : Value) (xss : List (List Int)) (w : World) (hu : IntRows w u xss) :
    Calls Tryz.prog 63 #[u, .func (.func 111) #[] #[]] w fun e w' => e = .returned (.bool (!xss.all wordB)) ∧ Ext w w' := by
  go_enter Tryz.func63, Tryz.ntmps63
  go_wp2_with fail
  refine (indexWord_c u xss _ hu).mono ?_
  rintro e w2 ⟨⟨k, rfl, hk⟩, hx2⟩
  have HK := Lib.hid hk
  clear hk
  go_wp2
  go_ret
  exact ⟨by simp [← HK.out], hx2⟩
theorem areWords_c (u : Value) (xss : List (List Int)) (w : World) (hu : IntRows w u xss) :
    Calls Tryz.prog 86 #[u] w fun e w' => e = .returned (.bool (xss.all wordB)) ∧ Ext w w' := by
  go_enter Tryz.func86, Tryz.ntmps86
  go_wp2_with fail
  refine (containsWord_c u xss _ hu).mono ?_
  rintro e w2 ⟨rfl, hx2⟩
  go_wp2
  go_ret
  exact ⟨by simp, hx2⟩
def prfOk (p : ProofD) : Bool := inB p.k 1 8 && decide (p.ns.length ≤ 300) && decide (p.ws.length ≤ 300) && (p.ns.all fun z => inB z (-1000000000000) 1000000000000) && p.ws.all wordB
set_option maxHeartbeats 1000000 in
theorem ValidProof_c (v : Value) (p : ProofD) (w : World) (h : Prf w v p) :
    Calls Tryz.prog 47 #[v] w fun e w' => e = .returned (.bool (prfOk p)) ∧ Ext w w' := by
  obtain ⟨nv, wv, rfl, hn, hw⟩ := h
  obtain ⟨An, cn, rfl, _, _⟩ := hn.form
  obtain ⟨Aw, cw, rfl, _, _⟩ := hw.form
  have hx0 := Ext.alloc w (.cells #[.int .i64 p.k, .slice An p.ns.length cn, .slice Aw p.ws.length cw] 34)
  go_enter Tryz.func47, Tryz.ntmps47
  go_wp2_with fail
  refine (within_c _ _ _ _).mono ?_
  rintro e w' ⟨rfl, rfl⟩
  cases hk : inB p.k 1 8 with
  | false =>
    go_wp2
    go_ret
    exact ⟨by simp [prfOk, hk], hx0⟩
  | true =>
    have HK := Lib.hid hk
    clear hk
    by_cases h1 : p.ns.length ≤ 300
    · by_cases h2 : p.ws.length ≤ 300
      · have d1 : decide (300 < p.ns.length) = false := by simp; omega
        have d2 : decide (300 < p.ws.length) = false := by simp; omega
        go_wp2_with fail
        refine (allWithin_c _ _ _ _ _ (hn.ext hx0)).mono ?_
        rintro e w' ⟨rfl, rfl⟩
        cases ha : (p.ns.all fun z => inB z (-1000000000000) 1000000000000) with
        | false =>
          go_wp2
          go_ret
          exact ⟨by simp [prfOk, ha], hx0⟩
        | true =>
          have HA := Lib.hid ha
          clear ha
          go_wp2_with fail
          refine (areWords_c _ _ _ (hw.ext hx0)).mono ?_
          rintro e w2 ⟨rfl, hx2⟩
          go_wp2
          go_ret
          exact ⟨by simp [prfOk, HK.out, HA.out, h1, h2], hx0.trans hx2⟩
      · have d1 : decide (300 < p.ns.length) = false := by simp; omega
        have d2 : decide (300 < p.ws.length) = true := by simp; omega
        go_wp2
        go_ret
        exact ⟨by simp [prfOk, h2], hx0⟩
    · have d1 : decide (300 < p.ns.length) = true := by simp; omega
      go_wp2
      go_ret
      exact ⟨by simp [prfOk, h1], hx0⟩
end Go.Proofs.YtapjofbjedpmgaaGreat
end
section
set_option linter.unusedSimpArgs false
set_option linter.unusedVariables false
namespace Go.Proofs.YtapjofbjedpmgaaGreat
open Go Go.RowKit Go.Proofs
/-- How often each repeater is repeated. -/
def esF : List Int → List Int → List Nat
  | c :: cs, o :: os => (c + o).toNat :: esF cs os
  | _, _ => []
def tapeO (f : FoD) (cs : List Int) : List Int := tapeF f.ws f.rs (esF cs f.os)
def headO (f : FoD) (cs : List Int) : Int := (hoff f.ws f.rs (esF cs f.os) f.hd.toNat : Nat) + f.at_
/-- The lists have fitting lengths. -/
structure ShapeF (f : FoD) (cs : List Int) : Prop where
  r1 : 1 ≤ f.rs.length
  ws : f.ws.length = f.rs.length + 1
  os : f.os.length = f.rs.length
  cn : cs.length = f.rs.length
  h0 : 0 ≤ f.hd
  h1 : f.hd ≤ f.rs.length
  pos : ∀ k, k < f.rs.length → 0 ≤ cs.getD k 0 + f.os.getD k 0
/-- Two formula tapes stand for the same cells. -/
structure SameFo (cs : List Int) (f g : FoD) : Prop where
  q : g.q = f.q
  hd : g.hd = f.hd
  ws : g.ws.length = f.ws.length
  rs : g.rs.length = f.rs.length
  os : g.os.length = f.os.length
  ge : ∀ k, f.os.getD k 0 ≤ g.os.getD k 0
  tape : SameL (tapeO f cs) (headO f cs) (tapeO g cs) (headO g cs)
theorem SameFo.refl (cs : List Int) (f : FoD) : SameFo cs f f := ⟨rfl, rfl, rfl, rfl, rfl, fun _ => Int.le_refl _, SameL.refl _ _⟩
theorem SameFo.trans {cs : List Int} {f g h : FoD} (a : SameFo cs f g) (b : SameFo cs g h) : SameFo cs f h :=
  ⟨b.q.trans a.q, b.hd.trans a.hd, b.ws.trans a.ws, b.rs.trans a.rs, b.os.trans a.os, fun k => Int.le_trans (a.ge k) (b.ge k), a.tape.trans b.tape⟩
theorem split_mid {α : Type} {xs : List α} {i : Nat} (h : i < xs.length) : ∃ A u W, xs = A ++ u :: W ∧ A.length = i :=
  ⟨xs.take i, xs[i], xs.drop (i + 1), by rw [← List.drop_eq_getElem_cons h, List.take_append_drop], by rw [List.length_take]; omega⟩
/-- The lists around a repeater. -/
theorem ShapeF.split {f : FoD} {cs : List Int} (h : ShapeF f cs) {i : Nat} (hi : i < f.rs.length) :
    ∃ A u x C B v D O o P cA c cB, f.ws = A ++ u :: x :: C ∧ f.rs = B ++ v :: D ∧ f.os = O ++ o :: P ∧ cs = cA ++ c :: cB ∧ A.length = i ∧ B.length = i ∧ O.length = i ∧ cA.length = i ∧ C.length = D.length ∧ C.length = P.length ∧ cB.length = P.length := by
  have h1 := h.ws
  have h2 := h.os
  have h3 := h.cn
  obtain ⟨A, u, W, hA, lA⟩ := split_mid (xs := f.ws) (i := i) (by omega)
  obtain ⟨B, v, D, hB, lB⟩ := split_mid (xs := f.rs) hi
  obtain ⟨O, o, P, hO, lO⟩ := split_mid (xs := f.os) (i := i) (by omega)
  obtain ⟨cA, c, cB, hC, lC⟩ := split_mid (xs := cs) (i := i) (by omega)
  cases W with
  | nil => rw [hA] at h1; rw [hB] at h1 hi; simp at h1 hi; omega
  | cons x C =>
    refine ⟨A, u, x, C, B, v, D, O, o, P, cA, c, cB, hA, hB, hO, hC, lA, lB, lO, lC, ?_, ?_, ?_⟩
    · rw [hA, hB] at h1; simp at h1; omega
    · rw [hA, hB] at h1; rw [hO, hB] at h2; simp at h1 h2; omega
    · rw [hO, hB] at h2; rw [hC, hB] at h3; simp at h2 h3; omega
end Go.Proofs.YtapjofbjedpmgaaGreat
end
