/- Contracts of the program's tracked runs, runs of so many steps, and tracks of the head.
Contracts of the laws' copies of lists of lists and of proofs. Lists are short.
Contracts of the program's tests on words and proofs. No condition. -/
import Derived.Test.YtojiammendjpkaaGreatB32
import Derived.Test.YtojiammendjpkaaGreatB33
import Derived.Test.YtojiammendjpkaaGreatB03
import Derived.Test.YtojiammendjpkaaGreatB02
import Derived.Test.YtojiammendjpkaaGreatB04
section
set_option linter.unusedSimpArgs false
set_option linter.unusedVariables false
namespace Go.Proofs.YtojiammendjpkaaGreat
open Go Go.RowKit Go.Proofs
set_option maxHeartbeats 400000
theorem TrkAt.free {w0 W : World} {x : Nat} {lv rv pv qv : Value} {P : List Int} {rs : List RecV} {lo hi : Int} (h : TrkAt w0 W x lv rv P rs lo hi pv qv) : TrkAt w0 W x (.slice none 0 0) (.slice none 0 0) P rs lo hi pv qv :=
  ⟨h.blk, h.pos, h.rec_, h.conf, h.low, fun g _ => ⟨by simp [Value.ownBlock], by simp [Value.ownBlock]⟩, fun r hr g hg => ⟨by simp [Value.ownBlock], by simp [Value.ownBlock], (h.d2 r hr g hg).2.2⟩⟩
/-- What a tracked run comes to. -/
def TrkRes (w : World) (m : MachD) (N : Nat) (e : Ending) (w' : World) : Prop :=
  ∃ (x i : Nat) (rs : List RecV) (lo hi : Int) (pv qv : Value), TrkAt w w' x (.slice none 0 0) (.slice none 0 0) (posM m blankC (i + 1)) rs lo hi pv qv ∧ RecsAt m blankC (i + 1) rs lo hi ∧ Ext w w' ∧ rs.length ≤ i + 1 ∧
    ((EndAt m blankC N i ∧ e = .returned (.tuple #[.pointer (some ⟨x, 0, none⟩), .bool (decide (lookI m (cfgI m blankC i) = noR)), .int .i64 0])) ∨ (FullAt m blankC N (i + 1) ∧ e = .returned (.tuple #[.pointer (some ⟨x, 0, none⟩), .bool false, .int .i64 5])))
set_option maxRecDepth 20000 in
set_option maxHeartbeats 1000000 in
theorem tracked_c (w : World) (m : MachD) (mv : Value) (N : Nat) (hr : Rules w mv m.rules) (hm : machOk m = true) (hN : N ≤ 20000) :
    Calls Tryz.prog 62 #[.agg #[.int .i64 m.sy, .int .i64 m.st, mv], .int .i64 N] w (TrkRes w m N) := by
  obtain ⟨Am, cm, rfl, _, _⟩ := id hr.form
  obtain ⟨W, hW⟩ : ∃ W, W = (w.alloc (.cells #[.int .i64 m.sy, .int .i64 m.st, .slice Am m.rules.length cm] 26)).alloc (.cells #[.slice none 0 0, .slice none 0 0, .int .i64 0, .int .i64 0] 109) := ⟨_, rfl⟩
  have hX : Ext w W := by rw [hW]; exact (Ext.alloc _ _).trans (Ext.alloc _ _)
  have bQ : Blk W (w.heap.size + 1) 109 #[.slice none 0 0, .slice none 0 0, .int .i64 0, .int .i64 0] := by rw [hW]; exact Blk.new _ _ _ _ (by simp)
  have HM := Lib.hid hm
  have HR := Lib.hid hr
  clear hm hr
  go_enter Tryz.func62, Tryz.ntmps62
  go_wp2_with fail
  rw [← hW]
  clear hW
  refine (follow_c w W (w.heap.size + 1) m _ N HR.out hX HM.out hN bQ (by omega)).mono ?_
  rintro e w2 ⟨i, rs, lo, hi, pv, qv, lv, rv, hT, hRS, hx, hrl, ⟨hE, rfl⟩ | ⟨hF, rfl⟩⟩
  · have HT := Lib.hid hT.free
    have HRS := Lib.hid hRS
    have HE := Lib.hid hE
    obtain ⟨y, hy⟩ : ∃ y, decide (lookI m (cfgI m blankC i) = noR) = y := ⟨_, rfl⟩
    have HY := Lib.hid hy
    rw [hy]
    clear hT hRS hE hy bQ hX
    go_wp2
    exact bodyPost_ret (v := .tuple #[.pointer (some ⟨w.heap.size + 1, 0, none⟩), .bool y, .int .i64 0]) (by simp [results, Tryz.results62, go_sem]) rfl ⟨_, i, rs, lo, hi, pv, qv, HT.out, HRS.out, hx, hrl, .inl ⟨HE.out, by rw [HY.out]⟩⟩
  · have HT := Lib.hid hT.free
    have HRS := Lib.hid hRS
    have HF := Lib.hid hF
    clear hT hRS hF bQ hX
    go_wp2
    exact bodyPost_ret (v := .tuple #[.pointer (some ⟨w.heap.size + 1, 0, none⟩), .bool false, .int .i64 5]) (by simp [results, Tryz.results62, go_sem]) rfl ⟨_, i, rs, lo, hi, pv, qv, HT.out, HRS.out, hx, hrl, .inr ⟨HF.out, rfl⟩⟩
/-- What a run of so many steps comes to. -/
def AftRes (w : World) (m : MachD) (mv : Value) (N : Nat) (e : Ending) (w' : World) : Prop :=
  ∃ b : Nat, (∃ (i : Nat) (lv rv : Value), EndAt m blankC N i ∧ e = .returned (.tuple #[.pointer (some ⟨b, 0, none⟩), .bool ((i : Int) == (N : Int))]) ∧ RunAt w w' b m (cfgI m blankC i) mv lv rv) ∨
    ((∃ i, FullAt m blankC N i) ∧ e = .returned (.tuple #[.pointer (some ⟨b, 0, none⟩), .bool false]) ∧ Ext w w')
set_option maxRecDepth 20000 in
set_option maxHeartbeats 1000000 in
theorem afterSteps_c (w : World) (m : MachD) (mv : Value) (N : Nat) (hr : Rules w mv m.rules) (hm : machOk m = true) (hN : N ≤ 20000) :
    Calls Tryz.prog 122 #[.agg #[.int .i64 m.sy, .int .i64 m.st, mv], .int .i64 N] w (AftRes w m mv N) := by
  obtain ⟨Am, cm, rfl, _, _⟩ := id hr.form
  obtain ⟨W, hW⟩ : ∃ W, W = w.alloc (.cells #[.int .i64 m.sy, .int .i64 m.st, .slice Am m.rules.length cm] 26) := ⟨_, rfl⟩
  have hX : Ext w W := by rw [hW]; exact Ext.alloc _ _
  have HM := Lib.hid hm
  have HR := Lib.hid hr
  have HG := Lib.hid (blank_good hm)
  clear hm hr
  go_enter Tryz.func122, Tryz.ntmps122
  go_wp2_with fail
  rw [← hW]
  clear hW
  refine (blankRun_c W m _ (HR.out.ext hX)).mono ?_
  rintro e w2 ⟨b, lv, rv, rfl, hRun⟩
  have hR2 := hRun.under HR.out hX
  clear hRun
  go_wp2_with fail
  refine (run_c w w2 b m blankC _ lv rv N (by omega) HM.out HG.out (by decide) hR2).mono ?_
  rintro e w3 (⟨i, l3, r3, hE, rfl, R3⟩ | ⟨⟨i, hFull⟩, rfl, hx3⟩)
  · have HE := Lib.hid hE
    have H3 := Lib.hid R3
    clear hE R3 hR2
    by_cases hiN : (i : Int) = (N : Int)
    · have hb : ((i : Int) == (N : Int)) = true := by simp [hiN]
      have HB := Lib.hid hb
      clear hiN
      go_wp2
      exact bodyPost_ret (v := .tuple #[.pointer (some ⟨b, 0, none⟩), .bool true]) (by simp [results, Tryz.results122, go_sem]) rfl ⟨b, .inl ⟨i, l3, r3, HE.out, by rw [HB.out], H3.out⟩⟩
    · have hb : ((i : Int) == (N : Int)) = false := by simpa using hiN
      have HB := Lib.hid hb
      clear hiN
      go_wp2
      exact bodyPost_ret (v := .tuple #[.pointer (some ⟨b, 0, none⟩), .bool false]) (by simp [results, Tryz.results122, go_sem]) rfl ⟨b, .inl ⟨i, l3, r3, HE.out, by rw [HB.out], H3.out⟩⟩
  · have HF := Lib.hid hFull
    clear hFull hR2
    go_wp2
    exact bodyPost_ret (v := .tuple #[.pointer (some ⟨b, 0, none⟩), .bool false]) (by simp [results, Tryz.results122, go_sem]) rfl ⟨b, .inr ⟨⟨i, HF.out⟩, rfl, hx3⟩⟩
end Go.Proofs.YtojiammendjpkaaGreat
end
section
namespace Go.Proofs.YtojiammendjpkaaGreat
open Go Go.RowKit Go.Proofs
set_option maxHeartbeats 400000
/-- The first k rows are copied. -/
def RowsTo (b : Nat) (w : World) (xss : List (List Int)) (k : Nat) (vs : List Value) : Prop :=
  (∀ i, (h : i < xss.length) → i < k → ∃ u, vs[i]? = some u ∧ OwnInts b w u xss[i]) ∧
    ∀ (i j : Nat) (u u' : Value) (g : Nat), i < k → j < k → vs[i]? = some u → vs[j]? = some u' → u.ownBlock = some g → u'.ownBlock = some g → i = j
theorem RowsTo.ext {b : Nat} {w w' : World} {xss : List (List Int)} {k : Nat} {vs : List Value} (h : RowsTo b w xss k vs) (he : Ext w w') : RowsTo b w' xss k vs :=
  ⟨fun i hi hk => by obtain ⟨u, e, hu⟩ := h.1 i hi hk; exact ⟨u, e, hu.ext he⟩, h.2⟩
theorem far_of_ne {w : World} {base base' : Nat} {e e' : TypeId} {size size' : Nat} {v v' : Value} {n n' : Nat} {xs xs' : List Value} (h : w.ownsRow base e size v n xs) (h' : w.ownsRow base' e' size' v' n' xs') (hne : e ≠ e') {g : Nat} (hg : v'.ownBlock = some g) : ∀ k, v.ownBlock = some k → k ≠ g := by
  intro k hk he
  rcases own_ne h h' hne with c | c
  · rw [c] at hk; cases hk
  · exact c (by rw [hk, hg, he])
theorem RowsTo.step {g c0 : Nat} {w w2 : World} {xss : List (List Int)} {k n : Nat} {vs : List Value} {u : Value} (h : RowsTo g w xss k vs) (hx : Ext w w2) (ho : w2.ownsRow g 27 1 (.slice (some ⟨g, 0, none⟩) n c0) n vs) (hk : k < xss.length) (hn : k < vs.length)
    (hu : OwnInts w.heap.size w2 u xss[k]) (hb : g ≤ w.heap.size) : RowsTo g (w2.setCell ⟨g, k, none⟩ u) xss (k + 1) (vs.set k u) := by
  have keep : ∀ {b : Nat} {v : Value} {zs : List Int}, OwnInts b w2 v zs → OwnInts b (w2.setCell ⟨g, k, none⟩ u) v zs := fun hv => ownsRow_far (p := ⟨g, k, none⟩) hv (far_of_ne hv ho (by decide) rfl) u
  refine ⟨fun i hi hik => ?_, fun i j x x' b hi hj hxi hxj hb1 hb2 => ?_⟩
  · by_cases c : i = k
    · subst c
      exact ⟨u, List.getElem?_set_self hn, keep (ownsRow_base hu hb)⟩
    · obtain ⟨x, e, hx'⟩ := h.1 i hi (by omega)
      exact ⟨x, by rw [List.getElem?_set_ne (Ne.symm c)]; exact e, keep (hx'.ext hx)⟩
  · have old : ∀ (i : Nat) (x : Value), i < k → vs[i]? = some x → x.ownBlock = some b → b < w.heap.size := fun i x hi hx1 hb1 => by
      obtain ⟨x', e, hx'⟩ := h.1 i (by omega) hi
      rw [hx1] at e
      injection e with e
      subst e
      exact (hx'.lt b hb1).2
    have new : u.ownBlock = some b → w.heap.size ≤ b := fun hb1 => (hu.lt b hb1).1
    by_cases ci : i = k <;> by_cases cj : j = k
    · omega
    · subst ci
      rw [List.getElem?_set_self hn] at hxi
      injection hxi with hxi
      subst hxi
      rw [List.getElem?_set_ne (Ne.symm cj)] at hxj
      have := old j x' (by omega) hxj hb2
      have := new hb1
      omega
    · subst cj
      rw [List.getElem?_set_self hn] at hxj
      injection hxj with hxj
      subst hxj
      rw [List.getElem?_set_ne (Ne.symm ci)] at hxi
      have := old i x (by omega) hxi hb1
      have := new hb2
      omega
    · rw [List.getElem?_set_ne (Ne.symm ci)] at hxi
      rw [List.getElem?_set_ne (Ne.symm cj)] at hxj
      exact h.2 i j x x' b (by omega) (by omega) hxi hxj hb1 hb2
theorem ownsRow_low {w : World} {base : Nat} {e : TypeId} {size : Nat} {v : Value} {n : Nat} {xs : List Value} (h : w.ownsRow base e size v n xs) {p : Addr} (hp : p.block < base) (u : Value) : (w.setCell p u).ownsRow base e size v n xs :=
  ownsRow_far h (fun k hk => by have := (h.lt k hk).1; omega) u
theorem OwnIntRows.low {w : World} {base : Nat} {v : Value} {xss : List (List Int)} (h : OwnIntRows base w v xss) {p : Addr} (hp : p.block < base) (u : Value) : OwnIntRows base (w.setCell p u) v xss := by
  obtain ⟨vs, h1, h2, h3⟩ := h
  exact ⟨vs, ownsRow_low h1 hp u, fun i hi => by obtain ⟨x, e, hx⟩ := h2 i hi; exact ⟨x, e, ownsRow_low hx hp u⟩, h3⟩
theorem OwnIntRows.base {w : World} {base base' : Nat} {v : Value} {xss : List (List Int)} (h : OwnIntRows base w v xss) (hb : base' ≤ base) : OwnIntRows base' w v xss := by
  obtain ⟨vs, h1, h2, h3⟩ := h
  exact ⟨vs, ownsRow_base h1 hb, fun i hi => by obtain ⟨x, e, hx⟩ := h2 i hi; exact ⟨x, e, ownsRow_base hx hb⟩, h3⟩
/-- A proof. -/
structure ProofD where
  k : Int
  ns : List Int
  ws : List (List Int)
deriving DecidableEq
def Prf (w : World) (v : Value) (p : ProofD) : Prop := ∃ nv wv, v = .agg #[.int .i64 p.k, nv, wv] ∧ Ints w nv p.ns ∧ IntRows w wv p.ws
theorem Prf.ext {w w' : World} {v : Value} {p : ProofD} (h : Prf w v p) (he : Ext w w') : Prf w' v p := by
  obtain ⟨nv, wv, hv, h1, h2⟩ := h; exact ⟨nv, wv, hv, h1.ext he, h2.ext he⟩
end Go.Proofs.YtojiammendjpkaaGreat
end
section
namespace Go.Proofs.YtojiammendjpkaaGreat
open Go Go.RowKit Go.Proofs
set_option maxHeartbeats 400000
def wordB (x : List Int) : Bool := decide (x.length ≤ 400) && x.all fun z => inB z 0 9
theorem isLetters_c (v : Value) (x : List Int) (w : World) (h : Ints w v x) :
    Calls Tryz.prog 186 #[v] w fun e w' => e = .returned (.bool (x.all fun z => inB z 0 9)) ∧ w = w' := by
  go_enter Tryz.func186, Tryz.ntmps186
  go_wp2_with fail
  refine (allWithin_c _ _ _ _ _ h).mono ?_
  rintro e w' ⟨rfl, rfl⟩
  go_wp2
  go_ret
  exact ⟨rfl, rfl⟩
theorem IsWord_c (v : Value) (x : List Int) (w : World) (h : Ints w v x) :
    Calls Tryz.prog 156 #[v] w fun e w' => e = .returned (.bool (wordB x)) ∧ w = w' := by
  obtain ⟨A, c, rfl, _, _⟩ := h.form
  by_cases hl : x.length ≤ 400
  · have H : wordB x = x.all fun z => inB z 0 9 := by simp [wordB, hl]
    rw [H]
    have hd : decide (x.length ≤ 400) = true := by simp [hl]
    go_enter Tryz.func156, Tryz.ntmps156
    go_wp2_with fail
    refine (isLetters_c _ _ _ h).mono ?_
    rintro e w' ⟨rfl, rfl⟩
    go_wp2
    go_ret
    exact ⟨rfl, rfl⟩
  · have H : wordB x = false := by simp [wordB, hl]
    rw [H]
    have hd : decide (x.length ≤ 400) = false := by simp [hl]
    go_enter Tryz.func156, Tryz.ntmps156
    go_wp2
    go_ret
    exact ⟨rfl, rfl⟩
theorem words1_c (v : Value) (x : List Int) (w : World) (h : Ints w v x) :
    Calls Tryz.prog 155 #[v] w fun e w' => e = .returned (.bool (!wordB x)) ∧ w = w' := by
  go_enter Tryz.func155, Tryz.ntmps155
  go_wp2_with fail
  refine (IsWord_c _ _ _ h).mono ?_
  rintro e w' ⟨rfl, rfl⟩
  go_wp2
  go_ret
  exact ⟨rfl, rfl⟩
def wordsTo (xss : List (List Int)) (k : Nat) : Prop := (xss.take k).all wordB = true
theorem wordsTo_step {xss : List (List Int)} {k : Nat} (h : wordsTo xss k) (hk : k < xss.length) (he : wordB xss[k] = true) : wordsTo xss (k + 1) := by
  unfold wordsTo at *
  rw [List.take_succ_eq_append_getElem hk, List.all_append, h]
  simp [he]
theorem wordsTo_end {xss : List (List Int)} {k : Nat} (h : wordsTo xss k) (hk : xss.length ≤ k) : xss.all wordB = true := by
  unfold wordsTo at h
  rwa [List.take_of_length_le hk] at h
theorem words_no {xss : List (List Int)} {k : Nat} (hk : k < xss.length) (he : wordB xss[k] = false) : xss.all wordB = false := by
  rw [List.all_eq_false]
  exact ⟨xss[k], List.getElem_mem hk, by simp [he]⟩
theorem indexWord_c (u : Value) (xss : List (List Int)) (w : World) (hu : IntRows w u xss) :
    Calls Tryz.prog 142 #[u, .func (.func 155) #[] #[]] w fun e w' => (∃ k : Int, e = .returned (.int .i64 k) ∧ decide (0 ≤ k) = !xss.all wordB) ∧ Ext w w' := by
  obtain ⟨A, c, rfl, h5, h5'⟩ := hu.form
  go_enter Tryz.func142, Tryz.ntmps142
  go_wp2
  go_loopw [8] (fun i wr => ∃ k : Nat, k ≤ xss.length ∧ i = .int .i64 k ∧ Ext w wr ∧ wordsTo xss k) (fun i _ => xss.length - (intOf i).toNat)
  case atStart => exact ⟨0, Nat.zero_le _, rfl, Ext.refl _, rfl⟩
  case round =>
    obtain ⟨k, hk, rfl, hx, ht⟩ := hrel
    by_cases hlt : k < xss.length
    · obtain ⟨b', off, rfl, hc⟩ := hu.at hlt
      obtain ⟨A1, d1, c0, r0⟩ := hc k hlt
      have c0 := hx.cell c0
      clear hc
      go_wp2_with fail
      refine (words1_c _ _ _ (r0.ext hx)).mono ?_
      rintro e w2 ⟨rfl, rfl⟩
      cases he : wordB xss[k] with
      | false =>
        have HM := Lib.hid (words_no hlt he)
        clear he
        go_wp2
        go_ret
        exact ⟨⟨k, rfl, by simp [HM.out]⟩, hx⟩
      | true =>
        have HM := Lib.hid (wordsTo_step ht hlt he)
        clear he
        go_wp2
        go_roundw
        case rel => exact ⟨k + 1, by omega, by go_num, hx, HM.out⟩
        case measure => simp [intOf]; omega
    · go_wp2
      go_ret
      exact ⟨⟨-1, rfl, by simp [wordsTo_end ht (by omega)]⟩, hx⟩
theorem containsWord_c (u : Value) (xss : List (List Int)) (w : World) (hu : IntRows w u xss) :
    Calls Tryz.prog 88 #[u, .func (.func 155) #[] #[]] w fun e w' => e = .returned (.bool (!xss.all wordB)) ∧ Ext w w' := by
  go_enter Tryz.func88, Tryz.ntmps88
  go_wp2_with fail
  refine (indexWord_c u xss _ hu).mono ?_
  rintro e w2 ⟨⟨k, rfl, hk⟩, hx2⟩
  have HK := Lib.hid hk
  clear hk
  go_wp2
  go_ret
  exact ⟨by simp [← HK.out], hx2⟩
theorem areWords_c (u : Value) (xss : List (List Int)) (w : World) (hu : IntRows w u xss) :
    Calls Tryz.prog 110 #[u] w fun e w' => e = .returned (.bool (xss.all wordB)) ∧ Ext w w' := by
  go_enter Tryz.func110, Tryz.ntmps110
  go_wp2_with fail
  refine (containsWord_c u xss _ hu).mono ?_
  rintro e w2 ⟨rfl, hx2⟩
  go_wp2
  go_ret
  exact ⟨by simp, hx2⟩
def prfOk (p : ProofD) : Bool := inB p.k 1 8 && decide (p.ns.length ≤ 300) && decide (p.ws.length ≤ 300) && (p.ns.all fun z => inB z (-1000000000000) 1000000000000) && p.ws.all wordB
set_option maxHeartbeats 1000000 in
theorem ValidProof_c (v : Value) (p : ProofD) (w : World) (h : Prf w v p) :
    Calls Tryz.prog 56 #[v] w fun e w' => e = .returned (.bool (prfOk p)) ∧ Ext w w' := by
  obtain ⟨nv, wv, rfl, hn, hw⟩ := h
  obtain ⟨An, cn, rfl, _, _⟩ := hn.form
  obtain ⟨Aw, cw, rfl, _, _⟩ := hw.form
  have hx0 := Ext.alloc w (.cells #[.int .i64 p.k, .slice An p.ns.length cn, .slice Aw p.ws.length cw] 34)
  go_enter Tryz.func56, Tryz.ntmps56
  go_wp2_with fail
  refine (within_c _ _ _ _).mono ?_
  rintro e w' ⟨rfl, rfl⟩
  cases hk : inB p.k 1 8 with
  | false =>
    go_wp2
    go_ret
    exact ⟨by simp [prfOk, hk], hx0⟩
  | true =>
    have HK := Lib.hid hk
    clear hk
    by_cases h1 : p.ns.length ≤ 300
    · by_cases h2 : p.ws.length ≤ 300
      · have d1 : decide (300 < p.ns.length) = false := by simp; omega
        have d2 : decide (300 < p.ws.length) = false := by simp; omega
        go_wp2_with fail
        refine (allWithin_c _ _ _ _ _ (hn.ext hx0)).mono ?_
        rintro e w' ⟨rfl, rfl⟩
        cases ha : (p.ns.all fun z => inB z (-1000000000000) 1000000000000) with
        | false =>
          go_wp2
          go_ret
          exact ⟨by simp [prfOk, ha], hx0⟩
        | true =>
          have HA := Lib.hid ha
          clear ha
          go_wp2_with fail
          refine (areWords_c _ _ _ (hw.ext hx0)).mono ?_
          rintro e w2 ⟨rfl, hx2⟩
          go_wp2
          go_ret
          exact ⟨by simp [prfOk, HK.out, HA.out, h1, h2], hx0.trans hx2⟩
      · have d1 : decide (300 < p.ns.length) = false := by simp; omega
        have d2 : decide (300 < p.ws.length) = true := by simp; omega
        go_wp2
        go_ret
        exact ⟨by simp [prfOk, h2], hx0⟩
    · have d1 : decide (300 < p.ns.length) = true := by simp; omega
      go_wp2
      go_ret
      exact ⟨by simp [prfOk, h1], hx0⟩
end Go.Proofs.YtojiammendjpkaaGreat
end
