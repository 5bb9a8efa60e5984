/- Contracts of the program's tests on words and proofs. No condition.
Contract of the program's test whether a machine and a proof are valid and of a kind. No condition.
Contract of the program's check of a proof by automata, where the proof is the one that two valid automata make that avoid halting. -/
import Derived.Test.YtacpchapgklcgaaGreatDoorR22
import Derived.Test.YtacpchapgklcgaaGreatDoorR04
import Derived.Test.YtacpchapgklcgaaGreatDoorR03
import Derived.Test.YtacpchapgklcgaaGreatDoorR16
import Derived.Test.YtacpchapgklcgaaGreatDoorR06
section
namespace Go.Proofs.YtacpchapgklcgaaGreatDoor
open Go Go.RowKit Go.Proofs
set_option maxHeartbeats 400000
def wordB (x : List Int) : Bool := decide (x.length ≤ 400) && x.all fun z => inB z 0 9
theorem isLetters_c (v : Value) (x : List Int) (w : World) (h : Ints w v x) :
    Calls Tryz.prog 133 #[v] w fun e w' => e = .returned (.bool (x.all fun z => inB z 0 9)) ∧ w = w' := by
  go_enter Tryz.func133, Tryz.ntmps133
  go_wp2_with fail
  refine (allWithin_c _ _ _ _ _ h).mono ?_
  rintro e w' ⟨rfl, rfl⟩
  go_wp2
  go_ret
  exact ⟨rfl, rfl⟩
theorem IsWord_c (v : Value) (x : List Int) (w : World) (h : Ints w v x) :
    Calls Tryz.prog 111 #[v] w fun e w' => e = .returned (.bool (wordB x)) ∧ w = w' := by
  obtain ⟨A, c, rfl, _, _⟩ := h.form
  by_cases hl : x.length ≤ 400
  · have H : wordB x = x.all fun z => inB z 0 9 := by simp [wordB, hl]
    rw [H]
    have hd : decide (x.length ≤ 400) = true := by simp [hl]
    go_enter Tryz.func111, Tryz.ntmps111
    go_wp2_with fail
    refine (isLetters_c _ _ _ h).mono ?_
    rintro e w' ⟨rfl, rfl⟩
    go_wp2
    go_ret
    exact ⟨rfl, rfl⟩
  · have H : wordB x = false := by simp [wordB, hl]
    rw [H]
    have hd : decide (x.length ≤ 400) = false := by simp [hl]
    go_enter Tryz.func111, Tryz.ntmps111
    go_wp2
    go_ret
    exact ⟨rfl, rfl⟩
theorem words1_c (v : Value) (x : List Int) (w : World) (h : Ints w v x) :
    Calls Tryz.prog 110 #[v] w fun e w' => e = .returned (.bool (!wordB x)) ∧ w = w' := by
  go_enter Tryz.func110, Tryz.ntmps110
  go_wp2_with fail
  refine (IsWord_c _ _ _ h).mono ?_
  rintro e w' ⟨rfl, rfl⟩
  go_wp2
  go_ret
  exact ⟨rfl, rfl⟩
def wordsTo (xss : List (List Int)) (k : Nat) : Prop := (xss.take k).all wordB = true
theorem wordsTo_step {xss : List (List Int)} {k : Nat} (h : wordsTo xss k) (hk : k < xss.length) (he : wordB xss[k] = true) : wordsTo xss (k + 1) := by
  unfold wordsTo at *
  rw [List.take_succ_eq_append_getElem hk, List.all_append, h]
  simp [he]
theorem wordsTo_end {xss : List (List Int)} {k : Nat} (h : wordsTo xss k) (hk : xss.length ≤ k) : xss.all wordB = true := by
  unfold wordsTo at h
  rwa [List.take_of_length_le hk] at h
theorem words_no {xss : List (List Int)} {k : Nat} (hk : k < xss.length) (he : wordB xss[k] = false) : xss.all wordB = false := by
  rw [List.all_eq_false]
  exact ⟨xss[k], List.getElem_mem hk, by simp [he]⟩
theorem indexWord_c (u : Value) (xss : List (List Int)) (w : World) (hu : IntRows w u xss) :
    Calls Tryz.prog 102 #[u, .func (.func 110) #[] #[]] w fun e w' => (∃ k : Int, e = .returned (.int .i64 k) ∧ decide (0 ≤ k) = !xss.all wordB) ∧ Ext w w' := by
  obtain ⟨A, c, rfl, h5, h5'⟩ := hu.form
  go_enter Tryz.func102, Tryz.ntmps102
  go_wp2
  go_loopw [8] (fun i wr => ∃ k : Nat, k ≤ xss.length ∧ i = .int .i64 k ∧ Ext w wr ∧ wordsTo xss k) (fun i _ => xss.length - (intOf i).toNat)
  case atStart => exact ⟨0, Nat.zero_le _, rfl, Ext.refl _, rfl⟩
  case round =>
    obtain ⟨k, hk, rfl, hx, ht⟩ := hrel
    by_cases hlt : k < xss.length
    · obtain ⟨b', off, rfl, hc⟩ := hu.at hlt
      obtain ⟨A1, d1, c0, r0⟩ := hc k hlt
      have c0 := hx.cell c0
      clear hc
      go_wp2_with fail
      refine (words1_c _ _ _ (r0.ext hx)).mono ?_
      rintro e w2 ⟨rfl, rfl⟩
      cases he : wordB xss[k] with
      | false =>
        have HM := Lib.hid (words_no hlt he)
        clear he
        go_wp2
        go_ret
        exact ⟨⟨k, rfl, by simp [HM.out]⟩, hx⟩
      | true =>
        have HM := Lib.hid (wordsTo_step ht hlt he)
        clear he
        go_wp2
        go_roundw
        case rel => exact ⟨k + 1, by omega, by go_num, hx, HM.out⟩
        case measure => simp [intOf]; omega
    · go_wp2
      go_ret
      exact ⟨⟨-1, rfl, by simp [wordsTo_end ht (by omega)]⟩, hx⟩
theorem containsWord_c (u : Value) (xss : List (List Int)) (w : World) (hu : IntRows w u xss) :
    Calls Tryz.prog 69 #[u, .func (.func 110) #[] #[]] w fun e w' => e = .returned (.bool (!xss.all wordB)) ∧ Ext w w' := by
  go_enter Tryz.func69, Tryz.ntmps69
  go_wp2_with fail
  refine (indexWord_c u xss _ hu).mono ?_
  rintro e w2 ⟨⟨k, rfl, hk⟩, hx2⟩
  have HK := Lib.hid hk
  clear hk
  go_wp2
  go_ret
  exact ⟨by simp [← HK.out], hx2⟩
theorem areWords_c (u : Value) (xss : List (List Int)) (w : World) (hu : IntRows w u xss) :
    Calls Tryz.prog 85 #[u] w fun e w' => e = .returned (.bool (xss.all wordB)) ∧ Ext w w' := by
  go_enter Tryz.func85, Tryz.ntmps85
  go_wp2_with fail
  refine (containsWord_c u xss _ hu).mono ?_
  rintro e w2 ⟨rfl, hx2⟩
  go_wp2
  go_ret
  exact ⟨by simp, hx2⟩
def prfOk (p : ProofD) : Bool := inB p.k 1 8 && decide (p.ns.length ≤ 300) && decide (p.ws.length ≤ 300) && (p.ns.all fun z => inB z (-1000000000000) 1000000000000) && p.ws.all wordB
set_option maxHeartbeats 1000000 in
theorem ValidProof_c (v : Value) (p : ProofD) (w : World) (h : Prf w v p) :
    Calls Tryz.prog 51 #[v] w fun e w' => e = .returned (.bool (prfOk p)) ∧ Ext w w' := by
  obtain ⟨nv, wv, rfl, hn, hw⟩ := h
  obtain ⟨An, cn, rfl, _, _⟩ := hn.form
  obtain ⟨Aw, cw, rfl, _, _⟩ := hw.form
  have hx0 := Ext.alloc w (.cells #[.int .i64 p.k, .slice An p.ns.length cn, .slice Aw p.ws.length cw] 36)
  go_enter Tryz.func51, Tryz.ntmps51
  go_wp2_with fail
  refine (within_c _ _ _ _).mono ?_
  rintro e w' ⟨rfl, rfl⟩
  cases hk : inB p.k 1 8 with
  | false =>
    go_wp2
    go_ret
    exact ⟨by simp [prfOk, hk], hx0⟩
  | true =>
    have HK := Lib.hid hk
    clear hk
    by_cases h1 : p.ns.length ≤ 300
    · by_cases h2 : p.ws.length ≤ 300
      · have d1 : decide (300 < p.ns.length) = false := by simp; omega
        have d2 : decide (300 < p.ws.length) = false := by simp; omega
        go_wp2_with fail
        refine (allWithin_c _ _ _ _ _ (hn.ext hx0)).mono ?_
        rintro e w' ⟨rfl, rfl⟩
        cases ha : (p.ns.all fun z => inB z (-1000000000000) 1000000000000) with
        | false =>
          go_wp2
          go_ret
          exact ⟨by simp [prfOk, ha], hx0⟩
        | true =>
          have HA := Lib.hid ha
          clear ha
          go_wp2_with fail
          refine (areWords_c _ _ _ (hw.ext hx0)).mono ?_
          rintro e w2 ⟨rfl, hx2⟩
          go_wp2
          go_ret
          exact ⟨by simp [prfOk, HK.out, HA.out, h1, h2], hx0.trans hx2⟩
      · have d1 : decide (300 < p.ns.length) = false := by simp; omega
        have d2 : decide (300 < p.ws.length) = true := by simp; omega
        go_wp2
        go_ret
        exact ⟨by simp [prfOk, h2], hx0⟩
    · have d1 : decide (300 < p.ns.length) = true := by simp; omega
      go_wp2
      go_ret
      exact ⟨by simp [prfOk, h1], hx0⟩
end Go.Proofs.YtacpchapgklcgaaGreatDoor
end
section
set_option linter.unusedSimpArgs false
set_option linter.unusedVariables false
namespace Go.Proofs.YtacpchapgklcgaaGreatDoor
open Go Go.RowKit Go.Proofs
set_option maxHeartbeats 400000
def pOfB (m : MachD) (p : ProofD) (kind n : Int) : Bool := machOk m && prfOk p && (p.k == kind) && ((p.ns.length : Int) == n) && ((p.ws.length : Int) == 0)
set_option maxHeartbeats 1000000 in
theorem proofOf_c (v u : Value) (m : MachD) (p : ProofD) (kind n : Int) (w : World) (hm : Mach w v m) (hp : Prf w u p) :
    Calls Tryz.prog 23 #[v, u, .int .i64 kind, .int .i64 n] w fun e w' => e = .returned (.bool (pOfB m p kind n)) ∧ Ext w w' := by
  obtain ⟨rv, rfl, hr⟩ := hm
  obtain ⟨nv, wv, rfl, hn, hw⟩ := hp
  obtain ⟨Ar, cr, rfl, _, _⟩ := hr.form
  obtain ⟨An, cn, rfl, _, _⟩ := hn.form
  obtain ⟨Aw, cw, rfl, _, _⟩ := hw.form
  have hx0 := (Ext.alloc w (.cells #[.int .i64 m.sy, .int .i64 m.st, .slice Ar m.rules.length cr] 26)).trans (Ext.alloc _ (.cells #[.int .i64 p.k, .slice An p.ns.length cn, .slice Aw p.ws.length cw] 36))
  have bP := Blk.new (w.alloc (.cells #[.int .i64 m.sy, .int .i64 m.st, .slice Ar m.rules.length cr] 26)) (w.heap.size + 1) 36 #[.int .i64 p.k, .slice An p.ns.length cn, .slice Aw p.ws.length cw] (by simp)
  have hpOf : ∀ a b c d : Bool, machOk m = a → prfOk p = b → (p.k == kind) = c → ((p.ns.length : Int) == n) = d → pOfB m p kind n = (a && b && c && d && ((p.ws.length : Int) == 0)) := by
    intro a b c d h1 h2 h3 h4
    simp only [pOfB, h1, h2, h3, h4]
  have HP := Lib.hid hpOf
  clear hpOf
  go_enter Tryz.func23, Tryz.ntmps23
  go_wp2_with fail
  refine (ValidMachine_c _ m _ ⟨_, rfl, hr.ext hx0⟩).mono ?_
  rintro e w1 ⟨rfl, hx1⟩
  have b1 := bP.ext hx1
  have q0 := b1.cell 0
  have q1 := b1.cell 1
  have q2 := b1.cell 2
  simp only [List.getElem?_toArray, List.getElem?_cons_zero, List.getElem?_cons_succ] at q0 q1 q2
  have hX1 := hx0.trans hx1
  cases h1 : machOk m with
  | false =>
    have HE : Hid (pOfB m p kind n = false) := by unfold Hid; simp [pOfB, h1]
    clear h1
    go_wp2
    go_ret
    exact ⟨by simp [HE.out], hX1⟩
  | true =>
    have H1 := Lib.hid h1
    clear h1
    go_wp2_with fail
    refine (ValidProof_c _ p _ ⟨_, _, rfl, hn.ext hX1, hw.ext hX1⟩).mono ?_
    rintro e w2 ⟨rfl, hx2⟩
    have hX2 := hX1.trans hx2
    have b2 := b1.ext hx2
    have c0 := b2.cell 0
    have c1 := b2.cell 1
    have c2 := b2.cell 2
    simp only [List.getElem?_toArray, List.getElem?_cons_zero, List.getElem?_cons_succ] at c0 c1 c2
    clear q0 q1 q2
    cases h2 : prfOk p with
    | false =>
      have HE : Hid (pOfB m p kind n = false) := by unfold Hid; simp [pOfB, h2]
      clear h2
      go_wp2
      go_ret
      exact ⟨by simp [HE.out], hX2⟩
    | true =>
      have H2 := Lib.hid h2
      clear h2
      cases h3 : (p.k == kind) with
      | false =>
        have HE : Hid (pOfB m p kind n = false) := by unfold Hid; simp [pOfB, h3]
        go_wp2
        go_ret
        exact ⟨by simp [HE.out], hX2⟩
      | true =>
        cases h4 : ((p.ns.length : Int) == n) with
        | false =>
          have HE : Hid (pOfB m p kind n = false) := by unfold Hid; simp [pOfB, h4]
          go_wp2
          go_ret
          exact ⟨by simp [HE.out], hX2⟩
        | true =>
          have HE : Hid (pOfB m p kind n = ((p.ws.length : Int) == 0)) := by unfold Hid; rw [HP.out _ _ _ _ H1.out H2.out h3 h4]; simp
          go_wp2
          go_ret
          exact ⟨by rw [HE.out]; simp, hX2⟩
end Go.Proofs.YtacpchapgklcgaaGreatDoor
end
section
set_option linter.unusedSimpArgs false
set_option linter.unusedVariables false
namespace Go.Proofs.YtacpchapgklcgaaGreatDoor
open Go Go.RowKit Go.Proofs
set_option maxHeartbeats 400000
abbrev autP (L R : DfaD) : ProofD := ⟨7, [L.st, R.st] ++ L.nx ++ R.nx, []⟩
theorem aut_pOf {m : MachD} {L R : DfaD} (hm : machOk m = true) (hL : dfaOk L m.sy = true) (hR : dfaOk R m.sy = true) : pOfB m (autP L R) 7 (((autP L R).ns.length : Nat) : Int) = true := by
  obtain ⟨⟨m1, m2⟩, ⟨a1, a2⟩, a3, a4, a5⟩ := dfaOk_parts hL
  obtain ⟨_, ⟨b1, b2⟩, b3, b4, b5⟩ := dfaOk_parts hR
  have e1 : L.st * m.sy ≤ 20 * 6 := Int.mul_le_mul a2 m2 (by omega) (by omega)
  have e2 : R.st * m.sy ≤ 20 * 6 := Int.mul_le_mul b2 m2 (by omega) (by omega)
  have hall : (([L.st, R.st] ++ L.nx ++ R.nx).all fun z => inB z (-1000000000000) 1000000000000) = true := by
    rw [List.all_eq_true]
    intro z hz
    simp only [List.mem_append, List.mem_cons, List.not_mem_nil, or_false, or_assoc] at hz
    have hz : ((z = L.st ∨ z = R.st) ∨ z ∈ L.nx) ∨ z ∈ R.nx := by simpa only [or_assoc] using hz
    refine inB_iff.2 ?_
    rcases hz with ((h | h) | h) | h
    · omega
    · omega
    · have := a4 z h; omega
    · have := b4 z h; omega
  have hlen : ([L.st, R.st] ++ L.nx ++ R.nx).length ≤ 300 := by simp; omega
  unfold pOfB prfOk
  rw [hm, hall, decide_eq_true hlen]
  simp [inB]
set_option maxRecDepth 20000 in
set_option maxHeartbeats 4000000 in
theorem CheckAutomaton_yes (m : MachD) (L R : DfaD) (mv nv : Value) (w : World) (hr : Rules w mv m.rules) (hn : Ints w nv (autP L R).ns) (hm : machOk m = true) (hL : dfaOk L m.sy = true) (hR : dfaOk R m.sy = true) (hC : CloYes m L R) :
    Calls Tryz.prog 15 #[.agg #[.int .i64 m.sy, .int .i64 m.st, mv], .agg #[.int .i64 7, nv, .slice none 0 0]] w fun e w' => e = .returned (.bool true) ∧ Ext w w' := by
  obtain ⟨⟨m1, m2⟩, ⟨a1, a2⟩, a3, a4, a5⟩ := dfaOk_parts hL
  obtain ⟨_, ⟨b1, b2⟩, b3, b4, b5⟩ := dfaOk_parts hR
  have e1 : L.st * m.sy ≤ 20 * 6 := Int.mul_le_mul a2 m2 (by omega) (by omega)
  have e2 : R.st * m.sy ≤ 20 * 6 := Int.mul_le_mul b2 m2 (by omega) (by omega)
  have e3 : 1 * 2 ≤ R.st * m.sy := Int.mul_le_mul b1 m1 (by omega) (by omega)
  have hp := aut_pOf hm hL hR
  have hlen : (autP L R).ns.length = L.nx.length + R.nx.length + 2 := by simp <;> omega
  obtain ⟨Am, cm, rfl, _, _⟩ := hr.form
  obtain ⟨An, cn, rfl, hc1, hc2⟩ := hn.form
  have g0 : (autP L R).ns[0]? = some L.st := by simp
  have g1 : (autP L R).ns[1]? = some R.st := by simp
  have gd : (autP L R).ns.drop 2 = L.nx ++ R.nx := by simp
  generalize hzs : (autP L R).ns = zs at *
  have hN0 : 0 < zs.length := by omega
  obtain ⟨b, off, rfl, hcell⟩ := hn.at hN0
  have q0 := hcell 0 (by omega)
  have q1 := hcell 1 (by omega)
  rw [List.getElem?_eq_getElem (by omega)] at g0 g1
  injection g0 with g0
  injection g1 with g1
  rw [g0] at q0
  rw [g1] at q1
  simp only [Nat.add_zero] at q0
  have hPrf : ∀ X, Ext w X → Prf X (.agg #[.int .i64 7, .slice (some ⟨b, off, none⟩) zs.length cn, .slice none 0 0]) (autP L R) := fun X hX => ⟨_, _, rfl, by rw [hzs]; exact hn.ext hX, ⟨[], ⟨none, 0, rfl, Nat.le_refl _, by omega, rfl, fun h => absurd h (by simp)⟩, fun i h => absurd h (by simp)⟩⟩
  have i2 := dropInts hn 2 (by omega)
  rw [gd] at i2
  have iL : Ints w (.slice (some ⟨b, off + 2, none⟩) L.nx.length (cn - 2)) L.nx := by
    have := takeInts i2 L.nx.length (by simp)
    simpa using this
  have iR : Ints w (.slice (some ⟨b, off + 2 + L.nx.length, none⟩) (zs.length - 2 - L.nx.length) (cn - 2 - L.nx.length)) R.nx := by
    have := dropInts i2 L.nx.length (by simp; omega)
    simpa using this
  obtain ⟨A, hA⟩ : ∃ A, L.nx.length = A := ⟨_, rfl⟩
  obtain ⟨B, hB⟩ : ∃ B, R.nx.length = B := ⟨_, rfl⟩
  rw [hA] at a3 hlen iL iR
  rw [hB] at b3 hlen
  rw [hlen, show A + B + 2 - 2 - A = B by omega] at iR
  have w1 : IntKind.i64.wrap (L.st + R.st) = L.st + R.st := IntWalk.i64_in _ (by omega)
  have w2 : IntKind.i64.wrap ((L.st + R.st) * m.sy) = ((A + B : Nat) : Int) := by
    rw [Int.add_mul, IntWalk.i64_in _ (by omega)]
    omega
  have w3 : IntKind.i64.wrap (L.st * m.sy) = (A : Int) := by rw [IntWalk.i64_in _ (by omega)]; omega
  rw [hlen, Nat.add_sub_cancel] at i2
  have hszI := fun X (hX : Ext w X) => sizeInt_c _ _ X (i2.ext hX)
  have hl2 : (L.nx ++ R.nx).length = A + B := by simp [hA, hB]
  rw [hl2] at hszI
  simp only [hlen] at hPrf
  obtain ⟨W, hW⟩ : ∃ W, (w.alloc (.cells #[.int .i64 m.sy, .int .i64 m.st, .slice Am m.rules.length cm] 26)).alloc (.cells #[.int .i64 7, .slice (some ⟨b, off, none⟩) (A + B + 2) cn, .slice none 0 0] 36) = W := ⟨_, rfl⟩
  have hX : Ext w W := by rw [← hW]; exact (Ext.alloc _ _).trans (Ext.alloc _ _)
  have bM : Blk W w.heap.size 26 #[.int .i64 m.sy, .int .i64 m.st, .slice Am m.rules.length cm] := by rw [← hW]; exact (Blk.new _ _ _ _ rfl).alloc _
  have bP : Blk W (w.heap.size + 1) 36 #[.int .i64 7, .slice (some ⟨b, off, none⟩) (A + B + 2) cn, .slice none 0 0] := by rw [← hW]; exact Blk.new _ _ _ _ (by simp)
  have hpo := proofOf_c _ _ m (autP L R) 7 ((A + B + 2 : Nat) : Int) W ⟨_, rfl, hr.ext hX⟩ (hPrf W hX)
  rw [hlen] at hp
  rw [hp] at hpo
  rw [show ((A + B + 2 : Nat) : Int) = (A : Int) + (B : Int) + 2 by omega] at hpo
  have c0 := bM.cell 0
  have c1 := bM.cell 1
  have c2 := bM.cell 2
  have p0 := bP.cell 0
  have p1 := bP.cell 1
  have p2 := bP.cell 2
  simp only [List.getElem?_toArray, List.getElem?_cons_zero, List.getElem?_cons_succ] at c0 c1 c2 p0 p1 p2
  rw [← hW] at c0 c1 c2 p0 p1 p2
  have HW := Lib.hid hW
  have ht2 : ¬ (A : Int) + (B : Int) + 2 < 2 := by omega
  have n1 : (1 : Int) < (A : Int) + (B : Int) + 2 := by omega
  have n0 : (0 : Int) < (A : Int) + (B : Int) + 2 := by omega
  have n2 : (2 : Int) ≤ (A : Int) + (B : Int) + 2 := by omega
  rw [hlen]
  clear a3 b3
  clear hW hlen hp hcell hzs g0 g1 gd
  go_enter Tryz.func15, Tryz.ntmps15
  go_wp2_with fail
  try rw [HW.out]
  rw [HW.out] at c0 c1 c2 p0 p1 p2
  clear HW c0 c1 c2 p0 p1 p2
  refine hpo.mono ?_
  rintro e w5 ⟨rfl, hx5⟩
  have hX5 := hX.trans (hx5.trans (Ext.drew w5))
  have bM5 := (bM.ext hx5).ext (Ext.drew w5)
  have bP5 := (bP.ext hx5).ext (Ext.drew w5)
  have c0 := bM5.cell 0
  have c1 := bM5.cell 1
  have c2 := bM5.cell 2
  have p1 := bP5.cell 1
  have q0' := hX5.cell q0
  have q1' := hX5.cell q1
  have hcn : A + B + 2 ≤ cn := by omega
  simp only [List.getElem?_toArray, List.getElem?_cons_zero, List.getElem?_cons_succ] at c0 c1 c2 p1
  go_wp2_with fail
  refine wp_region_ordT 13 (readsT [0, 1, 2, 3, 4, 5, 6, 7, 8, 9, 10, 11, 12] .done) (by kernel_rfl) (by kernel_rfl) (fun _ _ _ _ _ h => h) ?_
  simp only [readsT]
  repeat (refine wpOrdT_read (v := ?_) (by rfl) (Or.inl ⟨by rfl, fun x hx => ?_⟩) ?_; rotate_left; (· have k1 := hx.cell p1; have k2 := hx.cell q0'; have k3 := hx.cell q1'; go_simp; try with_reducible rfl); try simp only [Act.put, List.setIfInBounds_toArray, List.set_cons_zero, List.set_cons_succ])
  refine wpOrdT_done ?_
  try simp only [List.drop_succ_cons, List.drop_zero]
  have hB1 : inB L.st 1 20 = true := inB_iff.2 ⟨a1, a2⟩
  have hB2 : inB R.st 1 20 = true := inB_iff.2 ⟨b1, b2⟩
  have hS1 := fun X => within_c L.st 1 20 X
  have hS2 := fun X => within_c R.st 1 20 X
  simp only [hB1] at hS1
  simp only [hB2] at hS2
  go_wp2_with fail
  refine wp_region_ordT 17 (readsT [0] (.stir 1 (readsT [2, 3, 4] (.stir 5 (readsT [6, 7, 8, 9, 11, 12, 13, 14, 15, 16] (.stir 10 .done)))))) (by kernel_rfl) (by kernel_rfl) (fun _ _ _ _ _ h => h) ?_
  simp only [readsT]
  (refine wpOrdT_read (v := ?_) (by rfl) (Or.inl ⟨by rfl, fun x hx => ?_⟩) ?_; rotate_left; (· have k0 := hx.cell c0; go_simp; try with_reducible rfl); try simp only [Act.put, List.setIfInBounds_toArray, List.set_cons_zero, List.set_cons_succ])
  refine wpOrdT_keep (by rfl) (fun K hK => ?_)
  go_simp
  go_at_call 24
  refine (hS1 _).mono ?_
  rintro e w' ⟨rfl, rfl⟩
  refine hK _ _ (Ext.refl _) ?_
  clear hK K
  iterate 3 (refine wpOrdT_read (v := ?_) (by rfl) (Or.inl ⟨by rfl, fun x hx => ?_⟩) ?_; rotate_left; (· have k0 := hx.cell c0; go_simp; try with_reducible rfl); try simp only [Act.put, List.setIfInBounds_toArray, List.set_cons_zero, List.set_cons_succ])
  refine wpOrdT_keep (by rfl) (fun K hK => ?_)
  go_simp
  go_at_call 24
  refine (hS2 _).mono ?_
  rintro e w' ⟨rfl, rfl⟩
  refine hK _ _ (Ext.refl _) ?_
  clear hK K
  iterate 6 (refine wpOrdT_read (v := ?_) (by rfl) (Or.inl ⟨by rfl, fun x hx => ?_⟩) ?_; rotate_left; (· have k0 := hx.cell c0; go_simp; try with_reducible rfl); try simp only [Act.put, List.setIfInBounds_toArray, List.set_cons_zero, List.set_cons_succ])
  refine wpOrdT_read (v := .int .i64 (L.st + R.st)) (by rfl) (Or.inl ⟨by rfl, fun x hx => ?_⟩) ?_
  · go_simp; try simp only [w1]; try with_reducible rfl
  try simp only [Act.put, List.setIfInBounds_toArray, List.set_cons_zero, List.set_cons_succ]
  iterate 2 (refine wpOrdT_read (v := ?_) (by rfl) (Or.inl ⟨by rfl, fun x hx => ?_⟩) ?_; rotate_left; (· have k0 := hx.cell c0; go_simp; try with_reducible rfl); try simp only [Act.put, List.setIfInBounds_toArray, List.set_cons_zero, List.set_cons_succ])
  refine wpOrdT_read (v := .int .i64 ((A + B : Nat) : Int)) (by rfl) (Or.inl ⟨by rfl, fun x hx => ?_⟩) ?_
  · go_simp; try simp only [w2]; try with_reducible rfl
  try simp only [Act.put, List.setIfInBounds_toArray, List.set_cons_zero, List.set_cons_succ]
  refine wpOrdT_keep (by rfl) (fun K hK => ?_)
  go_simp
  go_at_call 40
  refine (hszI _ (hX5.trans (Ext.drew _))).mono ?_
  rintro e w' ⟨rfl, rfl⟩
  refine hK _ _ (Ext.refl _) ?_
  clear hK K
  refine wpOrdT_done ?_
  try simp only [List.drop_succ_cons, List.drop_zero]
  go_wp2_with fail
  have E9 := (Ext.drew w5.drew).trans (Ext.drew w5.drew.drew)
  have u0 := E9.cell c0
  have u1 := E9.cell c1
  have u2 := E9.cell c2
  have hX9 := hX5.trans E9
  have s1 : (A : Int) ≤ (cn - 2 : Nat) := by omega
  have s2 : A ≤ cn - 2 := by omega
  have s3 : A ≤ A + B := by omega
  have s4 : (A : Int) ≤ (A : Int) + (B : Int) := by omega
  have hAv := AvoidsHalting_c m L R _ _ _ _ (hr.ext hX9) (iL.ext hX9) (iR.ext hX9) hm
  refine wp_region_ordT 17 (readsT [0, 1, 2, 3, 4, 5, 6, 7, 8, 9, 10, 11, 12, 13, 14, 15, 16] .done) (by kernel_rfl) (by kernel_rfl) (fun _ _ _ _ _ h => h) ?_
  simp only [readsT]
  iterate 6 (refine wpOrdT_read (v := ?_) (by rfl) (Or.inl ⟨by rfl, fun x hx => ?_⟩) ?_; rotate_left; (· have k0 := hx.cell u0; have k1 := hx.cell u1; have k2 := hx.cell u2; go_simp; try with_reducible rfl); try simp only [Act.put, List.setIfInBounds_toArray, List.set_cons_zero, List.set_cons_succ])
  refine wpOrdT_read (v := .int .i64 (A : Int)) (by rfl) (Or.inl ⟨by rfl, fun x hx => ?_⟩) ?_
  · go_simp; try simp only [w3]; try with_reducible rfl
  try simp only [Act.put, List.setIfInBounds_toArray, List.set_cons_zero, List.set_cons_succ]
  iterate 7 (refine wpOrdT_read (v := ?_) (by rfl) (Or.inl ⟨by rfl, fun x hx => ?_⟩) ?_; rotate_left; (· have k0 := hx.cell u0; have k1 := hx.cell u1; have k2 := hx.cell u2; go_simp; try with_reducible rfl); try simp only [Act.put, List.setIfInBounds_toArray, List.set_cons_zero, List.set_cons_succ])
  refine wpOrdT_read (v := .int .i64 (A : Int)) (by rfl) (Or.inl ⟨by rfl, fun x hx => ?_⟩) ?_
  · go_simp; try simp only [w3]; try with_reducible rfl
  try simp only [Act.put, List.setIfInBounds_toArray, List.set_cons_zero, List.set_cons_succ]
  iterate 2 (refine wpOrdT_read (v := ?_) (by rfl) (Or.inl ⟨by rfl, fun x hx => ?_⟩) ?_; rotate_left; (· have k0 := hx.cell u0; have k1 := hx.cell u1; have k2 := hx.cell u2; go_simp; try with_reducible rfl); try simp only [Act.put, List.setIfInBounds_toArray, List.set_cons_zero, List.set_cons_succ])
  refine wpOrdT_done ?_
  try simp only [List.drop_succ_cons, List.drop_zero]
  go_wp2_with fail
  refine hAv.mono ?_
  rintro e w9 ⟨r, rfl, hrr, hx9⟩
  obtain rfl : r = true := hrr.2 ⟨hL, hR, hC⟩
  have HXX := Lib.hid (hX9.trans hx9)
  clear hrr hAv
  go_wp2
  exact bodyPost_ret (v := .bool true) (by simp [results, Tryz.results15, go_sem]) rfl ⟨rfl, HXX.out⟩
end Go.Proofs.YtacpchapgklcgaaGreatDoor
end
