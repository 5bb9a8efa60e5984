/- Contract of the program's search of a shift to a record. -/
import Derived.Test.YtpdnmhhieokogaaShG
set_option linter.unusedSimpArgs false
set_option linter.unusedVariables false
namespace Go.Proofs.Ytpdnmhhieokogaa
open Go Go.RowKit Go.Proofs
set_option maxHeartbeats 400000
theorem rec_get : ∀ (rs : List RecV) (k j : Nat) (hk : k < rs.length), j < 5 → (rs.flatMap encC)[k * 5 + j]? = (encC rs[k])[j]?
  | [], _, _, hk, _ => by simp at hk
  | r :: rs, 0, j, _, hj => by
    rw [List.flatMap_cons, List.getElem?_append_left (by simp [encC]; omega)]
    simp
  | r :: rs, k + 1, j, hk, hj => by
    rw [List.flatMap_cons, List.getElem?_append_right (by simp [encC]; omega)]
    have e : (k + 1) * 5 + j - (encC r).length = k * 5 + j := by simp [encC]; omega
    rw [e, List.getElem_cons_succ]
    exact rec_get rs k j (by simpa using hk) hj
theorem TrkAt.recCell {w0 W : World} {x : Nat} {lv rv pv qv : Value} {P : List Int} {rs : List RecV} {lo hi : Int} (h : TrkAt w0 W x lv rv P rs lo hi pv qv) (h0 : 0 < rs.length) :
    ∃ gq cap, qv = .slice (some ⟨gq, 0, none⟩) rs.length cap ∧ rs.length ≤ cap ∧ ∀ k, (hk : k < rs.length) → W.cell? ⟨gq, k * 5, none⟩ = some (.int .i64 rs[k].n) ∧ W.cell? ⟨gq, k * 5 + 1, none⟩ = some (.int .i64 rs[k].side) ∧ W.cell? ⟨gq, k * 5 + 2, none⟩ = some (.int .i64 rs[k].c.q) ∧ W.cell? ⟨gq, k * 5 + 3, none⟩ = some rs[k].lv ∧ W.cell? ⟨gq, k * 5 + 4, none⟩ = some rs[k].rv := by
  obtain ⟨A, c, e, h1, _, _⟩ := (ownsRow_row h.rec_).form
  have hr := h.rec_
  subst e
  rcases hr.2 with ⟨e, _⟩ | ⟨g, cap, cur, e, _⟩
  · injection e with _ e2; omega
  · injection e with e1 e2 e3
    subst e1
    refine ⟨g, c, rfl, h1, fun k hk => ?_⟩
    have hc : ∀ j, j < 5 → W.cell? ⟨g, k * 5 + j, none⟩ = (encC rs[k])[j]? := fun j hj => by
      rw [World.ownsRow.cellAt hr (k * 5 + j) (by omega), rec_get rs k j hk hj]
    exact ⟨by simpa [encC] using hc 0 (by omega), by simpa [encC] using hc 1 (by omega), by simpa [encC] using hc 2 (by omega), by simpa [encC] using hc 3 (by omega), by simpa [encC] using hc 4 (by omega)⟩
/-- A shift between two records. -/
def RecShift (m : MachD) (rs : List RecV) (k : Nat) (a b : Nat) (d : Int) : Prop :=
  ∃ (i : Nat) (hi : i < rs.length) (hk : k < rs.length), i < k ∧ rs[i].side = rs[k].side ∧ a = rs[i].n ∧ a + b = rs[k].n ∧ d = posI m blankC rs[k].n - posI m blankC rs[i].n ∧
    shFits rs[i].c rs[k].c d (behB ((List.range (b + 1)).map fun i => posI m blankC (a + i)) d) = true
def ToRes (w : World) (m : MachD) (rs : List RecV) (k : Nat) (e : Ending) (w' : World) : Prop :=
  Ext w w' ∧ (e = .returned (.tuple #[.agg #[.int .i64 0, .slice none 0 0, .slice none 0 0], .bool false]) ∨
    ∃ (a b : Nat) (d : Int) (nv : Value), RecShift m rs k a b d ∧ OwnInts w.heap.size w' nv [(a : Int), (b : Int), d] ∧ e = .returned (.tuple #[.agg #[.int .i64 3, nv, .slice none 0 0], .bool true]))
theorem RecsAt.shift {m : MachD} {n : Nat} {rs : List RecV} {lo hi : Int} (h : RecsAt m blankC n rs lo hi) (hr : RunsTo m blankC (n - 1)) {k a b : Nat} {d : Int} (hs : RecShift m rs k a b d) : Shift m a b d ∧ 1 ≤ a ∧ a + b < n := by
  obtain ⟨i, hi, hk, hik, hside, rfl, hab, hd, hf⟩ := hs
  obtain ⟨p1, p2⟩ := List.pairwise_iff_getElem.1 h.pair i k hi hk hik
  obtain ⟨e1, e2, e3, _⟩ := h.each _ (List.getElem_mem hi)
  obtain ⟨f1, f2, f3, _⟩ := h.each _ (List.getElem_mem hk)
  rw [e3, f3] at hf
  rw [← hab] at hf hd
  refine ⟨⟨by omega, ?_, hr.less (by omega), hd.symm, hf⟩, e1, by omega⟩
  intro e0
  have := p2 hside
  rw [← hab] at this
  omega
set_option maxRecDepth 20000 in
set_option maxHeartbeats 4000000 in
theorem shiftTo_c (w0 w : World) (x n k : Nat) (m : MachD) (rs : List RecV) (lo hi : Int) (pv qv : Value) (hT : TrkAt w0 w x (.slice none 0 0) (.slice none 0 0) (posM m blankC n) rs lo hi pv qv) (hRS : RecsAt m blankC n rs lo hi)
    (hm : machOk m = true) (hn : n ≤ 5000) (hr : RunsTo m blankC (n - 1)) (hk : k < rs.length) (hrl : rs.length ≤ 5000) :
    Calls Try.prog 15 #[.pointer (some ⟨x, 0, none⟩), .int .i64 k] w (ToRes w m rs k) := by
  obtain ⟨gq, cq, rfl, hcq, hcell⟩ := hT.recCell (by omega)
  obtain ⟨W, hW⟩ : ∃ W, W = w.alloc (.cells #[.int .i64 0, .slice none 0 0, .slice none 0 0] 31) := ⟨_, rfl⟩
  have hX : Ext w W := by rw [hW]; exact Ext.alloc _ _
  have bR : Blk W w.heap.size 31 #[.int .i64 0, .slice none 0 0, .slice none 0 0] := by rw [hW]; exact Blk.new _ _ _ _ rfl
  have hTW := hT.ext hX
  have HC := Lib.hid hcell
  have HRS := Lib.hid hRS
  have HM := Lib.hid hm
  have HR := Lib.hid hr
  obtain ⟨E, hE⟩ : ∃ E, E = rs[k] := ⟨_, rfl⟩
  have HE := Lib.hid hE
  obtain ⟨c0, c1, c2, c3, c4⟩ := hcell k hk
  rw [← hE] at c0 c1 c2 c3 c4
  obtain ⟨E1, E2⟩ := hT.conf _ (List.getElem_mem hk)
  rw [← hE] at E1 E2
  obtain ⟨_, en2, _, _⟩ := hRS.each _ (List.getElem_mem hk)
  rw [← hE] at en2
  obtain ⟨en, es, ec, elv, erv⟩ := E
  simp only at c0 c1 c2 c3 c4 E1 E2 en2
  obtain ⟨eA, ea, rfl, _, _⟩ := E1.ints.form
  obtain ⟨eB, eb, rfl, _, _⟩ := E2.ints.form
  replace c0 := hX.cell c0
  replace c1 := hX.cell c1
  replace c2 := hX.cell c2
  replace c3 := hX.cell c3
  replace c4 := hX.cell c4
  have x1 := hTW.blk.cell 1
  simp only [List.getElem?_toArray, List.getElem?_cons_zero, List.getElem?_cons_succ] at x1
  obtain ⟨V, hV⟩ : ∃ V, V = W.alloc (.cells #[.int .i64 en, .int .i64 es, .int .i64 ec.q, .slice eA ec.l.length ea, .slice eB ec.r.length eb] 76) := ⟨_, rfl⟩
  obtain ⟨be, hbe⟩ : ∃ b, b = w.heap.size + 1 := ⟨_, rfl⟩
  obtain ⟨g, hg⟩ : ∃ g, g = w.heap.size := ⟨_, rfl⟩
  have hXV : Ext W V := by rw [hV]; exact Ext.alloc _ _
  have bE : Blk V be 76 #[.int .i64 en, .int .i64 es, .int .i64 ec.q, .slice eA ec.l.length ea, .slice eB ec.r.length eb] := by rw [hV, hbe]; exact Blk.new _ _ _ _ (by rw [hW]; simp)
  have bRV : Blk V g 31 #[.int .i64 0, .slice none 0 0, .slice none 0 0] := by rw [hg]; exact bR.ext hXV
  have HX := Lib.hid (hX.trans hXV)
  have HT := Lib.hid hT
  have HE1 := Lib.hid E1.ints
  have HE2 := Lib.hid E2.ints
  have HG := Lib.hid (Nat.le_of_eq hg.symm)
  have hlt : be ≠ g := fun e => absurd (blk_type bE (e ▸ bRV)) (by decide)
  clear hcell hRS hm hr hE hX hT hTW hXV E1 E2
  rw [hW] at c0 c1 c2 c3 c4 x1
  go_enter Try.func15, Try.ntmps15
  go_wp2_with fail
  rw [← hW]
  rw [← hV, ← hbe, ← hg]
  clear hV hbe hW hg x1 c0 c1 c2 c3 c4 bR
  go_loopw [7] (fun i wr => ∃ j : Nat, j ≤ k ∧ i = .int .i64 ((j : Int) - 1) ∧ Ext V wr) (fun i _ => (intOf i + 1).toNat)
  case atStart => exact ⟨k, Nat.le_refl _, rfl, Ext.refl _⟩
  case round =>
    obtain ⟨j, hj, rfl, hx⟩ := hrel
    have hXr := Lib.hid (HX.out.trans hx)
    have bEr := bE.ext hx
    have bRr := bRV.ext hx
    by_cases h0 : j = 0
    · subst h0
      have hd : decide ((((0 : Nat) : Int) - 1) ≥ 0) = false := by decide
      have r0 := bRr.cell
      have f0 := bRr.frozen
      have HB := Lib.hid bRr
      clear bEr bRr bE bRV
      go_wp2
      exact bodyPost_ret (v := .tuple #[.agg #[.int .i64 0, .slice none 0 0, .slice none 0 0], .bool false]) (by
        have e0 := (((HB.out.set_ 0 (.int .i64 0)).set_ 1 (.slice none 0 0)).set_ 2 (.slice none 0 0)).cell
        simp [results, Try.results15, go_sem, e0]) rfl ⟨((hXr.out.setCell HG.out _).setCell HG.out _).setCell HG.out _, .inl rfl⟩
    · obtain ⟨i, rfl⟩ : ∃ i, j = i + 1 := ⟨j - 1, by omega⟩
      have hd : decide (((i + 1 : Nat) : Int) - 1 ≥ 0) = true := by simp
      have hi : ((i + 1 : Nat) : Int) - 1 = (i : Int) := by omega
      rw [hi]
      rw [hi] at hd
      have hik : i < rs.length := by omega
      have hTr := HT.out.ext hXr.out
      obtain ⟨A, hA⟩ : ∃ A, A = rs[i] := ⟨_, rfl⟩
      have HA := Lib.hid hA
      obtain ⟨c0, c1, c2, c3, c4⟩ := HC.out i hik
      rw [← hA] at c0 c1 c2 c3 c4
      obtain ⟨A1, A2⟩ := HT.out.conf _ (List.getElem_mem hik)
      rw [← hA] at A1 A2
      have HAE := Lib.hid (HRS.out.each _ (List.getElem_mem hik))
      rw [← hA] at HAE
      obtain ⟨p1, _⟩ := List.pairwise_iff_getElem.1 HRS.out.pair i k hik hk (by omega)
      rw [← hA, ← HE.out] at p1
      obtain ⟨an, sa, ac, alv, arv⟩ := A
      simp only at c0 c1 c2 c3 c4 A1 A2 p1
      obtain ⟨aA, aa, rfl, _, _⟩ := A1.ints.form
      obtain ⟨aB, ab, rfl, _, _⟩ := A2.ints.form
      have hA1 := Lib.hid A1.ints
      have hA2 := Lib.hid A2.ints
      replace c0 := hXr.out.cell c0
      replace c1 := hXr.out.cell c1
      replace c2 := hXr.out.cell c2
      replace c3 := hXr.out.cell c3
      replace c4 := hXr.out.cell c4
      have x1 := hTr.blk.cell 1
      simp only [List.getElem?_toArray, List.getElem?_cons_zero, List.getElem?_cons_succ] at x1
      obtain ⟨U, hU⟩ : ∃ U, U = wr.alloc (.cells #[.int .i64 an, .int .i64 sa, .int .i64 ac.q, .slice aA ac.l.length aa, .slice aB ac.r.length ab] 76) := ⟨_, rfl⟩
      obtain ⟨ba, hba⟩ : ∃ b, b = wr.heap.size := ⟨_, rfl⟩
      have hXU : Ext wr U := by rw [hU]; exact Ext.alloc _ _
      have bA : Blk U ba 76 #[.int .i64 an, .int .i64 sa, .int .i64 ac.q, .slice aA ac.l.length aa, .slice aB ac.r.length ab] := by rw [hU, hba]; exact Blk.new _ _ _ _ rfl
      have bEU := bEr.ext hXU
      have bRU := bRr.ext hXU
      have hTU := Lib.hid (hTr.ext hXU)
      have HXU := Lib.hid (hXr.out.trans hXU)
      have HVU := Lib.hid (hx.trans hXU)
      have a0 := bA.cell 0
      have a1 := bA.cell 1
      have a2 := bA.cell 2
      have a3 := bA.cell 3
      have a4 := bA.cell 4
      have b0 := bEU.cell 0
      have b1 := bEU.cell 1
      have b2 := bEU.cell 2
      have b3 := bEU.cell 3
      have b4 := bEU.cell 4
      simp only [List.getElem?_toArray, List.getElem?_cons_zero, List.getElem?_cons_succ] at a0 a1 a2 a3 a4 b0 b1 b2 b3 b4
      rw [hU] at a0 a1 a2 a3 a4 b0 b1 b2 b3 b4
      rw [hba] at a0 a1 a2 a3 a4
      clear bEr bRr A1 A2 hA hTr
      by_cases hs : sa = es
      · have hs' : (sa != es) = false := by simp [hs]
        have HS := Lib.hid hs
        clear hs
        by_cases hq : ac.q = ec.q
        · have hq' : (ac.q != ec.q) = false := by simp [hq]
          have HQ := Lib.hid hq
          clear hq
          go_wp2_with fail
          rw [← hU, ← hba]
          clear a0 a1 a2 a3 a4 b0 b1 b2 b3 b4 hU hba x1 c0 c1 c2 c3 c4 hXU
          have a0 := bA.cell 0
          have a2 := bA.cell 2
          have a3 := bA.cell 3
          have a4 := bA.cell 4
          have b0 := bEU.cell 0
          have b2 := bEU.cell 2
          have b3 := bEU.cell 3
          have b4 := bEU.cell 4
          simp only [List.getElem?_toArray, List.getElem?_cons_zero, List.getElem?_cons_succ] at a0 a2 a3 a4 b0 b2 b3 b4
          obtain ⟨Ap, cp, hpv, hcp, _⟩ := hTU.out.pos.ints.form
          have hPI := hTU.out.pos.ints
          rw [posM_len] at hpv hcp
          subst hpv
          have x0 := hTU.out.blk.cell 0
          simp only [List.getElem?_toArray, List.getElem?_cons_zero] at x0
          have hl1 : an < (posM m blankC n).length := by rw [posM_len]; omega
          have hl2 : en < (posM m blankC n).length := by rw [posM_len]; omega
          have hPI2 : Ints U (.slice Ap (posM m blankC n).length cp) (posM m blankC n) := by rw [posM_len]; exact hPI
          obtain ⟨gp, op, rfl, hcc⟩ := hPI2.at hl1
          have z1 := hcc an hl1
          have z2 := hcc en hl2
          have e1 : (posM m blankC n)[an] = posI m blankC an := by simp [posM]
          have e2 : (posM m blankC n)[en] = posI m blankC en := by simp [posM]
          rw [e1] at z1
          rw [e2] at z2
          have hnn : ∀ t : Nat, t < n → -5000 ≤ posI m blankC t ∧ posI m blankC t ≤ 5000 := fun t ht => by
            have := pos_bound HM.out (blank_good HM.out) t (fun j hj => HR.out.no j (by omega))
            omega
          have HNN := Lib.hid hnn
          have hb1 := hnn an (by omega)
          have hb2 := hnn en (by omega)
          obtain ⟨za, hza⟩ : ∃ z, posI m blankC an = z := ⟨_, rfl⟩
          obtain ⟨ze, hze⟩ : ∃ z, posI m blankC en = z := ⟨_, rfl⟩
          have HZA := Lib.hid hza
          have HZE := Lib.hid hze
          rw [hza] at z1 hb1
          rw [hze] at z2 hb2
          obtain ⟨bb, hbb⟩ : ∃ bb, en = an + bb := ⟨en - an, by omega⟩
          have HP2 := Lib.hid hPI2
          have hcut : ((posM m blankC n).drop an).take (bb + 1) = (List.range (bb + 1)).map fun i => posI m blankC (an + i) := by
            have e : posM m blankC n = posL m blankC (n - 1) := by
              unfold posM posL
              rw [show n - 1 + 1 = n by omega]
            rw [e]
            exact posL_cut m blankC (n - 1) an bb (by omega)
          have hPc : Ints U (.slice (some ⟨gp, op + an, none⟩) (bb + 1) (cp - an)) ((List.range (bb + 1)).map fun i => posI m blankC (an + i)) := by
            rw [← hcut]
            have h2 := hPI2.drop an (by omega)
            have h3 : Ints U (.slice (some ⟨gp, op + an, none⟩) ((posM m blankC n).drop an).length (cp - an)) ((posM m blankC n).drop an) := by rw [List.length_drop]; exact h2
            exact Ints.take h3 (bb + 1) (by rw [List.length_drop]; omega)
          obtain ⟨Q, hQ⟩ : ∃ Q, Q = (List.range (bb + 1)).map fun i => posI m blankC (an + i) := ⟨_, rfl⟩
          rw [← hQ] at hPc
          have HQL : Hid (0 < Q.length) := Lib.hid (by rw [hQ]; simp)
          have hQm : ∀ z ∈ Q, -5000 ≤ z ∧ z ≤ 5000 := fun z hz => by
            rw [hQ] at hz
            obtain ⟨i, hi, rfl⟩ := List.mem_map.1 hz
            have hi' := List.mem_range.1 hi
            exact HNN.out (an + i) (by omega)
          have HQB : Hid (∀ z ∈ Q, -1000000 ≤ z ∧ z ≤ 1000000) := Lib.hid (fun z hz => by have := hQm z hz; omega)
          have HQ := Lib.hid hQ
          have HCP := Lib.hid hPc
          have HBH : Hid (behB Q (ze - za) ≤ 1000000) := Lib.hid (by
            have h7 := hQm _ (minL_mem HQL.out)
            have h6 := hQm _ (maxL_mem HQL.out)
            have h8 : -5000 ≤ Q.getD 0 0 ∧ Q.getD 0 0 ≤ 5000 := hQm _ (by
              rw [List.getD_eq_getElem?_getD, List.getElem?_eq_getElem HQL.out]
              exact List.getElem_mem _)
            unfold behB
            split <;> omega)
          have k1 := cellR z1
          have k2 := cellR z2
          have k0 := cellR x0
          have ka := cellR a0
          have kb := cellR b0
          have i1 : (an : Int) < (n : Int) := by omega
          have i2 : (en : Int) < (n : Int) := by omega
          have i3 : an < n := by omega
          have i4 : en < n := by omega
          have HBB := Lib.hid hbb
          clear hcut hQ hPc hQm hza hze hbb hPI hPI2 hcc hl1 hl2 e1 e2 hnn
          refine wp_region_ext (by kernel_rfl) (by kernel_rfl) ?_
          repeat (go_big_quiet_step (fail))
          refine wpQuiet_nil ?_
          intro w7 hx7
          clear k0 k1 k2 ka kb z1 z2
          replace x0 := hx7.cell x0
          replace a0 := hx7.cell a0
          replace a2 := hx7.cell a2
          replace a3 := hx7.cell a3
          replace a4 := hx7.cell a4
          replace b0 := hx7.cell b0
          replace b2 := hx7.cell b2
          replace b3 := hx7.cell b3
          replace b4 := hx7.cell b4
          have k0 := cellR x0
          have ka := cellR a0
          have ka2 := cellR a2
          have ka3 := cellR a3
          have ka4 := cellR a4
          have kb := cellR b0
          have kb2 := cellR b2
          have kb3 := cellR b3
          have kb4 := cellR b4
          have bh : QCall 21 #[.slice (some ⟨gp, op + an, none⟩) (bb + 1) (cp - an), .int .i64 (ze - za)] w7 (.int .i64 (behB Q (ze - za))) := fun d' os => Calls.extR (behindHead_c _ Q (ze - za) _ ((HCP.out.ext hx7).ext (below_regrown _ _ _)) HQL.out HQB.out)
          obtain ⟨fb, hfb⟩ : ∃ fb, shFits ac ec (ze - za) (behB Q (ze - za)) = fb := ⟨_, rfl⟩
          have hXA := HXU.out.trans hx7
          have sf : QCall 19 #[.agg #[.int .i64 ac.q, .slice aA ac.l.length aa, .slice aB ac.r.length ab], .agg #[.int .i64 ec.q, .slice eA ec.l.length ea, .slice eB ec.r.length eb], .int .i64 (ze - za), .int .i64 (behB Q (ze - za))] w7 (.bool fb) := fun d' os => Calls.extR (by
            rw [← hfb]
            exact shiftFits_c _ _ ac ec (ze - za) _ _ (confMk ((hA1.out.ext hXA).ext (below_regrown _ _ _)) ((hA2.out.ext hXA).ext (below_regrown _ _ _))) (confMk ((HE1.out.ext hXA).ext (below_regrown _ _ _)) ((HE2.out.ext hXA).ext (below_regrown _ _ _))) HBH.out)
          have HFB := Lib.hid hfb
          have HXA := Lib.hid hXA
          have hbb := HBB.out
          have hs1 : (an : Int) ≤ (en : Int) + 1 := by omega
          have hs2 : (en : Int) + 1 ≤ (cp : Int) := by omega
          have hs3 : (0 : Int) ≤ (en : Int) + 1 := by omega
          have hs4 : ((en : Int) + 1).toNat = en + 1 := by omega
          have hs5 : ¬ cp = an := by omega
          have hs6 : en + 1 - an = bb + 1 := by omega
          have hs7 : an ≤ en + 1 := by omega
          have hw1 : IntKind.i64.wrap ((en : Int) + 1) = (en : Int) + 1 := IntWalk.i64_in _ (by omega)
          clear hbb hfb hXA
          generalize hbv : behB Q (ze - za) = bv at *
          have HBV := Lib.hid hbv
          clear hbv
          go_wp2_with fail
          refine wp_region_ext (by kernel_rfl) (by kernel_rfl) ?_
          repeat (go_big_quiet_step ((first | (go_at_call 21; with_reducible exact bh _ _) | (go_at_call 19; with_reducible exact sf _ _))))
          refine wpQuiet_nil ?_
          intro w8 hx8
          clear k0 ka ka2 ka3 ka4 kb kb2 kb3 kb4 bh sf x0 a2 a3 a4 b2 b3 b4 hs1 hs2 hs3 hs4 hs5 hs6 hs7 hw1
          cases fb with
          | false =>
            clear a0 b0
            go_wp2
            go_roundw
            case rel => exact ⟨i, by omega, by go_num, (HVU.out.trans hx7).trans hx8⟩
            case measure => simp [intOf]
          | true =>
            replace a0 := hx8.cell a0
            replace b0 := hx8.cell b0
            have hsub : (en : Int) - (an : Int) = (bb : Int) := by have := HBB.out; omega
            have bR8 := (bRU.ext hx7).ext hx8
            have hg8 := bR8.lt
            have r0 := bR8.cell
            have f0 := bR8.frozen
            have HW8 := Lib.hid ((HXU.out.trans hx7).trans hx8)
            have a0' := (Ext.alloc w8 (.cells #[.int .i64 an, .int .i64 (en - an), .int .i64 (ze - za)] 2)).cell a0
            obtain ⟨S, hS⟩ : ∃ S, S = ((w8.setCell ⟨g, 0, none⟩ (.int .i64 3)).setCell ⟨g, 1, none⟩ (.slice (some ⟨w8.heap.size, 0, none⟩) 3 3)).setCell ⟨g, 2, none⟩ (.slice none 0 0) := ⟨_, rfl⟩
            have hSz : S.heap.size = w8.heap.size := by rw [hS]; simp [World.setCell]
            have bS : Blk S g 31 #[.int .i64 3, .slice (some ⟨w8.heap.size, 0, none⟩) 3 3, .slice none 0 0] := by rw [hS]; exact ((bR8.set_ 0 _).set_ 1 _).set_ 2 _
            have hO : OwnInts w8.heap.size (S.alloc (.cells #[.int .i64 an, .int .i64 (en - an), .int .i64 (ze - za)] 2)) (.slice (some ⟨w8.heap.size, 0, none⟩) 3 3) [(an : Int), (en : Int) - an, ze - za] :=
              ⟨by simp [ivs], .inr ⟨w8.heap.size, 3, #[.int .i64 an, .int .i64 (en - an), .int .i64 (ze - za)], rfl, Nat.le_refl _, by
                have := heap_alloc_new S (.cells #[.int .i64 an, .int .i64 (en - an), .int .i64 (ze - za)] 2)
                rw [hSz] at this
                exact this, by simp, by unfold maxLen; omega, rfl, by simp [ivs]⟩⟩
            have hES : Ext w S := by rw [hS]; exact ((HW8.out.setCell HG.out _).setCell HG.out _).setCell HG.out _
            have HES := Lib.hid (hES.trans (Ext.alloc S (.cells #[.int .i64 an, .int .i64 (en - an), .int .i64 (ze - za)] 2)))
            have HO := Lib.hid hO
            have HEE := Lib.hid ((bS.alloc (.cells #[.int .i64 an, .int .i64 (en - an), .int .i64 (ze - za)] 2)).cell)
            have HSB := Lib.hid hsub
            have HSS := Lib.hid hS
            clear hsub hO bR8 bRU hES bS hSz hS
            go_wp2
            rw [← HSS.out]
            exact bodyPost_ret (v := .tuple #[.agg #[.int .i64 3, .slice (some ⟨w8.heap.size, 0, none⟩) 3 3, .slice none 0 0], .bool true]) (by
              have e0 := HEE.out
              simp [results, Try.results15, go_sem, e0]) rfl ⟨HES.out, .inr ⟨an, bb, ze - za, _, ⟨i, hik, hk, by omega, by rw [← HA.out, ← HE.out]; exact HS.out, by rw [← HA.out], by rw [← HE.out]; exact HBB.out.symm, by rw [← HA.out, ← HE.out, HZA.out, HZE.out], by rw [← HA.out, ← HE.out, ← HQ.out]; simp only [HBV.out]; exact HFB.out⟩, by
                have h : OwnInts w.heap.size _ _ [(an : Int), (en : Int) - an, ze - za] := ownsRow_base HO.out HW8.out.size
                rw [← HSB.out]
                exact h, rfl⟩⟩
        · have hq' : (ac.q != ec.q) = true := by simp [hq]
          clear hq
          go_wp2
          go_roundw
          case rel => exact ⟨i, by omega, by go_num, by rw [← hU]; exact HVU.out⟩
          case measure => simp [intOf]
      · have hs' : (sa != es) = true := by simp [hs]
        clear hs
        go_wp2
        go_roundw
        case rel => exact ⟨i, by omega, by go_num, by rw [← hU]; exact HVU.out⟩
        case measure => simp [intOf]
end Go.Proofs.Ytpdnmhhieokogaa
