/- The order of rules with several tapes is a strict weak order.
Contract of the reference's inserting of a rule with several tapes among others, in order.
A list without zeros at its end, in the row of the whole one. No condition. -/
import Derived.Test.YtkbpchdncljlbaaGreatDoorV27
import Derived.Shelf.SlSortCmp.Insertion
import Derived.Test.YtkbpchdncljlbaaGreatDoorV34
import Derived.Test.YtkbpchdncljlbaaGreatDoorV36
import Derived.Deep.CutBlock
import Derived.Deep.DeepCutAuto
import Derived.Test.YtkbpchdncljlbaaGreatDoorV12
section
set_option linter.unusedVariables false
set_option linter.unusedSimpArgs false
namespace Go.Proofs.YtkbpchdncljlbaaGreatDoor
open Go Go.RowKit Go.Proofs
set_option maxHeartbeats 400000
theorem cmpM_swo (f : Nat → MRuleD) : Sort.SWO (ltOf fun i j : Nat => cmpM (f i) (f j)) := by
  have t1 : ∀ a b c : MRuleD, cmpM a b < 0 → cmpM b c < 0 → cmpM a c < 0 := by
    intro a b c h1 h2
    unfold cmpM at *
    by_cases e1 : a.st = b.st <;> by_cases e2 : b.st = c.st
    · rw [if_pos e1] at h1; rw [if_pos e2] at h2; rw [if_pos (e1.trans e2)]; exact cmpL_trans _ _ _ h1 h2
    · rw [if_neg e2] at h2
      rw [if_neg (fun e => e2 (e1.symm.trans e))]
      split at h2 <;> (split <;> omega)
    · rw [if_neg e1] at h1
      rw [if_neg (fun e => e1 (e.trans e2.symm))]
      split at h1 <;> (split <;> omega)
    · rw [if_neg e1] at h1; rw [if_neg e2] at h2
      split at h1 <;> split at h2 <;> first | omega | (rw [if_neg (by omega), if_pos (by omega)]; omega)
  have t2 : ∀ a b c : MRuleD, ¬ cmpM a b < 0 → ¬ cmpM b c < 0 → ¬ cmpM a c < 0 := by
    intro a b c h1 h2
    unfold cmpM at *
    by_cases e1 : a.st = b.st <;> by_cases e2 : b.st = c.st
    · rw [if_pos e1] at h1; rw [if_pos e2] at h2; rw [if_pos (e1.trans e2)]; exact cmpL_ntrans _ _ _ h1 h2
    · rw [if_neg e2] at h2
      rw [if_neg (fun e => e2 (e1.symm.trans e))]
      split at h2 <;> (split <;> omega)
    · rw [if_neg e1] at h1
      rw [if_neg (fun e => e1 (e.trans e2.symm))]
      split at h1 <;> (split <;> omega)
    · rw [if_neg e1] at h1; rw [if_neg e2] at h2
      split at h1 <;> split at h2 <;> first | omega | (rw [if_neg (by omega), if_neg (by omega)]; omega)
  refine ⟨fun x => ?_, fun x y z h1 h2 => ?_, fun x y z h1 h2 => ?_⟩
  · simp [ltOf, cmpM, cmpL_self]
  · simp only [ltOf, decide_eq_true_eq] at *
    exact t1 _ _ _ h1 h2
  · simp only [ltOf, decide_eq_false_iff_not] at *
    exact t2 _ _ _ h1 h2
end Go.Proofs.YtkbpchdncljlbaaGreatDoor
end
section
set_option linter.unusedVariables false
set_option linter.unusedSimpArgs false
namespace Go.Proofs.YtkbpchdncljlbaaGreatDoor
open Go Go.RowKit Go.Proofs Go.Maps
set_option maxHeartbeats 400000
/-- A list with some elements from a place on put in. -/
def setL : List Value → Nat → List Value → List Value
  | cl, _, [] => cl
  | cl, o, v :: r => setL (cl.set o v) (o + 1) r
theorem setL_eq : ∀ (es P X Q : List Value), X.length = es.length → setL (P ++ (X ++ Q)) P.length es = P ++ (es ++ Q)
  | [], P, X, Q, h => by
    obtain rfl : X = [] := List.length_eq_zero_iff.1 h
    rfl
  | v :: r, P, x :: X, Q, h => by
    have ih := setL_eq r (P ++ [v]) X Q (by simpa using h)
    unfold setL
    have e : (P ++ (x :: X ++ Q)).set P.length v = P ++ [v] ++ (X ++ Q) := by
      rw [List.set_append_right _ _ (Nat.le_refl _), Nat.sub_self]
      simp
    rw [e]
    have e2 : (P ++ [v]).length = P.length + 1 := by simp
    rw [← e2, ih]
    simp
  | _ :: _, _, [], _, h => by simp at h
theorem ownsRow_setCells {base : Nat} {e : TypeId} {size g n cap : Nat} : ∀ (es : List Value) (o : Nat) (cl : List Value) (w : World), w.ownsRow base e size (.slice (some ⟨g, 0, none⟩) n cap) n cl →
    (w.setCells g o es).ownsRow base e size (.slice (some ⟨g, 0, none⟩) n cap) n (setL cl o es) ∧ w.grownBy (w.setCells g o es) (some g)
  | [], _, cl, w, h => ⟨h, ⟨rfl, rfl, rfl, Nat.le_refl _, fun _ _ _ => rfl⟩⟩
  | v :: r, o, cl, w, h => by
    obtain ⟨a, b⟩ := World.ownsRow.stored h o v
    obtain ⟨c, d⟩ := ownsRow_setCells r (o + 1) _ _ a
    exact ⟨c, ⟨d.os.trans b.os, d.tape.trans b.tape, d.output.trans b.output, Nat.le_trans b.size d.size, fun i hi hne => (d.block i (Nat.lt_of_lt_of_le hi b.size) hne).trans (b.block i hi hne)⟩⟩
/-- Rules of five cells with five others at a place. -/
def putC (cl : List Value) (k : Nat) (es : List Value) : List Value := cl.take (k * 5) ++ (es ++ cl.drop (k * 5))
theorem putC_len {cl es : List Value} {k n : Nat} (h : cl.length = n * 5) (hk : k ≤ n) (he : es.length = 5) : (putC cl k es).length = (n + 1) * 5 := by
  unfold putC
  simp [h, he]
  omega
theorem row_put5 {base : Nat} {e : TypeId} {g n cap k : Nat} {cl xs : List Value} {w : World} (a0 a1 a2 a3 a4 : Value) (h : w.ownsRow base e 5 (.slice (some ⟨g, 0, none⟩) (n + 1) cap) (n + 1) (putC cl k xs)) (hl : cl.length = n * 5) (hk : k ≤ n) (hx : xs.length = 5) :
    (∃ x0 x1 x2 x3 x4, w.cell? ⟨g, k * 5, none⟩ = some x0 ∧ (w.setCell ⟨g, k * 5, none⟩ a0).cell? ⟨g, k * 5 + 1, none⟩ = some x1 ∧ ((w.setCell ⟨g, k * 5, none⟩ a0).setCell ⟨g, k * 5 + 1, none⟩ a1).cell? ⟨g, k * 5 + 2, none⟩ = some x2 ∧
      (((w.setCell ⟨g, k * 5, none⟩ a0).setCell ⟨g, k * 5 + 1, none⟩ a1).setCell ⟨g, k * 5 + 2, none⟩ a2).cell? ⟨g, k * 5 + 3, none⟩ = some x3 ∧
      ((((w.setCell ⟨g, k * 5, none⟩ a0).setCell ⟨g, k * 5 + 1, none⟩ a1).setCell ⟨g, k * 5 + 2, none⟩ a2).setCell ⟨g, k * 5 + 3, none⟩ a3).cell? ⟨g, k * 5 + 4, none⟩ = some x4) ∧ (∀ j, w.frozen? ⟨g, j, none⟩ = false) ∧
    (((((w.setCell ⟨g, k * 5, none⟩ a0).setCell ⟨g, k * 5 + 1, none⟩ a1).setCell ⟨g, k * 5 + 2, none⟩ a2).setCell ⟨g, k * 5 + 3, none⟩ a3).setCell ⟨g, k * 5 + 4, none⟩ a4).ownsRow base e 5 (.slice (some ⟨g, 0, none⟩) (n + 1) cap) (n + 1) (putC cl k [a0, a1, a2, a3, a4]) ∧
    w.grownBy (((((w.setCell ⟨g, k * 5, none⟩ a0).setCell ⟨g, k * 5 + 1, none⟩ a1).setCell ⟨g, k * 5 + 2, none⟩ a2).setCell ⟨g, k * 5 + 3, none⟩ a3).setCell ⟨g, k * 5 + 4, none⟩ a4) (some g) := by
  have hlen := putC_len hl hk hx
  obtain ⟨s1, _⟩ := World.ownsRow.stored h (k * 5) a0
  obtain ⟨s2, _⟩ := World.ownsRow.stored s1 (k * 5 + 1) a1
  obtain ⟨s3, _⟩ := World.ownsRow.stored s2 (k * 5 + 2) a2
  obtain ⟨s4, _⟩ := World.ownsRow.stored s3 (k * 5 + 3) a3
  obtain ⟨r1, r2⟩ := ownsRow_setCells [a0, a1, a2, a3, a4] (k * 5) _ _ h
  have e0 : (cl.take (k * 5)).length = k * 5 := by rw [List.length_take, hl]; omega
  have hlt : ∀ c, c < 5 → k * 5 + c < (n + 1) * 5 := fun c hc => by omega
  have q0 := World.ownsRow.cellAt h (k * 5) (hlt 0 (by omega))
  have q1 := World.ownsRow.cellAt s1 (k * 5 + 1) (hlt 1 (by omega))
  have q2 := World.ownsRow.cellAt s2 (k * 5 + 2) (hlt 2 (by omega))
  have q3 := World.ownsRow.cellAt s3 (k * 5 + 3) (hlt 3 (by omega))
  have q4 := World.ownsRow.cellAt s4 (k * 5 + 4) (hlt 4 (by omega))
  rw [List.getElem?_eq_getElem (by rw [hlen]; exact hlt 0 (by omega))] at q0
  rw [List.getElem?_eq_getElem (by simp only [List.length_set]; rw [hlen]; exact hlt 1 (by omega))] at q1
  rw [List.getElem?_eq_getElem (by simp only [List.length_set]; rw [hlen]; exact hlt 2 (by omega))] at q2
  rw [List.getElem?_eq_getElem (by simp only [List.length_set]; rw [hlen]; exact hlt 3 (by omega))] at q3
  rw [List.getElem?_eq_getElem (by simp only [List.length_set]; rw [hlen]; exact hlt 4 (by omega))] at q4
  have := setL_eq [a0, a1, a2, a3, a4] (cl.take (k * 5)) xs (cl.drop (k * 5)) (by rw [hx]; rfl)
  rw [e0] at this
  unfold putC at r1
  rw [this] at r1
  exact ⟨⟨_, _, _, _, _, q0, q1, q2, q3, q4⟩, World.ownsRow.frozenAt h, r1, r2⟩
theorem putC_down {cl es : List Value} {n j : Nat} (hl : cl.length = n * 5) (hj : j < n) (he : es.length = 5) (hc : ∀ c, c < 5 → cl[j * 5 + c]? = es[c]?) : putC cl (j + 1) es = putC cl j es := by
  have h5 : (cl.drop (j * 5)).take 5 = es := by
    refine List.ext_getElem? fun c => ?_
    by_cases h : c < 5
    · rw [List.getElem?_take_of_lt h, List.getElem?_drop]
      exact hc c h
    · rw [List.getElem?_eq_none (by rw [List.length_take]; omega), List.getElem?_eq_none (by rw [he]; omega)]
  have ht : cl.take ((j + 1) * 5) = cl.take (j * 5) ++ es := by
    rw [show (j + 1) * 5 = j * 5 + 5 by omega, List.take_add, h5]
  have hd : cl.drop (j * 5) = es ++ cl.drop ((j + 1) * 5) := by
    have := (List.take_append_drop 5 (cl.drop (j * 5))).symm
    rw [h5, List.drop_drop] at this
    rw [show (j + 1) * 5 = j * 5 + 5 by omega]
    exact this
  unfold putC
  rw [ht, hd]
  simp
theorem row_get5 {base : Nat} {e : TypeId} {g n cap k : Nat} {cl : List Value} {a0 a1 a2 a3 a4 : Value} {w : World} (h : w.ownsRow base e 5 (.slice (some ⟨g, 0, none⟩) n cap) n cl) (hk : k < n) (hc : ∀ c, c < 5 → cl[k * 5 + c]? = [a0, a1, a2, a3, a4][c]?) :
    w.cell? ⟨g, k * 5, none⟩ = some a0 ∧ w.cell? ⟨g, k * 5 + 1, none⟩ = some a1 ∧ w.cell? ⟨g, k * 5 + 2, none⟩ = some a2 ∧ w.cell? ⟨g, k * 5 + 3, none⟩ = some a3 ∧ w.cell? ⟨g, k * 5 + 4, none⟩ = some a4 :=
  ⟨(World.ownsRow.cellAt h _ (by omega)).trans (hc 0 (by omega)), (World.ownsRow.cellAt h _ (by omega)).trans (hc 1 (by omega)), (World.ownsRow.cellAt h _ (by omega)).trans (hc 2 (by omega)), (World.ownsRow.cellAt h _ (by omega)).trans (hc 3 (by omega)), (World.ownsRow.cellAt h _ (by omega)).trans (hc 4 (by omega))⟩
theorem MCells.take {base : Nat} {w : World} {cl : List Value} {rs : List MRuleD} (h : MCells base w cl rs) {k : Nat} (hk : k ≤ rs.length) : MCells base w (cl.take (k * 5)) (rs.take k) := by
  obtain ⟨a, b⟩ := h
  refine ⟨by simp [a] <;> omega, fun i hi => ?_⟩
  have hi2 : i < k := by simp at hi; omega
  obtain ⟨vr, vw, vm, c0, c1, c2, c3, c4, o⟩ := b i (by omega)
  have t : ∀ c, c < 5 → (cl.take (k * 5))[i * 5 + c]? = cl[i * 5 + c]? := fun c hc => List.getElem?_take_of_lt (by omega)
  have e : (rs.take k)[i] = rs[i] := by simp
  rw [e]
  exact ⟨vr, vw, vm, (t 0 (by omega)).trans c0, (t 1 (by omega)).trans c1, (t 2 (by omega)).trans c2, (t 3 (by omega)).trans c3, (t 4 (by omega)).trans c4, o⟩
theorem MCells.drop {base : Nat} {w : World} {cl : List Value} {rs : List MRuleD} (h : MCells base w cl rs) {k : Nat} (hk : k ≤ rs.length) : MCells base w (cl.drop (k * 5)) (rs.drop k) := by
  obtain ⟨a, b⟩ := h
  refine ⟨by simp [a]; omega, fun i hi => ?_⟩
  have hi2 : k + i < rs.length := by simp at hi; omega
  obtain ⟨vr, vw, vm, c0, c1, c2, c3, c4, o⟩ := b (k + i) hi2
  have t : ∀ c, (cl.drop (k * 5))[i * 5 + c]? = cl[(k + i) * 5 + c]? := fun c => by
    rw [List.getElem?_drop]
    congr 1
    omega
  have e : (rs.drop k)[i] = rs[k + i] := by simp
  rw [e]
  exact ⟨vr, vw, vm, (t 0).trans c0, (t 1).trans c1, (t 2).trans c2, (t 3).trans c3, (t 4).trans c4, o⟩
/-- The place of a rule behind all that are not greater. -/
def posM (r : MRuleD) (rs : List MRuleD) : Nat → Nat
  | 0 => 0
  | k + 1 => if cmpM r (rs.getD k mr0) < 0 then posM r rs k else k + 1
theorem posM_le (r : MRuleD) (rs : List MRuleD) : ∀ k, posM r rs k ≤ k
  | 0 => Nat.le_refl _
  | k + 1 => by
    unfold posM
    split
    · exact Nat.le_succ_of_le (posM_le r rs k)
    · exact Nat.le_refl _
def insM (rs : List MRuleD) (r : MRuleD) : List MRuleD := rs.take (posM r rs rs.length) ++ ([r] ++ rs.drop (posM r rs rs.length))
theorem insM_len (rs : List MRuleD) (r : MRuleD) : (insM rs r).length = rs.length + 1 := by
  have := posM_le r rs rs.length
  simp [insM]
  omega
theorem own_oneCell {w : World} {base : Nat} {v : Value} {zs : List Int} (h : OwnInts base w v zs) : v.oneCell' = true := by
  obtain ⟨A, c, rfl, _, _⟩ := h.ints.form
  cases A <;> rfl
theorem OwnRul.ext {base : Nat} {w w' : World} {v : Value} {r : MRuleD} (h : OwnRul base w v r) (he : Ext w w') : OwnRul base w' v r := by
  obtain ⟨vr, vw, vm, e, o1, o2, o3⟩ := h
  exact ⟨vr, vw, vm, e, OwnInts.ext o1 he, OwnInts.ext o2 he, OwnInts.ext o3 he⟩
set_option maxRecDepth 20000 in
set_option maxHeartbeats 4000000 in
theorem l06Put_c (base : Nat) (v rv : Value) (rs : List MRuleD) (r : MRuleD) (w : World) (h : OwnMR base w v rs) (hr : OwnRul base w rv r) (hb : base ≤ w.heap.size) (hn : rs.length ≤ 1000000) :
    Calls Tryz.prog 46 #[v, rv] w fun e w' => ∃ v', e = .returned v' ∧ OwnMR base w' v' (insM rs r) ∧ w.grownBy w' v.ownBlock ∧ (v'.ownBlock = v.ownBlock ∨ ∃ q, v'.ownBlock = some q ∧ w.heap.size ≤ q) := by
  obtain ⟨i0, hi0, hz0, hz1, hz2⟩ := info_parts mruleInfo
  obtain ⟨cl, h1, h2⟩ := id h
  have hRows := h.rules
  obtain ⟨A, cap, rfl, hc1, hc2⟩ := h.form
  obtain ⟨vr, vw, vm, rfl, o1, o2, o3⟩ := hr
  obtain ⟨B1, f1, rfl, _, _⟩ := id o1.ints.form
  obtain ⟨B2, f2, rfl, _, _⟩ := id o2.ints.form
  obtain ⟨B3, f3, rfl, _, _⟩ := id o3.ints.form
  obtain ⟨gb, hgb⟩ : ∃ g, w.heap.size = g := ⟨_, rfl⟩
  have hcl := h2.1
  obtain ⟨V, hV⟩ : ∃ V, V = w.alloc (.cells #[.int .i64 r.st, .slice B1 r.rd.length f1, .slice B2 r.wr.length f2, .slice B3 r.mv.length f3, .int .i64 r.nx] 64) := ⟨_, rfl⟩
  have hX : Ext w V := by rw [hV]; exact Ext.alloc _ _
  have bR : Blk V gb 64 #[.int .i64 r.st, .slice B1 r.rd.length f1, .slice B2 r.wr.length f2, .slice B3 r.mv.length f3, .int .i64 r.nx] := by rw [hV]; exact Blk.new _ _ _ _ hgb
  have HO := Lib.hid (⟨o1, o2, o3⟩ : OwnInts base w (.slice B1 r.rd.length f1) r.rd ∧ OwnInts base w (.slice B2 r.wr.length f2) r.wr ∧ OwnInts base w (.slice B3 r.mv.length f3) r.mv)
  have H2 := Lib.hid h2
  have HP := Lib.hid (posM_le r rs rs.length)
  have HCL : Hid (cl.length = rs.length * 5) := hcl
  have HIR := Lib.hid (o1.ints.ext hX)
  clear h h2 hcl o1 o2 o3
  show Calls Tryz.prog 46 #[.slice A rs.length cap, .agg #[.int .i64 r.st, .slice B1 r.rd.length f1, .slice B2 r.wr.length f2, .slice B3 r.mv.length f3, .int .i64 r.nx]] w _
  go_enter Tryz.func46, Tryz.ntmps46
  go_upto_block 0 with fail
  try rw [← hV]
  try rw [hgb]
  go_cut [5] (fun u wx => ∃ p : Nat, p ≤ rs.length ∧ u = .int .i64 (p : Int) ∧ Hid (posM r rs rs.length = p) ∧ Ext V wx)
  case first =>
    clear hV
    go_wp2_with fail
    go_loopw [5] (fun u wr => ∃ k : Nat, k ≤ rs.length ∧ u = .int .i64 (k : Int) ∧ Ext V wr ∧ Hid (posM r rs rs.length = posM r rs k)) (fun u _ => (intOf u).toNat)
    case atStart => exact ⟨rs.length, Nat.le_refl _, rfl, Ext.refl _, rfl⟩
    case round =>
      obtain ⟨k, hk, rfl, hx, HPK⟩ := hrel
      have bRx := bR.ext hx
      by_cases hk0 : 0 < k
      · obtain ⟨j, rfl⟩ : ∃ j, k = j + 1 := ⟨k - 1, by omega⟩
        have hjl : j < rs.length := by omega
        obtain ⟨b, off, vr', vw', vm', rfl, c0, c1, c2, c3, c4, j1, _, _⟩ := hRows.at hjl
        have hXx := hX.trans hx
        have r0 := bRx.cell 0
        have r1 := bRx.cell 1
        simp only [List.getElem?_toArray, List.getElem?_cons_zero, List.getElem?_cons_succ] at r0 r1
        have BF := l06Before_c gb 0 b (off + j * 5) r rs[j] _ vr' wr r0 r1 (hXx.cell c0) (hXx.cell c1) (HIR.out.ext hx) (j1.ext hXx)
        have hps : Hid (posM r rs (j + 1) = if cmpM r rs[j] < 0 then posM r rs j else j + 1) := by
          unfold Hid
          conv => lhs; unfold posM
          rw [List.getD_eq_getElem?_getD, List.getElem?_eq_getElem hjl]
          rfl
        have hkd : (0 : Int) < ((j + 1 : Nat) : Int) := by omega
        have hwj : IntKind.i64.wrap (((j + 1 : Nat) : Int) - 1) = (j : Int) := by rw [show ((j + 1 : Nat) : Int) - 1 = (j : Int) by omega]; exact IntWalk.i64_in _ (by omega)
        generalize rs[j] = q at *
        have HC1 := Lib.hid c1
        clear r0 r1 c0 c1 c2 c3 c4 j1 hRows
        by_cases hlt : cmpM r q < 0
        · have hd : decide (cmpM r q < 0) = true := decide_eq_true hlt
          rw [hd] at BF
          have HPJ : Hid (posM r rs rs.length = posM r rs j) := Lib.hid (by rw [HPK.out, hps.out, if_pos hlt])
          clear hd hlt
          go_wp2_with fail
          refine BF.mono ?_
          rintro e w1 ⟨rfl, hx1⟩
          clear BF
          go_wp2_with fail
          go_roundw
          case rel => exact ⟨j, by omega, by go_num, hx.trans hx1, HPJ⟩
          case measure => simp [intOf] <;> omega
        · have hd : decide (cmpM r q < 0) = false := decide_eq_false hlt
          rw [hd] at BF
          have HPJ : Hid (posM r rs rs.length = j + 1) := Lib.hid (by rw [HPK.out, hps.out, if_neg hlt])
          clear hd hlt
          go_wp2_with fail
          refine BF.mono ?_
          rintro e w1 ⟨rfl, hx1⟩
          clear BF
          go_wp2_with fail
          go_meet
          exact ⟨j + 1, hk, rfl, HPJ, hx.trans hx1⟩
      · obtain rfl : k = 0 := by omega
        have HPJ : Hid (posM r rs rs.length = 0) := Lib.hid (by rw [HPK.out]; rfl)
        go_wp2_with fail
        go_meet
        exact ⟨0, Nat.zero_le _, rfl, HPJ, hx⟩
  case rest =>
    rename World => wc
    obtain ⟨p, hp, rfl, HPP, hx⟩ := hcut
    have hXc := hX.trans hx
    have bRc := bR.ext hx
    have hoc := ownsRow_ext h1 hXc
    have hgbc : gb < wc.heap.size := bRc.lt
    have hsz := hXc.size
    obtain ⟨W6, hW6⟩ : ∃ W6, W6 = wc.alloc (.cells #[.int .i64 0, .slice none 0 0, .slice none 0 0, .slice none 0 0, .int .i64 0] 64) := ⟨_, rfl⟩
    have eA : Ext wc W6 := by rw [hW6]; exact Ext.alloc _ _
    have bN : Blk W6 wc.heap.size 64 #[.int .i64 0, .slice none 0 0, .slice none 0 0, .slice none 0 0, .int .i64 0] := by rw [hW6]; exact Blk.new _ _ _ _ rfl
    have ho6 := ownsRow_ext hoc eA
    have hs6 : base ≤ W6.heap.size := by have := eA.size; omega
    have hs6' : wc.heap.size ≤ W6.heap.size := eA.size
    have bR6 := bRc.ext eA
    clear hRows HIR
    go_wp2_with (at_builtin; rw [← hW6]; refine wpList_append_own_at _ rfl _ _ 24 rfl base 64 i0 (.agg #[.int .i64 0, .slice none 0 0, .slice none 0 0, .slice none 0 0, .int .i64 0]) 5 88 Tryz.underlying24 hi0 hz0 hz1 hz2 rfl (by decide) _ _ cl rfl ho6 ⟨wc.heap.size, 0, none⟩ 1 1 [.int .i64 0, .slice none 0 0, .slice none 0 0, .slice none 0 0, .int .i64 0] rfl rfl (World.news_of_block bN) ?c2 ?c3 ?c4 ?c5 ?_)
    case c2 => intro u hu; simp at hu; rcases hu with rfl | rfl | rfl <;> rfl
    case c3 => unfold maxLen; omega
    case c4 => omega
    case c5 => exact hs6
    intro v' w7 hown7 hg7 _ hv7
    have hg7' : W6.grownBy w7 (Value.slice A rs.length cap).ownBlock := by first | exact hg7 | (rw [hW6]; exact hg7)
    have hv7' : v'.ownBlock = (Value.slice A rs.length cap).ownBlock ∨ v'.ownBlock = some W6.heap.size := by first | exact hv7 | (rw [hW6]; exact hv7) | (rw [hW6]; simp only [World.alloc_size]; exact hv7) | (rw [show W6.heap.size = wc.heap.size + 1 by rw [hW6]; simp]; exact hv7)
    obtain ⟨A7, c7, rfl, g71, g72, _⟩ := (ownsRow_row hown7).form
    obtain ⟨g', rfl, hg'b, hg'l⟩ := own_at hown7 (by omega)
    have HGW : Hid (w.grownBy w7 (Value.slice A rs.length cap).ownBlock) := Lib.hid (grownBy_trans ⟨Below.os (hXc.trans eA), Below.tape (hXc.trans eA), Below.output (hXc.trans eA), Below.size (hXc.trans eA), fun i hi _ => Below.block (hXc.trans eA) i hi⟩ hg7')
    have hne : gb ≠ g' := by
      intro e
      rcases hv7' with h | h
      · have hown : (Value.slice A rs.length cap).ownBlock = some g' := by rw [← h]; rfl
        have := (h1.lt g' hown).2
        omega
      · have : (Value.slice (some ⟨g', 0, none⟩) (rs.length + 1) c7).ownBlock = some g' := rfl
        rw [this] at h
        injection h with h
        omega
    have bR7 : Blk w7 gb 64 #[.int .i64 r.st, .slice B1 r.rd.length f1, .slice B2 r.wr.length f2, .slice B3 r.mv.length f3, .int .i64 r.nx] := by
      refine (hg7'.block gb bR6.lt (fun e => ?_)).trans bR6
      have := (h1.lt gb e.symm).2
      omega
    have HV : Hid (((Value.slice (some ⟨g', 0, none⟩) (rs.length + 1) c7).ownBlock = (Value.slice A rs.length cap).ownBlock ∨ ∃ q, (Value.slice (some ⟨g', 0, none⟩) (rs.length + 1) c7).ownBlock = some q ∧ w.heap.size ≤ q)) := by
      rcases hv7' with h | h
      · exact .inl h
      · exact .inr ⟨_, h, by omega⟩
    have hpc : putC cl rs.length [.int .i64 0, .slice none 0 0, .slice none 0 0, .slice none 0 0, .int .i64 0] = cl ++ [.int .i64 0, .slice none 0 0, .slice none 0 0, .slice none 0 0, .int .i64 0] := by
      unfold putC
      rw [List.take_of_length_le (by rw [HCL.out]; exact Nat.le_refl _), List.drop_of_length_le (by rw [HCL.out]; exact Nat.le_refl _), List.append_nil]
    rw [← hpc] at hown7
    have st0 : ∃ xs : List Value, xs.length = 5 ∧ w7.ownsRow base 64 5 (.slice (some ⟨g', 0, none⟩) (rs.length + 1) c7) (rs.length + 1) (putC cl rs.length xs) ∧ w7.grownBy w7 (some g') := ⟨_, rfl, hown7, ⟨rfl, rfl, rfl, Nat.le_refl _, fun _ _ _ => rfl⟩⟩
    have hwn : IntKind.i64.wrap (((rs.length + 1 : Nat) : Int) - 1) = (rs.length : Int) := by rw [show ((rs.length + 1 : Nat) : Int) - 1 = (rs.length : Int) by omega]; exact IntWalk.i64_in _ (by omega)
    have hOw := Lib.hid h1
    clear hW6 hown7 hg7 hv7 hg7' hv7' hpc hXc hx bR bRc bR6 hoc ho6 eA bN h1
    go_wp2_with fail
    go_loopw [6] (fun u wr => ∃ (k : Nat) (xs : List Value), p ≤ k ∧ k ≤ rs.length ∧ u = .int .i64 (k : Int) ∧ xs.length = 5 ∧ wr.ownsRow base 64 5 (.slice (some ⟨g', 0, none⟩) (rs.length + 1) c7) (rs.length + 1) (putC cl k xs) ∧ w7.grownBy wr (some g')) (fun u _ => (intOf u).toNat)
    case atStart =>
      obtain ⟨xs, hx5, hro, hgr⟩ := st0
      exact ⟨rs.length, xs, hp, Nat.le_refl _, rfl, hx5, hro, hgr⟩
    case round =>
      clear st0
      obtain ⟨k, xs, hpk, hkn, rfl, hx5, hro, hgr⟩ := hrel
      by_cases hlt : p < k
      · obtain ⟨j, hkj⟩ : ∃ j, k = j + 1 := ⟨k - 1, by omega⟩
        have hjn : j < rs.length := by omega
        obtain ⟨ur, uw, um, c0, c1, c2, c3, c4, q1, q2, q3⟩ := H2.out.2 j hjn
        generalize rs[j] = q at *
        have hc : ∀ c, c < 5 → cl[j * 5 + c]? = [Value.int .i64 q.st, ur, uw, um, Value.int .i64 q.nx][c]? := fun c hc => by
          have : c = 0 ∨ c = 1 ∨ c = 2 ∨ c = 3 ∨ c = 4 := by omega
          rcases this with rfl | rfl | rfl | rfl | rfl
          · exact c0
          · exact c1
          · exact c2
          · exact c3
          · exact c4
        have hone : ∀ v ∈ [Value.int .i64 q.st, ur, uw, um, Value.int .i64 q.nx], v.oneCell' = true := fun v hv => by
          simp at hv
          rcases hv with rfl | rfl | rfl | rfl | rfl
          · rfl
          · exact own_oneCell q1
          · exact own_oneCell q2
          · exact own_oneCell q3
          · rfl
        obtain ⟨d0, d1, d2, d3, d4⟩ := row_get5 (k := j) (a0 := Value.int .i64 q.st) (a1 := ur) (a2 := uw) (a3 := um) (a4 := Value.int .i64 q.nx) hro (by omega) (fun c hc5 => by
          rw [← hc c hc5]
          unfold putC
          rw [List.getElem?_append_left (by rw [List.length_take, HCL.out]; omega), List.getElem?_take_of_lt (by omega)])
        obtain ⟨⟨x0, x1, x2, x3, x4, t0, t1, t2, t3, t4⟩, hfz, hro2, hgr2⟩ := row_put5 (.int .i64 q.st) ur uw um (.int .i64 q.nx) hro HCL.out hkn hx5
        have hpd := putC_down HCL.out hjn rfl hc
        rw [hkj, hpd, ← hkj] at hro2
        have hwk : IntKind.i64.wrap ((k : Int) - 1) = (j : Int) := by rw [show (k : Int) - 1 = (j : Int) by omega]; exact IntWalk.i64_in _ (by omega)
        have HR2 := Lib.hid hro2
        have HG2 := Lib.hid (grownBy_trans hgr hgr2)
        have HKJ := Lib.hid hkj
        have hpk2 : (p : Int) < (k : Int) := by omega
        have hj1 : (j : Int) < ((rs.length + 1 : Nat) : Int) := by omega
        have hk1 : (k : Int) < ((rs.length + 1 : Nat) : Int) := by omega
        have HJP : Hid (p ≤ j) := Lib.hid (by omega)
        obtain ⟨_, _, rfl, _⟩ := id q1.ints.form
        obtain ⟨_, _, rfl, _⟩ := id q2.ints.form
        obtain ⟨_, _, rfl, _⟩ := id q3.ints.form
        clear hc hone c0 c1 c2 c3 c4 q1 q2 q3 hro hro2 hgr hgr2 hpd hkj hlt
        go_wp2_with fail
        go_roundw
        case rel => exact ⟨j, _, HJP.out, by omega, rfl, rfl, HR2.out, HG2.out⟩
        case measure => have := HKJ.out; simp [intOf] <;> omega
      · obtain rfl : k = p := by omega
        have bRw : Blk wr gb 64 #[.int .i64 r.st, .slice B1 r.rd.length f1, .slice B2 r.wr.length f2, .slice B3 r.mv.length f3, .int .i64 r.nx] :=
          (hgr.block gb bR7.lt (fun e => hne (by injection e))).trans bR7
        have y0 := bRw.cell 0
        have y1 := bRw.cell 1
        have y2 := bRw.cell 2
        have y3 := bRw.cell 3
        have y4 := bRw.cell 4
        simp only [List.getElem?_toArray, List.getElem?_cons_zero, List.getElem?_cons_succ] at y0 y1 y2 y3 y4
        obtain ⟨⟨x0, x1, x2, x3, x4, t0, t1, t2, t3, t4⟩, hfz, hro2, hgr2⟩ := row_put5 (.int .i64 r.st) (.slice B1 r.rd.length f1) (.slice B2 r.wr.length f2) (.slice B3 r.mv.length f3) (.int .i64 r.nx) hro HCL.out hkn hx5
        have hg2 := grownBy_trans hgr hgr2
        have HGF : w.grownBy _ (Value.slice A rs.length cap).ownBlock := ⟨hg2.os.trans HGW.out.os, hg2.tape.trans HGW.out.tape, hg2.output.trans HGW.out.output, Nat.le_trans HGW.out.size hg2.size, fun i hi hneq => by
          refine (hg2.block i (Nat.lt_of_lt_of_le hi HGW.out.size) (fun e => ?_)).trans (HGW.out.block i hi hneq)
          rcases HV.out with h | ⟨q, h, hq⟩
          · have h' : some g' = (Value.slice A rs.length cap).ownBlock := h
            exact hneq (e.trans h')
          · have h' : some g' = some q := h
            rw [h'] at e
            injection e with e
            omega⟩
        have hMC : MCells base w (putC cl k [.int .i64 r.st, .slice B1 r.rd.length f1, .slice B2 r.wr.length f2, .slice B3 r.mv.length f3, .int .i64 r.nx]) (insM rs r) := by
          unfold insM putC
          rw [HPP.out]
          exact (H2.out.take hkn).append ((MCells.one HO.out.1 HO.out.2.1 HO.out.2.2).append (H2.out.drop hkn))
        have HF := Lib.hid (⟨⟨_, by rw [insM_len]; exact hro2, hMC.same fun q cs hq => HGF.block q hq.lt (blk_ne_row hq hOw.out (by decide))⟩, HGF, HV.out⟩ : OwnMR base _ (.slice (some ⟨g', 0, none⟩) (rs.length + 1) c7) (insM rs r) ∧ w.grownBy _ (Value.slice A rs.length cap).ownBlock ∧ _)
        have hp1 : (k : Int) < ((rs.length + 1 : Nat) : Int) := by omega
        clear hMC HGF hg2 hro2 hgr2 hro hgr bRw
        go_wp2_with fail
        go_ret
        exact ⟨_, rfl, HF.out⟩
end Go.Proofs.YtkbpchdncljlbaaGreatDoor
end
section
set_option linter.unusedVariables false
namespace Go.Proofs.YtkbpchdncljlbaaGreatDoor
open Go Go.RowKit Go.Proofs
theorem own_trim {base : Nat} {w : World} {A : Option Addr} {c : Nat} {x : List Int} (h : OwnInts base w (.slice A x.length c) x) : OwnInts base w (.slice A (trimN x x.length) c) (trim x) := by
  have hl := trimN_le x x.length
  by_cases hA : A = none
  · subst hA
    rcases h.2 with ⟨e, h0⟩ | ⟨g, cap, cur, e, _⟩
    · injection e with e1 e2 e3
      have hx : x = [] := List.length_eq_zero_iff.1 (by simpa using h0)
      subst hx
      subst e3
      exact h
    · injection e with e1
      cases e1
  · exact h.take _ hl hA
end Go.Proofs.YtkbpchdncljlbaaGreatDoor
end
