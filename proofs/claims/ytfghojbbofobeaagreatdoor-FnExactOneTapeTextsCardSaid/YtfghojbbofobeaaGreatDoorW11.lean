/- Contract of the program's test of a machine with several tapes. No condition.
A made map to numbers, as a function on what its keys stand for: what a look-up answers and what a store leaves. No condition.
A region that draws its order, whose operations change memory in one order alone, and whose last operations follow in one order upon all others: it may be walked in an order that is picked, the reading operations first. No program stands here. -/
import Derived.Test.YtfghojbbofobeaaGreatDoorW10
import Derived.Test.YtfghojbbofobeaaGreatDoorW01
import Derived.Maps.Own
import Derived.Maps.OwnSet
import Derived.Maps.Keyed
import Derived.Maps.Views
import Derived.DeepKeys4
import Derived.StillTail
import Derived.OrdersHeld
section
set_option linter.unusedVariables false
set_option linter.unusedSimpArgs false
namespace Go.Proofs.YtfghojbbofobeaaGreatDoor
open Go Go.RowKit Go.Proofs
set_option maxHeartbeats 400000
theorem multi_no {m : MultiD} {k : Nat} (hk : k < m.rules.length) (h : mstepOk m k = false) : multiOk m = false := by
  cases e : multiOk m with
  | false => rfl
  | true =>
    have := (multi_all e).2.2.2.2 k hk
    rw [h] at this
    cases this
theorem mstep_first (m : MultiD) (h : mruleOk m (m.rules.getD 0 mr0) = true) : mstepOk m 0 = true := by unfold mstepOk; rw [h]; rfl
set_option maxRecDepth 20000 in
set_option maxHeartbeats 4000000 in
theorem ValidMulti_c (v : Value) (m : MultiD) (w : World) (h : Mult w v m) :
    Calls Tryz.prog 31 #[v] w fun e w' => e = .returned (.bool (multiOk m)) ∧ Ext w w' := by
  obtain ⟨rv, rfl, hr⟩ := h
  obtain ⟨A, c, rfl, hc1, hc2⟩ := hr.form
  obtain ⟨W, hW⟩ : ∃ W, W = w.alloc (.cells #[.int .i64 m.tp, .int .i64 m.sy, .int .i64 m.st, .slice A m.rules.length c] 33) := ⟨_, rfl⟩
  have hX : Ext w W := by rw [hW]; exact Ext.alloc _ _
  have bM : Blk W w.heap.size 33 #[.int .i64 m.tp, .int .i64 m.sy, .int .i64 m.st, .slice A m.rules.length c] := by rw [hW]; exact Blk.new _ _ _ _ rfl
  have W1 := fun w => within_c m.tp 2 3 w
  have W2 := fun w => within_c m.sy 2 3 w
  have W3 := fun w => within_c m.st 1 16 w
  have m0 := bM.cell 0
  have m1 := bM.cell 1
  have m2 := bM.cell 2
  have m3 := bM.cell 3
  simp only [List.getElem?_toArray, List.getElem?_cons_zero, List.getElem?_cons_succ] at m0 m1 m2 m3
  obtain ⟨K, hK⟩ : ∃ K, multiOk m = K := ⟨_, rfl⟩
  rw [hK]
  have HK := Lib.hid hK
  clear hK
  go_enter Tryz.func31, Tryz.ntmps31
  go_wp2_with fail
  try rw [← hW]
  clear hW
  refine (W1 W).mono ?_
  rintro e w' ⟨rfl, rfl⟩
  cases h1 : inB m.tp 2 3 with
  | false =>
    have HE : Hid (K = false) := by unfold Hid; rw [← HK.out, multiOk, h1]; simp
    clear h1
    go_wp2
    go_ret
    exact ⟨by rw [HE.out]; rfl, hX⟩
  | true =>
    have H1 := Lib.hid h1
    clear h1
    go_wp2_with fail
    refine (W2 W).mono ?_
    rintro e w' ⟨rfl, rfl⟩
    cases h2 : inB m.sy 2 3 with
    | false =>
      have HE : Hid (K = false) := by unfold Hid; rw [← HK.out, multiOk, h2]; simp
      clear h2
      go_wp2
      go_ret
      exact ⟨by rw [HE.out]; rfl, hX⟩
    | true =>
      have H2 := Lib.hid h2
      clear h2
      go_wp2_with fail
      refine (W3 W).mono ?_
      rintro e w' ⟨rfl, rfl⟩
      cases h3 : inB m.st 1 16 with
      | false =>
        have HE : Hid (K = false) := by unfold Hid; rw [← HK.out, multiOk, h3]; simp
        clear h3
        go_wp2
        go_ret
        exact ⟨by rw [HE.out]; rfl, hX⟩
      | true =>
        have H3 := Lib.hid h3
        clear h3
        by_cases h4 : m.rules.length ≤ 60
        · have i4 : ¬ (60 : Int) < (m.rules.length : Int) := by omega
          obtain ⟨t1, t2⟩ := inB_iff.1 H1.out
          obtain ⟨s1, s2⟩ := inB_iff.1 H2.out
          obtain ⟨q1, q2⟩ := inB_iff.1 H3.out
          clear W1 W2 W3
          go_wp2
          go_loopw [30] (fun i wr => ∃ k : Nat, k ≤ m.rules.length ∧ i = .int .i64 (k : Int) ∧ Ext W wr ∧ (∀ j, j < k → mstepOk m j = true)) (fun i _ => m.rules.length - (intOf i).toNat)
          case atStart => exact ⟨0, Nat.zero_le _, rfl, Ext.refl _, fun j hj => by omega⟩
          case round =>
            obtain ⟨k, hk, rfl, hx, hok⟩ := hrel
            have HOK := Lib.hid hok
            clear hok
            by_cases hlt : k < m.rules.length
            · have hrr := hr.ext (hX.trans hx)
              obtain ⟨b, off, vr, vw, vm, rfl, c0, c1, c2, c3, c4, j1, j2, j3⟩ := hrr.at hlt
              have hgd : m.rules.getD k mr0 = m.rules[k] := by rw [List.getD_eq_getElem?_getD, List.getElem?_eq_getElem hlt]; rfl
              obtain ⟨r, hrk⟩ : ∃ r, m.rules[k] = r := ⟨_, rfl⟩
              rw [hrk] at c0 c4 j1 j2 j3 hgd
              obtain ⟨A1, k1, rfl, _, _⟩ := j1.form
              obtain ⟨A2, k2, rfl, _, _⟩ := j2.form
              obtain ⟨A3, k3, rfl, _, _⟩ := j3.form
              obtain ⟨V, hV⟩ : ∃ V, wr.alloc (.cells #[.int .i64 r.st, .slice A1 r.rd.length k1, .slice A2 r.wr.length k2, .slice A3 r.mv.length k3, .int .i64 r.nx] 101) = V := ⟨_, rfl⟩
              have hXV : Ext wr V := by rw [← hV]; exact Ext.alloc _ _
              have bV : Blk V wr.heap.size 101 #[.int .i64 r.st, .slice A1 r.rd.length k1, .slice A2 r.wr.length k2, .slice A3 r.mv.length k3, .int .i64 r.nx] := by rw [← hV]; exact Blk.new _ _ _ _ rfl
              obtain ⟨g, hg⟩ : ∃ g, wr.heap.size = g := ⟨_, rfl⟩
              rw [hg] at bV
              have hM : MRul V (.agg #[.int .i64 r.st, .slice A1 r.rd.length k1, .slice A2 r.wr.length k2, .slice A3 r.mv.length k3, .int .i64 r.nx]) r := ⟨_, _, _, rfl, j1.ext hXV, j2.ext hXV, j3.ext hXV⟩
              have VR := fun d os => validMultiRule_c (.slice (some ⟨b, off, none⟩) m.rules.length c) _ m r (Sort.grow (redrawn V d) os) (hM.ext (below_regrown V d os)) t1 t2 s1 s2 q1 q2
              have bMV := (bM.ext hx).ext hXV
              have d0 := cellR (bMV.cell 0)
              have d1 := cellR (bMV.cell 1)
              have d2 := cellR (bMV.cell 2)
              have d3 := cellR (bMV.cell 3)
              have f0 := cellR (bV.cell 0)
              have f1 := cellR (bV.cell 1)
              have f2 := cellR (bV.cell 2)
              have f3 := cellR (bV.cell 3)
              have f4 := cellR (bV.cell 4)
              try simp only [List.getElem?_toArray, List.getElem?_cons_zero, List.getElem?_cons_succ] at d0 d1 d2 d3 f0 f1 f2 f3 f4
              cases hv : mruleOk m r with
              | false =>
                have HE : Hid (K = false) := by unfold Hid; rw [← HK.out]; exact multi_no hlt (by rw [mstepOk, hgd, hv]; rfl)
                rw [hv] at VR
                clear hv hrk
                go_wp2_with fail
                try rw [hV]
                clear hV
                refine wp_region_ext (by kernel_rfl) (by kernel_rfl) ?_
                repeat (go_big_quiet_step ((go_at_call 59; exact Calls.extR (VR _ _))))
                refine wpQuiet_nil ?_
                intro w2 hx2
                go_wp2
                go_ret
                exact ⟨by rw [HE.out]; rfl, ((hX.trans hx).trans hXV).trans hx2⟩
              | true =>
                rw [hv] at VR
                by_cases hk0 : k = 0
                · subst hk0
                  have HS : Hid (∀ j, j < 0 + 1 → mstepOk m j = true) := Lib.hid (fun j hj => by
                    have e : j = 0 := by omega
                    subst e
                    exact mstep_first m (by rw [hgd]; exact hv))
                  rw [show ((0 : Nat) : Int) = 0 from rfl]
                  simp only [Nat.zero_mul, Nat.add_zero] at c0 c1 c2 c3 c4
                  clear hv hrk
                  go_wp2_with fail
                  try rw [hV]
                  clear hV
                  refine wp_region_ext (by kernel_rfl) (by kernel_rfl) ?_
                  repeat (go_big_quiet_step ((go_at_call 59; exact Calls.extR (VR _ _))))
                  refine wpQuiet_nil ?_
                  intro w2 hx2
                  go_wp2
                  go_roundw
                  case rel => exact ⟨0 + 1, by omega, by go_num, (hx.trans hXV).trans hx2, HS.out⟩
                  case measure => simp [intOf]; omega
                · have hk1 : k - 1 < m.rules.length := by omega
                  obtain ⟨b', off', ur, uw, um, e', p0, p1, p2, p3, p4, l1, l2, l3⟩ := hrr.at hk1
                  cases e'
                  have hgd' : m.rules.getD (k - 1) mr0 = m.rules[k - 1] := by rw [List.getD_eq_getElem?_getD, List.getElem?_eq_getElem hk1]; rfl
                  obtain ⟨s, hsk⟩ : ∃ s, m.rules[k - 1] = s := ⟨_, rfl⟩
                  rw [hsk] at p0 p4 l1 l2 l3 hgd'
                  have hN : MRul V (.agg #[.int .i64 s.st, ur, uw, um, .int .i64 s.nx]) s := ⟨_, _, _, rfl, l1.ext hXV, l2.ext hXV, l3.ext hXV⟩
                  have CM := fun d os => compareMultiRules_c _ _ s r (Sort.grow (redrawn V d) os) (hN.ext (below_regrown V d os)) (hM.ext (below_regrown V d os))
                  obtain ⟨B1, l1', rfl, _, _⟩ := l1.form
                  obtain ⟨B2, l2', rfl, _, _⟩ := l2.form
                  obtain ⟨B3, l3', rfl, _, _⟩ := l3.form
                  have p0 := cellR (hXV.cell p0)
                  have p1 := cellR (hXV.cell p1)
                  have p2 := cellR (hXV.cell p2)
                  have p3 := cellR (hXV.cell p3)
                  have p4 := cellR (hXV.cell p4)
                  have i0 : 0 < k := by omega
                  have i00 : decide (0 < k) = true := decide_eq_true i0
                  have i1 : (0 : Int) < (k : Int) := by omega
                  have iw : IntKind.i64.wrap ((k : Int) - 1) = (k : Int) - 1 := IntWalk.i64_in _ (by omega)
                  have i2 : (0 : Int) ≤ (k : Int) - 1 := by omega
                  have i3 : (k : Int) - 1 < (m.rules.length : Int) := by omega
                  have i4' : ((k : Int) - 1).toNat = k - 1 := by omega
                  have hms : mstepOk m k = decide (cmpM s r < 0) := by unfold mstepOk; rw [hgd, hgd', hv, decide_eq_false hk0]; simp
                  have HMS := Lib.hid hms
                  obtain ⟨z, hz⟩ : ∃ z, cmpM s r = z := ⟨_, rfl⟩
                  rw [hz] at CM HMS
                  clear hv hrk hsk hz hgd hgd' hms l1 l2 l3 j1 j2 j3 hM hN
                  by_cases hz0 : z < 0
                  · have i5 : ¬ (0 : Int) ≤ z := by omega
                    have HS : Hid (∀ j, j < k + 1 → mstepOk m j = true) := Lib.hid (fun j hj => by
                      by_cases e : j = k
                      · rw [e, HMS.out]; exact decide_eq_true hz0
                      · exact HOK.out j (by omega))
                    go_wp2_with fail
                    try rw [hV]
                    clear hV
                    refine wp_region_ext (by kernel_rfl) (by kernel_rfl) ?_
                    repeat (go_big_quiet_step ((first | (go_at_call 59; exact Calls.extR (VR _ _)) | (go_at_call 60; exact Calls.extR (CM _ _)))))
                    refine wpQuiet_nil ?_
                    intro w2 hx2
                    go_wp2
                    go_roundw
                    case rel => exact ⟨k + 1, by omega, by go_num, (hx.trans hXV).trans hx2, HS.out⟩
                    case measure => simp [intOf]; omega
                  · have i5 : (0 : Int) ≤ z := by omega
                    have HE : Hid (K = false) := by unfold Hid; rw [← HK.out]; exact multi_no hlt (by rw [HMS.out]; exact decide_eq_false hz0)
                    go_wp2_with fail
                    try rw [hV]
                    clear hV
                    refine wp_region_ext (by kernel_rfl) (by kernel_rfl) ?_
                    repeat (go_big_quiet_step ((first | (go_at_call 59; exact Calls.extR (VR _ _)) | (go_at_call 60; exact Calls.extR (CM _ _)))))
                    refine wpQuiet_nil ?_
                    intro w2 hx2
                    go_wp2
                    go_ret
                    exact ⟨by rw [HE.out]; rfl, ((hX.trans hx).trans hXV).trans hx2⟩
            · have hke : k = m.rules.length := by omega
              have HE : Hid (K = true) := by
                unfold Hid
                rw [← HK.out]
                simp only [multiOk, H1.out, H2.out, H3.out, Bool.and_eq_true, decide_eq_true_eq, List.all_eq_true, List.mem_range]
                exact ⟨⟨⟨⟨trivial, trivial⟩, trivial⟩, h4⟩, fun j hj => HOK.out j (by omega)⟩
              go_wp2
              go_ret
              exact ⟨by rw [HE.out]; rfl, hX.trans hx⟩
        · have i4 : (60 : Int) < (m.rules.length : Int) := by omega
          have HE : Hid (K = false) := by unfold Hid; rw [← HK.out, multiOk, decide_eq_false h4]; simp
          go_wp2
          go_ret
          exact ⟨by rw [HE.out]; rfl, hX⟩
end Go.Proofs.YtfghojbbofobeaaGreatDoor
end
section
namespace Go.Proofs.YtfghojbbofobeaaGreatDoor
open Go Go.RowKit Go.Proofs Go.Maps
/-- A type of maps to numbers. -/
structure MapTy (P : Program) (t k e : TypeId) : Prop where
  keyed : Keyed P k
  und : P.underlying t = some (.map k e)
  el : P.underlying e = some (.int .i64)
  zero : ∀ w, (zeroValue e).run P w = .ok (.int .i64 0) w
section
variable {P : Program} {t k e : TypeId} {α : Type} {enc : α → Value} {w w' : World} {b n : Nat} {T T' : α → Option Int}
/-- The map in block b has T a at the key of a, in at most n entries. -/
def Tbl (P : Program) (k e : TypeId) (enc : α → Value) (w : World) (b n : Nat) (T : α → Option Int) : Prop :=
  ∃ D : DataW Unit, w.ownsMap P k (plainElem P e) b n D ∧ ∀ a l, keyOf P k (enc a) = some l → Maps.has D l = (T a).isSome ∧ D.atKey l (.lit (.int .i64 0)) = .lit (.int .i64 ((T a).getD 0))
theorem Tbl.made (P : Program) (k e : TypeId) (enc : α → Value) (w : World) : Tbl P k e enc (w.alloc (.map #[] 0)) w.heap.size 0 (fun _ => none) :=
  ⟨_, World.ownsMap_made _ _ _ _, fun _ _ _ => ⟨rfl, rfl⟩⟩
theorem Tbl.kept {row : Option Nat} (h : Tbl P k e enc w b n T) (hg : w.grownBy w' row) (hne : some b ≠ row) : Tbl P k e enc w' b n T := by
  obtain ⟨D, h1, h2⟩ := h
  exact ⟨D, h1.kept hg hne, h2⟩
theorem Tbl.ext (h : Tbl P k e enc w b n T) (he : Ext w w') : Tbl P k e enc w' b n T :=
  h.kept (row := none) ⟨he.os, he.tape, he.output, he.size, fun k hk _ => Below.block he k hk⟩ (by simp)
theorem Tbl.setCell (h : Tbl P k e enc w b n T) {a : Addr} (ha : b ≠ a.block) (u : Value) : Tbl P k e enc (w.setCell a u) b n T := by
  obtain ⟨D, h1, h2⟩ := h
  exact ⟨D, h1.setCell ha u, h2⟩
theorem Tbl.mono {n' : Nat} (h : Tbl P k e enc w b n T) (hn : n ≤ n') : Tbl P k e enc w b n' T := by
  obtain ⟨D, h1, h2⟩ := h
  exact ⟨D, h1.mono hn, h2⟩
theorem Tbl.lt (h : Tbl P k e enc w b n T) : b < w.heap.size := by
  obtain ⟨D, h1, _⟩ := h
  exact h1.lt
theorem Tbl.ne_row (h : Tbl P k e enc w b n T) {base : Nat} {e' : TypeId} {size : Nat} {v : Value} {m : Nat} {xs : List Value} (ho : w.ownsRow base e' size v m xs) : some b ≠ v.ownBlock := by
  obtain ⟨D, ⟨es, clock, hb, _⟩, _⟩ := h
  rcases ho.2 with ⟨rfl, _⟩ | ⟨g, cap, cur, rfl, _, hg, _⟩
  · simp [Value.ownBlock]
  · intro e
    have : b = g := by simpa [Value.ownBlock] using e
    subst this
    rw [hb] at hg
    cases hg
theorem Tbl.ne_blk (h : Tbl P k e enc w b n T) {g : Nat} {t' : TypeId} {cs : Array Value} (hg : Blk w g t' cs) : b ≠ g := by
  obtain ⟨D, ⟨es, clock, hb, _⟩, _⟩ := h
  rintro rfl
  unfold Blk at hg
  rw [hb] at hg
  cases hg
theorem lit_int_inj {a b : Int} (h : (DataW.lit (.int .i64 a) : DataW Unit) = .lit (.int .i64 b)) : a = b := by
  injection h with h
  injection h
theorem Tbl.lookup (h : Tbl P k e enc w b n T) (M : MapTy P t k e) (a : α) (hk : ∃ l, keyOf P k (enc a) = some l) :
    (Instr.lookup t (.map (some b)) (enc a) false).run P w = .ok (.int .i64 ((T a).getD 0)) w := by
  obtain ⟨D, h1, h2⟩ := h
  obtain ⟨l, hl⟩ := hk
  obtain ⟨c, hrun, hat, _⟩ := h1.lookup_int M.keyed M.und M.el (M.zero w) hl
  rw [(h2 a l hl).2] at hat
  rw [lit_int_inj hat]
  exact hrun
theorem Tbl.lookup2 (h : Tbl P k e enc w b n T) (M : MapTy P t k e) (a : α) (hk : ∃ l, keyOf P k (enc a) = some l) :
    (Instr.lookup t (.map (some b)) (enc a) true).run P w = .ok (.tuple #[.int .i64 ((T a).getD 0), .bool (T a).isSome]) w := by
  obtain ⟨D, h1, h2⟩ := h
  obtain ⟨l, hl⟩ := hk
  obtain ⟨v, ps, hrun, hv⟩ := h1.look_ok M.keyed M.und (M.zero w) (plainElem_int M.el (by decide)) hl
  obtain ⟨c, rfl, hc, _⟩ := plainElem_int_inv M.el hv
  have hc1 := congrArg Prod.fst hc
  simp only at hc1
  rw [(h2 a l hl).2] at hc1
  rw [(h2 a l hl).1, ← lit_int_inj hc1] at hrun
  exact hrun
theorem Tbl.update [DecidableEq α] (h : Tbl P k e enc w b n T) (M : MapTy P t k e) (hinj : ∀ x y, enc x = enc y → x = y) (hn : n < maxLen) (a : α) (hk : ∃ l, keyOf P k (enc a) = some l) (c : Int) (hc : (Lit.int .i64 c).wf = true) :
    ∃ w', (Instr.mapUpdate t (.map (some b)) (enc a) (.int .i64 c)).run P w = .ok () w' ∧ Tbl P k e enc w' b (n + 1) (fun x => if x = a then some c else T x) ∧ w.grownBy w' (some b) := by
  obtain ⟨D, h1, h2⟩ := h
  obtain ⟨l, hl⟩ := hk
  obtain ⟨w', hrun, h3, h4⟩ := h1.update M.keyed M.und hn hl (plainElem_int M.el hc)
  refine ⟨w', hrun, ⟨_, h3, fun x lx hx => ?_⟩, h4⟩
  by_cases e : x = a
  · subst e
    rw [hl] at hx
    injection hx with hx
    subst hx
    rw [has_put_same h1.isMap (M.keyed.key hl), atKey_put_same h1.isMap (M.keyed.key hl)]
    simp
  · have hne : lx ≠ l := fun e' => e (hinj _ _ (M.keyed.inj hx (e' ▸ hl)))
    rw [has_put_other hne, atKey_put_other hne]
    simp only [e, if_false]
    exact h2 x lx hx
end
end Go.Proofs.YtfghojbbofobeaaGreatDoor
end
section
namespace Go.Proofs.YtfghojbbofobeaaGreatDoor
open Go
section
variable {P : Program} {ops : Array Oper} {md : Region.Mode} {Q : Exit → Act → World → Prop}
/-- An operation that is none of those that stir memory. -/
def calmOp (o : Oper) : Bool :=
  match o.op with
  | .call _ => false
  | .alloc _ => false
  | .buildSlice _ _ _ => false
  | .store _ _ _ => false
  | _ => true
/-- The first n operations in whatever order, each leaving a world of a class that may only become narrower; then L. -/
def wpAnyN (P : Program) (md : Region.Mode) (ops : Array Oper) (Q : Exit → Act → World → Prop) (n : Nat) (L : Array Bool → Act → World → Prop) : Nat → (World → Prop) → Array Bool → Act → World → Prop
  | 0, _, listed, a, w => L listed a w
  | f + 1, S, listed, a, w => Region.ready md ops listed ≠ [] ∧ ∀ i ∈ Region.ready md ops listed, i < n ∧
      wpOp P ops Q i (fun a' w' => ∃ S' : World → Prop, (∀ x, S' x → S x) ∧ S' w' ∧ wpAnyN P md ops Q n L f S' (listed.setIfInBounds i true) a' w') a w
theorem wpAny_of_N {n g : Nat} {L : Array Bool → Act → World → Prop} (hL : ∀ listed a w, L listed a w → wpAny P md ops Q g listed a w) :
    ∀ (f : Nat) (S : World → Prop) (listed : Array Bool) (a : Act) (w : World), wpAnyN P md ops Q n L f S listed a w → wpAny P md ops Q (f + g) listed a w
  | 0, _, listed, a, w, h => by rw [Nat.zero_add]; exact hL _ _ _ h
  | f + 1, S, listed, a, w, h => by
    rw [show f + 1 + g = (f + g) + 1 by omega]
    exact ⟨fun h0 => absurd h0 h.1, fun i hi => wpOp_mono (fun a' w' ⟨S', _, _, h'⟩ => wpAny_of_N hL f S' _ a' w' h') (h.2 i hi).2⟩
theorem yieldsIf_narrow {S S' : World → Prop} {o : Oper} {v : Value} {a : Act} (h : YieldsIf P ops S o v a) (hs : ∀ x, S' x → S x) : YieldsIf P ops S' o v a :=
  h.imp (fun ⟨h1, h2⟩ => ⟨h1, fun w hw => h2 w (hs w hw)⟩) id
/-- A reading operation that may come up may be taken first. -/
theorem wpAnyN_first {n i : Nat} {oi : Oper} {v : Value} {L : Array Bool → Act → World → Prop} (hi : ops[i]? = some oi) (hsel : ∀ (j : Nat) (o : Oper) cs b, ops[j]? = some o → o.op ≠ .select cs b)
    (hQ : ∀ c t t' d w, Q (.panic c) ⟨t, d⟩ w → Q (.panic c) ⟨t', d⟩ w)
    (hs : Region.sinkB md ops n = true) (hc : Region.chainB md ops n = true) (hn : n < ops.size) (hin : i < n)
    (hdone : ∀ listed a w, L listed a w → ∀ j ∈ Region.ready md ops listed, n ≤ j) :
    ∀ (f : Nat) (S : World → Prop) (listed : Array Bool) (a : Act) (w : World), HeadInv md ops n listed →
      (∀ j oj, ops[j]? = some oj → j ≠ i → listed.getD j true = false → (∀ e ∈ oj.after, Region.binds md e = true → e.on ≠ i) → oi.apart ops oj = true) →
      i ∈ Region.ready md ops listed → YieldsIf P ops S oi v a → S w →
      wpAnyN P md ops Q n L f S (listed.setIfInBounds i true) (a.put oi.dst v) w → wpAnyN P md ops Q n L (f + 1) S listed a w := by
  intro f
  induction f with
  | zero =>
    intro S listed a w inv _ hr hy hS H
    have hun := (mem_ready.1 hr).1
    refine ⟨fun h => (by rw [h] at hr; cases hr), fun j hj => ?_⟩
    have hjn : j < n := by
      rcases Nat.lt_or_ge j n with h | h
      · exact h
      · exact absurd hj (tail_waits hs hc hn inv _ i rfl hin hun j h)
    refine ⟨hjn, ?_⟩
    by_cases hji : j = i
    · subst hji; exact hy.wpOp hi hS ⟨S, fun _ h => h, hS, H⟩
    · have := hdone _ _ _ H j (ready_mono hj hji)
      omega
  | succ f ih =>
    intro S listed a w inv hfree hr hy hS H
    have hun := (mem_ready.1 hr).1
    refine ⟨fun h => (by rw [h] at hr; cases hr), fun j hj => ?_⟩
    have hjn : j < n := by
      rcases Nat.lt_or_ge j n with h | h
      · exact h
      · exact absurd hj (tail_waits hs hc hn inv _ i rfl hin hun j h)
    refine ⟨hjn, ?_⟩
    by_cases hji : j = i
    · subst hji; exact hy.wpOp hi hS ⟨S, fun _ h => h, hS, H⟩
    · have h1 := (H.2 j (ready_mono hj hji)).2
      obtain ⟨hjun, oj, hoj, hall⟩ := mem_ready.1 hj
      have hnot : ∀ e ∈ oj.after, Region.binds md e = true → e.on ≠ i := fun e he hb heq => by
        have h1 := hall e he hb
        rw [heq, getD_both hun] at h1
        cases h1
      have h2 := wpOp_putIf hoj (hfree j oj hoj hji hjun hnot) (fun cs b => hsel i oi cs b hi) (fun cs b => hsel j oj cs b hoj) (fun c a w h => by cases hd : oi.dst with
          | none => rw [hd] at h; exact h
          | some d => rw [hd] at h; exact hQ c _ _ _ w h) hy h1
      have hfree' : ∀ k ok, ops[k]? = some ok → k ≠ i → (listed.setIfInBounds j true).getD k true = false →
          (∀ e ∈ ok.after, Region.binds md e = true → e.on ≠ i) → oi.apart ops ok = true := fun k ok hk hki hun hno => by
        refine hfree k ok hk hki ?_ hno
        by_cases hjk : j = k
        · subst hjk; exact hjun
        · rw [getD_set_ne true hjk] at hun; exact hun
      refine wpOp_mono (fun a' w' h3 => ?_) h2
      obtain ⟨hy', S', hsub, hS', hN⟩ := h3
      refine ⟨S', hsub, hS', ih S' (listed.setIfInBounds j true) a' w' (inv.set hj hjn) hfree' (ready_mono hr (Ne.symm hji)) (yieldsIf_narrow hy' hsub) hS' ?_⟩
      rw [Array.setIfInBounds_comm _ _ hji]
      exact hN
/-- The operations one behind the other, in the order that is picked: of a reading one its value in every world of the class; behind one that stirs the class may become narrower. -/
def wpOrd (P : Program) (ops : Array Oper) (Q : Exit → Act → World → Prop) (L : Act → World → Prop) : List Oper → (World → Prop) → Act → World → Prop
  | [], _, a, w => L a w
  | o :: os, S, a, w =>
    (calmOp o = true ∧ ∃ v, YieldsIf P ops S o v a ∧ wpOrd P ops Q L os S (a.put o.dst v) w) ∨
    (calmOp o = false ∧ ∀ K : Act → World → Prop, (∀ (S' : World → Prop) a' w', (∀ x, S' x → S x) → S' w' → wpOrd P ops Q L os S' a' w' → K a' w') →
      if Region.wanted o (yielded ops a.tmps) = true then Oper.wp P o a w K Q else K (a.put o.dst undef) w)
/-- The operations of these numbers. -/
def pickO (l : List Oper) : List Nat → List Oper
  | [] => []
  | i :: is => (l.drop i).head? |>.elim (pickO l is) (fun o => o :: pickO l is)
def ordB (md : Region.Mode) (ops : Array Oper) (n g : Nat) : List Nat → Array Bool → Bool
  | [], listed => Region.seqB md ops g n listed
  | i :: is, listed =>
    (match ops[i]? with
      | some o => decide (i < n) && (if calmOp o then (Region.ready md ops listed).contains i && Region.free md ops listed i else Region.ready md ops listed == [i])
      | none => false) && ordB md ops n g is (listed.setIfInBounds i true)
theorem wpAnyN_ord {n g : Nat} {Lq : Act → World → Prop} {l : List Oper} (hl : ops = l.toArray) (hsel : Region.noSelect ops = true) (hQ : ∀ c t t' d w, Q (.panic c) ⟨t, d⟩ w → Q (.panic c) ⟨t', d⟩ w) (hs : Region.sinkB md ops n = true) (hc : Region.chainB md ops n = true) (hn : n < ops.size) :
    ∀ (is : List Nat) (S : World → Prop) (listed : Array Bool) (a : Act) (w : World), HeadInv md ops n listed → ordB md ops n g is listed = true → S w → wpOrd P ops Q Lq (pickO l is) S a w →
    wpAnyN P md ops Q n (fun listed' a' w' => Region.seqB md ops g n listed' = true ∧ Lq a' w') is.length S listed a w
  | [], S, listed, a, w, inv, hB, hS, h => ⟨by simpa [ordB] using hB, h⟩
  | i :: is, S, listed, a, w, inv, hB, hS, h => by
    simp only [ordB, Bool.and_eq_true] at hB
    obtain ⟨h1, hB'⟩ := hB
    cases hi : ops[i]? with
    | none => rw [hi] at h1; cases h1
    | some o =>
      rw [hi] at h1
      simp only [Bool.and_eq_true, decide_eq_true_eq] at h1
      obtain ⟨hin, h1⟩ := h1
      have hp : pickO l (i :: is) = o :: pickO l is := by
        have : (l.drop i).head? = some o := by
          rw [List.head?_drop]
          rw [hl] at hi
          simpa using hi
        simp [pickO, this]
      rw [hp] at h
      by_cases hk : calmOp o = true
      · rw [if_pos hk] at h1
        simp only [Bool.and_eq_true] at h1
        rcases h with ⟨_, v, hy, hK⟩ | ⟨hk', _⟩
        · have hr : i ∈ Region.ready md ops listed := by simpa using h1.1
          exact wpAnyN_first hi (Region.noSelect_spec hsel) hQ hs hc hn hin (fun listed' a' w' hL => seqB_ready hL.1) is.length S listed a w inv (Region.free_spec hi h1.2) hr hy hS
            (wpAnyN_ord hl hsel hQ hs hc hn is S _ _ w (inv.set hr hin) hB' hS hK)
        · rw [hk] at hk'; cases hk'
      · rw [if_neg hk] at h1
        rcases h with ⟨hk', _⟩ | ⟨_, hK⟩
        · exact absurd hk' hk
        · have hr : Region.ready md ops listed = [i] := by simpa using h1
          refine ⟨by rw [hr]; simp, fun j hj => ?_⟩
          have hji : j = i := by rw [hr] at hj; simpa using hj
          subst hji
          refine ⟨hin, wpOp_step hi fun K' hK' => hK K' fun S' a' w' hsub hS' hW => hK' a' w' ⟨S', hsub, hS', ?_⟩⟩
          exact wpAnyN_ord hl hsel hQ hs hc hn is S' _ a' w' (inv.set hj hin) hB' hS' hW
/-- The condition on the region's form. -/
def ordTailB (md : Region.Mode) (ops : Array Oper) (n : Nat) (is : List Nat) : Bool :=
  Region.noSelect ops && decide (n < ops.size) && decide (is.length = n) && Region.sinkB md ops n && Region.chainB md ops n && ordB md ops n (ops.size - n) is (Array.replicate ops.size false)
theorem wp_region_ord {id : Nat} {a : Act} {w : World} {l : List Oper} (n : Nat) (is : List Nat) (hm : P.follows .mixedOrders = true) (hB : ordTailB .any l.toArray n is = true)
    (hQ : ∀ c t t' d w, Q (.panic c) ⟨t, d⟩ w → Q (.panic c) ⟨t', d⟩ w)
    (h : wpOrd P l.toArray Q (fun a' w' => wpList P l.toArray Q (l.drop n) a' w') (pickO l is) (Ext w.drew) a w.drew) : (Code.region id l.toArray true).wp P Q a w := by
  simp only [ordTailB, Bool.and_eq_true, decide_eq_true_eq] at hB
  obtain ⟨⟨⟨⟨⟨hsel, hn⟩, hlen⟩, hs⟩, hc⟩, hord⟩ := hB
  have hdl : (l.drop n).length = l.toArray.size - n := by simp
  have inv0 : HeadInv .any l.toArray n (Array.replicate l.toArray.size false) :=
    ⟨by simp, fun j oj _ hl => (by rw [getD_replicate_false] at hl; cases hl), fun t _ ht => getD_in (by simpa using ht) (getD_replicate_false _ _)⟩
  have H := wpAnyN_ord (md := .any) (g := l.toArray.size - n) (Lq := fun a' w' => wpList P l.toArray Q (l.drop n) a' w') rfl hsel hQ hs hc hn is (Ext w.drew) _ a w.drew inv0 hord (Ext.refl _) h
  refine wp_region_any hm ?_
  have := wpAny_of_N (Q := Q) (g := l.toArray.size - n) (fun listed a' w' hL => by
    have := wpAny_of_seq (md := .any) (Q' := Q) (l.drop n) n listed a' w' (fun j => by simp [List.getElem?_drop]) (by rw [hdl]; exact hL.1) hL.2
    rwa [hdl] at this) _ _ _ _ _ H
  rw [hlen, show n + (l.toArray.size - n) = l.toArray.size by omega] at this
  exact this
/-- One that reads: its value in every world that keeps the old blocks. -/
theorem wpOrd_read {L : Act → World → Prop} {o : Oper} {os : List Oper} {S : World → Prop} {a : Act} {w : World} {v : Value} (hk : calmOp o = true) (hy : YieldsIf P ops S o v a) (h : wpOrd P ops Q L os S (a.put o.dst v) w) : wpOrd P ops Q L (o :: os) S a w :=
  .inl ⟨hk, v, hy, h⟩
/-- One that stirs, behind which old blocks are as they were. -/
theorem wpOrd_stir {L : Act → World → Prop} {o : Oper} {os : List Oper} {w : World} {a : Act} (hk : calmOp o = false)
    (h : ∀ K : Act → World → Prop, (∀ a' w', Ext w w' → wpOrd P ops Q L os (Ext w') a' w' → K a' w') → if Region.wanted o (yielded ops a.tmps) = true then Oper.wp P o a w K Q else K (a.put o.dst undef) w) : wpOrd P ops Q L (o :: os) (Ext w) a w :=
  .inr ⟨hk, fun K hK => h K fun a' w' he hW => hK (Ext w') a' w' (fun _ hx => he.trans hx) (Ext.refl _) hW⟩
theorem wpOrd_done {L : Act → World → Prop} {S : World → Prop} {a : Act} {w : World} (h : L a w) : wpOrd P ops Q L [] S a w := h
end
end Go.Proofs.YtfghojbbofobeaaGreatDoor
end
