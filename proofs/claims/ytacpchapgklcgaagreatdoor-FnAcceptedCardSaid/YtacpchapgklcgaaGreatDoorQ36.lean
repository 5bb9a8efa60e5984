/- Plain words on automata, continued: there are few abstractions, so that the closure is closed; the automaton of the pairs of states.
Contracts on automata: a number of symbols, the state to which a symbol leads, the state behind a word. -/
import Derived.Test.YtacpchapgklcgaaGreatDoorQ35
import Derived.Test.YtacpchapgklcgaaGreatDoorQ05
section
set_option linter.unusedSimpArgs false
set_option linter.unusedVariables false
set_option linter.unusedSectionVars false
namespace Go.Proofs.YtacpchapgklcgaaGreatDoor
open Go Go.RowKit Go.Proofs
theorem nodup_len : ∀ (N : Nat) (l : List Nat), l.Nodup → (∀ x ∈ l, x < N) → l.length ≤ N := by
  intro N
  induction N with
  | zero =>
    intro l _ h
    cases l with
    | nil => exact Nat.le_refl _
    | cons a t => exact absurd (h a List.mem_cons_self) (by omega)
  | succ N ih =>
    intro l hd h
    by_cases hm : N ∈ l
    · have h1 := ih (l.erase N) (hd.erase N) (fun x hx => by
        rw [hd.mem_erase_iff] at hx
        have := h x hx.2
        omega)
      have h2 := List.length_erase_of_mem hm
      have h3 := List.length_pos_of_mem hm
      omega
    · have h1 := ih l hd (fun x hx => by
        have := h x hx
        have : x ≠ N := fun e => hm (e ▸ hx)
        omega)
      omega
/-- An outline in its range. -/
def okA (m : MachD) (L R : DfaD) (a : Outl) : Prop := (0 ≤ a.1 ∧ a.1 < L.st) ∧ (0 ≤ a.2.1 ∧ a.2.1 < m.st) ∧ (0 ≤ a.2.2.1 ∧ a.2.2.1 < m.sy) ∧ (0 ≤ a.2.2.2 ∧ a.2.2.2 < R.st)
def keyA (m : MachD) (L R : DfaD) (a : Outl) : Nat := ((a.1.toNat * m.st.toNat + a.2.1.toNat) * m.sy.toNat + a.2.2.1.toNat) * R.st.toNat + a.2.2.2.toNat
theorem pair_inj {n x y x' y' : Nat} (hy : y < n) (hy' : y' < n) (h : x * n + y = x' * n + y') : x = x' ∧ y = y' := by
  have h1 : (x * n + y) / n = x := by rw [Nat.mul_comm, Nat.mul_add_div (by omega), Nat.div_eq_of_lt hy]; rfl
  have h2 : (x' * n + y') / n = x' := by rw [Nat.mul_comm, Nat.mul_add_div (by omega), Nat.div_eq_of_lt hy']; rfl
  have hx : x = x' := by rw [← h1, h, h2]
  subst hx
  exact ⟨rfl, by omega⟩
theorem pair_lt {n N x y : Nat} (hy : y < n) (hx : x < N) : x * n + y < N * n := by
  have h1 : (x + 1) * n ≤ N * n := Nat.mul_le_mul_right n hx
  rw [Nat.add_mul, Nat.one_mul] at h1
  omega
theorem keyA_inj {m : MachD} {L R : DfaD} {a b : Outl} (ha : okA m L R a) (hb : okA m L R b) (h : keyA m L R a = keyA m L R b) : a = b := by
  obtain ⟨a1, a2, a3, a4⟩ := a
  obtain ⟨b1, b2, b3, b4⟩ := b
  obtain ⟨h1, h2, h3, h4⟩ := ha
  obtain ⟨g1, g2, g3, g4⟩ := hb
  simp only at h1 h2 h3 h4 g1 g2 g3 g4
  obtain ⟨e, e4⟩ := pair_inj (by simp only; omega) (by simp only; omega) h
  obtain ⟨e, e3⟩ := pair_inj (by simp only; omega) (by simp only; omega) e
  obtain ⟨e1, e2⟩ := pair_inj (by simp only; omega) (by simp only; omega) e
  simp only at e1 e2 e3 e4
  have f1 : a1 = b1 := by omega
  have f2 : a2 = b2 := by omega
  have f3 : a3 = b3 := by omega
  have f4 : a4 = b4 := by omega
  subst f1 f2 f3 f4
  rfl
theorem keyA_lt {m : MachD} {L R : DfaD} {a : Outl} (ha : okA m L R a) : keyA m L R a < L.st.toNat * m.st.toNat * m.sy.toNat * R.st.toNat := by
  obtain ⟨h1, h2, h3, h4⟩ := ha
  exact pair_lt (by omega) (pair_lt (by omega) (pair_lt (by omega) (by omega)))
/-- A list without repeats of outlines in their range is short. -/
theorem okA_len {m : MachD} {L R : DfaD} {l : List Outl} (hd : l.Nodup) (h : ∀ a ∈ l, okA m L R a) : l.length ≤ L.st.toNat * m.st.toNat * m.sy.toNat * R.st.toNat := by
  have h1 : (l.map (keyA m L R)).Nodup := by
    rw [List.Nodup, List.pairwise_map]
    exact hd.imp_of_mem fun ha hb hn e => hn (keyA_inj (h _ ha) (h _ hb) e)
  have h2 := nodup_len _ _ h1 (fun x hx => by
    obtain ⟨a, ha, rfl⟩ := List.mem_map.1 hx
    exact keyA_lt (h a ha))
  simpa using h2
theorem orgD_range {d : DfaD} {sy t : Int} (h : dfaOk d sy = true) {p : Int × Int} (hp : p ∈ orgD d t sy) : (0 ≤ p.1 ∧ p.1 < d.st) ∧ (0 ≤ p.2 ∧ p.2 < sy) := by
  obtain ⟨h1, h2, hl, _, _⟩ := dfaOk_parts h
  unfold orgD at hp
  rw [List.mem_filterMap] at hp
  obtain ⟨k, hk, e⟩ := hp
  rw [List.mem_range] at hk
  split at e
  · injection e with e
    subst e
    refine ⟨⟨Int.ediv_nonneg (by omega) (by omega), ?_⟩, Int.emod_nonneg _ (by omega), Int.emod_lt_of_pos _ (by omega)⟩
    apply Int.ediv_lt_of_lt_mul (by omega)
    omega
  · cases e
section
variable {m : MachD} {L R : DfaD} (hm : machOk m = true) (hL : dfaOk L m.sy = true) (hR : dfaOk R m.sy = true)
include hm hL hR
theorem succA_ok {a b : Outl} (ha : okA m L R a) (hb : b ∈ succA m L R a) : okA m L R b := by
  obtain ⟨h1, h2, h3, h4⟩ := ha
  obtain ⟨_, hlen, hall⟩ := machOk_five hm
  unfold succA at hb
  simp only at hb
  split at hb
  · rename_i hr
    have hmem : m.rules.getD (a.2.1 * m.sy + a.2.2.1).toNat noR ∈ m.rules := by
      rw [List.getD_eq_getElem?_getD]
      cases hh : m.rules[(a.2.1 * m.sy + a.2.2.1).toNat]? with
      | none =>
        rw [List.getD_eq_getElem?_getD, hh] at hr
        simp [isR, rEq] at hr
      | some r => exact List.mem_of_getElem? hh
    have hq := hall _ hmem
    generalize m.rules.getD (a.2.1 * m.sy + a.2.2.1).toNat noR = r at *
    have hn : ¬ r = noR := by simpa [isR, rEq] using hr
    simp only [ruleOk, hn, decide_false, Bool.false_or, Bool.and_eq_true, Bool.or_eq_true, beq_iff_eq, inB, decide_eq_true_eq] at hq
    split at hb
    · obtain ⟨p, hp, rfl⟩ := List.mem_map.1 hb
      have hpr := orgD_range hR hp
      have ht := toD_range hL h1.1 h1.2 (x := r.w) (by omega) (by omega)
      exact ⟨ht, ⟨by simp only; omega, by simp only; omega⟩, hpr.2, hpr.1⟩
    · obtain ⟨p, hp, rfl⟩ := List.mem_map.1 hb
      have hpr := orgD_range hL hp
      have ht := toD_range hR h4.1 h4.2 (x := r.w) (by omega) (by omega)
      exact ⟨hpr.1, ⟨by simp only; omega, by simp only; omega⟩, hpr.2, ht⟩
  · cases hb
theorem startA_ok : okA m L R (0, 0, 0, 0) := by
  obtain ⟨_, h2, _, _, _⟩ := dfaOk_parts hL
  obtain ⟨_, h3, _, _, _⟩ := dfaOk_parts hR
  have h4 := (machOk_five hm).1
  have h5 : (2 ≤ m.sy ∧ m.sy ≤ 6) ∧ 1 ≤ m.st := by
    simp only [machOk, inB, Bool.and_eq_true, decide_eq_true_eq] at hm
    omega
  exact ⟨⟨Int.le_refl _, by simp only; omega⟩, ⟨Int.le_refl _, by simp only; omega⟩, ⟨Int.le_refl _, by simp only; omega⟩, ⟨Int.le_refl _, by simp only; omega⟩⟩
theorem rndA_ok (k : Nat) : ∀ a ∈ rndA m L R k, okA m L R a := by
  induction k with
  | zero =>
    intro a ha
    rw [rndA, List.mem_singleton] at ha
    rw [ha]
    exact startA_ok hm hL hR
  | succ k ih =>
    intro a ha
    rw [rndA] at ha
    split at ha
    · exact ih a ha
    · rename_i b hb
      rcases foldA_mem.1 ha with h | h
      · exact ih a h
      · exact succA_ok hm hL hR (ih b (List.mem_of_getElem? hb)) h
theorem rndA_len (k : Nat) : (rndA m L R k).length ≤ L.st.toNat * m.st.toNat * m.sy.toNat * R.st.toNat := okA_len (rndA_nodup m L R k) (rndA_ok hm hL hR k)
end
/-- The automaton of the pairs of states. -/
def prodE (a b : DfaD) (sy : Int) (n : Nat) : Int := toD a ((n : Int) / sy / b.st) ((n : Int) % sy) sy * b.st + toD b ((n : Int) / sy % b.st) ((n : Int) % sy) sy
def prodD (a b : DfaD) (sy : Int) : DfaD := ⟨a.st * b.st, (List.range (a.st * b.st * sy).toNat).map (prodE a b sy)⟩
section
variable {a b : DfaD} {sy : Int} (ha : dfaOk a sy = true) (hb : dfaOk b sy = true)
include ha hb
theorem prodE_range {n : Nat} (hn : (n : Int) < a.st * b.st * sy) : 0 ≤ prodE a b sy n ∧ prodE a b sy n < a.st * b.st := by
  obtain ⟨h1, h2, _, _, _⟩ := dfaOk_parts ha
  obtain ⟨_, h3, _, _, _⟩ := dfaOk_parts hb
  have hx0 := Int.emod_nonneg (n : Int) (b := sy) (by omega)
  have hx1 := Int.emod_lt_of_pos (n : Int) (b := sy) (by omega)
  have hp0 : 0 ≤ (n : Int) / sy := Int.ediv_nonneg (by omega) (by omega)
  have hp1 : (n : Int) / sy < a.st * b.st := Int.ediv_lt_of_lt_mul (by omega) hn
  have hk0 := Int.emod_nonneg ((n : Int) / sy) (b := b.st) (by omega)
  have hk1 := Int.emod_lt_of_pos ((n : Int) / sy) (b := b.st) (by omega)
  have hi0 : 0 ≤ (n : Int) / sy / b.st := Int.ediv_nonneg hp0 (by omega)
  have hi1 : (n : Int) / sy / b.st < a.st := Int.ediv_lt_of_lt_mul (by omega) hp1
  have hA := toD_range ha hi0 hi1 hx0 hx1
  have hB := toD_range hb hk0 hk1 hx0 hx1
  unfold prodE
  generalize toD a ((n : Int) / sy / b.st) ((n : Int) % sy) sy = u at *
  generalize toD b ((n : Int) / sy % b.st) ((n : Int) % sy) sy = v at *
  have e1 := Int.mul_nonneg hA.1 (show 0 ≤ b.st by omega)
  have e2 : u * b.st + b.st ≤ a.st * b.st := by
    have := Int.mul_le_mul_of_nonneg_right (show u + 1 ≤ a.st from hA.2) (show 0 ≤ b.st by omega)
    rw [Int.add_mul, Int.one_mul] at this
    exact this
  omega
theorem prodD_to {i k x : Int} (i0 : 0 ≤ i) (i1 : i < a.st) (k0 : 0 ≤ k) (k1 : k < b.st) (x0 : 0 ≤ x) (x1 : x < sy) : toD (prodD a b sy) (i * b.st + k) x sy = toD a i x sy * b.st + toD b k x sy := by
  obtain ⟨h1, h2, _, _, _⟩ := dfaOk_parts ha
  obtain ⟨_, h3, _, _, _⟩ := dfaOk_parts hb
  have e1 := Int.mul_nonneg i0 (show 0 ≤ b.st by omega)
  have e2 : i * b.st + b.st ≤ a.st * b.st := by
    have := Int.mul_le_mul_of_nonneg_right (show i + 1 ≤ a.st from i1) (show 0 ≤ b.st by omega)
    rw [Int.add_mul, Int.one_mul] at this
    exact this
  obtain ⟨p, hp⟩ : ∃ p, p = i * b.st + k := ⟨_, rfl⟩
  have p0 : 0 ≤ p := by omega
  have p1 : p < a.st * b.st := by omega
  have e3 := Int.mul_nonneg p0 (show 0 ≤ sy by omega)
  have e4 : p * sy + sy ≤ a.st * b.st * sy := by
    have := Int.mul_le_mul_of_nonneg_right (show p + 1 ≤ a.st * b.st from p1) (show 0 ≤ sy by omega)
    rw [Int.add_mul, Int.one_mul] at this
    exact this
  have d1 : (p * sy + x) / sy = p := by rw [Int.add_comm, Int.add_mul_ediv_right _ _ (by omega), Int.ediv_eq_zero_of_lt x0 x1, Int.zero_add]
  have d2 : (p * sy + x) % sy = x := by rw [Int.add_comm, Int.add_mul_emod_self_right, Int.emod_eq_of_lt x0 x1]
  have d3 : p / b.st = i := by rw [hp, Int.add_comm, Int.add_mul_ediv_right _ _ (by omega), Int.ediv_eq_zero_of_lt k0 k1, Int.zero_add]
  have d4 : p % b.st = k := by rw [hp, Int.add_comm, Int.add_mul_emod_self_right, Int.emod_eq_of_lt k0 k1]
  rw [← hp]
  show ((List.range (a.st * b.st * sy).toNat).map (prodE a b sy)).getD (p * sy + x).toNat 0 = _
  have hlt : (p * sy + x).toNat < (a.st * b.st * sy).toNat := by omega
  rw [List.getD_eq_getElem?_getD, List.getElem?_map, List.getElem?_range hlt]
  simp only [Option.map_some, Option.getD_some, prodE]
  rw [Int.toNat_of_nonneg (by omega), d1, d2, d3, d4]
theorem prodD_ok (hs : a.st * b.st ≤ 20) : dfaOk (prodD a b sy) sy = true := by
  obtain ⟨h1, h2, _, _, ha0⟩ := dfaOk_parts ha
  obtain ⟨_, h3, _, _, hb0⟩ := dfaOk_parts hb
  have q0 : 1 ≤ a.st * b.st := by
    have := Int.mul_le_mul (show (1 : Int) ≤ a.st by omega) (show (1 : Int) ≤ b.st by omega) (by omega) (by omega)
    omega
  have q1 := Int.mul_nonneg (show 0 ≤ a.st * b.st by omega) (show 0 ≤ sy by omega)
  have hz := prodD_to ha hb (i := 0) (k := 0) (x := 0) (Int.le_refl _) (by omega) (Int.le_refl _) (by omega) (Int.le_refl _) (by omega)
  rw [toD_zero ha, toD_zero hb] at hz
  have hst : (prodD a b sy).st = a.st * b.st := rfl
  simp only [dfaOk, inB, Bool.and_eq_true, decide_eq_true_eq, List.all_eq_true, beq_iff_eq, hst]
  refine ⟨⟨⟨⟨by omega, by omega⟩, ?_⟩, fun z hz => ?_⟩, ?_⟩
  · show ((((List.range (a.st * b.st * sy).toNat).map (prodE a b sy)).length : Nat) : Int) = a.st * b.st * sy
    rw [List.length_map, List.length_range]
    omega
  · obtain ⟨n, hn, rfl⟩ := List.mem_map.1 hz
    rw [List.mem_range] at hn
    have := prodE_range ha hb (n := n) (by omega)
    show 0 ≤ prodE a b sy n ∧ prodE a b sy n ≤ a.st * b.st - 1
    omega
  · simpa [toD] using hz
theorem prodD_run (hs : a.st * b.st ≤ 20) {w : List Int} (hw : ∀ z ∈ w, 0 ≤ z ∧ z < sy) : runD (prodD a b sy) sy w.reverse = runD a sy w.reverse * b.st + runD b sy w.reverse := by
  induction w with
  | nil => show (0 : Int) = 0 * b.st + 0; omega
  | cons x l ih =>
    have hl : ∀ z ∈ l, 0 ≤ z ∧ z < sy := fun z hz => hw z (List.mem_cons_of_mem _ hz)
    have hx := hw x List.mem_cons_self
    have hA := runD_range ha hl
    have hB := runD_range hb hl
    rw [runD_cons (prodD_ok ha hb hs), runD_cons ha, runD_cons hb, ih hl]
    exact prodD_to ha hb hA.1 hA.2 hB.1 hB.2 hx.1 hx.2
end
end Go.Proofs.YtacpchapgklcgaaGreatDoor
end
section
set_option linter.unusedSimpArgs false
set_option linter.unusedVariables false
set_option linter.unusedSectionVars false
set_option maxHeartbeats 4000000
namespace Go.Proofs.YtacpchapgklcgaaGreatDoor
open Go Go.RowKit Go.Proofs
/-- A value that holds an automaton. -/
def Dfas (w : World) (v : Value) (d : DfaD) : Prop := ∃ rv, v = .agg #[.int .i64 d.st, rv] ∧ Ints w rv d.nx
theorem Dfas.ext {w w' : World} {v : Value} {d : DfaD} (h : Dfas w v d) (he : Ext w w') : Dfas w' v d := by
  obtain ⟨rv, e, hr⟩ := h
  exact ⟨rv, e, hr.ext he⟩
theorem box2 (w : World) (x y : Value) (t : TypeId) : ∃ w1 b, w.alloc (.cells #[x, y] t) = w1 ∧ w.heap.size = b ∧ Ext w w1 ∧ w1.cell? ⟨b, 0, none⟩ = some x ∧ w1.cell? ⟨b, 1, none⟩ = some y ∧ Blk w1 b t #[x, y] ∧ w1.heap.size = b + 1 :=
  ⟨_, _, rfl, rfl, Ext.alloc _ _, by simp, by simp, Blk.new _ _ _ _ rfl, by simp⟩
theorem symbolsOk_c (n : Int) (w : World) : Calls Tryz.prog 92 #[.int .i64 n] w fun e w' => e = .returned (.bool (inB n 2 6)) ∧ w = w' := by
  go_enter Tryz.func92, Tryz.ntmps92
  go_wp2_with (go_at_call 24; refine (within_c _ _ _ _).mono ?_; rintro e w' ⟨rfl, rfl⟩)
  go_ret
  exact ⟨rfl, rfl⟩
theorem to_c (v : Value) (d : DfaD) (sy s x : Int) (w : World) (h : Dfas w v d) (hd : dfaOk d sy = true) (s0 : 0 ≤ s) (s1 : s < d.st) (x0 : 0 ≤ x) (x1 : x < sy) :
    Calls Tryz.prog 119 #[v, .int .i64 s, .int .i64 x, .int .i64 sy] w fun e w' => e = .returned (.int .i64 (toD d s x sy)) ∧ Ext w w' := by
  obtain ⟨rv, rfl, hr⟩ := h
  obtain ⟨h1, h2, hlen, _, _⟩ := dfaOk_parts hd
  obtain ⟨k, hk, e, _, _⟩ := dfa_idx hd s0 s1 x0 x1
  obtain ⟨A, c, rfl, g1, g2⟩ := hr.form
  obtain ⟨b, off, rfl, hc⟩ := hr.at hk
  have c0 := hc k hk
  clear hc
  have hv : toD d s x sy = d.nx[k] := by
    unfold toD
    rw [e, Int.toNat_natCast, List.getD_eq_getElem?_getD, List.getElem?_eq_getElem hk, Option.getD_some]
  have hp0 : 0 ≤ s * sy := Int.mul_nonneg s0 (by omega)
  have hp1 : s * sy ≤ 120 := by
    have := Int.mul_le_mul (show s ≤ 20 by omega) (show sy ≤ 6 by omega) (by omega) (by omega)
    omega
  have hw1 : IntKind.i64.wrap (s * sy) = s * sy := IntWalk.i64_in _ (by omega)
  have hw2 : IntKind.i64.wrap (s * sy + x) = (k : Int) := by rw [IntWalk.i64_in _ (by omega), e]
  rw [hv]
  clear hlen
  obtain ⟨w1, bk, e1, e2, hx, p0, p1, bB, hz⟩ := box2 w (.int .i64 d.st) (.slice (some ⟨b, off, none⟩) d.nx.length c) 40
  have c1 := hx.cell c0
  subst e1 e2
  go_enter Tryz.func119, Tryz.ntmps119
  go_wp2
  go_ret
  exact ⟨rfl, hx⟩
theorem runD_lim {d : DfaD} {sy : Int} (hd : dfaOk d sy = true) {w : List Int} (hw : ∀ z ∈ w, 0 ≤ z ∧ z < sy) : 0 ≤ runD d sy w ∧ runD d sy w < d.st := by
  have := runD_range hd (w := w.reverse) (fun z hz => hw z (List.mem_reverse.1 hz))
  rwa [List.reverse_reverse] at this
theorem runD_take {d : DfaD} {sy : Int} (hd : dfaOk d sy = true) {w : List Int} {k : Nat} (hk : k < w.length) : runD d sy (w.take (k + 1)) = toD d (runD d sy (w.take k)) w[k] sy := by
  rw [List.take_succ_eq_append_getElem hk, runD_snoc hd]
theorem ValidDfa_c (v : Value) (d : DfaD) (sy : Int) (w : World) (h : Dfas w v d) (hd : dfaOk d sy = true) :
    Calls Tryz.prog 58 #[v, .int .i64 sy] w fun e w' => e = .returned (.bool true) ∧ Ext w w' := by
  obtain ⟨rv, rfl, hr⟩ := h
  obtain ⟨⟨h1, h1'⟩, ⟨h2, h2'⟩, hlen, hall, h0⟩ := dfaOk_parts hd
  obtain ⟨k, hk, e, _, _⟩ := dfa_idx hd (s := 0) (x := 0) (Int.le_refl _) (by omega) (Int.le_refl _) (by omega)
  obtain rfl : k = 0 := by omega
  obtain ⟨A, c, rfl, g1, g2⟩ := hr.form
  obtain ⟨b, off, rfl, hc⟩ := hr.at hk
  have hz : d.nx[0] = 0 := by
    rw [List.getD_eq_getElem?_getD, List.getElem?_eq_getElem hk, Option.getD_some] at h0
    exact h0
  have c0 := hc 0 hk
  rw [hz] at c0
  clear hc hz h0
  simp only [Nat.add_zero] at c0
  have hw1 : IntKind.i64.wrap (d.st * sy) = d.st * sy := IntWalk.i64_in _ (by
    have := Int.mul_le_mul h2' h1' (by omega) (by omega)
    have := Int.mul_nonneg (show 0 ≤ d.st by omega) (show 0 ≤ sy by omega)
    omega)
  have hB1 : inB sy 2 6 = true := inB_iff.2 ⟨h1, h1'⟩
  have hB2 : inB d.st 1 20 = true := inB_iff.2 ⟨h2, h2'⟩
  have hB3 : (d.nx.all fun z => inB z 0 (d.st - 1)) = true := by
    rw [List.all_eq_true]
    intro z hz
    have := hall z hz
    exact inB_iff.2 (by omega)
  have hl1 : ((d.nx.length : Int) == d.st * sy) = true := by simp [hlen]
  clear hlen hall
  obtain ⟨w1, bk, e1, e2, hx, p0, p1, bB, hsz⟩ := box2 w (.int .i64 d.st) (.slice (some ⟨b, off, none⟩) d.nx.length c) 40
  have E1 := Lib.hid e1
  have E2 := Lib.hid e2
  clear e1 e2
  have d0 := cellR p0
  have d1 := cellR p1
  have d2 := cellR (hx.cell c0)
  have hr1 := hr.ext hx
  have hS1 := fun W => symbolsOk_c sy W
  have hS2 := fun W => within_c d.st 1 20 W
  have hS3 := fun D os => allWithin_c _ _ 0 (d.st - 1) _ (hr1.ext (below_regrown w1 D os))
  simp only [hB1] at hS1
  simp only [hB2] at hS2
  simp only [hB3] at hS3
  go_enter Tryz.func58, Tryz.ntmps58
  go_wp2
  rw [E1.out, E2.out]
  refine wp_region_ext (by kernel_rfl) (by kernel_rfl) ?_
  repeat (go_big_quiet_step ((first | (go_at_call 92; exact Calls.sameR (hS1 _)) | (go_at_call 24; exact Calls.sameR (hS2 _)) | (go_at_call 40; exact Calls.sameR (sizeInt_c _ _ _ (hr1.ext (below_regrown _ _ _)))) | (go_at_call 84; exact Calls.sameR (hS3 _ _)))))
  refine wpQuiet_nil ?_
  intro w2 hx2
  go_wp2
  go_ret
  exact ⟨rfl, hx.trans hx2⟩
end Go.Proofs.YtacpchapgklcgaaGreatDoor
end
