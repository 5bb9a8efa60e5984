/- Plain words: a machine under other numbers makes the run of the machine under these numbers. -/
import Derived.Test.YtheokhgppmmjlaaRenJ
import Derived.Test.YtheokhgppmmjlaaRunz
set_option linter.unusedSimpArgs false
set_option linter.unusedVariables false
set_option linter.unusedSectionVars false
namespace Go.Proofs.Ytheokhgppmmjlaa
open Go Go.RowKit Go.Proofs
/-- A change of the numbers below n into one another. -/
structure Chg (n : Int) (F : Int → Int) : Prop where
  rng : ∀ z, 0 ≤ z → z < n → 0 ≤ F z ∧ F z < n
  inj : ∀ a b, 0 ≤ a → a < n → 0 ≤ b → b < n → F a = F b → a = b
theorem Chg.id (n : Int) : Chg n (fun z : Int => z) := ⟨fun z h0 h1 => ⟨h0, h1⟩, fun _ _ _ _ _ _ h => h⟩
theorem upL_nodup (n : Nat) : (upL n).Nodup := by
  unfold upL
  rw [List.nodup_iff_pairwise_ne, List.pairwise_map]
  have := List.nodup_range (n := n)
  rw [List.nodup_iff_pairwise_ne] at this
  exact this.imp fun h e => h (by exact_mod_cast e)
theorem Chg.of_perm {zs : List Int} {n : Nat} (h : zs.Perm (upL n)) : Chg (n : Int) (pickL zs) := by
  have hn : zs.Nodup := h.nodup_iff.2 (upL_nodup n)
  have hl : zs.length = n := by rw [h.length_eq, upL_len]
  refine ⟨fun z h0 h1 => ?_, fun a b a0 a1 b0 b1 e => ?_⟩
  · exact pickL_range (isOrd_of_perm h) z h0 h1
  · obtain ⟨i, rfl⟩ := Int.eq_ofNat_of_zero_le a0
    obtain ⟨j, rfl⟩ := Int.eq_ofNat_of_zero_le b0
    have hi : i < zs.length := by omega
    have hj : j < zs.length := by omega
    simp only [pickL, Int.toNat_natCast, List.getD_eq_getElem?_getD, List.getElem?_eq_getElem hi, List.getElem?_eq_getElem hj, Option.getD_some] at e
    have hp := List.pairwise_iff_getElem.1 (List.nodup_iff_pairwise_ne.1 hn)
    rcases Nat.lt_trichotomy i j with l | l | l
    · exact absurd e (hp i j hi hj l)
    · omega
    · exact absurd e.symm (hp j i hj hi l)
/-- A configuration under other numbers. -/
def renC (S Y : Int → Int) (c : ConfD) : ConfD := ⟨S c.q, c.l.map Y, c.r.map Y⟩
section
variable {m : MachD} {S Y : Int → Int} (hm : machOk m = true) (hS : Chg m.st S) (hY : Chg m.sy Y) (h0 : Y 0 = 0)
include hm hS hY
theorem renR_ok {r : RuleD} (h : ruleOk m.sy m.st r = true) : ruleOk m.sy m.st (renR S Y r) = true := by
  obtain ⟨x, y, z⟩ := r
  unfold renR
  split
  · rename_i hr
    obtain ⟨⟨a0, a1⟩, b0, b1⟩ := ruleRange h hr
    have hn := isR_no hr
    simp only [ruleOk, hn, decide_false, Bool.false_or, Bool.and_eq_true, inB, decide_eq_true_eq] at h
    have hw := hY.rng _ a0 a1
    have hz := hS.rng _ b0 b1
    simp only [ruleOk, Bool.or_eq_true, Bool.and_eq_true, inB, decide_eq_true_eq]
    right
    simp only [Bool.or_eq_true] at h
    refine ⟨⟨?_, h.1.2⟩, ?_⟩ <;> omega
  · exact h
theorem renTo_ok (k : Nat) (hk : k ≤ m.rules.length) : ∀ r ∈ renTo m S Y k, ruleOk m.sy m.st r = true := by
  obtain ⟨_, _, hall⟩ := machOk_five hm
  induction k with
  | zero => exact hall
  | succ k ih =>
    intro r hr
    rcases List.mem_or_eq_of_mem_set hr with hr | rfl
    · exact ih (by omega) r hr
    · refine renR_ok hm hS hY ?_
      rw [List.getD_eq_getElem?_getD, List.getElem?_eq_getElem (show k < m.rules.length by omega)]
      exact hall _ (List.getElem_mem _)
theorem renM_ok : machOk (renM m S Y) = true := by
  have h := renTo_ok hm hS hY m.rules.length (Nat.le_refl _)
  have hl := renTo_len m S Y m.rules.length
  simp only [machOk, Bool.and_eq_true, decide_eq_true_eq, List.all_eq_true] at hm ⊢
  simp only [renM]
  exact ⟨⟨hm.1.1, by rw [hl]; exact hm.1.2⟩, h⟩
theorem renAt_inj {i j : Nat} (hi : i < m.rules.length) (hj : j < m.rules.length) (e : renAt m S Y i = renAt m S Y j) : i = j := by
  obtain ⟨⟨a0, a1⟩, ⟨b0, b1⟩, c0, c1⟩ := renAt_lt hm hi hS.rng hY.rng
  obtain ⟨⟨a0', a1'⟩, ⟨b0', b1'⟩, c0', c1'⟩ := renAt_lt hm hj hS.rng hY.rng
  obtain ⟨y0, y1⟩ := hY.rng _ b0 b1
  obtain ⟨y0', y1'⟩ := hY.rng _ b0' b1'
  have e2 : S ((i : Int) / m.sy) * m.sy + Y ((i : Int) % m.sy) = S ((j : Int) / m.sy) * m.sy + Y ((j : Int) % m.sy) := by
    unfold renAt at e; omega
  have eq1 : S ((i : Int) / m.sy) = S ((j : Int) / m.sy) := by
    have p : ∀ q x : Int, 0 ≤ x → x < m.sy → (q * m.sy + x) / m.sy = q := fun q x x0 x1 => by
      rw [Int.add_comm, Int.add_mul_ediv_right _ _ (by omega), Int.ediv_eq_zero_of_lt x0 x1, Int.zero_add]
    have := congrArg (· / m.sy) e2
    simpa only [p _ _ y0 y1, p _ _ y0' y1'] using this
  have eq2 : Y ((i : Int) % m.sy) = Y ((j : Int) % m.sy) := by rw [eq1] at e2; omega
  have f1 := hS.inj _ _ a0 a1 a0' a1' eq1
  have f2 := hY.inj _ _ b0 b1 b0' b1' eq2
  have g1 := Int.mul_ediv_add_emod (i : Int) m.sy
  have g2 := Int.mul_ediv_add_emod (j : Int) m.sy
  rw [f1, f2] at g1
  omega
theorem renTo_at (k : Nat) (hk : k ≤ m.rules.length) (i : Nat) (hi : i < k) : (renTo m S Y k).getD (renAt m S Y i) noR = renR S Y (m.rules.getD i noR) := by
  induction k with
  | zero => omega
  | succ k ih =>
    obtain ⟨_, _, c0, c1⟩ := renAt_lt hm (show i < m.rules.length by omega) hS.rng hY.rng
    have hlt : renAt m S Y i < (renTo m S Y k).length := by rw [renTo_len]; unfold renAt; have := (hY.rng _ ‹0 ≤ (i:Int) % m.sy ∧ _›.1 ‹0 ≤ (i:Int) % m.sy ∧ _›.2).1; omega
    rw [renTo, List.getD_eq_getElem?_getD, List.getElem?_set]
    by_cases hki : k = i
    · subst hki
      simp [hlt]
    · have hne : ¬ renAt m S Y k = renAt m S Y i := fun e => hki (renAt_inj hm hS hY (by omega) (by omega) e)
      rw [if_neg hne, ← List.getD_eq_getElem?_getD]
      exact ih (by omega) (by omega)
include h0
theorem map_hd (xs : List Int) : hdD (xs.map Y) = Y (hdD xs) := by
  cases xs with
  | nil => simp [hdD, h0]
  | cons a l => simp [hdD]
theorem ren_look {c : ConfD} (hc : IGood m c) : lookI (renM m S Y) (renC S Y c) = renR S Y (lookI m c) := by
  obtain ⟨k, hk, e⟩ := hc.idx hm
  obtain ⟨⟨s1, _, _, _⟩, _, _⟩ := machOk_five hm
  have hh := hdD_of hc.r (by omega)
  have k1 : (k : Int) / m.sy = c.q := by
    rw [← e, Int.add_comm, Int.add_mul_ediv_right _ _ (by omega), Int.ediv_eq_zero_of_lt hh.1 hh.2, Int.zero_add]
  have k2 : (k : Int) % m.sy = hdD c.r := by
    rw [← e, Int.add_comm, Int.add_mul_emod_self_right, Int.emod_eq_of_lt hh.1 hh.2]
  have := renTo_at hm hS hY m.rules.length (Nat.le_refl _) k hk
  unfold lookI
  rw [e, Int.toNat_natCast, ← this]
  simp only [renM, renC, map_hd hm hS hY h0, renAt, k1, k2]
theorem push_map (s : Int) (xs : List Int) (s0 : 0 ≤ s) (s1 : s < m.sy) : pushL (Y s) (xs.map Y) = (pushL s xs).map Y := by
  obtain ⟨⟨t1, _, _, _⟩, _, _⟩ := machOk_five hm
  have : Y s = 0 ↔ s = 0 := ⟨fun e => hY.inj s 0 s0 s1 (by omega) (by omega) (by rw [e, h0]), fun e => by rw [e, h0]⟩
  unfold pushL
  simp only [this, List.map_eq_nil_iff]
  split <;> simp
theorem ren_no {r : RuleD} (h : ruleOk m.sy m.st r = true) : renR S Y r = noR ↔ r = noR := by
  obtain ⟨x, y, z⟩ := r
  constructor
  · intro e
    unfold renR at e
    split at e
    · rename_i hr
      obtain ⟨_, b0, b1⟩ := ruleRange h hr
      have := (hS.rng _ b0 b1).1
      have e3 := congrArg RuleD.n e
      simp only [noR] at e3
      omega
    · exact e
  · intro e
    rw [e]
    rfl
theorem look_ok {c : ConfD} (hc : IGood m c) : ruleOk m.sy m.st (lookI m c) = true := by
  obtain ⟨k, hk, e⟩ := hc.idx hm
  rw [lookI_get hk e]
  exact (machOk_five hm).2.2 _ (List.getElem_mem hk)
theorem ren_step {c : ConfD} (hc : IGood m c) (hno : ¬ lookI m c = noR) : stepI (lookI (renM m S Y) (renC S Y c)) (renC S Y c) = renC S Y (stepI (lookI m c) c) := by
  rw [ren_look hm hS hY h0 hc]
  have hk := look_ok hm hS hY h0 hc
  obtain ⟨⟨t1, _, _, _⟩, _, _⟩ := machOk_five hm
  have hl := hdD_of hc.l (by omega)
  generalize lookI m c = r at *
  obtain ⟨x, y, z⟩ := r
  have hr : isR ⟨x, y, z⟩ = true := by
    cases hh : isR ⟨x, y, z⟩ with
    | true => rfl
    | false => exact absurd (by simpa [isR, rEq, noR] using hh) hno
  obtain ⟨⟨a0, a1⟩, b0, b1⟩ := ruleRange hk hr
  unfold renR
  rw [if_pos hr]
  unfold stepI
  simp only [renC]
  split
  · simp only [push_map hm hS hY h0 x c.l a0 a1, List.map_drop]
  · simp only [← List.map_drop, map_hd hm hS hY h0, push_map hm hS hY h0 x _ a0 a1, push_map hm hS hY h0 _ _ hl.1 hl.2]
theorem ren_cfg {c : ConfD} (hc : IGood m c) : ∀ n, (∀ i < n, ¬ lookI m (cfgI m c i) = noR) → cfgI (renM m S Y) (renC S Y c) n = renC S Y (cfgI m c n) := by
  intro n
  induction n with
  | zero => intro _; rfl
  | succ n ih =>
    intro h
    have hg := cfg_good hm hc n (fun i hi => h i (by omega))
    rw [cfgI, ih (fun i hi => h i (by omega)), ren_step hm hS hY h0 hg (h n (by omega))]
    rfl
theorem ren_stop {c : ConfD} (hc : IGood m c) (n : Nat) (h : ∀ i < n, ¬ lookI m (cfgI m c i) = noR) : lookI (renM m S Y) (cfgI (renM m S Y) (renC S Y c) n) = noR ↔ lookI m (cfgI m c n) = noR := by
  have hg := cfg_good hm hc n h
  rw [ren_cfg hm hS hY h0 hc n h, ren_look hm hS hY h0 hg, ren_no hm hS hY h0 (look_ok hm hS hY h0 hg)]
theorem ren_fit (c : ConfD) : fitI (renC S Y c) = fitI c := by simp [fitI, renC]
theorem ren_runs {c : ConfD} (hc : IGood m c) {n : Nat} (h : RunsTo m c n) : RunsTo (renM m S Y) (renC S Y c) n :=
  ⟨fun i hi e => h.no i hi ((ren_stop hm hS hY h0 hc i (fun j hj => h.no j (by omega))).1 e),
   fun i hi => by rw [ren_cfg hm hS hY h0 hc i (fun j hj => h.no j (by omega)), ren_fit hm hS hY h0]; exact h.fit i hi⟩
theorem ren_end {c : ConfD} (hc : IGood m c) {N i : Nat} (h : EndAt m c N i) : EndAt (renM m S Y) (renC S Y c) N i :=
  ⟨ren_runs hm hS hY h0 hc h.runs, h.le, h.stop.imp id (ren_stop hm hS hY h0 hc i h.runs.no).2⟩
theorem ren_full {c : ConfD} (hc : IGood m c) {N i : Nat} (h : FullAt m c N i) : FullAt (renM m S Y) (renC S Y c) N i := by
  have hno : ∀ j < i, ¬ lookI m (cfgI m c j) = noR := fun j hj => if e : j = i - 1 then e ▸ h.no else h.runs.no j (by omega)
  refine ⟨h.pos, ren_runs hm hS hY h0 hc h.runs, h.le, fun e => h.no ((ren_stop hm hS hY h0 hc (i - 1) h.runs.no).1 e), ?_⟩
  rw [ren_cfg hm hS hY h0 hc i hno, ren_fit hm hS hY h0]
  exact h.full
theorem ren_conf {c : ConfD} (hc : confB m c = true) : confB (renM m S Y) (renC S Y c) = true := by
  obtain ⟨⟨t1, _, _, _⟩, _, _⟩ := machOk_five hm
  have side : ∀ xs : List Int, sideOk xs m.sy 200 = true → sideOk (xs.map Y) m.sy 200 = true := fun xs h => by
    simp only [sideOk, inB, Bool.and_eq_true, Bool.or_eq_true, decide_eq_true_eq, List.all_eq_true, beq_iff_eq, bne_iff_ne, ne_eq, List.length_map] at h ⊢
    obtain ⟨⟨l1, l2⟩, l3⟩ := h
    refine ⟨⟨l1, fun z hz => ?_⟩, ?_⟩
    · obtain ⟨a, ha, rfl⟩ := List.mem_map.1 hz
      have := l2 a ha
      have := hY.rng a (by omega) (by omega)
      omega
    · rcases l3 with l3 | l3
      · exact .inl l3
      · by_cases hx : xs = []
        · subst hx
          exact absurd (by simp) l3
        · right
          have hp : 0 < xs.length := List.length_pos_iff.2 hx
          have hp' : 0 < (xs.map Y).length := by simpa using hp
          rw [lastD_get hp] at l3
          rw [lastD_get hp']
          intro e
          simp only [List.getElem_map, List.length_map] at e
          have := l2 _ (List.getElem_mem (show xs.length - 1 < xs.length by omega))
          exact l3 (hY.inj _ 0 (by omega) (by omega) (by omega) (by omega) (by rw [e, h0]))
  have hq : 0 ≤ c.q ∧ c.q ≤ m.st - 1 := by
    simp only [confB, inB, Bool.and_eq_true, decide_eq_true_eq] at hc
    exact hc.1.1
  have hq' := hS.rng c.q (by omega) (by omega)
  simp only [confB, Bool.and_eq_true] at hc
  simp only [confB, Bool.and_eq_true, renM, renC]
  refine ⟨⟨?_, side _ hc.1.2⟩, side _ hc.2⟩
  simp only [inB, Bool.and_eq_true, decide_eq_true_eq]
  omega
end
theorem EndAt.uniq {m : MachD} {c : ConfD} {N i j : Nat} (h : EndAt m c N i) (k : EndAt m c N j) : i = j := by
  rcases Nat.lt_trichotomy i j with l | l | l
  · rcases h.stop with e | e
    · have := k.le; omega
    · exact absurd e (k.runs.no i l)
  · exact l
  · rcases k.stop with e | e
    · have := h.le; omega
    · exact absurd e (h.runs.no j l)
theorem EndAt.notFull {m : MachD} {c : ConfD} {N i j : Nat} (h : EndAt m c N i) (k : FullAt m c N j) : False := by
  have hp := k.pos
  by_cases hij : i < j
  · rcases h.stop with e | e
    · have := k.le; omega
    · by_cases e2 : i = j - 1
      · exact k.no (e2 ▸ e)
      · exact k.runs.no i (by omega) e
  · have := h.runs.fit j (by omega)
    rw [k.full] at this
    exact absurd this (by decide)
end Go.Proofs.Ytheokhgppmmjlaa
