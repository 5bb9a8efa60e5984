/- Plain words: a machine under other numbers makes the run of the machine under these numbers.
The contract of the reference's drawing of the symbols on one side of the head. The machine has 2 to 6 symbols. -/
import Derived.Test.YtcebkjiafjmjfaaGreatDoorP32
import Derived.Test.YtcebkjiafjmjfaaGreatDoorP33
import Derived.Test.YtcebkjiafjmjfaaGreatDoorP13
import Derived.Test.YtcebkjiafjmjfaaGreatDoorP15
import Derived.Test.YtcebkjiafjmjfaaGreatDoorP21
import Derived.Maps.AppendAt
section
set_option linter.unusedSimpArgs false
set_option linter.unusedVariables false
set_option linter.unusedSectionVars false
namespace Go.Proofs.YtcebkjiafjmjfaaGreatDoor
open Go Go.RowKit Go.Proofs
/-- A change of the numbers below n into one another. -/
structure Chg (n : Int) (F : Int → Int) : Prop where
  rng : ∀ z, 0 ≤ z → z < n → 0 ≤ F z ∧ F z < n
  inj : ∀ a b, 0 ≤ a → a < n → 0 ≤ b → b < n → F a = F b → a = b
theorem Chg.id (n : Int) : Chg n (fun z : Int => z) := ⟨fun z h0 h1 => ⟨h0, h1⟩, fun _ _ _ _ _ _ h => h⟩
theorem upL_nodup (n : Nat) : (upL n).Nodup := by
  unfold upL
  rw [List.nodup_iff_pairwise_ne, List.pairwise_map]
  have := List.nodup_range (n := n)
  rw [List.nodup_iff_pairwise_ne] at this
  exact this.imp fun h e => h (by exact_mod_cast e)
theorem Chg.of_perm {zs : List Int} {n : Nat} (h : zs.Perm (upL n)) : Chg (n : Int) (pickL zs) := by
  have hn : zs.Nodup := h.nodup_iff.2 (upL_nodup n)
  have hl : zs.length = n := by rw [h.length_eq, upL_len]
  refine ⟨fun z h0 h1 => ?_, fun a b a0 a1 b0 b1 e => ?_⟩
  · exact pickL_range (isOrd_of_perm h) z h0 h1
  · obtain ⟨i, rfl⟩ := Int.eq_ofNat_of_zero_le a0
    obtain ⟨j, rfl⟩ := Int.eq_ofNat_of_zero_le b0
    have hi : i < zs.length := by omega
    have hj : j < zs.length := by omega
    simp only [pickL, Int.toNat_natCast, List.getD_eq_getElem?_getD, List.getElem?_eq_getElem hi, List.getElem?_eq_getElem hj, Option.getD_some] at e
    have hp := List.pairwise_iff_getElem.1 (List.nodup_iff_pairwise_ne.1 hn)
    rcases Nat.lt_trichotomy i j with l | l | l
    · exact absurd e (hp i j hi hj l)
    · omega
    · exact absurd e.symm (hp j i hj hi l)
/-- A configuration under other numbers. -/
def renC (S Y : Int → Int) (c : ConfD) : ConfD := ⟨S c.q, c.l.map Y, c.r.map Y⟩
section
variable {m : MachD} {S Y : Int → Int} (hm : machOk m = true) (hS : Chg m.st S) (hY : Chg m.sy Y) (h0 : Y 0 = 0)
include hm hS hY
theorem renR_ok {r : RuleD} (h : ruleOk m.sy m.st r = true) : ruleOk m.sy m.st (renR S Y r) = true := by
  obtain ⟨x, y, z⟩ := r
  unfold renR
  split
  · rename_i hr
    obtain ⟨⟨a0, a1⟩, b0, b1⟩ := ruleRange h hr
    have hn := isR_no hr
    simp only [ruleOk, hn, decide_false, Bool.false_or, Bool.and_eq_true, inB, decide_eq_true_eq] at h
    have hw := hY.rng _ a0 a1
    have hz := hS.rng _ b0 b1
    simp only [ruleOk, Bool.or_eq_true, Bool.and_eq_true, inB, decide_eq_true_eq]
    right
    simp only [Bool.or_eq_true] at h
    refine ⟨⟨?_, h.1.2⟩, ?_⟩ <;> omega
  · exact h
theorem renTo_ok (k : Nat) (hk : k ≤ m.rules.length) : ∀ r ∈ renTo m S Y k, ruleOk m.sy m.st r = true := by
  obtain ⟨_, _, hall⟩ := machOk_five hm
  induction k with
  | zero => exact hall
  | succ k ih =>
    intro r hr
    rcases List.mem_or_eq_of_mem_set hr with hr | rfl
    · exact ih (by omega) r hr
    · refine renR_ok hm hS hY ?_
      rw [List.getD_eq_getElem?_getD, List.getElem?_eq_getElem (show k < m.rules.length by omega)]
      exact hall _ (List.getElem_mem _)
theorem renM_ok : machOk (renM m S Y) = true := by
  have h := renTo_ok hm hS hY m.rules.length (Nat.le_refl _)
  have hl := renTo_len m S Y m.rules.length
  simp only [machOk, Bool.and_eq_true, decide_eq_true_eq, List.all_eq_true] at hm ⊢
  simp only [renM]
  exact ⟨⟨hm.1.1, by rw [hl]; exact hm.1.2⟩, h⟩
theorem renAt_inj {i j : Nat} (hi : i < m.rules.length) (hj : j < m.rules.length) (e : renAt m S Y i = renAt m S Y j) : i = j := by
  obtain ⟨⟨a0, a1⟩, ⟨b0, b1⟩, c0, c1⟩ := renAt_lt hm hi hS.rng hY.rng
  obtain ⟨⟨a0', a1'⟩, ⟨b0', b1'⟩, c0', c1'⟩ := renAt_lt hm hj hS.rng hY.rng
  obtain ⟨y0, y1⟩ := hY.rng _ b0 b1
  obtain ⟨y0', y1'⟩ := hY.rng _ b0' b1'
  have e2 : S ((i : Int) / m.sy) * m.sy + Y ((i : Int) % m.sy) = S ((j : Int) / m.sy) * m.sy + Y ((j : Int) % m.sy) := by
    unfold renAt at e; omega
  have eq1 : S ((i : Int) / m.sy) = S ((j : Int) / m.sy) := by
    have p : ∀ q x : Int, 0 ≤ x → x < m.sy → (q * m.sy + x) / m.sy = q := fun q x x0 x1 => by
      rw [Int.add_comm, Int.add_mul_ediv_right _ _ (by omega), Int.ediv_eq_zero_of_lt x0 x1, Int.zero_add]
    have := congrArg (· / m.sy) e2
    simpa only [p _ _ y0 y1, p _ _ y0' y1'] using this
  have eq2 : Y ((i : Int) % m.sy) = Y ((j : Int) % m.sy) := by rw [eq1] at e2; omega
  have f1 := hS.inj _ _ a0 a1 a0' a1' eq1
  have f2 := hY.inj _ _ b0 b1 b0' b1' eq2
  have g1 := Int.mul_ediv_add_emod (i : Int) m.sy
  have g2 := Int.mul_ediv_add_emod (j : Int) m.sy
  rw [f1, f2] at g1
  omega
theorem renTo_at (k : Nat) (hk : k ≤ m.rules.length) (i : Nat) (hi : i < k) : (renTo m S Y k).getD (renAt m S Y i) noR = renR S Y (m.rules.getD i noR) := by
  induction k with
  | zero => omega
  | succ k ih =>
    obtain ⟨_, _, c0, c1⟩ := renAt_lt hm (show i < m.rules.length by omega) hS.rng hY.rng
    have hlt : renAt m S Y i < (renTo m S Y k).length := by rw [renTo_len]; unfold renAt; have := (hY.rng _ ‹0 ≤ (i:Int) % m.sy ∧ _›.1 ‹0 ≤ (i:Int) % m.sy ∧ _›.2).1; omega
    rw [renTo, List.getD_eq_getElem?_getD, List.getElem?_set]
    by_cases hki : k = i
    · subst hki
      simp [hlt]
    · have hne : ¬ renAt m S Y k = renAt m S Y i := fun e => hki (renAt_inj hm hS hY (by omega) (by omega) e)
      rw [if_neg hne, ← List.getD_eq_getElem?_getD]
      exact ih (by omega) (by omega)
include h0
theorem map_hd (xs : List Int) : hdD (xs.map Y) = Y (hdD xs) := by
  cases xs with
  | nil => simp [hdD, h0]
  | cons a l => simp [hdD]
theorem ren_look {c : ConfD} (hc : IGood m c) : lookI (renM m S Y) (renC S Y c) = renR S Y (lookI m c) := by
  obtain ⟨k, hk, e⟩ := hc.idx hm
  obtain ⟨⟨s1, _, _, _⟩, _, _⟩ := machOk_five hm
  have hh := hdD_of hc.r (by omega)
  have k1 : (k : Int) / m.sy = c.q := by
    rw [← e, Int.add_comm, Int.add_mul_ediv_right _ _ (by omega), Int.ediv_eq_zero_of_lt hh.1 hh.2, Int.zero_add]
  have k2 : (k : Int) % m.sy = hdD c.r := by
    rw [← e, Int.add_comm, Int.add_mul_emod_self_right, Int.emod_eq_of_lt hh.1 hh.2]
  have := renTo_at hm hS hY m.rules.length (Nat.le_refl _) k hk
  unfold lookI
  rw [e, Int.toNat_natCast, ← this]
  simp only [renM, renC, map_hd hm hS hY h0, renAt, k1, k2]
theorem push_map (s : Int) (xs : List Int) (s0 : 0 ≤ s) (s1 : s < m.sy) : pushL (Y s) (xs.map Y) = (pushL s xs).map Y := by
  obtain ⟨⟨t1, _, _, _⟩, _, _⟩ := machOk_five hm
  have : Y s = 0 ↔ s = 0 := ⟨fun e => hY.inj s 0 s0 s1 (by omega) (by omega) (by rw [e, h0]), fun e => by rw [e, h0]⟩
  unfold pushL
  simp only [this, List.map_eq_nil_iff]
  split <;> simp
theorem ren_no {r : RuleD} (h : ruleOk m.sy m.st r = true) : renR S Y r = noR ↔ r = noR := by
  obtain ⟨x, y, z⟩ := r
  constructor
  · intro e
    unfold renR at e
    split at e
    · rename_i hr
      obtain ⟨_, b0, b1⟩ := ruleRange h hr
      have := (hS.rng _ b0 b1).1
      have e3 := congrArg RuleD.n e
      simp only [noR] at e3
      omega
    · exact e
  · intro e
    rw [e]
    rfl
theorem look_ok {c : ConfD} (hc : IGood m c) : ruleOk m.sy m.st (lookI m c) = true := by
  obtain ⟨k, hk, e⟩ := hc.idx hm
  rw [lookI_get hk e]
  exact (machOk_five hm).2.2 _ (List.getElem_mem hk)
theorem ren_step {c : ConfD} (hc : IGood m c) (hno : ¬ lookI m c = noR) : stepI (lookI (renM m S Y) (renC S Y c)) (renC S Y c) = renC S Y (stepI (lookI m c) c) := by
  rw [ren_look hm hS hY h0 hc]
  have hk := look_ok hm hS hY h0 hc
  obtain ⟨⟨t1, _, _, _⟩, _, _⟩ := machOk_five hm
  have hl := hdD_of hc.l (by omega)
  generalize lookI m c = r at *
  obtain ⟨x, y, z⟩ := r
  have hr : isR ⟨x, y, z⟩ = true := by
    cases hh : isR ⟨x, y, z⟩ with
    | true => rfl
    | false => exact absurd (by simpa [isR, rEq, noR] using hh) hno
  obtain ⟨⟨a0, a1⟩, b0, b1⟩ := ruleRange hk hr
  unfold renR
  rw [if_pos hr]
  unfold stepI
  simp only [renC]
  split
  · simp only [push_map hm hS hY h0 x c.l a0 a1, List.map_drop]
  · simp only [← List.map_drop, map_hd hm hS hY h0, push_map hm hS hY h0 x _ a0 a1, push_map hm hS hY h0 _ _ hl.1 hl.2]
theorem ren_cfg {c : ConfD} (hc : IGood m c) : ∀ n, (∀ i < n, ¬ lookI m (cfgI m c i) = noR) → cfgI (renM m S Y) (renC S Y c) n = renC S Y (cfgI m c n) := by
  intro n
  induction n with
  | zero => intro _; rfl
  | succ n ih =>
    intro h
    have hg := cfg_good hm hc n (fun i hi => h i (by omega))
    rw [cfgI, ih (fun i hi => h i (by omega)), ren_step hm hS hY h0 hg (h n (by omega))]
    rfl
theorem ren_stop {c : ConfD} (hc : IGood m c) (n : Nat) (h : ∀ i < n, ¬ lookI m (cfgI m c i) = noR) : lookI (renM m S Y) (cfgI (renM m S Y) (renC S Y c) n) = noR ↔ lookI m (cfgI m c n) = noR := by
  have hg := cfg_good hm hc n h
  rw [ren_cfg hm hS hY h0 hc n h, ren_look hm hS hY h0 hg, ren_no hm hS hY h0 (look_ok hm hS hY h0 hg)]
theorem ren_fit (c : ConfD) : fitI (renC S Y c) = fitI c := by simp [fitI, renC]
theorem ren_runs {c : ConfD} (hc : IGood m c) {n : Nat} (h : RunsTo m c n) : RunsTo (renM m S Y) (renC S Y c) n :=
  ⟨fun i hi e => h.no i hi ((ren_stop hm hS hY h0 hc i (fun j hj => h.no j (by omega))).1 e),
   fun i hi => by rw [ren_cfg hm hS hY h0 hc i (fun j hj => h.no j (by omega)), ren_fit hm hS hY h0]; exact h.fit i hi⟩
theorem ren_end {c : ConfD} (hc : IGood m c) {N i : Nat} (h : EndAt m c N i) : EndAt (renM m S Y) (renC S Y c) N i :=
  ⟨ren_runs hm hS hY h0 hc h.runs, h.le, h.stop.imp id (ren_stop hm hS hY h0 hc i h.runs.no).2⟩
theorem ren_full {c : ConfD} (hc : IGood m c) {N i : Nat} (h : FullAt m c N i) : FullAt (renM m S Y) (renC S Y c) N i := by
  have hno : ∀ j < i, ¬ lookI m (cfgI m c j) = noR := fun j hj => if e : j = i - 1 then e ▸ h.no else h.runs.no j (by omega)
  refine ⟨h.pos, ren_runs hm hS hY h0 hc h.runs, h.le, fun e => h.no ((ren_stop hm hS hY h0 hc (i - 1) h.runs.no).1 e), ?_⟩
  rw [ren_cfg hm hS hY h0 hc i hno, ren_fit hm hS hY h0]
  exact h.full
theorem ren_conf {c : ConfD} (hc : confB m c = true) : confB (renM m S Y) (renC S Y c) = true := by
  obtain ⟨⟨t1, _, _, _⟩, _, _⟩ := machOk_five hm
  have side : ∀ xs : List Int, sideOk xs m.sy 200 = true → sideOk (xs.map Y) m.sy 200 = true := fun xs h => by
    simp only [sideOk, inB, Bool.and_eq_true, Bool.or_eq_true, decide_eq_true_eq, List.all_eq_true, beq_iff_eq, bne_iff_ne, ne_eq, List.length_map] at h ⊢
    obtain ⟨⟨l1, l2⟩, l3⟩ := h
    refine ⟨⟨l1, fun z hz => ?_⟩, ?_⟩
    · obtain ⟨a, ha, rfl⟩ := List.mem_map.1 hz
      have := l2 a ha
      have := hY.rng a (by omega) (by omega)
      omega
    · rcases l3 with l3 | l3
      · exact .inl l3
      · by_cases hx : xs = []
        · subst hx
          exact absurd (by simp) l3
        · right
          have hp : 0 < xs.length := List.length_pos_iff.2 hx
          have hp' : 0 < (xs.map Y).length := by simpa using hp
          rw [lastD_get hp] at l3
          rw [lastD_get hp']
          intro e
          simp only [List.getElem_map, List.length_map] at e
          have := l2 _ (List.getElem_mem (show xs.length - 1 < xs.length by omega))
          exact l3 (hY.inj _ 0 (by omega) (by omega) (by omega) (by omega) (by rw [e, h0]))
  have hq : 0 ≤ c.q ∧ c.q ≤ m.st - 1 := by
    simp only [confB, inB, Bool.and_eq_true, decide_eq_true_eq] at hc
    exact hc.1.1
  have hq' := hS.rng c.q (by omega) (by omega)
  simp only [confB, Bool.and_eq_true] at hc
  simp only [confB, Bool.and_eq_true, renM, renC]
  refine ⟨⟨?_, side _ hc.1.2⟩, side _ hc.2⟩
  simp only [inB, Bool.and_eq_true, decide_eq_true_eq]
  omega
end
theorem EndAt.uniq {m : MachD} {c : ConfD} {N i j : Nat} (h : EndAt m c N i) (k : EndAt m c N j) : i = j := by
  rcases Nat.lt_trichotomy i j with l | l | l
  · rcases h.stop with e | e
    · have := k.le; omega
    · exact absurd e (k.runs.no i l)
  · exact l
  · rcases k.stop with e | e
    · have := h.le; omega
    · exact absurd e (h.runs.no j l)
theorem EndAt.notFull {m : MachD} {c : ConfD} {N i j : Nat} (h : EndAt m c N i) (k : FullAt m c N j) : False := by
  have hp := k.pos
  by_cases hij : i < j
  · rcases h.stop with e | e
    · have := k.le; omega
    · by_cases e2 : i = j - 1
      · exact k.no (e2 ▸ e)
      · exact k.runs.no i (by omega) e
  · have := h.runs.fit j (by omega)
    rw [k.full] at this
    exact absurd this (by decide)
end Go.Proofs.YtcebkjiafjmjfaaGreatDoor
end
section
set_option linter.unusedSimpArgs false
set_option linter.unusedVariables false
namespace Go.Proofs.YtcebkjiafjmjfaaGreatDoor
open Go Go.RowKit Go.Proofs
set_option maxHeartbeats 400000
theorem trimN_last (xs : List Int) : ∀ n, trimN xs n = 0 ∨ xs.getD (trimN xs n - 1) 0 ≠ 0 := by
  intro n
  induction n with
  | zero => exact .inl rfl
  | succ n ih =>
    unfold trimN
    split
    · exact ih
    · rename_i h
      right
      simpa using h
theorem trim_side {xs : List Int} {sy : Int} (hl : xs.length ≤ 200) (h : ∀ z ∈ xs, 0 ≤ z ∧ z < sy) : sideOk (trim xs) sy 200 = true := by
  have hle := trim_len xs
  simp only [sideOk, inB, Bool.and_eq_true, Bool.or_eq_true, decide_eq_true_eq, List.all_eq_true, beq_iff_eq, bne_iff_ne, ne_eq]
  refine ⟨⟨by omega, fun z hz => by have := h z (trim_mem hz); omega⟩, ?_⟩
  by_cases h0 : 0 < (trim xs).length
  · right
    rw [lastD_get h0]
    have hn : (trim xs).length = trimN xs xs.length := by
      have := trimN_le xs xs.length
      simp [trim]; omega
    rcases trimN_last xs xs.length with e | e
    · omega
    · rw [← hn, List.getD_eq_getElem?_getD] at e
      have hk : (trim xs).length - 1 < (trim xs).length := by omega
      have hk' : (trim xs).length - 1 < xs.length := by omega
      rw [List.getElem?_eq_getElem hk', Option.getD_some] at e
      have : (trim xs)[(trim xs).length - 1] = xs[(trim xs).length - 1] := by simp [trim]
      rw [this]
      exact e
  · left
    omega
structure CellSt (B b bm n d : Nat) (sy : Int) (st rv : Value) (w : World) (u : Value) (xs : List Int) (W : World) : Prop where
  mac : Blk W bm 26 #[.int .i64 sy, st, rv]
  own : OwnInts w.heap.size W u xs
  src : Src B W b (n + d)
  grown : w.grownBy W (some b)
theorem CellSt.ext {B b bm n d : Nat} {sy : Int} {st rv : Value} {w : World} {u : Value} {xs : List Int} {W W' : World} (h : CellSt B b bm n d sy st rv w u xs W) (he : Ext W W') : CellSt B b bm n d sy st rv w u xs W' :=
  ⟨h.mac.ext he, ownsRow_ext h.own he, h.src.ext he, grownBy_trans h.grown (ext_grownBy he _)⟩
theorem CellSt.src' {B b bm n d d' : Nat} {sy : Int} {st rv : Value} {w : World} {u : Value} {xs : List Int} {W W' : World} (h : CellSt B b bm n d sy st rv w u xs W) (hs : Src B W' b (n + d')) (hg : W.grownBy W' (some b)) : CellSt B b bm n d' sy st rv w u xs W' :=
  ⟨blk_src h.src hg h.mac (by decide), own_src h.src hg h.own (by decide), hs, grownBy_trans h.grown hg⟩
theorem CellSt.snoc {B b bm n d : Nat} {sy : Int} {st rv : Value} {w : World} {u v : Value} {xs ys : List Int} {W W' : World} (h : CellSt B b bm n d sy st rv w u xs W) (hB : B ≤ w.heap.size) (hb : b < w.heap.size)
    (ho : OwnInts w.heap.size W' v ys) (hg : W.grownBy W' u.ownBlock) : CellSt B b bm n d sy st rv w v ys W' :=
  ⟨Blk.apart h.mac h.own (by decide) hg, ho, h.src.kept hg (fun k hk => by have := (h.own.lt k hk).1; exact ⟨by omega, by omega⟩),
   grownBy_step h.grown hg (fun k hk => .inl (h.own.lt k hk).1)⟩
set_option maxRecDepth 20000 in
set_option maxHeartbeats 4000000 in
theorem l05DrawCells_c (B b bm n : Nat) (sy : Int) (st rv : Value) (w : World) (h : Src B w b n) (hB : B ≤ w.heap.size) (hm : Blk w bm 26 #[.int .i64 sy, st, rv]) (h2 : 2 ≤ sy) (h6 : sy ≤ 6) (hn : n ≤ 100000000000) :
    Calls Tryz.prog 16 #[.pointer (some ⟨b, 0, none⟩), .pointer (some ⟨bm, 0, none⟩)] w fun e w' => (∃ u xs, e = .returned u ∧ OwnInts w.heap.size w' u xs ∧ sideOk xs sy 200 = true) ∧ Src B w' b (n + 1000) ∧ w.grownBy w' (some b) := by
  obtain ⟨i0, hi, hz0, hz1, hz2⟩ := info_parts intInfo
  have hbl := h.lt
  obtain ⟨W, hW⟩ : ∃ W, W = w.alloc (.cells #[] 2) := ⟨_, rfl⟩
  have hX : Ext w W := by rw [hW]; exact Ext.alloc _ _
  have st0 : CellSt B b bm n 0 sy st rv w (.slice (some ⟨w.heap.size, 0, none⟩) 0 0) [] W :=
    ⟨hm.ext hX, ⟨by simp [ivs], .inr ⟨w.heap.size, 0, #[], rfl, Nat.le_refl _, by rw [hW]; exact heap_alloc_new w _, by simp, by unfold maxLen; omega, rfl, by simp [ivs]⟩⟩, h.ext hX, ext_grownBy hX _⟩
  have HB := Lib.hid hB
  have HBL := Lib.hid hbl
  clear h hm hX
  go_enter Tryz.func16, Tryz.ntmps16
  go_wp2_with fail
  rw [← hW]
  clear hW hB hbl
  refine (pick_c B b _ 5 W st0.src (by omega)).mono ?_
  rintro e w1 ⟨⟨x, rfl, x0, _, x2⟩, hs1, hg1⟩
  have x3 := x2 (by omega)
  clear x2
  have st1 := st0.src' (d' := 2) hs1 hg1
  obtain ⟨K, rfl⟩ := Int.eq_ofNat_of_zero_le x0
  clear st0 hs1 hg1
  go_wp2
  go_loopw [5, 6] (fun u i wr => ∃ (xs : List Int), xs.length ≤ K ∧ i = .int .i64 ((K - xs.length : Nat) : Int) ∧ CellSt B b bm n (2 + 2 * xs.length) sy st rv w u xs wr ∧ Hid (∀ z ∈ xs, 0 ≤ z ∧ z < sy)) (fun _ i _ => (intOf i).toNat)
  case atStart => exact ⟨[], Nat.zero_le _, rfl, st1, Lib.hid (fun z hz => by simp at hz)⟩
  case round =>
    clear st1
    obtain ⟨xs, hk, rfl, stk, HA⟩ := hrel
    obtain ⟨Au, cu, rfl, _, _⟩ := stk.own.ints.form
    by_cases hlt : xs.length < K
    · have hd : decide ((0 : Int) < ((K - xs.length : Nat) : Int)) = true := by simp; omega
      have m0 := stk.mac.cell 0
      simp only [List.getElem?_toArray, List.getElem?_cons_zero] at m0
      go_wp2_with fail
      refine (pick_c B b _ sy _ stk.src (by omega)).mono ?_
      rintro e w2 ⟨⟨z, rfl, z0, _, z2⟩, hs2, hg2⟩
      have HZ := Lib.hid (z2 (by omega))
      have st2 := stk.src' (d' := 2 + 2 * xs.length + 2) hs2 hg2
      have HZ0 := Lib.hid z0
      clear stk hs2 hg2 m0 z2 z0
      have ho1 : w2.ownsRow w.heap.size 2 1 (.slice Au xs.length cu) xs.length (ivs xs) := st2.own
      have ho' := ho1.alloc (.cells #[.int .i64 z] 2)
      have st3 := st2.ext (Ext.alloc w2 (.cells #[.int .i64 z] 2))
      have hs := st2.grown.size
      go_wp2_with (at_builtin; refine wpList_append_own_at _ rfl _ _ 27 rfl w.heap.size 2 i0 (.int .i64 0) 1 8 Tryz.underlying27 hi hz0 hz1 hz2 rfl (by decide) _ _ _ rfl ho' ⟨w2.heap.size, 0, none⟩ 1 1 [.int .i64 z] rfl rfl (cell_one_new _ _ _) ?c2 ?c3 ?c4 ?c5 ?_)
      case c2 => intro u hu; simp at hu; subst hu; rfl
      case c3 => unfold maxLen; omega
      case c4 => omega
      case c5 => simp; omega
      intro v' w4 hown4 hg4 _ hloc
      obtain ⟨A', c', rfl, _, _, _⟩ := (ownsRow_row hown4).form
      have st4 := st3.snoc (ys := xs ++ [z]) HB.out HBL.out (by simpa [OwnInts, ivs_append, ivs] using hown4) hg4
      have hKk : ((K - xs.length : Nat) : Int) - 1 = ((K - (xs.length + 1) : Nat) : Int) := by omega
      have HS := Lib.hid st4
      clear st2 st3 st4 ho' ho1 hown4 hg4
      go_wp2
      go_roundw
      case rel => exact ⟨xs ++ [z], by simp; omega, by first | (rw [hKk]; simp; done) | (simp; done) | (simp; omega), by simpa [Nat.mul_add, Nat.add_assoc] using HS.out, Lib.hid (fun y hy => by
        rcases List.mem_append.1 hy with hy | hy
        · exact HA.out y hy
        · rw [List.mem_singleton.1 hy]; exact ⟨HZ0.out, HZ.out⟩)⟩
      case measure => simp [intOf]; omega
    · have hke : xs.length = K := by omega
      have HKE := Lib.hid hke
      clear hke
      have hd : decide ((0 : Int) < ((K - xs.length : Nat) : Int)) = false := by simp; omega
      go_wp2_with fail
      refine (one_c B b _ 40 _ stk.src (by omega)).mono ?_
      rintro e w2 ⟨⟨q, rfl⟩, hs2, hg2⟩
      have st2 := stk.src' (d' := 2 + 2 * xs.length + 2) hs2 hg2
      clear stk hs2 hg2 hd
      cases q with
      | false =>
        go_wp2_with fail
        refine (l05Trim_c _ xs w2 st2.own.ints (by omega)).mono ?_
        rintro e w3 ⟨u, rfl, ho3, hx3⟩
        have st3 := st2.ext hx3
        obtain ⟨A3, c3, rfl, _, _, _⟩ := (ownsRow_row ho3).form
        go_wp2
        go_ret
        exact ⟨⟨_, _, rfl, ownsRow_base ho3 st2.grown.size, trim_side (by omega) HA.out⟩, st3.src.mono (by omega), st3.grown⟩
      | true =>
        go_wp2_with fail
        refine (pick_c B b _ 2 _ st2.src (by omega)).mono ?_
        rintro e w3 ⟨⟨y, rfl, y0, _, y2⟩, hs3, hg3⟩
        have y3 := y2 (by omega)
        clear y2
        have st3 := st2.src' (d' := 2 + 2 * xs.length + 2 + 2) hs3 hg3
        clear st2 hs3 hg3
        obtain ⟨M, hM⟩ : ∃ M : Nat, 199 + y = (M : Int) := ⟨(199 + y).toNat, by omega⟩
        have hM1 : 199 ≤ M ∧ M ≤ 200 := by omega
        go_wp2
        have hL0 : xs.length ≤ 4 := by have := HKE.out; omega
        have HL0 : Hid (xs.length ≤ 4) := hL0
        obtain ⟨L0, hL0e⟩ : ∃ L0, L0 = xs.length := ⟨_, rfl⟩
        have HLE := Lib.hid hL0e
        have hL4 : L0 ≤ 4 := by omega
        clear hL0e hL0
        go_loopw [5, 7] (fun u i wr => ∃ (ys : List Int), L0 ≤ ys.length ∧ ys.length ≤ L0 + M ∧ i = .int .i64 ((L0 + M - ys.length : Nat) : Int) ∧ CellSt B b bm n (20 + 2 * ys.length) sy st rv w u ys wr ∧ Hid (∀ z ∈ ys, 0 ≤ z ∧ z < sy)) (fun _ i _ => (intOf i).toNat)
        case atStart => exact ⟨xs, by rw [HLE.out]; exact Nat.le_refl _, by have := HLE.out; omega, by congr 1; have := HLE.out; omega, ⟨st3.mac, st3.own, st3.src.mono (by have := HL0.out; omega), st3.grown⟩, HA⟩
        case round =>
          clear st3 HA hM
          obtain ⟨ys, hj0, hj, rfl, stj, HA⟩ := hrel
          obtain ⟨Au, cu, rfl, hcu, hcu'⟩ := stj.own.ints.form
          by_cases hlt : ys.length < L0 + M
          · have hd : decide ((0 : Int) < ((L0 + M - ys.length : Nat) : Int)) = true := by simp; omega
            go_wp2_with fail
            refine (pick_c B b _ 2 _ stj.src (by omega)).mono ?_
            rintro e w2 ⟨⟨z, rfl, z0, _, z2⟩, hs2, hg2⟩
            have HZ := Lib.hid (z2 (by omega))
            have st2 := stj.src' (d' := 20 + 2 * ys.length + 2) hs2 hg2
            have HZ0 := Lib.hid z0
            clear stj hs2 hg2 z2 z0
            have ho1 : w2.ownsRow w.heap.size 2 1 (.slice Au ys.length cu) ys.length (ivs ys) := st2.own
            have ho' := ho1.alloc (.cells #[.int .i64 z] 2)
            have st3 := st2.ext (Ext.alloc w2 (.cells #[.int .i64 z] 2))
            have hs := st2.grown.size
            go_wp2_with (at_builtin; refine wpList_append_own_at _ rfl _ _ 27 rfl w.heap.size 2 i0 (.int .i64 0) 1 8 Tryz.underlying27 hi hz0 hz1 hz2 rfl (by decide) _ _ _ rfl ho' ⟨w2.heap.size, 0, none⟩ 1 1 [.int .i64 z] rfl rfl (cell_one_new _ _ _) ?c2 ?c3 ?c4 ?c5 ?_)
            case c2 => intro u hu; simp at hu; subst hu; rfl
            case c3 => unfold maxLen; omega
            case c4 => omega
            case c5 => simp; omega
            intro v' w4 hown4 hg4 _ hloc
            obtain ⟨A', c', rfl, _, _, _⟩ := (ownsRow_row hown4).form
            have st4 := st3.snoc (ys := ys ++ [z]) HB.out HBL.out (by simpa [OwnInts, ivs_append, ivs] using hown4) hg4
            have hKk : ((L0 + M - ys.length : Nat) : Int) - 1 = ((L0 + M - (ys.length + 1) : Nat) : Int) := by omega
            have HS := Lib.hid st4
            clear st2 st3 st4 ho' ho1 hown4 hg4
            go_wp2
            go_roundw
            case rel => exact ⟨ys ++ [z], by simp; omega, by simp; omega, by first | (rw [hKk]; simp; done) | (simp; done) | (simp; omega), by simpa [Nat.mul_add, Nat.add_assoc] using HS.out, Lib.hid (fun y hy => by
              rcases List.mem_append.1 hy with hy | hy
              · exact HA.out y hy
              · rw [List.mem_singleton.1 hy]; exact ⟨HZ0.out, by have := HZ.out; omega⟩)⟩
            case measure => simp [intOf]; omega
          · have hje : 199 ≤ ys.length := by omega
            have hje2 : ys.length ≤ 204 := by omega
            have hd : decide ((0 : Int) < ((L0 + M - ys.length : Nat) : Int)) = false := by simp; omega
            have hA0 : Au ≠ none := by
              intro e
              have := stj.own.2
              rcases this with ⟨e1, _⟩ | ⟨g, _, _, e1, _⟩
              · injection e1 with e1 e2; omega
              · injection e1 with e1; rw [e] at e1; exact absurd e1 (by simp)
            have hot : OwnInts w.heap.size wr (.slice Au 199 cu) (ys.take 199) := OwnInts.take stj.own 199 (by omega) hA0
            have htl : (ys.take 199).length = 199 := by simp; omega
            have HT : Hid (∀ z ∈ ys.take 199, 0 ≤ z ∧ z < sy) := Lib.hid (fun z hz => HA.out z (List.mem_of_mem_take hz))
            have stt : CellSt B b bm n (20 + 2 * ys.length) sy st rv w (.slice Au 199 cu) (ys.take 199) wr := ⟨stj.mac, hot, stj.src, stj.grown⟩
            generalize ys.take 199 = ts at *
            have ho1 : wr.ownsRow w.heap.size 2 1 (.slice Au 199 cu) 199 (ivs ts) := by
              have := stt.own
              unfold OwnInts at this
              rw [htl] at this
              exact this
            have ho' := ho1.alloc (.cells #[.int .i64 1] 2)
            have st3 := stt.ext (Ext.alloc wr (.cells #[.int .i64 1] 2))
            have hs := stt.grown.size
            have hc9 : 199 ≤ cu := by omega
            clear stj hot stt
            go_wp2_with (at_builtin; refine wpList_append_own_at _ rfl _ _ 27 rfl w.heap.size 2 i0 (.int .i64 0) 1 8 Tryz.underlying27 hi hz0 hz1 hz2 rfl (by decide) _ _ _ rfl ho' ⟨wr.heap.size, 0, none⟩ 1 1 [.int .i64 1] rfl rfl (cell_one_new _ _ _) ?c2 ?c3 ?c4 ?c5 ?_)
            case c2 => intro u hu; simp at hu; subst hu; rfl
            case c3 => unfold maxLen; omega
            case c4 => omega
            case c5 => simp; omega
            intro v' w4 hown4 hg4 _ hloc
            obtain ⟨A', c', rfl, _, _, _⟩ := (ownsRow_row hown4).form
            have st4 := st3.snoc (ys := ts ++ [1]) HB.out HBL.out (by simpa [OwnInts, ivs_append, ivs, htl] using hown4) hg4
            have HL : Hid ((ts ++ [1]).length = 200) := Lib.hid (by simp [htl])
            have HQ : Hid (∀ z ∈ ts ++ [1], 0 ≤ z ∧ z < sy) := Lib.hid (fun z hz => by
              rcases List.mem_append.1 hz with hz | hz
              · exact HT.out z hz
              · rw [List.mem_singleton.1 hz]; omega)
            generalize ts ++ [1] = us at *
            clear st3 ho' ho1 hown4 hg4
            go_wp2_with fail
            refine (l05Trim_c _ us w4 st4.own.ints (by rw [HL.out]; omega)).mono ?_
            rintro e w5 ⟨u, rfl, ho5, hx5⟩
            have st5 := st4.ext hx5
            obtain ⟨A3, c3, rfl, _, _, _⟩ := (ownsRow_row ho5).form
            go_wp2
            go_ret
            exact ⟨⟨_, _, rfl, ownsRow_base ho5 st4.grown.size, trim_side (by rw [HL.out]; omega) HQ.out⟩, st5.src.mono (by omega), st5.grown⟩
end Go.Proofs.YtcebkjiafjmjfaaGreatDoor
end
