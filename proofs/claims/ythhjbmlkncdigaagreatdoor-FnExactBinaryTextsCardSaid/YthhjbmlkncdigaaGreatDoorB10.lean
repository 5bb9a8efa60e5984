/- Contracts of the program's reversed and joined lists, and of the library's Grow of nil and Concat. Lists are short.
Plain words on the program's runs of a machine: sides grow and shrink at their near ends.
What a store into one block leaves of other blocks and rows. No condition. -/
import Derived.Test.YthhjbmlkncdigaaGreatDoorB09
import Derived.Lib.OwnBridge
import Derived.Lib.AppendZerosOnto
import Derived.Laws.AppendOwnNone
import Derived.Test.YthhjbmlkncdigaaGreatDoorB06
import Derived.Test.YthhjbmlkncdigaaGreatDoorB01
section
set_option linter.unusedSimpArgs false
set_option linter.unusedVariables false
namespace Go.Proofs.YthhjbmlkncdigaaGreatDoor
open Go Go.RowKit Go.Proofs
set_option maxHeartbeats 400000
/-- A slice that is nil, or whose address is one of a plain cell. -/
def Flat (v : Value) : Prop := v = .slice none 0 0 ∨ ∃ b off n c, v = .slice (some ⟨b, off, none⟩) n c
theorem OwnInts.flat {base : Nat} {w : World} {v : Value} {zs : List Int} (h : OwnInts base w v zs) : Flat v := by
  rcases h.2 with ⟨rfl, _⟩ | ⟨g, cap, cur, rfl, _⟩
  · exact .inl rfl
  · exact .inr ⟨g, 0, _, cap, rfl⟩
theorem CloneF_c (v : Value) (zs : List Int) (w : World) (h : Ints w v zs) (hf : Flat v) (h1 : zs.length ≤ 1048576) :
    Calls Tryz.prog 70 #[v] w fun e w' => ∃ u, e = .returned u ∧ OwnInts w.heap.size w' u zs ∧ (u = .slice none 0 0 → zs = []) ∧ Ext w w' := by
  obtain ⟨i0, hi, hz0, hz1, hz2⟩ := info_parts intInfo
  have hm : zs.length ≤ maxLen := by unfold maxLen; omega
  obtain ⟨A, c, rfl, _, _⟩ := id h.form
  rcases hf with hf | ⟨b, off, n, c', hf⟩
  · injection hf with e1 e2 e3
    subst e1 e3
    have hz : zs = [] := List.length_eq_zero_iff.1 e2
    subst hz
    refine (Tryz.slices_Clone_nil _ _ w).mono ?_
    rintro e w' ⟨rfl, rfl⟩
    exact ⟨_, rfl, ⟨by simp, .inl ⟨rfl, rfl⟩⟩, fun _ => rfl, Ext.refl _⟩
  · injection hf with e1 e2 e3
    subst e1 e3
    have hc : ∀ j u, (ivs zs)[j]? = some u → w.cell? ⟨b, off + j, none⟩ = some u := by
      intro j u hj
      obtain ⟨hl, _⟩ := List.getElem?_eq_some_iff.1 hj
      rw [ivs_length] at hl
      obtain ⟨b', off', e', hc⟩ := h.at hl
      cases e'
      exact ints_cells hc j u hj
    refine (Tryz.slices_Clone i0 _ 1 8 hi hz0 hz1 hz2 rfl (by omega) intSize b off zs.length c (ivs zs) w (by simp) hm (by omega) hc (ivs_one zs)).mono ?_
    rintro e w' ⟨u, rfl, ho, hne, hb⟩
    exact ⟨u, rfl, ho, fun e => absurd e hne, hb⟩
theorem reversed_c (v : Value) (zs : List Int) (w : World) (h : Ints w v zs) (hf : Flat v) (h1 : zs.length ≤ 1048576) :
    Calls Tryz.prog 59 #[v] w fun e w' => ∃ u, e = .returned u ∧ OwnInts w.heap.size w' u zs.reverse ∧ Ext w w' := by
  obtain ⟨A, c, rfl, _, _⟩ := id h.form
  go_enter Tryz.func59, Tryz.ntmps59
  go_wp2_with fail
  refine (CloneF_c _ zs w h hf h1).mono ?_
  rintro e w1 ⟨u, rfl, ho, hne, hx⟩
  by_cases hu : u = .slice none 0 0
  · have hz := hne hu
    subst hu
    subst hz
    go_wp2_with fail
    refine (Tryz.slices_Reverse_empty (α := Int) none 0 w1).mono ?_
    rintro e w2 ⟨rfl, rfl⟩
    go_wp2
    go_ret
    exact ⟨_, rfl, by simpa using ho, hx⟩
  · obtain ⟨g, cap, rfl, hg, hgl, _, _, _, hH⟩ := Lib.holds_of_ownsRow (enc := Value.int .i64) (zs := zs) ho hu
    go_wp2_with fail
    refine (Tryz.slices_Reverse (Value.int .i64) (fun _ => rfl) g 0 cap zs w1 hH (by omega)).mono ?_
    rintro e w2 ⟨rfl, q, rfl⟩
    go_wp2
    go_ret
    refine ⟨_, rfl, ?_, Lib.below_putRow hx hg⟩
    have := Lib.ownsRow_putRow (enc := Value.int .i64) (q := q) (ys := zs.reverse) (zs := zs) ho (by simp) (Nat.le_refl _)
    rw [List.take_of_length_le (by simp)] at this
    unfold OwnInts
    rw [List.length_reverse]
    exact this
end Go.Proofs.YthhjbmlkncdigaaGreatDoor
end
section
namespace Go.Proofs.YthhjbmlkncdigaaGreatDoor
open Go Go.RowKit Go.Proofs
def pushL (s : Int) (xs : List Int) : List Int := if s = 0 ∧ xs = [] then [] else s :: xs
def hdD (xs : List Int) : Int := xs.getD 0 0
/-- The rule that a configuration looks at. -/
def lookI (m : MachD) (c : ConfD) : RuleD := m.rules.getD (c.q * m.sy + hdD c.r).toNat noR
/-- The configuration behind a step. -/
def stepI (ru : RuleD) (c : ConfD) : ConfD :=
  if 0 < ru.m then ⟨ru.n, pushL ru.w c.l, c.r.drop 1⟩ else ⟨ru.n, c.l.drop 1, pushL (hdD c.l) (pushL ru.w (c.r.drop 1))⟩
def cfgI (m : MachD) (c : ConfD) : Nat → ConfD
  | 0 => c
  | t + 1 => stepI (lookI m (cfgI m c t)) (cfgI m c t)
def fitI (c : ConfD) : Bool := decide (c.l.length ≤ 200) && decide (c.r.length ≤ 200)
/-- A configuration of a machine. -/
structure IGood (m : MachD) (c : ConfD) : Prop where
  q0 : 0 ≤ c.q
  q1 : c.q < m.st
  l : ∀ z ∈ c.l, 0 ≤ z ∧ z < m.sy
  r : ∀ z ∈ c.r, 0 ≤ z ∧ z < m.sy
theorem hdD_of {xs : List Int} {sy : Int} (h : ∀ z ∈ xs, 0 ≤ z ∧ z < sy) (h0 : 0 < sy) : 0 ≤ hdD xs ∧ hdD xs < sy := by
  unfold hdD
  cases xs with
  | nil => exact ⟨by simp, by simpa using h0⟩
  | cons a l => exact h a List.mem_cons_self
theorem machOk_five {m : MachD} (h : machOk m = true) : (2 ≤ m.sy ∧ m.sy ≤ 6 ∧ 1 ≤ m.st ∧ m.st ≤ 1000) ∧ (m.rules.length : Int) = m.sy * m.st ∧ ∀ r ∈ m.rules, ruleOk m.sy m.st r = true := by
  simp only [machOk, inB, Bool.and_eq_true, decide_eq_true_eq, List.all_eq_true] at h
  refine ⟨by omega, by omega, h.2⟩
theorem IGood.idx {m : MachD} (hm : machOk m = true) {c : ConfD} (h : IGood m c) : ∃ k : Nat, k < m.rules.length ∧ c.q * m.sy + hdD c.r = (k : Int) := by
  obtain ⟨⟨s1, _, _, _⟩, hl, _⟩ := machOk_five hm
  have a := hdD_of h.r (by omega)
  have e1 := Int.mul_nonneg h.q0 (show 0 ≤ m.sy by omega)
  have e2 : c.q * m.sy + m.sy ≤ m.st * m.sy := by
    have := Int.mul_le_mul_of_nonneg_right (show c.q + 1 ≤ m.st from h.q1) (show 0 ≤ m.sy by omega)
    rw [Int.add_mul, Int.one_mul] at this
    exact this
  rw [Int.mul_comm] at hl
  exact ⟨(c.q * m.sy + hdD c.r).toNat, by omega, by omega⟩
theorem lookI_get {m : MachD} {c : ConfD} {k : Nat} (hk : k < m.rules.length) (e : c.q * m.sy + hdD c.r = (k : Int)) : lookI m c = m.rules[k] := by
  unfold lookI
  rw [e, Int.toNat_natCast, List.getD_eq_getElem?_getD, List.getElem?_eq_getElem hk]
  rfl
theorem pushL_mem {s z : Int} {xs : List Int} (h : z ∈ pushL s xs) : z = s ∨ z ∈ xs := by
  unfold pushL at h
  split at h
  · cases h
  · simpa using h
theorem pushL_len (s : Int) (xs : List Int) : (pushL s xs).length ≤ xs.length + 1 := by
  unfold pushL
  split <;> simp
theorem IGood.step {m : MachD} (hm : machOk m = true) {c : ConfD} (h : IGood m c) (hr : ¬ lookI m c = noR) : IGood m (stepI (lookI m c) c) := by
  obtain ⟨⟨s1, _, _, _⟩, _, hall⟩ := machOk_five hm
  obtain ⟨k, hk, e⟩ := h.idx hm
  rw [lookI_get hk e] at hr ⊢
  have hq := hall _ (List.getElem_mem hk)
  simp only [ruleOk, hr, decide_false, Bool.false_or, Bool.and_eq_true, inB, decide_eq_true_eq] at hq
  have hl := hdD_of h.l (by omega)
  unfold stepI
  split
  · refine ⟨by simp; omega, by simp; omega, fun z hz => ?_, fun z hz => h.r z (List.mem_of_mem_drop hz)⟩
    rcases pushL_mem hz with rfl | hz
    · omega
    · exact h.l z hz
  · refine ⟨by simp; omega, by simp; omega, fun z hz => h.l z (List.mem_of_mem_drop hz), fun z hz => ?_⟩
    rcases pushL_mem hz with rfl | hz
    · exact hl
    · rcases pushL_mem hz with rfl | hz
      · omega
      · exact h.r z (List.mem_of_mem_drop hz)
/-- So many steps are made from c. -/
structure RunsTo (m : MachD) (c : ConfD) (n : Nat) : Prop where
  no : ∀ i < n, ¬ lookI m (cfgI m c i) = noR
  fit : ∀ i ≤ n, fitI (cfgI m c i) = true
theorem RunsTo.zero {m : MachD} {c : ConfD} (h : fitI c = true) : RunsTo m c 0 := ⟨fun i hi => by omega, fun i hi => by
  have : i = 0 := by omega
  subst this; exact h⟩
theorem RunsTo.succ {m : MachD} {c : ConfD} {n : Nat} (h : RunsTo m c n) (h1 : ¬ lookI m (cfgI m c n) = noR) (h2 : fitI (cfgI m c (n + 1)) = true) : RunsTo m c (n + 1) :=
  ⟨fun i hi => if e : i = n then e ▸ h1 else h.no i (by omega), fun i hi => if e : i = n + 1 then e ▸ h2 else h.fit i (by omega)⟩
theorem cfg_good {m : MachD} (hm : machOk m = true) {c : ConfD} (hc : IGood m c) : ∀ n, (∀ i < n, ¬ lookI m (cfgI m c i) = noR) → IGood m (cfgI m c n) := by
  intro n
  induction n with
  | zero => intro _; exact hc
  | succ n ih => intro h; exact (ih fun i hi => h i (by omega)).step hm (h n (by omega))
end Go.Proofs.YthhjbmlkncdigaaGreatDoor
end
section
namespace Go.Proofs.YthhjbmlkncdigaaGreatDoor
open Go Go.RowKit Go.Proofs
theorem Blk.kept {w w' : World} {g : Nat} {t : TypeId} {cs : Array Value} {row : Option Nat} (h : Blk w g t cs) (hg : w.grownBy w' row) (hne : some g ≠ row) : Blk w' g t cs := (hg.block g h.lt hne).trans h
theorem blk_ne_row {w : World} {g : Nat} {t : TypeId} {cs : Array Value} (hb : Blk w g t cs) {base : Nat} {e : TypeId} {size : Nat} {v : Value} {n : Nat} {xs : List Value} (ho : w.ownsRow base e size v n xs) (hne : t ≠ e) : some g ≠ v.ownBlock := by
  rcases ho.2 with ⟨rfl, _⟩ | ⟨g', cap, cur, rfl, _, hh, _⟩
  · simp [Value.ownBlock]
  · intro he
    have : g = g' := by simpa [Value.ownBlock] using he
    subst this
    unfold Blk at hb
    rw [hb] at hh
    injection hh with hh
    injection hh with _ ht
    exact hne ht
theorem own_kept {w w' : World} {base : Nat} {e : TypeId} {size : Nat} {v : Value} {n : Nat} {xs : List Value} {g : Nat} (h : w.ownsRow base e size v n xs) (hg : w.grownBy w' (some g)) (hne : some g ≠ v.ownBlock) : w'.ownsRow base e size v n xs := h.kept hg (.inr (Ne.symm hne))
theorem grownBy_setCell (w : World) (p : Addr) (u : Value) : w.grownBy (w.setCell p u) (some p.block) :=
  ⟨rfl, rfl, rfl, by simp [World.setCell], fun k _ hk => Below.heap_setCell w p u k (fun e => hk (by rw [e]))⟩
theorem blk_type {w : World} {g : Nat} {t t' : TypeId} {cs cs' : Array Value} (h : Blk w g t cs) (h' : Blk w g t' cs') : t = t' := by
  unfold Blk at h h'
  rw [h] at h'
  injection h' with h'
  injection h' with _ e
theorem blk_ne {w : World} {g g' : Nat} {t t' : TypeId} {cs cs' : Array Value} (h : Blk w g t cs) (h' : Blk w g' t' cs') (ht : t ≠ t') : g ≠ g' := by
  rintro rfl
  exact ht (blk_type h h')
end Go.Proofs.YthhjbmlkncdigaaGreatDoor
end
