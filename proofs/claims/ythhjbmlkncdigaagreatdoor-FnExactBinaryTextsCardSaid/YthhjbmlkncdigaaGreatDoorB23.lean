/- Plain words: the codes of symbols, what codes stand for, the beginning of the run of the machine with two symbols and its texts.
Plain words: what the loops over codes come to.
Contracts of the program's words on bits and of its reading of a bit. -/
import Derived.Test.YthhjbmlkncdigaaGreatDoorB22
import Derived.Test.YthhjbmlkncdigaaGreatDoorB06
import Derived.Test.YthhjbmlkncdigaaGreatDoorB16
import Derived.Test.YthhjbmlkncdigaaGreatDoorB19
import Derived.Test.YthhjbmlkncdigaaGreatDoorB17
import Derived.Test.YthhjbmlkncdigaaGreatDoorB02
import Derived.Test.YthhjbmlkncdigaaGreatDoorB15
section
set_option linter.unusedSimpArgs false
set_option linter.unusedVariables false
namespace Go.Proofs.YthhjbmlkncdigaaGreatDoor
open Go Go.RowKit Go.Proofs
/-- The code of a symbol; the codes of a list, each in order or turned round. -/
def codeB (b x : Int) : List Int := (List.range b.toNat).map fun k : Nat => bitD x b (k : Int)
def codesB (b : Int) (xs : List Int) : List Int := xs.flatMap (codeB b)
def codesR (b : Int) (xs : List Int) : List Int := xs.flatMap fun x => (codeB b x).reverse
theorem codes_back (b : Int) (xs : List Int) : (codesB b xs.reverse).reverse = codesR b xs := by
  induction xs with
  | nil => rfl
  | cons x xs ih =>
    simp only [codesB, codesR] at ih ⊢
    rw [List.reverse_cons, List.flatMap_append, List.reverse_append, ih]
    simp
theorem codeB_length (b x : Int) : (codeB b x).length = b.toNat := by simp [codeB]
theorem codesB_length (b : Int) (xs : List Int) : (codesB b xs).length = xs.length * b.toNat := by
  induction xs with
  | nil => simp [codesB]
  | cons x xs ih =>
    simp only [codesB] at ih ⊢
    rw [List.flatMap_cons, List.length_append, ih, codeB_length, List.length_cons, Nat.succ_mul]
    omega
theorem codesR_length (b : Int) (xs : List Int) : (codesR b xs).length = xs.length * b.toNat := by
  rw [← codes_back, List.length_reverse, codesB_length, List.length_reverse]
/-- The number of some bits. -/
def numB (f : Nat → Int) : Nat → Int
  | 0 => 0
  | n + 1 => 2 * numB f n + f n
theorem numB_congr {f g : Nat → Int} : ∀ n, (∀ i, i < n → f i = g i) → numB f n = numB g n
  | 0, _ => rfl
  | n + 1, h => by
    show 2 * numB f n + f n = 2 * numB g n + g n
    rw [numB_congr n (fun i hi => h i (by omega)), h n (by omega)]
theorem numB_range {f : Nat → Int} (h : ∀ i, 0 ≤ f i ∧ f i ≤ 1) : ∀ n, n ≤ 3 → 0 ≤ numB f n ∧ numB f n ≤ 7 := by
  intro n hn
  have h0 := h 0
  have h1 := h 1
  have h2 := h 2
  have hc : n = 0 ∨ n = 1 ∨ n = 2 ∨ n = 3 := by omega
  rcases hc with rfl | rfl | rfl | rfl <;> simp only [numB] <;> omega
/-- One group of bits, read in order or turned round. -/
def grpF (b : Nat) (side : List Int) (k : Nat) : Int := numB (fun i => side.getD (k * b + i) 0) b
def grpR (b : Nat) (side : List Int) (k : Nat) : Int := numB (fun i => side.getD (k * b + (b - 1 - i)) 0) b
def grps (b n : Nat) : Nat := (n + b - 1) / b
def decG (sy : Int) (xs : List Int) : Option (List Int) := if ∀ x ∈ xs, x < sy then some (trim xs) else none
def listF (b : Nat) (side : List Int) : List Int := (List.range (grps b side.length)).map (grpF b side)
def listR (b : Nat) (side : List Int) : List Int := (List.range (grps b side.length)).map (grpR b side)
/-- The symbols of the bits of the right and of the left side. -/
def decF (b : Nat) (sy : Int) (side : List Int) : Option (List Int) := decG sy (listF b side)
def decR (b : Nat) (sy : Int) (side : List Int) : Option (List Int) := decG sy (listR b side)
/-- The text of a configuration of the machine with two symbols. -/
def txtP (m : MachD) (p : BP) (x : ConfD) : List UInt8 :=
  if p.k = 0 ∧ p.b = 0 then
    match decR (bitsD m.sy).toNat m.sy x.l, decF (bitsD m.sy).toNat m.sy x.r with
    | some l, some r => confT ⟨p.a, l, r⟩
    | _, _ => []
  else []
def txtB (m : MachD) (s : List BP × List RuleD) (x : ConfD) : List UInt8 := txtP m (s.1.getD x.q.toNat bp0) x
/-- The beginning of the run, and its code. -/
def startY (m : MachD) (c : ConfD) (s : List BP × List RuleD) : ConfD := ⟨(s.1.idxOf ⟨0, c.q, 0, 0⟩ : Nat), trim (codesR (bitsD m.sy) c.l), trim (codesB (bitsD m.sy) c.r)⟩
def startBi (m : MachD) (c : ConfD) : ConfD × Int :=
  match binB m with
  | none => (blankC, 5)
  | some s => if (⟨0, c.q, 0, 0⟩ : BP) ∈ s.1 then (if confB (binM s) (startY m c s) then (startY m c s, 0) else (blankC, 5)) else (blankC, 6)
/-- The texts and the code of the whole call. -/
def BTxt (m : MachD) (c : ConfD) (n : Int) (L : List (List UInt8)) (k : Int) : Prop :=
  if machOk m && confB m c then
    if inB n 0 599 then
      if (startBi m c).2 = 0 then ∃ s, binB m = some s ∧ TRun (binM s) (startBi m c).1 n.toNat (txtB m s) L k
      else L = [] ∧ k = (startBi m c).2
    else L = [] ∧ k = 2
  else L = [] ∧ k = 1
theorem BTxt.unique {m : MachD} {c : ConfD} {n : Int} {L L' : List (List UInt8)} {k k' : Int} (h : BTxt m c n L k) (h' : BTxt m c n L' k') : L = L' ∧ k = k' := by
  unfold BTxt at h h'
  split at h
  · rename_i h0
    rw [if_pos h0] at h'
    split at h
    · rename_i h1
      rw [if_pos h1] at h'
      split at h
      · rename_i h2
        rw [if_pos h2] at h'
        obtain ⟨s, e, ht⟩ := h
        obtain ⟨s', e', ht'⟩ := h'
        rw [e] at e'
        cases e'
        exact ht.unique ht'
      · rename_i h2
        rw [if_neg h2] at h'
        exact ⟨h.1.trans h'.1.symm, h.2.trans h'.2.symm⟩
    · rename_i h1
      rw [if_neg h1] at h'
      exact ⟨h.1.trans h'.1.symm, h.2.trans h'.2.symm⟩
  · rename_i h0
    rw [if_neg h0] at h'
    exact ⟨h.1.trans h'.1.symm, h.2.trans h'.2.symm⟩
theorem BTxt.len {m : MachD} {c : ConfD} {n : Int} {L : List (List UInt8)} {k : Int} (h : BTxt m c n L k) : L.length ≤ 600 := by
  unfold BTxt at h
  split at h
  · split at h
    · rename_i h1
      have h1 := inB_iff.1 h1
      split at h
      · obtain ⟨s, _, ht⟩ := h
        rcases ht with ⟨T, hE, rfl, _⟩ | ⟨_, rfl, _⟩
        · have := hE.le
          simp
          omega
        · simp
      · rw [h.1]; simp
    · rw [h.1]; simp
  · rw [h.1]; simp
/-- A place from which a symbol is read is known by two of its numbers. -/
theorem start_place {m : MachD} {p : BP} (hp : BiOk m p) : (p.k = 0 ∧ p.b = 0) ↔ p = ⟨0, p.a, 0, 0⟩ := by
  obtain ⟨k, a, b, c⟩ := p
  constructor
  · rintro ⟨h1, h2⟩
    simp only at h1 h2
    subst h1 h2
    rcases hp with ⟨_, _, _, _, _, _, _, h, _⟩ | ⟨h, _⟩ | ⟨h, _⟩
    · have := h rfl
      simp only at this
      rw [this]
    · cases h
    · cases h
  · intro h
    injection h with h1 h2 h3 h4
    exact ⟨h1, h3⟩
end Go.Proofs.YthhjbmlkncdigaaGreatDoor
end
section
set_option linter.unusedSimpArgs false
set_option linter.unusedVariables false
namespace Go.Proofs.YthhjbmlkncdigaaGreatDoor
open Go Go.RowKit Go.Proofs
theorem grps_iff {b : Nat} (hb : b = 1 ∨ b = 2 ∨ b = 3) (n k : Nat) : k * b < n ↔ k < grps b n := by
  unfold grps
  rcases hb with rfl | rfl | rfl <;> omega
theorem grps_fit {b : Nat} (hb : b = 1 ∨ b = 2 ∨ b = 3) (n : Nat) : n ≤ grps b n * b ∧ grps b n * b < n + b ∧ grps b n ≤ n := by
  unfold grps
  rcases hb with rfl | rfl | rfl <;> omega
theorem grps_mul {b : Nat} (hb : b = 1 ∨ b = 2 ∨ b = 3) (n : Nat) : grps b (n * b) = n := by
  unfold grps
  rcases hb with rfl | rfl | rfl <;> omega
theorem getD_pad (xs : List Int) (n i : Nat) : (xs ++ List.replicate n 0).getD i 0 = xs.getD i 0 := by
  by_cases h : i < xs.length
  · rw [List.getD_eq_getElem?_getD, List.getD_eq_getElem?_getD, List.getElem?_append_left h]
  · rw [List.getD_eq_getElem?_getD, List.getD_eq_getElem?_getD, List.getElem?_append_right (by omega), List.getElem?_eq_none (l := xs) (by omega)]
    by_cases h2 : i - xs.length < n
    · rw [List.getElem?_replicate, if_pos h2]; rfl
    · rw [List.getElem?_eq_none (by simp; omega)]
theorem getD_rev {xs : List Int} {i : Nat} (h : i < xs.length) : xs.reverse.getD i 0 = xs.getD (xs.length - 1 - i) 0 := by
  rw [List.getD_eq_getElem?_getD, List.getD_eq_getElem?_getD, List.getElem?_reverse h]
theorem mul_back {n k b i : Nat} (hk : k < n) (hi : i < b) : n * b - 1 - (k * b + i) = (n - 1 - k) * b + (b - 1 - i) ∧ k * b + i < n * b := by
  obtain ⟨d, rfl⟩ : ∃ d, n = k + 1 + d := ⟨n - (k + 1), by omega⟩
  have e1 : k + 1 + d - 1 - k = d := by omega
  rw [e1, Nat.add_mul, Nat.add_mul, Nat.one_mul]
  omega
theorem list_pad {b : Nat} (hb : b = 1 ∨ b = 2 ∨ b = 3) (side : List Int) (P : List Int) (hP : P = side ++ List.replicate (grps b side.length * b - side.length) 0) :
    listF b P.reverse = (listR b side).reverse ∧ P.length = grps b side.length * b := by
  have hf := grps_fit hb side.length
  have hl : P.length = grps b side.length * b := by rw [hP]; simp; omega
  refine ⟨?_, hl⟩
  have hg : ∀ i, P.getD i 0 = side.getD i 0 := fun i => by rw [hP]; exact getD_pad _ _ _
  unfold listF listR
  rw [List.length_reverse, hl, grps_mul hb]
  generalize grps b side.length = n at *
  refine List.ext_getElem (by simp) fun k h1 h2 => ?_
  simp only [List.length_map, List.length_range] at h1
  rw [List.getElem_map, List.getElem_reverse, List.getElem_map]
  simp only [List.getElem_range, List.length_map, List.length_range]
  unfold grpF grpR
  refine numB_congr b fun i hi => ?_
  obtain ⟨m1, m2⟩ := mul_back h1 hi
  rw [getD_rev (by omega), hg, hl, m1]
theorem trim_pad (xs : List Int) : trim xs ++ List.replicate (xs.length - (trim xs).length) 0 = xs := by
  have h1 := trimN_le xs xs.length
  have hl : (trim xs).length = trimN xs xs.length := by simp [trim]; omega
  refine List.ext_getElem (by simp; omega) fun i h2 h3 => ?_
  have e := trim_get xs i
  have h4 := getD_pad (trim xs) (xs.length - (trim xs).length) i
  rw [List.getD_eq_getElem?_getD, List.getElem?_eq_getElem h2, e, List.getD_eq_getElem?_getD, List.getElem?_eq_getElem h3] at h4
  simpa using h4
theorem dec_rev {b : Nat} {sy : Int} {xs : List Int} : decG sy xs.reverse = if ∀ x ∈ xs, x < sy then some (trim xs.reverse) else none := by
  unfold decG
  simp only [List.mem_reverse]
theorem grpF_range {b : Nat} (hb : b = 1 ∨ b = 2 ∨ b = 3) {side : List Int} (h : ∀ z ∈ side, 0 ≤ z ∧ z ≤ 1) (k : Nat) : 0 ≤ grpF b side k ∧ grpF b side k ≤ 7 := by
  refine numB_range (fun i => ?_) b (by omega)
  by_cases hi : k * b + i < side.length
  · rw [List.getD_eq_getElem?_getD, List.getElem?_eq_getElem hi]
    exact h _ (List.getElem_mem hi)
  · rw [List.getD_eq_getElem?_getD, List.getElem?_eq_none (by omega)]
    exact ⟨Int.le_refl _, by decide⟩
theorem grpR_range {b : Nat} (hb : b = 1 ∨ b = 2 ∨ b = 3) {side : List Int} (h : ∀ z ∈ side, 0 ≤ z ∧ z ≤ 1) (k : Nat) : 0 ≤ grpR b side k ∧ grpR b side k ≤ 7 := by
  refine numB_range (fun i => ?_) b (by omega)
  by_cases hi : k * b + (b - 1 - i) < side.length
  · rw [List.getD_eq_getElem?_getD, List.getElem?_eq_getElem hi]
    exact h _ (List.getElem_mem hi)
  · rw [List.getD_eq_getElem?_getD, List.getElem?_eq_none (by omega)]
    exact ⟨Int.le_refl _, by decide⟩
theorem decG_all {sy : Int} {xs l : List Int} (h : decG sy xs = some l) (h0 : ∀ x ∈ xs, 0 ≤ x) : (∀ x ∈ l, 0 ≤ x ∧ x ≤ sy - 1) ∧ l.length ≤ xs.length := by
  unfold decG at h
  split at h
  · rename_i ha
    injection h with h
    subst h
    exact ⟨fun x hx => by have := ha x (trim_mem hx); have := h0 x (trim_mem hx); omega, trim_len _⟩
  · cases h
theorem decF_all {b : Nat} (hb : b = 1 ∨ b = 2 ∨ b = 3) {sy : Int} {side l : List Int} (h : ∀ z ∈ side, 0 ≤ z ∧ z ≤ 1) (hd : decF b sy side = some l) : (∀ x ∈ l, 0 ≤ x ∧ x ≤ sy - 1) ∧ l.length ≤ side.length := by
  have := decG_all hd (fun x hx => by
    simp only [listF, List.mem_map] at hx
    obtain ⟨k, _, rfl⟩ := hx
    exact (grpF_range hb h k).1)
  have h2 := grps_fit hb side.length
  simp only [listF, List.length_map, List.length_range] at this
  exact ⟨this.1, by omega⟩
theorem decR_all {b : Nat} (hb : b = 1 ∨ b = 2 ∨ b = 3) {sy : Int} {side l : List Int} (h : ∀ z ∈ side, 0 ≤ z ∧ z ≤ 1) (hd : decR b sy side = some l) : (∀ x ∈ l, 0 ≤ x ∧ x ≤ sy - 1) ∧ l.length ≤ side.length := by
  have := decG_all hd (fun x hx => by
    simp only [listR, List.mem_map] at hx
    obtain ⟨k, _, rfl⟩ := hx
    exact (grpR_range hb h k).1)
  have h2 := grps_fit hb side.length
  simp only [listR, List.length_map, List.length_range] at this
  exact ⟨this.1, by omega⟩
theorem bitsN (sy : Int) : (bitsD sy).toNat = 1 ∨ (bitsD sy).toNat = 2 ∨ (bitsD sy).toNat = 3 := by have := bitsD_range sy; omega
theorem nexts_snoc (f : Nat → Int) (k : Nat) : (List.range (k + 1)).map f = (List.range k).map f ++ [f k] := by rw [List.range_succ, List.map_append]; rfl
end Go.Proofs.YthhjbmlkncdigaaGreatDoor
end
section
set_option linter.unusedSimpArgs false
set_option linter.unusedVariables false
namespace Go.Proofs.YthhjbmlkncdigaaGreatDoor
open Go Go.RowKit Go.Proofs
set_option maxHeartbeats 400000
theorem and_bit {d : Int} (h0 : 0 ≤ d) (h7 : d ≤ 7) : bits .and .i64 d 1 = d % 2 := by
  have hd : d = 0 ∨ d = 1 ∨ d = 2 ∨ d = 3 ∨ d = 4 ∨ d = 5 ∨ d = 6 ∨ d = 7 := by omega
  rcases hd with rfl | rfl | rfl | rfl | rfl | rfl | rfl | rfl <;> decide +kernel
theorem bitAt_c (s b i : Int) (w : World) (b1 : 1 ≤ b) (b3 : b ≤ 3) (i0 : 0 ≤ i) (i1 : i < b) (s0 : 0 ≤ s) (s7 : s ≤ 7) :
    Calls Tryz.prog 64 #[.int .i64 s, .int .i64 b, .int .i64 i] w fun e w' => e = .returned (.int .i64 (bitD s b i)) ∧ w = w' := by
  have a0 := and_bit s0 s7
  have a1 := and_bit (d := s / 2) (by omega) (by omega)
  have a2 := and_bit (d := s / 4) (by omega) (by omega)
  have hc : (b = 1 ∧ i = 0) ∨ (b = 2 ∧ i = 0) ∨ (b = 2 ∧ i = 1) ∨ (b = 3 ∧ i = 0) ∨ (b = 3 ∧ i = 1) ∨ (b = 3 ∧ i = 2) := by omega
  rcases hc with ⟨rfl, rfl⟩ | ⟨rfl, rfl⟩ | ⟨rfl, rfl⟩ | ⟨rfl, rfl⟩ | ⟨rfl, rfl⟩ | ⟨rfl, rfl⟩
  all_goals
    go_enter Tryz.func64, Tryz.ntmps64
    go_wp2
    go_ret
    refine ⟨?_, rfl⟩
    simp [bitD, a0, a1, a2]
theorem startOf_c (q : Int) (w : World) :
    Calls Tryz.prog 34 #[.int .i64 q] w fun e w' => e = .returned (BP.v ⟨0, q, 0, 0⟩) ∧ Ext w w' := by
  go_enter Tryz.func34, Tryz.ntmps34
  go_wp2
  refine bodyPost_ret (v := BP.v ⟨0, q, 0, 0⟩) (by simp [results, Tryz.results34, go_sem, BP.v]) rfl ?_
  exact ⟨rfl, by repeat (first | with_reducible exact Ext.alloc _ _ | refine Ext.setCell ?_ (Nat.le_refl _) _)⟩
theorem bitsOf_c (mv : Value) (m : MachD) (w : World) (hm : Mach w mv m) (s6 : m.sy ≤ 6) :
    Calls Tryz.prog 57 #[mv] w fun e w' => e = .returned (.int .i64 (bitsD m.sy)) ∧ Ext w w' := by
  obtain ⟨rv, rfl, hr⟩ := hm
  obtain ⟨A, c, rfl, h5, h5'⟩ := hr.form
  obtain ⟨W, hW⟩ : ∃ W, W = w.alloc (.cells #[.int .i64 m.sy, .int .i64 m.st, .slice A m.rules.length c] 35) := ⟨_, rfl⟩
  have hXW : Ext w W := by rw [hW]; exact Ext.alloc _ _
  have bM : Blk W w.heap.size 35 #[.int .i64 m.sy, .int .i64 m.st, .slice A m.rules.length c] := by rw [hW]; exact Blk.new _ _ _ _ rfl
  have m0 := bM.cell 0
  simp only [List.getElem?_toArray, List.getElem?_cons_zero, List.getElem?_cons_succ] at m0
  generalize m.sy = sy at *
  go_enter Tryz.func57, Tryz.ntmps57
  go_wp2_with fail
  rw [← hW]
  clear hW
  go_loopw [3] (fun i wr => Ext W wr ∧ (i = .int .i64 1 ∨ (i = .int .i64 2 ∧ 2 < sy) ∨ (i = .int .i64 3 ∧ 4 < sy))) (fun i _ => 4 - (intOf i).toNat)
  case atStart => exact ⟨Ext.refl _, .inl rfl⟩
  case round =>
    obtain ⟨hwr, hi⟩ := hrel
    have c0 := hwr.cell m0
    have d0 := cellR c0
    have hX := hXW.trans hwr
    rcases hi with rfl | ⟨rfl, h2⟩ | ⟨rfl, h2⟩
    · by_cases hs : sy ≤ 2
      · have HE : Hid (bitsD sy = 1) := by unfold Hid bitsD; rw [if_pos hs]
        go_wp2_with fail
        refine wp_region_ext (by kernel_rfl) (by kernel_rfl) ?_
        repeat (go_big_quiet_step (fail))
        refine wpQuiet_nil ?_
        intro w2 hx2
        go_wp2
        go_ret
        exact ⟨by rw [HE.out]; rfl, hX.trans hx2⟩
      · go_wp2_with fail
        refine wp_region_ext (by kernel_rfl) (by kernel_rfl) ?_
        repeat (go_big_quiet_step (fail))
        refine wpQuiet_nil ?_
        intro w2 hx2
        go_wp2
        go_roundw
        case rel => exact ⟨hwr.trans hx2, .inr (.inl ⟨by go_num, by omega⟩)⟩
        case measure => simp [intOf]
    · by_cases hs : sy ≤ 4
      · have HE : Hid (bitsD sy = 2) := by unfold Hid bitsD; rw [if_neg (by omega), if_pos hs]
        go_wp2_with fail
        refine wp_region_ext (by kernel_rfl) (by kernel_rfl) ?_
        repeat (go_big_quiet_step (fail))
        refine wpQuiet_nil ?_
        intro w2 hx2
        go_wp2
        go_ret
        exact ⟨by rw [HE.out]; rfl, hX.trans hx2⟩
      · go_wp2_with fail
        refine wp_region_ext (by kernel_rfl) (by kernel_rfl) ?_
        repeat (go_big_quiet_step (fail))
        refine wpQuiet_nil ?_
        intro w2 hx2
        go_wp2
        go_roundw
        case rel => exact ⟨hwr.trans hx2, .inr (.inr ⟨by go_num, by omega⟩)⟩
        case measure => simp [intOf]
    · have HE : Hid (bitsD sy = 3) := by unfold Hid bitsD; rw [if_neg (by omega), if_neg (by omega)]
      go_wp2_with fail
      refine wp_region_ext (by kernel_rfl) (by kernel_rfl) ?_
      repeat (go_big_quiet_step (fail))
      refine wpQuiet_nil ?_
      intro w2 hx2
      go_wp2
      go_ret
      exact ⟨by rw [HE.out]; rfl, hX.trans hx2⟩
end Go.Proofs.YthhjbmlkncdigaaGreatDoor
end
