/- Plain words: the texts of the run of the machine with one tape for several.
Plain words: the machine with one tape comes to all configurations of the machine with two tapes, in order, and has room.
Contract of the program's run of a machine with several tapes with the closure of MultiTexts. -/
import Derived.Test.YtgeckhjkahnonaaGreatDoorO30
import Derived.Test.YtgeckhjkahnonaaGreatDoorO32
import Derived.Test.YtgeckhjkahnonaaGreatDoorO31
import Derived.Test.YtgeckhjkahnonaaGreatDoorO20
section
set_option linter.unusedSimpArgs false
set_option linter.unusedVariables false
namespace Go.Proofs.YtgeckhjkahnonaaGreatDoor
open Go Go.RowKit Go.Proofs
theorem ixT_few {T f : Nat} (hT : T = 2 ∨ T = 3) (hf : f < T) : ∀ n, (ixT T f n).length * T + f < n + T
  | 0 => by simp [ixT_zero]; exact hf
  | n + 1 => by
    have ih := ixT_few hT hf n
    by_cases h : n % T = f
    · rw [ixT_hit h, List.length_append, List.length_singleton]
      rcases hT with rfl | rfl <;> omega
    · rw [ixT_miss h]
      omega
theorem lineC_few {m : MultiD} {c : ConfD} {t0 j : Int} (h1 : 2 ≤ m.tp) (h2 : m.tp ≤ 3) (hl : c.l.length ≤ 200) (hr : c.r.length ≤ 200) : (lineC m c t0 j).length ≤ 200 := by
  have hf := frstC_lt (T := m.tp) (t0 := t0) (j := j) h1 c.l.length
  have hT : m.tp.toNat = 2 ∨ m.tp.toNat = 3 := by omega
  have hn : (cellsC c).length ≤ 400 := by simp [cellsC]; omega
  have := ixT_few hT hf (cellsC c).length
  unfold lineC lineT
  rw [List.length_map]
  rcases hT with e | e <;> rw [e] at this hf ⊢ <;> omega
theorem tapeDec_all {sy : Int} {zs : List Int} {t : TapeD} (h : tapeDec sy zs = some t) (hb : ∀ z ∈ zs, 0 ≤ z ∧ z ≤ 2 * sy - 1) :
    (t.l.length ≤ zs.length ∧ t.r.length ≤ zs.length) ∧ (∀ z ∈ t.l, 0 ≤ z ∧ z ≤ sy - 1) ∧ ∀ z ∈ t.r, 0 ≤ z ∧ z ≤ sy - 1 := by
  unfold tapeDec at h
  cases hf : zs.findIdx? (markB sy) with
  | none => rw [hf] at h; cases h
  | some k =>
    rw [hf] at h
    simp only at h
    obtain ⟨hk, hmk, hbef⟩ := List.findIdx?_eq_some_iff_getElem.1 hf
    split at h
    · cases h
    · rename_i hany
      injection h with h
      rw [← h]
      have a := trim_len (zs.take k).reverse
      have b := trim_len ((zs.getD k 0 - sy) :: zs.drop (k + 1))
      rw [List.length_reverse, List.length_take] at a
      rw [List.length_cons, List.length_drop] at b
      refine ⟨⟨by simp only; omega, by simp only; omega⟩, fun z hz => ?_, fun z hz => ?_⟩
      · have h1 := trim_mem hz
        rw [List.mem_reverse, List.mem_take_iff_getElem] at h1
        obtain ⟨i, hi, rfl⟩ := h1
        have hi2 : i < zs.length := by omega
        have h2 := hb _ (List.getElem_mem hi2)
        have h3 := hbef i (by omega)
        unfold markB at h3
        simp only [decide_eq_true_eq] at h3
        omega
      · have h1 := trim_mem hz
        rcases List.mem_cons.1 h1 with e | h1
        · have h2 := hb _ (List.getElem_mem hk)
          have e2 : zs.getD k 0 = zs[k] := by rw [List.getD_eq_getElem?_getD, List.getElem?_eq_getElem hk]; rfl
          rw [e2] at e
          unfold markB at hmk
          simp only [decide_eq_true_eq] at hmk
          omega
        · have h2 := hb _ (List.mem_of_mem_drop h1)
          have h3 : markB sy z = false := by
            cases hq : markB sy z with
            | false => rfl
            | true => exact absurd (List.any_eq_true.2 ⟨z, h1, hq⟩) hany
          unfold markB at h3
          simp only [decide_eq_false_iff_not] at h3
          omega
theorem decTapes_all {m : MultiD} {c : ConfD} {t0 : Int} (h1 : 2 ≤ m.tp) (h2 : m.tp ≤ 3) (hs : 1 ≤ m.sy) (hl : c.l.length ≤ 200) (hr : c.r.length ≤ 200) (hB1 : ∀ z ∈ c.l, 0 ≤ z ∧ z ≤ 2 * m.sy - 1) (hB2 : ∀ z ∈ c.r, 0 ≤ z ∧ z ≤ 2 * m.sy - 1) :
    ∀ {j : Nat} {l : List TapeD}, decTapes m c t0 j = some l → ∀ t ∈ l, (t.l.length ≤ 200 ∧ t.r.length ≤ 200) ∧ (∀ z ∈ t.l, 0 ≤ z ∧ z ≤ m.sy - 1) ∧ ∀ z ∈ t.r, 0 ≤ z ∧ z ≤ m.sy - 1
  | 0, l, h => by
    simp [decTapes] at h
    simp [h]
  | j + 1, l, h => by
    unfold decTapes at h
    cases h3 : decTapes m c t0 j with
    | none => rw [h3] at h; cases h
    | some l1 =>
      cases h4 : tapeDec m.sy (lineC m c t0 (j : Int)) with
      | none => rw [h3, h4] at h; cases h
      | some t =>
        rw [h3, h4] at h
        injection h with h
        intro t' ht'
        rw [← h] at ht'
        rcases List.mem_append.1 ht' with ht' | ht'
        · exact decTapes_all h1 h2 hs hl hr hB1 hB2 h3 t' ht'
        · rw [List.mem_singleton.1 ht']
          have hlen := lineC_few (m := m) (c := c) (t0 := t0) (j := (j : Int)) h1 h2 hl hr
          obtain ⟨⟨a, b⟩, d, e⟩ := tapeDec_all h4 (lineC_mem (by omega) hB1 hB2)
          exact ⟨⟨by omega, by omega⟩, d, e⟩
/-- What a decoded configuration must be for its text. -/
theorem decOne_dig {m : MultiD} (hm : multiOk m = true) {p : MP} (hp : WOk m p) {c : ConfD} (hl : c.l.length ≤ 200) (hr : c.r.length ≤ 200) (hB1 : ∀ z ∈ c.l, 0 ≤ z ∧ z ≤ 2 * m.sy - 1) (hB2 : ∀ z ∈ c.r, 0 ≤ z ∧ z ≤ 2 * m.sy - 1) (hk : (decOne m p c).2 = 0) :
    MDig (decOne m p c).1 ∧ 0 < (decOne m p c).1.tapes.length := by
  obtain ⟨⟨tp1, tp2⟩, ⟨y1, y2⟩, ⟨s1, s2⟩, _⟩ := multi_all hm
  unfold decOne at hk ⊢
  split
  · rename_i h0
    rw [if_pos h0] at hk
    cases hd : decTapes m c p.t m.tp.toNat with
    | none => rw [hd] at hk; simp at hk
    | some ts =>
      have hlen := decTapes_len hd
      have hall := decTapes_all tp1 tp2 (by omega) hl hr hB1 hB2 hd
      have ha : 0 ≤ p.a ∧ p.a < m.st := by
        rcases hp.kd with ⟨_, a, b, _⟩ | ⟨e | e, _⟩ | ⟨e, _⟩ | ⟨e, _⟩
        · exact ⟨a, b⟩
        all_goals omega
      refine ⟨⟨ha.1, by show p.a ≤ 999; omega, by show ts.length ≤ 3; omega, fun t ht => ?_⟩, by show 0 < ts.length; omega⟩
      obtain ⟨⟨a, b⟩, d, e⟩ := hall t ht
      exact ⟨a, b, fun z hz => by have := d z hz; omega, fun z hz => by have := e z hz; omega⟩
  · rename_i h0
    rw [if_neg h0] at hk
    simp at hk
/-- The text of the configuration for which one stands. -/
def txtW (m : MultiD) (p : MP) (x : ConfD) : List UInt8 := if p = lookP p.a then (if (decOne m p x).2 = 0 then mconT (decOne m p x).1 else []) else []
def txtO (m : MultiD) (s : List MP × List RuleD) (x : ConfD) : List UInt8 := txtW m (s.1.getD x.q.toNat mp0) x
/-- The texts and the code of the whole call. -/
def OTxt (m : MultiD) (ws : List (List Int)) (n : Int) (L : List (List UInt8)) (k : Int) : Prop :=
  if multiOk m then
    if inB n 0 599 then
      match weaveB m with
      | none => L = [] ∧ k = 5
      | some s => if (startOC m ws).2 = 0 then TRun (oneM m s) (startO m ws) n.toNat (txtO m s) L k else L = [] ∧ k = (startOC m ws).2
    else L = [] ∧ k = 2
  else L = [] ∧ k = 1
theorem OTxt.bad {m : MultiD} {ws : List (List Int)} {n : Int} (h : multiOk m = false) : OTxt m ws n [] 1 := by
  unfold OTxt
  rw [h]
  exact ⟨rfl, rfl⟩
theorem OTxt.steps {m : MultiD} {ws : List (List Int)} {n : Int} (h : multiOk m = true) (hn : inB n 0 599 = false) : OTxt m ws n [] 2 := by
  unfold OTxt
  rw [if_pos h, hn]
  exact ⟨rfl, rfl⟩
theorem OTxt.big {m : MultiD} {ws : List (List Int)} {n : Int} (h : multiOk m = true) (hn : inB n 0 599 = true) (hs : weaveB m = none) : OTxt m ws n [] 5 := by
  unfold OTxt
  rw [if_pos h, if_pos hn, hs]
  exact ⟨rfl, rfl⟩
theorem OTxt.start {m : MultiD} {ws : List (List Int)} {n : Int} {s : List MP × List RuleD} (h : multiOk m = true) (hn : inB n 0 599 = true) (hs : weaveB m = some s) (hk : (startOC m ws).2 ≠ 0) : OTxt m ws n [] (startOC m ws).2 := by
  unfold OTxt
  rw [if_pos h, if_pos hn, hs]
  show (if (startOC m ws).2 = 0 then _ else _)
  rw [if_neg hk]
  exact ⟨rfl, rfl⟩
theorem OTxt.run {m : MultiD} {ws : List (List Int)} {n : Int} {s : List MP × List RuleD} {L : List (List UInt8)} {k : Int} (h : multiOk m = true) (hn : inB n 0 599 = true) (hs : weaveB m = some s) (hk : (startOC m ws).2 = 0) (hr : TRun (oneM m s) (startO m ws) n.toNat (txtO m s) L k) : OTxt m ws n L k := by
  unfold OTxt
  rw [if_pos h, if_pos hn, hs]
  show (if (startOC m ws).2 = 0 then _ else _)
  rw [if_pos hk]
  exact hr
theorem OTxt.unique {m : MultiD} {ws : List (List Int)} {n : Int} {L L' : List (List UInt8)} {k k' : Int} (h : OTxt m ws n L k) (h' : OTxt m ws n L' k') : L = L' ∧ k = k' := by
  unfold OTxt at h h'
  split at h
  · rename_i h0
    rw [if_pos h0] at h'
    split at h
    · rename_i h1
      rw [if_pos h1] at h'
      cases hw : weaveB m with
      | none =>
        rw [hw] at h h'
        exact ⟨h.1.trans h'.1.symm, h.2.trans h'.2.symm⟩
      | some s =>
        rw [hw] at h h'
        simp only at h h'
        split at h
        · rename_i h2
          rw [if_pos h2] at h'
          exact h.unique h'
        · rename_i h2
          rw [if_neg h2] at h'
          exact ⟨h.1.trans h'.1.symm, h.2.trans h'.2.symm⟩
    · rename_i h1
      rw [if_neg h1] at h'
      exact ⟨h.1.trans h'.1.symm, h.2.trans h'.2.symm⟩
  · rename_i h0
    rw [if_neg h0] at h'
    exact ⟨h.1.trans h'.1.symm, h.2.trans h'.2.symm⟩
theorem OTxt.len {m : MultiD} {ws : List (List Int)} {n : Int} {L : List (List UInt8)} {k : Int} (h : OTxt m ws n L k) : L.length ≤ 601 := by
  unfold OTxt at h
  split at h
  · split at h
    · rename_i hn
      have hb := inB_iff.1 hn
      split at h
      · rw [h.1]; simp
      · split at h
        · rcases h with ⟨T, hE, rfl, _⟩ | ⟨_, rfl, _⟩
          · have := hE.le
            simp only [List.length_map, List.length_range]
            omega
          · simp
        · rw [h.1]; simp
    · rw [h.1]; simp
  · rw [h.1]; simp
end Go.Proofs.YtgeckhjkahnonaaGreatDoor
end
section
set_option linter.unusedSimpArgs false
set_option linter.unusedVariables false
namespace Go.Proofs.YtgeckhjkahnonaaGreatDoor
open Go Go.RowKit Go.Proofs
/-- At the beginning of a step of the machine with two tapes. -/
structure Good (m : MultiD) (s : List MP × List RuleD) (x0 : ConfD) (t : Nat) (c : MConfD) (w b : Int) : Prop where
  ex : ∃ f g0 g1 h0 h1 t0 t1, c.tapes = [t0, t1] ∧ Rch m s x0 (-2 * w - 8) (2 * w + 9) t (lookP c.q) f (2 * b) ∧ WvT f 0 g0 h0 ∧ WvT f 1 g1 h1 ∧ Bin g0 ∧ Bin g1 ∧ TLn t0 g0 h0 ∧ TLn t1 g1 h1 ∧
    (b ≤ h0 ∧ b ≤ h1) ∧ (-w ≤ h0 ∧ h0 ≤ w) ∧ (-w ≤ h1 ∧ h1 ≤ w)
  b0 : -w - 1 ≤ b
  w0 : 0 ≤ w
  w8 : 8 * w ≤ t
/-- The machine halts behind T steps. -/
structure HaltsO (m : MultiD) (s : List MP × List RuleD) (x0 : ConfD) (T : Nat) : Prop where
  runs : RunsTo (oneM m s) x0 T
  no : lookI (oneM m s) (cfgI (oneM m s) x0 T) = noR
theorem Rch.halt {m : MultiD} (hm : multiOk m = true) {s : List MP × List RuleD} (hs : weaveB m = some s) {x0 : ConfD} {lo hi : Int} {T : Nat} {p : MP} {f : Int → Int} {pos : Int} (H : Rch m s x0 lo hi T p f pos) (ha : actW m p (f pos) = noW) : HaltsO m s x0 T := by
  refine ⟨H.runs, ?_⟩
  rw [(H.at_.look hm hs (H.val pos).1 (H.val pos).2).1]
  unfold ruleOf
  rw [ha]
  rfl
theorem RunsTo.less {M : MachD} {x : ConfD} {n k : Nat} (h : RunsTo M x n) (hk : k ≤ n) : RunsTo M x k := ⟨fun i hi => h.no i (by omega), fun i hi => h.fit i (by omega)⟩
theorem Good.text {m : MultiD} (hp : m.tp = 2) (hy : m.sy = 2) {s : List MP × List RuleD} {x0 : ConfD} {t : Nat} {c : MConfD} {w b : Int} (h : Good m s x0 t c w b) : txtO m s (cfgI (oneM m s) x0 t) = mconT c := by
  obtain ⟨f, g0, g1, h0, h1, t0, t1, hc, R, W0, W1, B0, B1, T0, T1, _⟩ := h.ex
  have hd := dec_one (q := c.q) hp hy R.at_.ln W0 W1 B0 B1 T0 T1
  unfold txtO
  rw [R.at_.q, Int.toNat_natCast, List.getD_eq_getElem?_getD, List.getElem?_eq_getElem (List.idxOf_lt_length_iff.2 R.at_.mem), List.getElem_idxOf]
  show txtW m (lookP c.q) _ = _
  unfold txtW
  rw [if_pos (show lookP c.q = lookP (lookP c.q).a from rfl), hd]
  show (if (0 : Int) = 0 then mconT ⟨c.q, [t0, t1]⟩ else []) = _
  rw [if_pos rfl, ← hc]
theorem Good.next {m : MultiD} (hm : multiOk m = true) (hp : m.tp = 2) (hy : m.sy = 2) {s : List MP × List RuleD} (hs : weaveB m = some s) {x0 : ConfD} {t : Nat} {c : MConfD} {w b : Int} (h : Good m s x0 t c w b) (ht : t ≤ 300) :
    (lookM m.rules c = none ∧ ∃ T : Nat, t < T ∧ (T : Int) ≤ t + 8 * w + 16 ∧ HaltsO m s x0 T) ∨
    (lookM m.rules c ≠ none ∧ ∃ (T : Nat) (w' b' : Int), t < T ∧ (T : Int) ≤ t + 8 * w + 16 ∧ w' ≤ w + 1 ∧ Good m s x0 T (stepM m.rules c) w' b') := by
  obtain ⟨⟨f, g0, g1, h0, h1, t0, t1, hc, R, W0, W1, B0, B1, T0, T1, ⟨hb0, hb1⟩, ⟨a1, a2⟩, a3, a4⟩, hbw, hw0, hw8⟩ := h
  have hbox : 2 * w + 9 ≤ -2 * w - 8 + 190 := by omega
  have hlook : lookM m.rules c = findM m.rules (c.q, g0 h0, g1 h1, 0) m.rules.length := by
    unfold lookM readM
    rw [hc]
    simp only [List.map_cons, List.map_nil, T0.head, T1.head]
    rfl
  obtain ⟨r, hr⟩ : ∃ r, findM m.rules (c.q, g0 h0, g1 h1, 0) m.rules.length = r := ⟨_, rfl⟩
  rw [hlook, hr]
  obtain ⟨tl, pos, hcase⟩ : ∃ tl pos : Int, (tl = 0 ∧ pos = 2 * h0 ∧ h1 < h0) ∨ (tl = 1 ∧ pos = 2 * h1 + 1 ∧ h0 ≤ h1) := by
    rcases Int.lt_or_le h1 h0 with e | e
    · exact ⟨0, _, .inl ⟨rfl, rfl, e⟩⟩
    · exact ⟨1, _, .inr ⟨rfl, rfl, e⟩⟩
  obtain ⟨n, hn⟩ : ∃ n : Nat, 2 * b + (n : Int) = pos := ⟨(pos - 2 * b).toNat, by omega⟩
  have R1 := R.look hm hp hy hs W0 W1 B0 B1 hb0 hb1 (by omega) (by omega) hbox n (by omega)
  rw [hn] at R1
  have hact := look_last (q := c.q) hp hy W0 W1 B0 B1 hcase
  rw [hr] at hact
  cases r with
  | none =>
    left
    exact ⟨rfl, t + n, by omega, by omega, R1.halt hm hs hact⟩
  | some i =>
    right
    refine ⟨by simp, ?_⟩
    have hi := findM_lt hr
    have hstep : stepM m.rules c = ⟨(mrAt m (i : Int)).nx, [writeT t0 (wrM m i 0) (mvM m i 0), writeT t1 (wrM m i 1) (mvM m i 1)]⟩ := by
      unfold stepM
      rw [hlook, hr]
      simp only
      unfold applyM
      rw [hc]
      have e : m.rules.getD i mr0 = mrAt m (i : Int) := by unfold mrAt; rw [Int.toNat_natCast]
      rw [e]
      simp only [writeAll]
      rw [drop_getD, drop_getD]
      rfl
    have hv0 : -1 ≤ mvM m i 0 ∧ mvM m i 0 ≤ 1 := (rule_wm hm (by omega) (by omega) 0).2
    have hv1 : -1 ≤ mvM m i 1 ∧ mvM m i 1 ≤ 1 := (rule_wm hm (by omega) (by omega) 1).2
    have hw0' : 0 ≤ wrM m i 0 ∧ wrM m i 0 ≤ 1 := by have := (rule_wm hm (i := (i : Int)) (by omega) (by omega) 0).1; rw [hy] at this; exact this
    have hw1' : 0 ≤ wrM m i 1 ∧ wrM m i 1 ≤ 1 := by have := (rule_wm hm (i := (i : Int)) (by omega) (by omega) 1).1; rw [hy] at this; exact this
    have fin : ∀ (f2 : Int → Int) (k : Nat) (b' : Int), Rch m s x0 (-2 * w - 8) (2 * w + 9) (t + n + k) (lookP (mrAt m i).nx) f2 (2 * b') → WvT f2 0 (updF g0 h0 (wrM m i 0)) (h0 + mvM m i 0) → WvT f2 1 (updF g1 h1 (wrM m i 1)) (h1 + mvM m i 1) →
        1 ≤ k → ((n + k : Nat) : Int) ≤ 8 * w + 16 → (n + k < 8 → mvM m i 0 = 0 ∧ mvM m i 1 = 0) → b' + 1 ≤ h0 → b' + 1 ≤ h1 → -w - 1 ≤ b' →
        ∃ (T : Nat) (w' b' : Int), t < T ∧ (T : Int) ≤ t + 8 * w + 16 ∧ w' ≤ w + 1 ∧ Good m s x0 T (stepM m.rules c) w' b' := fun f2 k b' R3 V0 V1 k1 kt km c0 c1 cb => by
      obtain ⟨w', d1, d2, d3⟩ : ∃ w' : Int, (w' = w ∨ w' = w + 1) ∧ (w' = w → mvM m i 0 = 0 ∧ mvM m i 1 = 0) ∧ (w' = w + 1 → 8 ≤ n + k) := by
        by_cases e : n + k < 8
        · exact ⟨w, .inl rfl, fun _ => km e, fun h => by omega⟩
        · exact ⟨w + 1, .inr rfl, fun h => by omega, fun _ => by omega⟩
      refine ⟨t + n + k, w', b', by omega, by omega, by omega, ⟨f2, _, _, _, _, writeT t0 (wrM m i 0) (mvM m i 0), writeT t1 (wrM m i 1) (mvM m i 1), by rw [hstep], ?_, V0, V1, B0.upd hw0', B1.upd hw1', T0.write hv0, T1.write hv1, ?_, ?_, ?_⟩, by omega, by omega, by omega⟩
      · rw [hstep]
        exact R3.wider (by omega) (by omega)
      · omega
      · rcases d1 with d | d
        · have := d2 d; omega
        · omega
      · rcases d1 with d | d
        · have := d2 d; omega
        · omega
    rcases hcase with ⟨rfl, rfl, hlt⟩ | ⟨rfl, rfl, hle⟩
    · obtain ⟨f2, k, R3, V, V', k3, kle, k7⟩ := Rch.rest (t := 0) (i := (i : Int)) hm hp hy hs (.inl rfl) (by rw [Int.add_zero]; exact R1) W0 W1 B0 B1 (by omega) (by omega) (by rw [Int.add_zero]; exact hact) (by omega) (by omega) (by omega) hbox
      exact fin f2 k (h1 - 1) R3 V V' (by omega) (by omega) (fun h => k7 (by omega)) (by omega) (by omega) (by omega)
    · obtain ⟨f2, k, R3, V, V', k3, kle, k7⟩ := Rch.rest (t := 1) (i := (i : Int)) hm hp hy hs (.inr rfl) R1 W1 W0 B1 B0 (by omega) (by omega) hact (by omega) (by omega) (by omega) hbox
      exact fin f2 k (h0 - 1) R3 V' V (by omega) (by omega) (fun h => (k7 (by omega)).symm) (by omega) (by omega) (by omega)
/-- The run ends within 300 steps, with room. -/
theorem Good.ends {m : MultiD} (hm : multiOk m = true) (hp : m.tp = 2) (hy : m.sy = 2) {s : List MP × List RuleD} (hs : weaveB m = some s) {x0 : ConfD} : ∀ (k : Nat) {t : Nat} {c : MConfD} {w b : Int}, Good m s x0 t c w b → t + k = 301 → ∃ T, EndAt (oneM m s) x0 300 T := by
  intro k
  induction k using Nat.strongRecOn with
  | _ k ih =>
    intro t c w b h hk
    by_cases hz : k = 0
    · obtain ⟨f, g0, g1, h0, h1, t0, t1, hc, R, _⟩ := h.ex
      exact ⟨300, R.runs.less (by omega), Nat.le_refl _, .inl rfl⟩
    · rcases h.next hm hp hy hs (by omega) with ⟨_, T, a, _, H⟩ | ⟨_, T, w', b', a, _, _, G⟩
      · by_cases e : T ≤ 300
        · exact ⟨T, H.runs, e, .inr H.no⟩
        · exact ⟨300, H.runs.less (by omega), Nat.le_refl _, .inl rfl⟩
      · by_cases e : T ≤ 301
        · exact ih (301 - T) (by omega) G (by omega)
        · obtain ⟨f, g0, g1, h0, h1, t0, t1, hc, R, _⟩ := G.ex
          exact ⟨300, R.runs.less (by omega), Nat.le_refl _, .inl rfl⟩
end Go.Proofs.YtgeckhjkahnonaaGreatDoor
end
section
set_option linter.unusedVariables false
set_option linter.unusedSimpArgs false
namespace Go.Proofs.YtgeckhjkahnonaaGreatDoor
open Go Go.RowKit Go.Proofs Go.Maps
set_option maxHeartbeats 400000
/-- As VisM, for the first configurations alone. -/
def VisN (N : Nat) (fid : FuncId) (lb : Array Value) (rs : List MRuleD) (c : MConfD) (w0 : World) (bc gT cap lo hi : Nat) (I : Nat → (Nat → Prop) → World → Prop) : Prop :=
  ∀ (i : Nat) (K : Nat → Prop) (wX : World) (cs : Array Value), i ≤ N → MRuns rs c i → MAt w0 K wX bc gT cap cs (cfgM rs c i) → I i K wX → hi ≤ wX.heap.size →
    Calls Tryz.prog fid (#[Value.agg #[.int .i64 (cfgM rs c i).q, .slice (some ⟨gT, 0, none⟩) c.tapes.length cap]] ++ lb) wX fun e w' =>
      e = .returned (.tuple #[]) ∧ ∃ K' : Nat → Prop, (∀ k, K k → K' k) ∧ MAt w0 K' w' bc gT cap cs (cfgM rs c i) ∧ I (i + 1) K' w' ∧ ∀ k, lo ≤ k → k < hi → w'.heap[k]? = wX.heap[k]?
set_option maxRecDepth 20000 in
set_option maxHeartbeats 4000000 in
theorem runMultiT_c (w0 w : World) (K : Nat → Prop) (m : MultiD) (mv : Value) (c : MConfD) (bc gT cap N : Nat) (cs : Array Value) (lb : Array Value) (I : Nat → Nat → (Nat → Prop) → World → Prop)
    (hM : Mult w0 mv m) (hm : multiOk m = true) (hG : GoodM m c) (hroom : roomM c = true) (h : MAt w0 K w bc gT cap cs c) (hN : N ≤ 1000000)
    (h0 : ∀ wA K', Ext w wA → (∀ k, K k → K' k) → (∀ k, K' k → K k ∨ (w.heap.size ≤ k ∧ k < wA.heap.size)) → I wA.heap.size 0 K' wA)
    (hI : ∀ hi i K w1 w2, I hi i K w1 → Kp K w1 w2 → I hi i K w2)
    (hV : ∀ hi, w.heap.size ≤ hi → VisN N 18 lb m.rules c w0 bc gT cap w.heap.size hi (I hi)) :
    Calls Tryz.prog 17 #[mv, .pointer (some ⟨bc, 0, none⟩), .int .i64 (N : Int), .func (.func 18) #[] lb] w fun e w' => ∃ hi, RunOutM m.rules c N w0 bc gT cap (I hi) e w' := by
  obtain ⟨rv, rfl, hR⟩ := hM
  obtain ⟨A, cA, rfl, _, _⟩ := hR.form
  obtain ⟨gB, hgB⟩ : ∃ g, w.heap.size = g := ⟨_, rfl⟩
  obtain ⟨V, hVV⟩ : ∃ V, V = w.alloc (.cells #[.int .i64 m.tp, .int .i64 m.sy, .int .i64 m.st, .slice A m.rules.length cA] 26) := ⟨_, rfl⟩
  have hXV : Ext w V := by rw [hVV]; exact Ext.alloc _ _
  have bB : Blk V gB 26 #[.int .i64 m.tp, .int .i64 m.sy, .int .i64 m.st, .slice A m.rules.length cA] := by rw [hVV]; exact Blk.new _ _ _ _ hgB
  have b0 := bB.cell 0
  have b1 := bB.cell 1
  have b2 := bB.cell 2
  have b3 := bB.cell 3
  simp only [List.getElem?_toArray, List.getElem?_cons_zero, List.getElem?_cons_succ] at b0 b1 b2 b3
  have TM := multiRules_c (.agg #[.int .i64 m.tp, .int .i64 m.sy, .int .i64 m.st, .slice A m.rules.length cA]) m V ⟨_, rfl, hR.ext (h.ext0.trans hXV)⟩ hm
  go_enter Tryz.func17, Tryz.ntmps17
  go_wp2_with fail
  try rw [← hVV]
  try rw [hgB]
  clear hVV b0 b1 b2 b3
  refine TM.mono ?_
  rintro e wA ⟨bm, rfl, hT, hbm, hxA⟩
  have hXA := hXV.trans hxA
  have st0 : MuLoop w0 wA w.heap.size m c bc gT cap gB bm A cA (I wA.heap.size) 0 (fun k => K k ∨ (w.heap.size ≤ k ∧ k < wA.heap.size)) cs wA :=
    ⟨h.more hXA (fun k hk => hk), MRuns.zero hroom, h0 wA _ hXA (fun k hk => .inl hk) (fun k hk => hk), fun k h1 h2 => .inr ⟨h1, h2⟩, bB.ext hxA, hT⟩
  have hgV : V.heap.size ≤ wA.heap.size := hxA.size
  have hBlt : gB < wA.heap.size := (bB.ext hxA).lt
  have hbmlt := hT.lt
  have hgbm : w.heap.size ≤ bm := Nat.le_trans hXV.size hbm
  obtain ⟨hi, hhi⟩ : ∃ k, wA.heap.size = k := ⟨_, rfl⟩
  have HV := hV hi (by rw [← hhi]; exact hXA.size)
  have HI := hI hi
  have hMR := hR
  have HM := Lib.hid hm
  rw [hhi] at st0 hBlt hbmlt
  clear h h0 hV hI hT bB TM hm hgV hroom hXV hR
  go_wp2_with fail
  go_loopw [12] (fun u wr => ∃ (i : Nat) (K : Nat → Prop) (cs : Array Value), i ≤ N ∧ u = .int .i64 (i : Int) ∧ MuLoop w0 wA w.heap.size m c bc gT cap gB bm A cA (I hi) i K cs wr) (fun u _ => N + 1 - (intOf u).toNat)
  case atStart => exact ⟨0, _, _, Nat.zero_le _, rfl, st0⟩
  case round =>
    clear st0
    obtain ⟨i, K, cs, hiN, rfl, st⟩ := hrel
    have VC := HV i K wr cs hiN st.runs st.at_ st.inv (by have := st.at_.kb (hi - 1) (st.own (hi - 1) (by omega) (by omega)); omega)
    have b0 := st.at_.blk.cell 0
    have b1 := st.at_.blk.cell 1
    simp only [List.getElem?_toArray, List.getElem?_cons_zero, List.getElem?_cons_succ] at b0 b1
    rw [cfgM_tapes] at b1
    go_wp2_with fail
    refine VC.mono ?_
    rintro e w1 ⟨rfl, K1, hKK, at1, inv1, hk1⟩
    have bB1 : Blk w1 gB 26 #[.int .i64 m.tp, .int .i64 m.sy, .int .i64 m.st, .slice A m.rules.length cA] := (hk1 gB (by omega) hBlt).trans st.blk
    have tb1 := st.tbl.sameB (hk1 bm hgbm hbmlt)
    have own1 : ∀ k, w.heap.size ≤ k → k < wA.heap.size → K1 k := fun k a b => hKK k (st.own k a b)
    have runs := st.runs
    have hgd := hG.cfg HM.out i
    have hrm := runs.room i (Nat.le_refl _)
    have hsucc : cfgM m.rules c (i + 1) = stepM m.rules (cfgM m.rules c i) := rfl
    have htp := (multi_all HM.out).1
    clear st VC b0 b1
    generalize hci : cfgM m.rules c i = ci at *
    have HCI := Lib.hid hci
    have c0 := at1.blk.cell 0
    have c1 := at1.blk.cell 1
    simp only [List.getElem?_toArray, List.getElem?_cons_zero, List.getElem?_cons_succ] at c0 c1
    have RD := read_c bc ci _ w1 c0 c1 at1.tapes (by have := hgd.n; omega)
    clear hci c0 c1
    go_wp2_with fail
    refine RD.mono ?_
    rintro e w2 ⟨rfl, hx2⟩
    have at2 := at1.ext hx2
    have bB2 := bB1.ext hx2
    have tb2 := tb1.ext hx2
    have inv2 := HI (i + 1) K1 w1 w2 inv1 (fun k hk => Below.block hx2 k (at1.kb k hk))
    have lk := tb2.lookup2 rdTy (readM ci) hgd.key
    have htb : tblM m.rules m.rules.length (readM ci) = Option.map (fun i : Nat => (i : Int)) (lookM m.rules ci) := rfl
    rw [htb] at lk
    have bb3 := bB2.cell 3
    simp only [List.getElem?_toArray, List.getElem?_cons_zero, List.getElem?_cons_succ] at bb3
    simp only [rdE] at lk ⊢
    cases hlk : lookM m.rules ci with
    | none =>
      rw [hlk] at lk
      simp only [Option.map_none, Option.getD_none, Option.isSome_none] at lk
      have HE : Hid (MEnd m.rules c N i) := ⟨runs, hiN, .inr (by rw [HCI.out]; exact hlk)⟩
      have HAT := Lib.hid at2
      have HIN := Lib.hid inv2
      have HL := Lib.hid hlk
      clear runs hsucc at2 at1 inv1 inv2 hlk
      go_wp2_with fail
      refine bodyPost_ret (v := .tuple #[.int .i64 (i : Int), .bool true, .int .i64 0]) (by simp [results, Tryz.results17, go_sem]) rfl ⟨hi, .inl ⟨i, K1, cs, HE.out, ?_, by rw [HCI.out]; exact HAT.out, HIN.out⟩⟩
      rw [HCI.out, HL.out]
      rfl
    | some j =>
      rw [hlk] at lk
      simp only [Option.map_some, Option.getD_some, Option.isSome_some] at lk
      have HNO : Hid (lookM m.rules (cfgM m.rules c i) ≠ none) := by unfold Hid; rw [HCI.out, hlk]; simp
      by_cases hiN' : i = N
      · have HE : Hid (MEnd m.rules c N i) := ⟨runs, hiN, .inl hiN'⟩
        have HAT := Lib.hid at2
        have HIN := Lib.hid inv2
        have HL := Lib.hid hlk
        have bi : ((i : Int) == (N : Int)) = true := by simp [hiN']
        have bi' : (i == N) = true := by simp [hiN']
        clear runs hsucc at2 at1 inv1 inv2 hlk hiN'
        go_wp2_with fail
        refine bodyPost_ret (v := .tuple #[.int .i64 (i : Int), .bool false, .int .i64 0]) (by simp [results, Tryz.results17, go_sem]) rfl ⟨hi, .inl ⟨i, K1, cs, HE.out, ?_, by rw [HCI.out]; exact HAT.out, HIN.out⟩⟩
        rw [HCI.out, HL.out]
        rfl
      · have bi : ((i : Int) == (N : Int)) = false := beq_false_of_ne (by omega)
        have bi' : (i == N) = false := beq_false_of_ne hiN'
        have hjl : j < m.rules.length := findM_lt hlk
        obtain ⟨b, off, vr, vw, vm, hA, c0, c1, c2, c3, c4, j1, j2, j3⟩ := hMR.at hjl
        have hgdj : m.rules.getD j mr0 = m.rules[j] := by rw [List.getD_eq_getElem?_getD, List.getElem?_eq_getElem hjl]; rfl
        have hro := multi_rule HM.out hjl
        have hstep : stepM m.rules ci = applyM ci m.rules[j] := by unfold stepM; rw [hlk]; simp only; rw [hgdj]
        rw [hstep] at hsucc
        have hx0 := at2.ext0
        subst hA
        have d0 := hx0.cell c0
        have d1 := hx0.cell c1
        have d2 := hx0.cell c2
        have d3 := hx0.cell c3
        have d4 := hx0.cell c4
        obtain ⟨r, hrk⟩ : ∃ r, m.rules[j] = r := ⟨_, rfl⟩
        rw [hrk] at d0 d4 j1 j2 j3 hro hsucc
        obtain ⟨_, _, _, hw3, hv3, _⟩ := mrule_all hro
        obtain ⟨A1, k1, rfl, _, _⟩ := j1.form
        obtain ⟨A2, k2, rfl, _, _⟩ := j2.form
        obtain ⟨A3, k3, rfl, _, _⟩ := j3.form
        have hn1 := hgd.n
        have AP := apply_c w0 w2 K1 bc gT cap cs ci r _ _ _ at2 j1 j2 j3 (by omega) (by omega) (by omega) (fun q hq => by
          have := hrm
          unfold roomM at this
          have := List.all_eq_true.1 this _ (List.getElem_mem hq)
          simp only [roomT, Bool.and_eq_true, decide_eq_true_eq] at this
          omega)
        have HSU := Lib.hid hsucc
        have HRN := Lib.hid runs
        have HAT := Lib.hid at2
        have HIN := Lib.hid inv2
        have HJ := Lib.hid hjl
        have hjl2 : j < m.rules.length := hjl
        have HLT := Lib.hid (show i < N by omega)
        clear runs hsucc at2 at1 inv1 inv2 hlk hiN' hstep hgdj hrk c0 c1 c2 c3 c4 hro hw3 hv3 hn1 hrm hgd
        go_wp2_with fail
        refine AP.mono ?_
        rintro e w3 ⟨rfl, cs3, at3, kp3⟩
        have bB3 : Blk w3 gB 26 #[.int .i64 m.tp, .int .i64 m.sy, .int .i64 m.st, .slice (some ⟨b, off, none⟩) m.rules.length cA] := (kp3 gB (own1 gB (by omega) (by omega))).trans bB2
        have tb3 := tb2.sameB (kp3 bm (own1 bm hgbm (by omega)))
        have inv3 := HI (i + 1) K1 w2 w3 HIN.out kp3
        have HA3 : Hid (MAt w0 K1 w3 bc gT cap cs3 (cfgM m.rules c (i + 1))) := by unfold Hid; rw [HSU.out]; exact at3
        have HRM : Hid (roomM (cfgM m.rules c (i + 1)) = roomM (applyM ci r)) := by unfold Hid; rw [HSU.out]
        have HI3 := Lib.hid inv3
        have HE3 := Lib.hid at3.ext0
        have hi1 : i < N := HLT.out
        clear at3 kp3 inv3 AP tb2 bB2 HAT HIN lk bb3
        cases hrr : roomM (applyM ci r) with
        | true =>
          have HRR : Hid (roomM (cfgM m.rules c (i + 1)) = true) := by unfold Hid; rw [HRM.out]; exact hrr
          clear hrr
          go_wp2_with fail
          go_roundw
          case rel => exact ⟨i + 1, K1, cs3, by omega, by go_num, ⟨HA3.out, HRN.out.succ HNO.out HRR.out, HI3.out, own1, bB3, tb3⟩⟩
          case measure => simp [intOf]; omega
        | false =>
          have HRR : Hid (roomM (cfgM m.rules c (i + 1)) = false) := by unfold Hid; rw [HRM.out]; exact hrr
          clear hrr
          have HF : Hid (MFull m.rules c N (i + 1)) := ⟨by omega, HRN.out, hi1, HNO.out, HRR.out⟩
          go_wp2_with fail
          exact bodyPost_ret (v := .tuple #[.int .i64 0, .bool false, .int .i64 5]) (by simp [results, Tryz.results17, go_sem]) rfl ⟨hi, .inr ⟨i + 1, K1, HF.out, rfl, HE3.out, HI3.out⟩⟩
end Go.Proofs.YtgeckhjkahnonaaGreatDoor
end
