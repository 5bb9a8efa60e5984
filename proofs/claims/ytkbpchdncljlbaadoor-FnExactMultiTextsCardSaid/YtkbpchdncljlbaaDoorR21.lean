/- Plain words: a run of a machine with several tapes stays among valid configurations; the texts of a run. No program runs here.
Contract of the reference's beginning of a machine with several tapes on words.
Contracts of the library's maker of strings in a block of the call's own: an ASCII rune is laid behind what it holds. -/
import Derived.Test.YtkbpchdncljlbaaDoorR20
import Derived.Test.YtkbpchdncljlbaaDoorR10
import Derived.Test.YtkbpchdncljlbaaDoorR01
import Derived.Test.YtkbpchdncljlbaaDoorShelf
import Derived.Lib.Builder
import Derived.Shelf.Strings.Builder1
import Derived.Maps.AppendAt
section
set_option linter.unusedVariables false
set_option linter.unusedSimpArgs false
namespace Go.Proofs.YtkbpchdncljlbaaDoor
open Go Go.RowKit Go.Proofs
theorem trimN_end (xs : List Int) : ∀ n, trimN xs n = 0 ∨ xs.getD (trimN xs n - 1) 0 ≠ 0 := by
  intro n
  induction n with
  | zero => exact .inl rfl
  | succ n ih =>
    unfold trimN
    split
    · exact ih
    · rename_i h
      right
      simpa using h
theorem trim_side2 {xs : List Int} {sy : Int} (hl : (trim xs).length ≤ 200) (h : ∀ z ∈ xs, 0 ≤ z ∧ z ≤ sy - 1) : sideOk (trim xs) sy 200 = true := by
  have hle := trim_len xs
  simp only [sideOk, inB, Bool.and_eq_true, Bool.or_eq_true, decide_eq_true_eq, List.all_eq_true, beq_iff_eq, bne_iff_ne, ne_eq]
  refine ⟨⟨by omega, fun z hz => by have := h z (trim_mem hz); omega⟩, ?_⟩
  by_cases h0 : 0 < (trim xs).length
  · right
    rw [lastD_get h0]
    have hn : (trim xs).length = trimN xs xs.length := by
      have := trimN_le xs xs.length
      simp [trim]; omega
    rcases trimN_end xs xs.length with e | e
    · omega
    · rw [← hn, List.getD_eq_getElem?_getD] at e
      have hk : (trim xs).length - 1 < (trim xs).length := by omega
      have hk' : (trim xs).length - 1 < xs.length := by omega
      rw [List.getElem?_eq_getElem hk', Option.getD_some] at e
      have : (trim xs)[(trim xs).length - 1] = xs[(trim xs).length - 1] := by simp [trim]
      rw [this]
      exact e
  · left
    omega
theorem getD_in {xs : List Int} {hi : Int} (h : ∀ z ∈ xs, 0 ≤ z ∧ z ≤ hi) (h0 : 0 ≤ hi) (k : Nat) : 0 ≤ xs.getD k 0 ∧ xs.getD k 0 ≤ hi := by
  by_cases hk : k < xs.length
  · rw [List.getD_eq_getElem?_getD, List.getElem?_eq_getElem hk]
    exact h _ (List.getElem_mem hk)
  · rw [List.getD_eq_getElem?_getD, List.getElem?_eq_none (by omega)]
    exact ⟨Int.le_refl _, h0⟩
theorem writeT_ok {m : MultiD} {t : TapeD} {s mv : Int} (hl : ∀ z ∈ t.l, 0 ≤ z ∧ z ≤ m.sy - 1) (hr : ∀ z ∈ t.r, 0 ≤ z ∧ z ≤ m.sy - 1) (hs : 0 ≤ s ∧ s ≤ m.sy - 1) (h2 : 2 ≤ m.sy) (hroom : roomT (writeT t s mv) = true) : tapeOk m (writeT t s mv) = true := by
  simp only [roomT, Bool.and_eq_true, decide_eq_true_eq] at hroom
  obtain ⟨r1, r2⟩ := hroom
  have hd : ∀ {xs : List Int} (k : Nat), (∀ z ∈ xs, 0 ≤ z ∧ z ≤ m.sy - 1) → ∀ z ∈ xs.drop k, 0 ≤ z ∧ z ≤ m.sy - 1 := fun k h z hz => h z (List.mem_of_mem_drop hz)
  have hc : ∀ {x : Int} {xs : List Int}, (0 ≤ x ∧ x ≤ m.sy - 1) → (∀ z ∈ xs, 0 ≤ z ∧ z ≤ m.sy - 1) → ∀ z ∈ x :: xs, 0 ≤ z ∧ z ≤ m.sy - 1 := fun hx h z hz => by
    rcases List.mem_cons.1 hz with e | e
    · rw [e]; exact hx
    · exact h z e
  have hw : ∀ z ∈ writeR t s, 0 ≤ z ∧ z ≤ m.sy - 1 := hc hs (hd 1 hr)
  unfold writeT at r1 r2 ⊢
  simp only [tapeOk, Bool.and_eq_true]
  split at r1
  · rename_i e
    rw [if_pos e] at r2 ⊢
    exact ⟨trim_side2 r1 (hc hs hl), trim_side2 r2 (hd 1 hr)⟩
  · rename_i e
    rw [if_neg e] at r2 ⊢
    split at r1
    · rename_i e2
      rw [if_pos e2] at r2 ⊢
      exact ⟨trim_side2 r1 (hd 1 hl), trim_side2 r2 (hc (getD_in hl (by omega) 0) hw)⟩
    · rename_i e2
      rw [if_neg e2] at r2 ⊢
      exact ⟨trim_side2 r1 hl, trim_side2 r2 hw⟩
/-- A run stays among valid configurations. -/
theorem cfg_ok {m : MultiD} {c : MConfD} (hm : multiOk m = true) (hq : inB c.q 0 (m.st - 1) = true) (hn : (c.tapes.length : Int) = m.tp) (hts : c.tapes.all (tapeOk m) = true) : ∀ i, MRuns m.rules c i →
    inB (cfgM m.rules c i).q 0 (m.st - 1) = true ∧ (cfgM m.rules c i).tapes.all (tapeOk m) = true
  | 0, _ => ⟨hq, hts⟩
  | i + 1, h => by
    obtain ⟨iq, it⟩ := cfg_ok hm hq hn hts i ⟨fun j hj => h.no j (by omega), fun j hj => h.room j (by omega)⟩
    have h0 := h.no i (by omega)
    have hr := h.room (i + 1) (Nat.le_refl _)
    have hlen := cfgM_tapes m.rules c i
    cases hl : lookM m.rules (cfgM m.rules c i) with
    | none => exact absurd hl h0
    | some j =>
      have hjl : j < m.rules.length := findM_lt hl
      have e : m.rules.getD j mr0 = m.rules[j] := by rw [List.getD_eq_getElem?_getD, List.getElem?_eq_getElem hjl]; rfl
      have hs : cfgM m.rules c (i + 1) = applyM (cfgM m.rules c i) m.rules[j] := by
        show stepM m.rules (cfgM m.rules c i) = _
        rw [step_some hl, e]
      have hro := mrule_all (multi_rule hm hjl)
      obtain ⟨_, ⟨n1, n2⟩, l1, l2, l3, _, w2, _⟩ := hro
      obtain ⟨_, ⟨sy1, sy2⟩, _⟩ := multi_all hm
      rw [hs] at hr ⊢
      refine ⟨inB_iff.2 ⟨n1, n2⟩, List.all_eq_true.2 fun t ht => ?_⟩
      have hrt := List.all_eq_true.1 hr t ht
      obtain ⟨k, hk, rfl⟩ := List.getElem_of_mem ht
      have hk' : k < (cfgM m.rules c i).tapes.length := by rw [← writeAll_length (cfgM m.rules c i).tapes m.rules[j].wr m.rules[j].mv]; exact hk
      have e2 : (applyM (cfgM m.rules c i) m.rules[j]).tapes[k] = writeT (cfgM m.rules c i).tapes[k] (m.rules[j].wr.getD k 0) (m.rules[j].mv.getD k 0) := writeAll_get _ _ _ k hk'
      rw [e2] at hrt ⊢
      obtain ⟨_, a, b⟩ := tape_len (List.all_eq_true.1 it _ (List.getElem_mem hk'))
      exact writeT_ok a b (getD_in w2 (by omega) k) (by omega) hrt
theorem start_ok {m : MultiD} {ws : List (List Int)} (h2 : 2 ≤ m.sy) (h : ws.all (wordOk m) = true) : (startM ws).tapes.all (tapeOk m) = true := by
  rw [List.all_eq_true]
  intro t ht
  obtain ⟨x, hx, rfl⟩ := List.mem_map.1 ht
  have := List.all_eq_true.1 h x hx
  simp only [wordOk, Bool.and_eq_true, decide_eq_true_eq, List.all_eq_true] at this
  have hl := trim_len x
  simp only [tapeOk, startT, Bool.and_eq_true]
  exact ⟨by simp [sideOk], trim_side2 (by omega) (fun z hz => inB_iff.1 (this.2 z hz))⟩
/-- What the texts of a run are: those of all its configurations and the code 0, or none and the code 5 where the tapes are full. -/
def MTx (rs : List MRuleD) (c : MConfD) (N : Nat) (f : MConfD → List UInt8) (L : List (List UInt8)) (k : Int) : Prop :=
  (∃ i, MEnd rs c N i ∧ L = (List.range (i + 1)).map (fun j => f (cfgM rs c j)) ∧ k = 0) ∨ (∃ i, MFull rs c N i ∧ L = [] ∧ k = 5)
theorem MEnd.one {rs : List MRuleD} {c : MConfD} {N i j : Nat} (h : MEnd rs c N i) (h' : MEnd rs c N j) : i = j := by
  rcases Nat.lt_trichotomy i j with e | e | e
  · rcases h.stop with s | s
    · have := h'.le; omega
    · exact absurd s (h'.runs.no i e)
  · exact e
  · rcases h'.stop with s | s
    · have := h.le; omega
    · exact absurd s (h.runs.no j e)
theorem MEnd.notFull {rs : List MRuleD} {c : MConfD} {N i j : Nat} (h : MEnd rs c N i) (h' : MFull rs c N j) : False := by
  have hp := h'.pos
  by_cases e : j ≤ i
  · have := h.runs.room j e
    rw [h'.full] at this
    cases this
  · rcases h.stop with s | s
    · have := h'.le; omega
    · by_cases e2 : i = j - 1
      · rw [e2] at s
        exact h'.no s
      · exact absurd s (h'.runs.no i (by omega))
theorem MTx.unique {rs : List MRuleD} {c : MConfD} {N : Nat} {f : MConfD → List UInt8} {L L' : List (List UInt8)} {k k' : Int} (h : MTx rs c N f L k) (h' : MTx rs c N f L' k') : L = L' ∧ k = k' := by
  rcases h with ⟨i, h, rfl, rfl⟩ | ⟨i, h, rfl, rfl⟩ <;> rcases h' with ⟨j, h', rfl, rfl⟩ | ⟨j, h', rfl, rfl⟩
  · rw [h.one h']; exact ⟨rfl, rfl⟩
  · exact absurd h' (fun h' => h.notFull h')
  · exact absurd h (fun h => h'.notFull h)
  · exact ⟨rfl, rfl⟩
end Go.Proofs.YtkbpchdncljlbaaDoor
end
section
set_option linter.unusedVariables false
set_option linter.unusedSimpArgs false
namespace Go.Proofs.YtkbpchdncljlbaaDoor
open Go Go.RowKit Go.Proofs Go.Maps
set_option maxHeartbeats 400000
theorem trimN_gt (xs : List Int) : ∀ (n i : Nat), i < n → xs.getD i 0 ≠ 0 → i < trimN xs n
  | 0, i, h, _ => by omega
  | n + 1, i, h, h0 => by
    unfold trimN
    split
    · rename_i hz
      by_cases e : i = n
      · subst e
        exact absurd (by simpa using hz) h0
      · exact trimN_gt xs n i (by omega) h0
    · omega
theorem side_word {x : List Int} {sy : Int} (h1 : 1 ≤ sy) (hl : x.length ≤ 200) : sideOk (trim x) sy 200 = (x.all fun z => inB z 0 (sy - 1)) := by
  have hle := trim_len x
  cases hb : (x.all fun z => inB z 0 (sy - 1)) with
  | true =>
    rw [List.all_eq_true] at hb
    exact trim_side2 (by omega) (fun z hz => inB_iff.1 (hb z hz))
  | false =>
    rw [List.all_eq_false] at hb
    obtain ⟨z, hz, hnz⟩ := hb
    obtain ⟨i, hi, rfl⟩ := List.getElem_of_mem hz
    have hg : x.getD i 0 = x[i] := by rw [List.getD_eq_getElem?_getD, List.getElem?_eq_getElem hi]; rfl
    have h0 : x[i] ≠ 0 := fun e => hnz (by rw [e]; exact inB_iff.2 ⟨by omega, by omega⟩)
    have hlt := trimN_gt x x.length i hi (by rw [hg]; exact h0)
    have hm : x[i] ∈ trim x := by
      unfold trim
      rw [List.mem_take_iff_getElem]
      exact ⟨i, by omega, rfl⟩
    cases hs : sideOk (trim x) sy 200 with
    | false => rfl
    | true =>
      simp only [sideOk, Bool.and_eq_true, List.all_eq_true] at hs
      exact absurd (hs.1.2 _ hm) hnz
/-- What the reference's beginning on words gives. -/
def StartS (w0 : World) (m : MultiD) (ws : List (List Int)) (e : Ending) (w' : World) : Prop :=
  (multiOk m = false ∧ e = .returned (.tuple #[.agg #[.int .i64 0, .slice none 0 0], .int .i64 1])) ∨
  (multiOk m = true ∧ ¬ ((ws.length : Int) = m.tp ∧ ws.all (wordOk m) = true) ∧ e = .returned (.tuple #[.agg #[.int .i64 0, .slice none 0 0], .int .i64 2])) ∨
  (multiOk m = true ∧ (ws.length : Int) = m.tp ∧ ws.all (wordOk m) = true ∧ ∃ v, e = .returned (.tuple #[.agg #[.int .i64 0, v], .int .i64 0]) ∧ OwnT w0.heap.size w' v (ws.map startT))
set_option maxRecDepth 20000 in
set_option maxHeartbeats 4000000 in
theorem StartMultiS_c (m : MultiD) (mv wv : Value) (ws : List (List Int)) (vs : List Value) (w : World) (hM : Mult w mv m) (hW : Row w 1 wv ws.length vs) (hI : ∀ i, (h : i < ws.length) → ∃ u, vs[i]? = some u ∧ Ints w u ws[i] ∧ ws[i].length ≤ 1048576) :
    Calls Tryd.prog 21 #[mv, wv] w fun e w' => StartS w m ws e w' ∧ Ext w w' := by
  obtain ⟨rv, rfl, hR⟩ := id hM
  obtain ⟨A, cA, rfl, _, _⟩ := hR.form
  obtain ⟨B, cB, rfl, hB1, hB2, hvl⟩ := hW.form
  obtain ⟨i0, hi0, hz0, hz1, hz2⟩ := info_parts tapeInfoS
  obtain ⟨V, hV⟩ : ∃ V, V = (w.alloc (.cells #[.int .i64 m.tp, .int .i64 m.sy, .int .i64 m.st, .slice A m.rules.length cA] 33)).alloc (.cells #[.int .i64 0, .slice none 0 0] 50) := ⟨_, rfl⟩
  have hX : Ext w V := by rw [hV]; exact (Ext.alloc _ _).trans (Ext.alloc _ _)
  obtain ⟨g, hg⟩ : ∃ g, w.heap.size = g := ⟨_, rfl⟩
  have bM : Blk V g 33 #[.int .i64 m.tp, .int .i64 m.sy, .int .i64 m.st, .slice A m.rules.length cA] := by rw [hV]; exact (Blk.new _ _ _ _ hg).alloc _
  have bO : Blk V (g + 1) 50 #[.int .i64 0, .slice none 0 0] := by rw [hV]; exact Blk.new _ _ _ _ (by simp [hg])
  have VM := l06Is_c g m _ V bM (hR.ext hX)
  cases hm : multiOk m with
  | false =>
    rw [hm] at VM
    have HM := Lib.hid hm
    clear hm
    go_enter Tryd.func21, Tryd.ntmps21
    go_wp2_with fail
    try rw [← hV]
    try rw [hg]
    clear hV
    refine VM.mono ?_
    rintro e w1 ⟨rfl, hx1⟩
    have bO1 := bO.ext hx1
    have ob := bO1.cell
    have of_ := bO1.frozen
    have HX := Lib.hid (((hX.trans hx1).setCell (p := ⟨g + 1, 0, none⟩) (by show w.heap.size ≤ g + 1; omega) (.int .i64 0)).setCell (p := ⟨g + 1, 1, none⟩) (by show w.heap.size ≤ g + 1; omega) (.slice none 0 0))
    go_wp2_with fail
    exact bodyPost_ret (v := .tuple #[.agg #[.int .i64 0, .slice none 0 0], .int .i64 1]) (by simp [results, Tryd.results21, go_sem, ob]) rfl ⟨.inl ⟨HM.out, rfl⟩, HX.out⟩
  | true =>
    rw [hm] at VM
    have HM := Lib.hid hm
    obtain ⟨⟨tp1, tp2⟩, ⟨sy1, sy2⟩, _⟩ := multi_all hm
    clear hm
    by_cases hn : (ws.length : Int) = m.tp
    · have hne : ((ws.length : Int) != m.tp) = false := by simp [hn]
      have HN : Hid ((ws.length : Int) = m.tp) := hn
      have hn3 : ws.length ≤ 3 := by omega
      clear hn
      go_enter Tryd.func21, Tryd.ntmps21
      go_wp2_with fail
      try rw [← hV]
      try rw [hg]
      clear hV
      refine VM.mono ?_
      rintro e w1 ⟨rfl, hx1⟩
      have hX1 := hX.trans hx1
      have bM1 := bM.ext hx1
      have bO1 := bO.ext hx1
      have m0 := bM1.cell 0
      simp only [List.getElem?_toArray, List.getElem?_cons_zero, List.getElem?_cons_succ] at m0
      obtain ⟨W, hWW⟩ : ∃ W, W = w1.alloc (.cells #[.int .i64 0, .slice none 0 0] 50) := ⟨_, rfl⟩
      obtain ⟨gc, hgc⟩ : ∃ gc, w1.heap.size = gc := ⟨_, rfl⟩
      have hXW : Ext w1 W := by rw [hWW]; exact Ext.alloc _ _
      have bC : Blk W gc 50 #[.int .i64 0, .slice none 0 0] := by rw [hWW]; exact Blk.new _ _ _ _ hgc
      have hgl : g + 1 < gc := by rw [← hgc]; exact bO1.lt
      have bMW := bM1.ext hXW
      have bOW := bO1.ext hXW
      have hXWW := hX1.trans hXW
      have st0 : OwnT (gc + 1) W (.slice none 0 0) ((ws.map startT).take 0) := ⟨[], World.ownsRow_nil .., TCells.nil _ _⟩
      clear VM hX bO bM bM1 bO1 hx1 hXW
      go_wp2_with fail
      try rw [← hWW]
      try rw [hgc]
      clear hWW m0
      go_loopw [7] (fun u wr => ∃ (k : Nat) (v : Value), k ≤ ws.length ∧ u = .int .i64 (k : Int) ∧ OwnT (gc + 1) wr v ((ws.map startT).take k) ∧ Ext w wr ∧ Blk wr g 33 #[.int .i64 m.tp, .int .i64 m.sy, .int .i64 m.st, .slice A m.rules.length cA] ∧ Blk wr (g + 1) 50 #[.int .i64 0, .slice none 0 0] ∧ Blk wr gc 50 #[.int .i64 0, v] ∧ Hid (∀ i, (h : i < ws.length) → i < k → wordOk m ws[i] = true)) (fun u _ => ws.length - (intOf u).toNat)
      case atStart => exact ⟨0, _, Nat.zero_le _, rfl, st0, hXWW, bMW, bOW, bC, fun i _ h => by omega⟩
      case round =>
        clear st0 hXWW bMW bOW bC
        obtain ⟨k, v, hk, rfl, st, hx, bM, bO, bC, HALL⟩ := hrel
        have m1 := bM.cell 1
        simp only [List.getElem?_toArray, List.getElem?_cons_zero, List.getElem?_cons_succ] at m1
        by_cases hlt : k < ws.length
        · obtain ⟨u, hu, iu, hlw⟩ := hI k hlt
          obtain ⟨b, off, rfl, hc⟩ := Row.at hW hlt
          have x0 := hx.cell ((hc k (by omega)).trans hu)
          have HNO : Hid (wordOk m ws[k] = false → ¬ ((ws.length : Int) = m.tp ∧ ws.all (wordOk m) = true)) := Lib.hid fun hf h => by
            have := List.all_eq_true.1 h.2 _ (List.getElem_mem hlt)
            rw [hf] at this
            cases this
          have HYES : Hid (wordOk m ws[k] = true → ∀ i, (h : i < ws.length) → i < k + 1 → wordOk m ws[i] = true) := Lib.hid fun ht i hi1 hi2 => by
            by_cases e : i = k
            · subst e; exact ht
            · exact HALL.out i hi1 (by omega)
          have hwk : Hid ((ws.map startT).take (k + 1) = (ws.map startT).take k ++ [startT ws[k]]) := by
            unfold Hid
            rw [List.take_succ_eq_append_getElem (by simpa using hlt)]
            simp
          obtain ⟨x, hxk⟩ : ∃ x, ws[k] = x := ⟨_, rfl⟩
          rw [hxk] at iu HNO HYES hwk hlw
          obtain ⟨A1, k1, rfl, _, _⟩ := id iu.form
          have TR := l06Trim_c _ x wr (iu.ext hx) hlw
          clear hxk hc hu iu
          go_wp2_with fail
          refine TR.mono ?_
          rintro e w3 ⟨u, rfl, ot, hx3⟩
          obtain ⟨A3, c3, rfl, _, _⟩ := id ot.ints.form
          have hX3 := hx.trans hx3
          have bM3 := bM.ext hx3
          have bO3 := bO.ext hx3
          have bC3 := bC.ext hx3
          have y0 := hx3.cell x0
          have y1 := bM3.cell 1
          simp only [List.getElem?_toArray, List.getElem?_cons_zero, List.getElem?_cons_succ] at y1
          have ob := bO3.cell
          have of_ := bO3.frozen
          have HX := Lib.hid ((hX3.setCell (p := ⟨g + 1, 0, none⟩) (by show w.heap.size ≤ g + 1; omega) (.int .i64 0)).setCell (p := ⟨g + 1, 1, none⟩) (by show w.heap.size ≤ g + 1; omega) (.slice none 0 0))
          clear TR x0 m1
          by_cases h200 : 200 < x.length
          · have HB : Hid (¬ ((ws.length : Int) = m.tp ∧ ws.all (wordOk m) = true)) := HNO.out (by unfold wordOk; rw [decide_eq_false (by omega)]; rfl)
            have i4 : (200 : Int) < (x.length : Int) := by omega
            clear st
            go_wp2_with fail
            exact bodyPost_ret (v := .tuple #[.agg #[.int .i64 0, .slice none 0 0], .int .i64 2]) (by simp [results, Tryd.results21, go_sem, ob]) rfl ⟨.inr (.inl ⟨HM.out, HB.out, rfl⟩), HX.out⟩
          · have i4 : ¬ (200 : Int) < (x.length : Int) := by omega
            have AW := l06Side_c _ (trim x) m.sy w3 ot.ints (by omega) (by omega)
            rw [side_word (by omega) (by omega)] at AW
            have HWO : Hid (wordOk m x = (x.all fun z => inB z 0 (m.sy - 1))) := by unfold Hid wordOk; rw [decide_eq_true (by omega), Bool.true_and]
            generalize (x.all fun z => inB z 0 (m.sy - 1)) = ok at *
            cases ok with
            | false =>
              have HB := Lib.hid (HNO.out HWO.out)
              clear st
              go_wp2_with fail
              refine AW.mono ?_
              rintro e _ ⟨rfl, rfl⟩
              go_wp2_with fail
              exact bodyPost_ret (v := .tuple #[.agg #[.int .i64 0, .slice none 0 0], .int .i64 2]) (by simp [results, Tryd.results21, go_sem, ob]) rfl ⟨.inr (.inl ⟨HM.out, HB.out, rfl⟩), HX.out⟩
            | true =>
              have HY := Lib.hid (HYES.out HWO.out)
              have z1 := bC3.cell 1
              simp only [List.getElem?_toArray, List.getElem?_cons_zero, List.getElem?_cons_succ] at z1
              obtain ⟨h3, hh3⟩ : ∃ q, w3.heap.size = q := ⟨_, rfl⟩
              have hgc3 : gc < h3 := by rw [← hh3]; exact bC3.lt
              have hgc3' : gc < w3.heap.size := bC3.lt
              have hsr := hx.size
              have hsr3 := hx3.size
              have hgcr : gc < wr.heap.size := bC.lt
              obtain ⟨W5, hW5⟩ : ∃ W5, W5 = w3.alloc (.cells #[] 2) := ⟨_, rfl⟩
              have e5 : Ext w3 W5 := by rw [hW5]; exact Ext.alloc _ _
              have hs5 : W5.heap.size = h3 + 1 := by rw [hW5]; simp [hh3]
              have on5 : OwnInts (gc + 1) W5 (.slice (some ⟨h3, 0, none⟩) 0 0) [] := by
                rw [hW5, ← hh3]
                exact ownsRow_base (World.ownsRow_made (base := w3.heap.size) (e := 2) (size := 1) w3 #[] 0 (by simp) (by unfold maxLen; omega) (by simp)) (by omega)
              obtain ⟨W6, hW6⟩ : ∃ W6, W6 = W5.alloc (.cells #[.slice (some ⟨h3, 0, none⟩) 0 0, .slice A3 (trim x).length c3] 79) := ⟨_, rfl⟩
              have e6 : Ext W5 W6 := by rw [hW6]; exact Ext.alloc _ _
              have bN : Blk W6 (h3 + 1) 79 #[.slice (some ⟨h3, 0, none⟩) 0 0, .slice A3 (trim x).length c3] := by rw [hW6]; exact Blk.new _ _ _ _ hs5
              have eA : Ext w3 W6 := e5.trans e6
              have hXr : Ext wr W6 := hx3.trans eA
              obtain ⟨cl, ho1, hcl⟩ := st
              have hlk : ((ws.map startT).take k).length = k := by simp; omega
              rw [hlk] at ho1
              obtain ⟨Av, cv, rfl, _, _, _⟩ := (ownsRow_row ho1).form
              have ho6 := ownsRow_ext ho1 hXr
              have hNL : TCells (gc + 1) W6 (cl ++ [.slice (some ⟨h3, 0, none⟩) 0 0, .slice A3 (trim x).length c3]) ((ws.map startT).take k ++ [startT x]) :=
                (hcl.ext hXr).snoc (t := startT x) (OwnInts.ext on5 e6) (OwnInts.ext (ownsRow_base ot (by omega)) eA)
              have hs6 : gc + 1 ≤ W6.heap.size := by have := eA.size; omega
              have HLK2 := Lib.hid hlk
              clear hlk HX ob of_ ot on5 HNO HYES e5 e6
              generalize (trim x).length = nt at *
              go_wp2_with fail
              refine AW.mono ?_
              rintro e _ ⟨rfl, rfl⟩
              clear AW
              subst hW6 hW5
              go_wp2_with (at_builtin; refine wpList_append_own_at _ rfl _ _ 48 rfl (gc + 1) 79 i0 (.agg #[.slice none 0 0, .slice none 0 0]) 2 48 Tryd.underlying48 hi0 hz0 hz1 hz2 rfl (by decide) _ _ cl rfl ho6 ⟨h3 + 1, 0, none⟩ 1 1 [.slice (some ⟨h3, 0, none⟩) 0 0, .slice A3 nt c3] rfl rfl (World.news_of_block bN) ?c2 ?c3 ?c4 ?c5 ?_)
              case c2 => first | exact ⟨rfl, rfl⟩ | (intro u hu; simp at hu; rcases hu with rfl | rfl <;> rfl)
              case c3 => unfold maxLen; omega
              case c4 => omega
              case c5 => first | exact hs6 | omega
              intro v' w7 hown7 hg7 _ _
              have hg7' := hg7
              have HS : OwnT (gc + 1) w7 v' ((ws.map startT).take (k + 1)) := by
                rw [hwk.out]
                refine ⟨_, ?_, hNL.same fun q cs hq => hg7'.block q hq.lt (blk_ne_row hq ho6 (by decide))⟩
                have : ((ws.map startT).take k ++ [startT x]).length = k + 1 := by rw [List.length_append, HLK2.out]; rfl
                rw [this]
                exact hown7
              obtain ⟨A7, c7, rfl, _, _, _⟩ := (ownsRow_row hown7).form
              have bM7 := Blk.apart (bM3.ext eA) ho6 (by decide) hg7'
              have bO7 := Blk.apart (bO3.ext eA) ho6 (by decide) hg7'
              have bC7 := Blk.apart (bC3.ext eA) ho6 (by decide) hg7'
              have hx7 : Ext w w7 := (hX3.trans eA).grown hg7' (fun q hq => by have := (ho6.lt q hq).1; omega)
              have q3' := bC7.cell 1
              have qf := bC7.frozen 1
              simp only [List.getElem?_toArray, List.getElem?_cons_zero, List.getElem?_cons_succ] at q3'
              have HS' := Lib.hid (HS.far bC7 (by decide) (by decide) 1 (.slice A7 (k + 1) c7))
              have HX := Lib.hid (hx7.setCell (p := ⟨gc, 1, none⟩) (by show w.heap.size ≤ gc; omega) (.slice A7 (k + 1) c7))
              have HO := Lib.hid (bO7.far (p := ⟨gc, 1, none⟩) (by show g + 1 ≠ gc; omega) (.slice A7 (k + 1) c7))
              have HMM := Lib.hid (bM7.far (p := ⟨gc, 1, none⟩) (by show g ≠ gc; omega) (.slice A7 (k + 1) c7))
              have HC := Lib.hid (bC7.set_ 1 (.slice A7 (k + 1) c7))
              clear eA bN hXr ho6 hNL hown7 hg7 hg7' hx ho1 hcl HS bO bC bM bO7 bC7 bM7 hx7 bO3 bC3 bM3 hX3 hx3
              go_wp2_with fail
              go_roundw
              case rel => exact ⟨k + 1, _, by omega, by go_num, HS'.out, HX.out, HMM.out, HO.out, HC.out, HY.out⟩
              case measure => simp [intOf]; omega
        · obtain rfl : k = ws.length := by omega
          have hq0 := bC.cell 0
          have hq1 := bC.cell 1
          simp only [List.getElem?_toArray, List.getElem?_cons_zero, List.getElem?_cons_succ] at hq0 hq1
          have htk : (ws.map startT).take ws.length = ws.map startT := List.take_of_length_le (by simp)
          rw [htk] at st
          obtain ⟨Av, cv, rfl, _, _⟩ := st.form
          have HLW : Hid (ws.all (wordOk m) = true) := Lib.hid (by
            rw [List.all_eq_true]
            intro x hx
            obtain ⟨i, hi', rfl⟩ := List.getElem_of_mem hx
            exact HALL.out i hi' hi')
          have ob := bO.cell
          have of_ := bO.frozen
          have hsz := hx.size
          have HML : Hid ((ws.map startT).length = ws.length) := by unfold Hid; simp
          generalize (ws.map startT).length = nl at *
          have HT : Hid (∀ a b, OwnT w.heap.size ((wr.setCell ⟨g + 1, 0, none⟩ a).setCell ⟨g + 1, 1, none⟩ b) (.slice Av nl cv) (ws.map startT)) := Lib.hid fun a b => by
            have h1 := (st.far bO (by decide) (by decide) 0 a).far (bO.set_ 0 a) (by decide) (by decide) 1 b
            obtain ⟨cl, p1, p2⟩ := h1
            exact ⟨cl, ownsRow_base p1 (by omega), p2.1, fun i hi => by
              obtain ⟨x, y, c0, c1, o1, o2⟩ := p2.2 i hi
              exact ⟨x, y, c0, c1, ownsRow_base o1 (by omega), ownsRow_base o2 (by omega)⟩⟩
          have HE : Hid (∀ a b, Ext w ((wr.setCell ⟨g + 1, 0, none⟩ a).setCell ⟨g + 1, 1, none⟩ b)) := Lib.hid fun a b => (hx.setCell (p := ⟨g + 1, 0, none⟩) (by show w.heap.size ≤ g + 1; omega) a).setCell (p := ⟨g + 1, 1, none⟩) (by show w.heap.size ≤ g + 1; omega) b
          clear st htk bC bO bM
          go_wp2_with fail
          exact bodyPost_ret (v := .tuple #[.agg #[.int .i64 0, .slice Av nl cv], .int .i64 0]) (by simp [results, Tryd.results21, go_sem, ob]) rfl ⟨.inr (.inr ⟨HM.out, HN.out, HLW.out, _, rfl, HT.out _ _⟩), HE.out _ _⟩
    · have hne : ((ws.length : Int) != m.tp) = true := by simp [hn]
      have HN : Hid (¬ ((ws.length : Int) = m.tp ∧ ws.all (wordOk m) = true)) := fun h => hn h.1
      clear hn
      go_enter Tryd.func21, Tryd.ntmps21
      go_wp2_with fail
      try rw [← hV]
      try rw [hg]
      clear hV
      refine VM.mono ?_
      rintro e w1 ⟨rfl, hx1⟩
      have bM1 := bM.ext hx1
      have m0 := bM1.cell 0
      simp only [List.getElem?_toArray, List.getElem?_cons_zero, List.getElem?_cons_succ] at m0
      have bO1 := bO.ext hx1
      have ob := bO1.cell
      have of_ := bO1.frozen
      have HX := Lib.hid (((hX.trans hx1).setCell (p := ⟨g + 1, 0, none⟩) (by show w.heap.size ≤ g + 1; omega) (.int .i64 0)).setCell (p := ⟨g + 1, 1, none⟩) (by show w.heap.size ≤ g + 1; omega) (.slice none 0 0))
      go_wp2_with fail
      exact bodyPost_ret (v := .tuple #[.agg #[.int .i64 0, .slice none 0 0], .int .i64 2]) (by simp [results, Tryd.results21, go_sem, ob]) rfl ⟨.inr (.inl ⟨HM.out, HN.out, rfl⟩), HX.out⟩
end Go.Proofs.YtkbpchdncljlbaaDoor
end
section
set_option linter.unusedSimpArgs false
set_option linter.unusedVariables false
namespace Go.Proofs.YtkbpchdncljlbaaDoor
open Go Go.RowKit Go.Proofs
set_option maxHeartbeats 400000
abbrev BdAt (B b : Nat) (p : Value) (l : List UInt8) (w : World) : Prop := Lib.BuilderAt 102 5 B b p (Lib.byteCells l) w
/-- A builder of the call's own, that may have been written. -/
def Bldr (B b : Nat) (l : List UInt8) (w : World) : Prop := Lib.IsBuilder 102 5 B b (Lib.byteCells l) w
theorem bldSize : (Tryd.prog.info? 102).map (·.size) = some 2 := by kernel_rfl
theorem bldLies : liesAt Tryd.prog Tryd.prog.depth 102 (2 / Tryd.prog.cellsOf 102) 0 102 1 = true := by kernel_rfl
theorem byteInfo : (Tryd.prog.info? 5).map (fun i => (i.zero, i.size, i.bytes)) = some (some (.int .u8 0), 1, 1) := by kernel_rfl
set_option maxRecDepth 20000 in
theorem copyFresh_c (b : Nat) (w : World) (h0 : w.cell? ⟨b, 0, none⟩ = some (.pointer none)) (hsh : w.shape? b = some (102, 2)) (hfz : w.frozen? ⟨b, 0, none⟩ = false) :
    Calls Tryd.prog 75 #[.pointer (some ⟨b, 0, none⟩)] w fun e w' => e = .returned (.tuple #[]) ∧ w' = w.setCell ⟨b, 0, none⟩ (.pointer (some ⟨b, 0, none⟩)) := by
  obtain ⟨j, hj, hjs⟩ := Option.map_eq_some_iff.1 bldSize
  go_enter Tryd.func75, Tryd.ntmps75
  go_wp2
  rw [Lib.run_to_unsafe w ⟨b, 0, none⟩ Tryd.underlying99 Tryd.underlying119 hj (by rw [hjs]; decide) hsh (Nat.zero_lt_succ 1)]
  simp only [Result.andThen]
  rw [Oper.upon_value]
  go_wp2
  rw [run_callFunc_extern Tryd.func81 (by kernel_rfl) (by kernel_rfl) (by kernel_rfl) (e := Extern.AbiNoEscape.same) (by kernel_rfl)]
  rw [Lib.run_noEscape]
  simp only [Result.andThen]
  rw [Oper.upon_value]
  go_wp2
  rw [Lib.run_from_unsafe w ⟨b, 0, none⟩ Tryd.underlying119 Tryd.underlying99 hj hsh bldLies]
  simp only [Result.andThen]
  rw [Oper.upon_value]
  go_wp2
  go_end0
  exact ⟨rfl, rfl⟩
set_option maxRecDepth 20000 in
theorem copyUsed_c (b : Nat) (w : World) (h0 : w.cell? ⟨b, 0, none⟩ = some (.pointer (some ⟨b, 0, none⟩))) :
    Calls Tryd.prog 75 #[.pointer (some ⟨b, 0, none⟩)] w fun e w' => e = .returned (.tuple #[]) ∧ w' = w := by
  obtain ⟨j, hj, _⟩ := Option.map_eq_some_iff.1 bldSize
  go_enter Tryd.func75, Tryd.ntmps75
  go_wp2
  rw [Lib.run_neq_ptr_same w _ Tryd.underlying99 hj]
  go_wp2
  go_end0
  exact ⟨rfl, rfl⟩
theorem copyCheck_c (B b : Nat) (l : List UInt8) (w : World) (h : Bldr B b l w) :
    Calls Tryd.prog 75 #[.pointer (some ⟨b, 0, none⟩)] w fun e w' => e = .returned (.tuple #[]) ∧ BdAt B b (.pointer (some ⟨b, 0, none⟩)) l w' ∧ Below B w w' := by
  rcases h with h | h
  · refine (copyFresh_c b w h.cell0 h.shape h.frozen0).mono ?_
    rintro e w' ⟨rfl, rfl⟩
    exact ⟨rfl, h.used _, (Below.refl B w).setCell (p := ⟨b, 0, none⟩) h.1 _⟩
  · refine (copyUsed_c b w h.cell0).mono ?_
    rintro e w' ⟨rfl, rfl⟩
    exact ⟨rfl, h, Below.refl B _⟩
set_option maxRecDepth 20000 in
set_option maxHeartbeats 4000000 in
/-- An ASCII rune behind a row of bytes of the call's own. -/
theorem appendRuneA_c (B : Nat) (v : Value) (n : Nat) (xs : List Value) (r : Int) (h0 : 0 ≤ r) (h1 : r ≤ 127) (w : World) (hown : w.ownsRow B 5 1 v n xs) (hlen : n + 4 ≤ 140737488355328) (hBw : B ≤ w.heap.size) :
    Calls Tryd.prog 83 #[v, .int .i32 r] w fun e w' => ∃ v', e = .returned v' ∧ w'.ownsRow B 5 1 v' (n + 1) (xs ++ [.int .u8 r]) ∧ ∃ o, (w.alloc o).grownBy w' v.ownBlock := by
  obtain ⟨i0, hi, hz0, hz1, hz2⟩ := info_parts byteInfo
  go_enter Tryd.func83, Tryd.ntmps83
  go_wp2_with (at_builtin; refine wpList_append_own_at _ rfl _ _ 100 rfl B 5 i0 (.int .u8 0) 1 1 Tryd.underlying100 hi hz0 hz1 hz2 rfl (by decide) _ _ _ rfl (hown.alloc _) ⟨w.heap.size, 0, none⟩ 1 1 [.int .u8 r] rfl rfl (cell_one_new _ _ _) ?c2 ?c3 ?c4 ?c5 ?_)
  case c2 => intro u hu; simp at hu; subst hu; rfl
  case c3 => unfold maxLen; omega
  case c4 => omega
  case c5 => simp; omega
  intro v' w2 hown' hgrow _ _
  go_wp2
  go_ret
  exact ⟨_, rfl, hown', _, hgrow⟩
set_option maxRecDepth 20000 in
set_option maxHeartbeats 4000000 in
theorem writeRuneA_c (B b : Nat) (l : List UInt8) (c : UInt8) (hc : c.toNat ≤ 127) (w : World) (h : Bldr B b l w) (hlen : l.length + 4 ≤ 140737488355328) (hBw : B ≤ w.heap.size) :
    Calls Tryd.prog 77 #[.pointer (some ⟨b, 0, none⟩), .int .i32 c.toNat] w fun e w' => e = .returned (.tuple #[.int .i64 1, .nilIface]) ∧ BdAt B b (.pointer (some ⟨b, 0, none⟩)) (l ++ [c]) w' ∧ Below B w w' := by
  have e240 : ∀ args w, (callFunc 75 args).run Tryd.prog w = .ok (.enter 75 args) w := enters_of Tryd.func75 (by kernel_rfl) rfl
  have hbl : (Lib.byteCells l).length = l.length := by simp [Lib.byteCells]
  go_enter Tryd.func77, Tryd.ntmps77
  go_wp2_with fail
  refine (copyCheck_c B b l w h).mono ?_
  rintro e w1 ⟨rfl, h1, hb1⟩
  obtain ⟨hB, v, hbk, hown, hne⟩ := h1
  rw [hbl] at hown
  obtain ⟨ao, cap, rfl⟩ : ∃ ao cap, v = .slice ao l.length cap := by
    rcases hown.2 with ⟨hv, h0⟩ | ⟨g, cap, cur, hv, _⟩
    · exact ⟨none, 0, by rw [hv, h0]⟩
    · exact ⟨_, _, hv⟩
  have c0 : w1.cell? ⟨b, 0, none⟩ = some (.pointer (some ⟨b, 0, none⟩)) := by rw [Lib.cell_of_heap hbk]; rfl
  have c1 : w1.cell? ⟨b, 1, none⟩ = some (.slice ao l.length cap) := by rw [Lib.cell_of_heap hbk]; rfl
  have hbs := hb1.size
  have hlt : b < w1.heap.size := by
    rcases Nat.lt_or_ge b w1.heap.size with h' | h'
    · exact h'
    · simp [Array.getElem?_eq_none h'] at hbk
  go_wp2_with fail
  refine (appendRuneA_c B _ l.length _ (c.toNat : Int) (by omega) (by omega) w1 hown hlen (by omega)).mono ?_
  rintro e w2 ⟨v', rfl, hown', o, hgrow⟩
  have hb2 : w2.heap[b]? = some (.cells #[.pointer (some ⟨b, 0, none⟩), .slice ao l.length cap] 102 (0, 0)) := by
    rw [hgrow.block b (by simp; omega) (fun e => hne e.symm), Lib.alloc_old w1 _ b hlt]
    exact hbk
  have d0 : w2.cell? ⟨b, 0, none⟩ = some (.pointer (some ⟨b, 0, none⟩)) := by rw [Lib.cell_of_heap hb2]; rfl
  have d1 : w2.cell? ⟨b, 1, none⟩ = some (.slice ao l.length cap) := by rw [Lib.cell_of_heap hb2]; rfl
  have f1 : w2.frozen? ⟨b, 1, none⟩ = false := Lib.frozen_of_heap hb2 1
  obtain ⟨g, cap', rfl⟩ : ∃ g cap', v' = .slice (some ⟨g, 0, none⟩) (l.length + 1) cap' := by
    rcases hown'.2 with ⟨_, h0⟩ | ⟨g, cap', cur, hv, _⟩
    · omega
    · exact ⟨g, cap', hv⟩
  have e1 : (l.length : Int) + 1 - (l.length : Int) = 1 := by omega
  go_wp2
  go_ret2
  refine ⟨by simp, ?_, ?_⟩
  · refine Lib.BuilderAt.put (T := 102) (e := 5) hB hb2 (bs' := Lib.byteCells (l ++ [c])) ?_ (by decide)
    have : Lib.byteCells (l ++ [c]) = Lib.byteCells l ++ [.int .u8 c.toNat] := by simp [Lib.byteCells]
    rw [this]
    simpa [hbl] using hown'
  · exact ((hb1.alloc (by have := hb1.size; omega) _).grown hgrow (by have := hb1.size; simp; omega) (fun k hk => (hown.lt k hk).1)).setCell (p := ⟨b, 1, none⟩) hB _
end Go.Proofs.YtkbpchdncljlbaaDoor
end
