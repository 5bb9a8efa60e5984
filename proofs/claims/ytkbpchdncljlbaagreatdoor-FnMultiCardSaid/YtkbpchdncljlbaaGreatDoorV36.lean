/- Plain words: the run of a machine with several tapes as a function, its beginning on words, the word on a tape, the copier and the machine of palindromes with three symbols.
A block that is known whole, as a full row. No condition.
Contracts of the program's rules of two tapes, of the rules that copy, and of the copier. -/
import Derived.Test.YtkbpchdncljlbaaGreatDoorV27
import Derived.Test.YtkbpchdncljlbaaGreatDoorV15
import Derived.Test.YtkbpchdncljlbaaGreatDoorV32
section
set_option linter.unusedVariables false
set_option linter.unusedSimpArgs false
namespace Go.Proofs.YtkbpchdncljlbaaGreatDoor
open Go Go.RowKit Go.Proofs
/-- At most N steps: how many, whether it halts, where; nothing without room. -/
def runB (rs : List MRuleD) : Nat → MConfD → Option (Nat × Bool × MConfD)
  | 0, c => some (0, (lookM rs c).isNone, c)
  | N + 1, c => match lookM rs c with
    | none => some (0, true, c)
    | some i => if roomM (applyM c (rs.getD i mr0)) then (match runB rs N (applyM c (rs.getD i mr0)) with | some (k, h, x) => some (k + 1, h, x) | none => none) else none
theorem cfgM_shift (rs : List MRuleD) (c : MConfD) : ∀ i, cfgM rs c (i + 1) = cfgM rs (stepM rs c) i
  | 0 => rfl
  | i + 1 => by
    show stepM rs (cfgM rs c (i + 1)) = stepM rs (cfgM rs (stepM rs c) i)
    rw [cfgM_shift rs c i]
theorem MRuns.tail {rs : List MRuleD} {c : MConfD} {i : Nat} (h : MRuns rs c (i + 1)) : MRuns rs (stepM rs c) i :=
  ⟨fun j hj => by rw [← cfgM_shift]; exact h.no (j + 1) (by omega), fun j hj => by rw [← cfgM_shift]; exact h.room (j + 1) (by omega)⟩
theorem step_some {rs : List MRuleD} {c : MConfD} {i : Nat} (h : lookM rs c = some i) : stepM rs c = applyM c (rs.getD i mr0) := by unfold stepM; rw [h]
theorem runB_end (rs : List MRuleD) : ∀ (N : Nat) (c : MConfD) (i : Nat), MEnd rs c N i → runB rs N c = some (i, (lookM rs (cfgM rs c i)).isNone, cfgM rs c i)
  | 0, c, i, h => by
    obtain rfl : i = 0 := by have := h.le; omega
    rfl
  | N + 1, c, i, h => by
    cases i with
    | zero =>
      rcases h.stop with e | e
      · omega
      · simp only [runB]
        have e' : lookM rs c = none := e
        simp [e', cfgM]
    | succ i =>
      have h0 := h.runs.no 0 (by omega)
      have h1 := h.runs.room 1 (by omega)
      cases hl : lookM rs c with
      | none => exact absurd hl h0
      | some k =>
        have hs := step_some hl
        have hr : roomM (applyM c (rs.getD k mr0)) = true := by rw [← hs]; exact h1
        have ih := runB_end rs N (stepM rs c) i ⟨h.runs.tail, by have := h.le; omega, by
          rcases h.stop with e | e
          · exact .inl (by omega)
          · exact .inr (by rw [← cfgM_shift]; exact e)⟩
        rw [hs] at ih
        simp only [runB, hl, hr, if_true, ih]
        rw [cfgM_shift, hs]
theorem runB_full (rs : List MRuleD) : ∀ (N : Nat) (c : MConfD) (i : Nat), MFull rs c N i → runB rs N c = none
  | 0, c, i, h => by have := h.le; have := h.pos; omega
  | N + 1, c, i, h => by
    have hp := h.pos
    obtain ⟨i, rfl⟩ : ∃ k, i = k + 1 := ⟨i - 1, by omega⟩
    cases i with
    | zero =>
      have h0 := h.no
      have hf := h.full
      cases hl : lookM rs c with
      | none => exact absurd hl h0
      | some k =>
        have hs := step_some hl
        have hr : roomM (applyM c (rs.getD k mr0)) = false := by rw [← hs]; exact hf
        simp only [runB, hl, hr, Bool.false_eq_true, if_false]
    | succ i =>
      have h0 := h.runs.no 0 (by omega)
      have h1 := h.runs.room 1 (by omega)
      cases hl : lookM rs c with
      | none => exact absurd hl h0
      | some k =>
        have hs := step_some hl
        have hr : roomM (applyM c (rs.getD k mr0)) = true := by rw [← hs]; exact h1
        have ih := runB_full rs N (stepM rs c) (i + 1) ⟨by omega, h.runs.tail, by have := h.le; omega, by
          show lookM rs (cfgM rs (stepM rs c) i) ≠ none
          rw [← cfgM_shift]; exact h.no, by rw [← cfgM_shift]; exact h.full⟩
        rw [hs] at ih
        simp only [runB, hl, hr, if_true, ih]
/-- The beginning on words. -/
def startT (x : List Int) : TapeD := ⟨[], trim x⟩
def startM (ws : List (List Int)) : MConfD := ⟨0, ws.map startT⟩
def dropZ : List Int → List Int
  | [] => []
  | x :: xs => if x = 0 then dropZ xs else x :: xs
/-- The word on a tape. -/
def wordT (t : TapeD) : List Int := dropZ (trim (t.l.reverse ++ t.r))
def twoT (q a b x y n : Int) : MRuleD := ⟨q, [a, b], [a, b], [x, y], n⟩
def copyR (s : Int) : MRuleD := ⟨0, [s, 0], [s, s], [1, 1], 0⟩
def copyRs (n : Nat) : List MRuleD := List.map (fun i : Nat => copyR ((i : Int) + 1)) (List.range n)
def copyRs3 : List MRuleD := [copyR 1, copyR 2]
def copier3 : MultiD := ⟨2, 3, 1, copyRs3⟩
def palRs3 : List MRuleD := [twoT 0 0 0 (-1) 0 1, copyR 1, copyR 2, twoT 1 0 0 1 (-1) 2, twoT 1 1 0 (-1) 0 1, twoT 1 2 0 (-1) 0 1, twoT 2 0 0 0 0 3, twoT 2 1 1 1 (-1) 2, twoT 2 2 2 1 (-1) 2]
def pal3 : MultiD := ⟨2, 3, 4, palRs3⟩
def swapL (xs : List Int) : List Int := [xs.getD 1 0, xs.getD 0 0]
def swapR (r : MRuleD) : MRuleD := ⟨r.st, swapL r.rd, swapL r.wr, swapL r.mv, r.nx⟩
/-- The machine of palindromes with its tapes exchanged. -/
def palRs3x : List MRuleD := [twoT 0 0 0 0 (-1) 1, swapR (copyR 1), swapR (copyR 2), twoT 1 0 0 (-1) 1 2, twoT 1 0 1 0 (-1) 1, twoT 1 0 2 0 (-1) 1, twoT 2 0 0 0 0 3, twoT 2 1 1 (-1) 1 2, twoT 2 2 2 (-1) 1 2]
def pal3x : MultiD := ⟨2, 3, 4, palRs3x⟩
def chkC (w : List Int) : Bool := match runB copyRs3 100 (startM [w, []]) with
  | some (n, true, c) => decide (n = w.length) && decide (wordT (c.tapes.getD 1 ⟨[], []⟩) = w)
  | _ => false
def chkP (w : List Int) : Bool := match runB palRs3 200 (startM [w, []]) with
  | some (n, true, c) => (decide (c.q = 3) == decide (w = w.reverse)) && (match runB palRs3x 200 (startM [[], w]) with
    | some (k, true, d) => decide (k = n) && decide (d.q = c.q)
    | _ => false)
  | _ => false
def chkW (w : List Int) : Bool := chkC w && chkP w
def wordsL : Nat → List (List Int)
  | 0 => [[]]
  | n + 1 => (wordsL n).map (fun w => 1 :: w) ++ (wordsL n).map (fun w => 2 :: w)
theorem mem_wordsL : ∀ (w : List Int), (∀ z ∈ w, z = 1 ∨ z = 2) → w ∈ wordsL w.length
  | [], _ => by simp [wordsL]
  | z :: w, h => by
    have ih := mem_wordsL w (fun y hy => h y (by simp [hy]))
    simp only [List.length_cons, wordsL, List.mem_append, List.mem_map]
    rcases h z (by simp) with rfl | rfl
    · exact .inl ⟨w, ih, rfl⟩
    · exact .inr ⟨w, ih, rfl⟩
end Go.Proofs.YtkbpchdncljlbaaGreatDoor
end
section
namespace Go.Proofs.YtkbpchdncljlbaaGreatDoor
open Go Go.RowKit Go.Proofs
theorem ownsRow_blk {w : World} {base g : Nat} {e : TypeId} {cs : Array Value} (size n : Nat) (hb : Blk w g e cs) (hg : base ≤ g) (hs : cs.size = n * size) (hm : n ≤ 1000000) : w.ownsRow base e size (.slice (some ⟨g, 0, none⟩) n n) n cs.toList :=
  ⟨by simp [hs], .inr ⟨g, n, cs, rfl, hg, hb, Nat.le_refl _, by unfold maxLen; omega, hs, List.take_of_length_le (by simp [hs])⟩⟩
end Go.Proofs.YtkbpchdncljlbaaGreatDoor
end
section
set_option linter.unusedVariables false
set_option linter.unusedSimpArgs false
namespace Go.Proofs.YtkbpchdncljlbaaGreatDoor
open Go Go.RowKit Go.Proofs Go.Maps
set_option maxHeartbeats 400000
/-- The cells of rules, whose lists are a row's own. -/
def MCells (base : Nat) (w : World) (cl : List Value) (rs : List MRuleD) : Prop :=
  cl.length = rs.length * 5 ∧ ∀ i, (h : i < rs.length) → ∃ vr vw vm, cl[i * 5]? = some (.int .i64 rs[i].st) ∧ cl[i * 5 + 1]? = some vr ∧ cl[i * 5 + 2]? = some vw ∧ cl[i * 5 + 3]? = some vm ∧ cl[i * 5 + 4]? = some (.int .i64 rs[i].nx) ∧
    OwnInts base w vr rs[i].rd ∧ OwnInts base w vw rs[i].wr ∧ OwnInts base w vm rs[i].mv
def mcell (r : MRuleD) (vr vw vm : Value) : List Value := [.int .i64 r.st, vr, vw, vm, .int .i64 r.nx]
theorem MCells.nil (base : Nat) (w : World) : MCells base w [] [] := ⟨rfl, fun i h => by simp at h⟩
theorem MCells.one {base : Nat} {w : World} {r : MRuleD} {vr vw vm : Value} (h1 : OwnInts base w vr r.rd) (h2 : OwnInts base w vw r.wr) (h3 : OwnInts base w vm r.mv) : MCells base w (mcell r vr vw vm) [r] :=
  ⟨rfl, fun i h => by
    obtain rfl : i = 0 := by simp at h; omega
    exact ⟨vr, vw, vm, rfl, rfl, rfl, rfl, rfl, h1, h2, h3⟩⟩
theorem MCells.append {base : Nat} {w : World} {cl cl' : List Value} {rs rs' : List MRuleD} (h : MCells base w cl rs) (h' : MCells base w cl' rs') : MCells base w (cl ++ cl') (rs ++ rs') := by
  obtain ⟨a, b⟩ := h
  obtain ⟨a', b'⟩ := h'
  refine ⟨by simp [a, a']; omega, fun i hi => ?_⟩
  by_cases hlt : i < rs.length
  · obtain ⟨vr, vw, vm, c0, c1, c2, c3, c4, o⟩ := b i hlt
    refine ⟨vr, vw, vm, ?_, ?_, ?_, ?_, ?_, ?_⟩
    · rw [List.getElem?_append_left (by omega), c0, List.getElem_append_left hlt]
    · rw [List.getElem?_append_left (by omega), c1]
    · rw [List.getElem?_append_left (by omega), c2]
    · rw [List.getElem?_append_left (by omega), c3]
    · rw [List.getElem?_append_left (by omega), c4, List.getElem_append_left hlt]
    · rw [List.getElem_append_left hlt]; exact o
  · have hi' : i - rs.length < rs'.length := by simp at hi; omega
    obtain ⟨vr, vw, vm, c0, c1, c2, c3, c4, o⟩ := b' (i - rs.length) hi'
    have e : ∀ k, i * 5 + k - cl.length = (i - rs.length) * 5 + k := fun k => by omega
    have e0 : i * 5 - cl.length = (i - rs.length) * 5 := by omega
    refine ⟨vr, vw, vm, ?_, ?_, ?_, ?_, ?_, ?_⟩
    · rw [List.getElem?_append_right (by omega), e0, c0, List.getElem_append_right (by omega)]
    · rw [List.getElem?_append_right (by omega), e, c1]
    · rw [List.getElem?_append_right (by omega), e, c2]
    · rw [List.getElem?_append_right (by omega), e, c3]
    · rw [List.getElem?_append_right (by omega), e, c4, List.getElem_append_right (by omega)]
    · rw [List.getElem_append_right (by omega)]; exact o
theorem MCells.ext {base : Nat} {w w' : World} {cl : List Value} {rs : List MRuleD} (h : MCells base w cl rs) (he : Ext w w') : MCells base w' cl rs :=
  ⟨h.1, fun i hi => by
    obtain ⟨vr, vw, vm, c0, c1, c2, c3, c4, o1, o2, o3⟩ := h.2 i hi
    exact ⟨vr, vw, vm, c0, c1, c2, c3, c4, OwnInts.ext o1 he, OwnInts.ext o2 he, OwnInts.ext o3 he⟩⟩
theorem MCells.base {base base' : Nat} {w : World} {cl : List Value} {rs : List MRuleD} (h : MCells base w cl rs) (hb : base' ≤ base) : MCells base' w cl rs :=
  ⟨h.1, fun i hi => by
    obtain ⟨vr, vw, vm, c0, c1, c2, c3, c4, o1, o2, o3⟩ := h.2 i hi
    exact ⟨vr, vw, vm, c0, c1, c2, c3, c4, ownsRow_base o1 hb, ownsRow_base o2 hb, ownsRow_base o3 hb⟩⟩
/-- Behind a change of one block that holds no numbers. -/
theorem MCells.same {base : Nat} {w w' : World} {cl : List Value} {rs : List MRuleD} (h : MCells base w cl rs) (hs : ∀ g cs, Blk w g 2 cs → w'.heap[g]? = w.heap[g]?) : MCells base w' cl rs := by
  have hi : ∀ {u : Value} {zs : List Int}, OwnInts base w u zs → OwnInts base w' u zs := fun {u zs} o => own_same o (fun g hg => by
    rcases o.2 with ⟨rfl, _⟩ | ⟨g', cap, cur, rfl, _, hh, _⟩
    · simp [Value.ownBlock] at hg
    · simp [Value.ownBlock] at hg
      subst hg
      exact hs _ _ hh)
  refine ⟨h.1, fun i hi' => ?_⟩
  obtain ⟨vr, vw, vm, c0, c1, c2, c3, c4, o1, o2, o3⟩ := h.2 i hi'
  exact ⟨vr, vw, vm, c0, c1, c2, c3, c4, hi o1, hi o2, hi o3⟩
/-- Rules in a row of their own. -/
def OwnMR (base : Nat) (w : World) (v : Value) (rs : List MRuleD) : Prop := ∃ cl, w.ownsRow base 64 5 v rs.length cl ∧ MCells base w cl rs
theorem OwnMR.ext {base : Nat} {w w' : World} {v : Value} {rs : List MRuleD} (h : OwnMR base w v rs) (he : Ext w w') : OwnMR base w' v rs := by
  obtain ⟨cl, h1, h2⟩ := h
  exact ⟨cl, ownsRow_ext h1 he, h2.ext he⟩
theorem OwnMR.base {base base' : Nat} {w : World} {v : Value} {rs : List MRuleD} (h : OwnMR base w v rs) (hb : base' ≤ base) : OwnMR base' w v rs := by
  obtain ⟨cl, h1, h2⟩ := h
  exact ⟨cl, ownsRow_base h1 hb, h2.base hb⟩
theorem OwnMR.form {base : Nat} {w : World} {v : Value} {rs : List MRuleD} (h : OwnMR base w v rs) : ∃ A c, v = .slice A rs.length c ∧ rs.length ≤ c ∧ c ≤ 9223372036854775807 := by
  obtain ⟨cl, h1, h2⟩ := h
  obtain ⟨A, c, e, a, b, _⟩ := (ownsRow_row h1).form
  exact ⟨A, c, e, a, b⟩
theorem OwnMR.rules {base : Nat} {w : World} {v : Value} {rs : List MRuleD} (h : OwnMR base w v rs) : MRules w v rs := by
  obtain ⟨cl, h1, h2⟩ := h
  obtain ⟨A, c, rfl, a, b, hr⟩ := ownsRow_row h1
  refine ⟨A, c, rfl, a, b, fun hn => ?_⟩
  obtain ⟨g, off, rfl, hc⟩ := hr.2 hn
  refine ⟨g, off, rfl, fun i hi => ?_⟩
  obtain ⟨vr, vw, vm, c0, c1, c2, c3, c4, o1, o2, o3⟩ := h2.2 i hi
  have hl := h2.1
  exact ⟨vr, vw, vm, (hc _ (by omega)).trans c0, by rw [Nat.add_assoc]; exact (hc _ (by omega)).trans c1, by rw [Nat.add_assoc]; exact (hc _ (by omega)).trans c2, by rw [Nat.add_assoc]; exact (hc _ (by omega)).trans c3, by rw [Nat.add_assoc]; exact (hc _ (by omega)).trans c4, o1.ints, o2.ints, o3.ints⟩
theorem OwnMR.push {base : Nat} {w w' : World} {v v' : Value} {cl nl : List Value} {rs ns : List MRuleD} {n : Nat} (h1 : w.ownsRow base 64 5 v rs.length cl) (h2 : MCells base w cl rs) (h3 : MCells base w nl ns)
    (hn : n = rs.length + ns.length) (ho : w'.ownsRow base 64 5 v' n (cl ++ nl)) (hg : w.grownBy w' v.ownBlock) : OwnMR base w' v' (rs ++ ns) := by
  subst hn
  refine ⟨_, by simpa using ho, (h2.append h3).same fun g cs hb => hg.block g hb.lt (blk_ne_row hb h1 (by decide))⟩
theorem OwnMR.far {base : Nat} {w : World} {v : Value} {rs : List MRuleD} (h : OwnMR base w v rs) {g : Nat} {t : TypeId} {cs : Array Value} (hb : Blk w g t cs) (h1 : t ≠ 64) (h2 : t ≠ 2) (i : Nat) (u : Value) : OwnMR base (w.setCell ⟨g, i, none⟩ u) v rs := by
  obtain ⟨cl, ho, hc⟩ := h
  exact ⟨cl, own_kept ho (grownBy_setCell w ⟨g, i, none⟩ u) (blk_ne_row hb ho h1), hc.same fun q cs' hq => Below.heap_setCell w _ u q (by exact blk_ne hq hb (fun e => h2 e.symm))⟩
theorem mruleInfo : (Tryz.prog.info? 64).map (fun i => (i.zero, i.size, i.bytes)) = some (some (.agg #[.int .i64 0, .slice none 0 0, .slice none 0 0, .slice none 0 0, .int .i64 0]), 5, 88) := by kernel_rfl
theorem own2 {w : World} {base g : Nat} {a b : Int} (hb : Blk w g 2 #[.int .i64 a, .int .i64 b]) (hg : base ≤ g) : OwnInts base w (.slice (some ⟨g, 0, none⟩) 2 2) [a, b] :=
  ownsRow_blk 1 2 hb hg rfl (by omega)
/-- A rule of two tapes as a value of its own. -/
def OwnRul (base : Nat) (w : World) (v : Value) (r : MRuleD) : Prop := ∃ vr vw vm, v = .agg (mcell r vr vw vm).toArray ∧ OwnInts base w vr r.rd ∧ OwnInts base w vw r.wr ∧ OwnInts base w vm r.mv
theorem copyRs_succ (k : Nat) : copyRs (k + 1) = copyRs k ++ [copyR ((k : Int) + 1)] := by
  unfold copyRs
  rw [List.range_succ, List.map_append]
  rfl
theorem copyRs_len (k : Nat) : (copyRs k).length = k := by simp [copyRs]
theorem copier_rules : copyRs 2 = copyRs3 := by decide +kernel
end Go.Proofs.YtkbpchdncljlbaaGreatDoor
end
