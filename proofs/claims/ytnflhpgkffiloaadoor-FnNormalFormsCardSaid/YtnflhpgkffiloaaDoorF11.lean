/- Plain words on machines with several tapes, as the program runs them.
What a store into one block leaves of other blocks and rows. No condition.
Words for machines with several tapes in memory: rules, sides of tapes, configurations. No condition. -/
import Derived.Test.YtnflhpgkffiloaaDoorF08
import Derived.Test.YtnflhpgkffiloaaDoorF07
import Derived.Test.YtnflhpgkffiloaaDoorF10
import Derived.Test.YtnflhpgkffiloaaDoorF01
import Derived.Test.YtnflhpgkffiloaaDoorF02
section
set_option linter.unusedVariables false
set_option linter.unusedSimpArgs false
namespace Go.Proofs.YtnflhpgkffiloaaDoor
open Go Go.RowKit Go.Proofs
structure MRuleD where
  st : Int
  rd : List Int
  wr : List Int
  mv : List Int
  nx : Int
deriving DecidableEq
structure MultiD where
  tp : Int
  sy : Int
  st : Int
  rules : List MRuleD
deriving DecidableEq
structure TapeD where
  l : List Int
  r : List Int
deriving DecidableEq
structure MConfD where
  q : Int
  tapes : List TapeD
deriving DecidableEq
def mr0 : MRuleD := ⟨0, [], [], [], 0⟩
def cmpM (a b : MRuleD) : Int := if a.st = b.st then cmpL a.rd b.rd else if a.st < b.st then -1 else 1
def allIn (xs : List Int) (lo hi : Int) : Bool := xs.all fun z => inB z lo hi
def mruleOk (m : MultiD) (r : MRuleD) : Bool :=
  inB r.st 0 (m.st - 1) && inB r.nx 0 (m.st - 1) && decide ((r.rd.length : Int) = m.tp) && decide ((r.wr.length : Int) = m.tp) && decide ((r.mv.length : Int) = m.tp) &&
    allIn r.rd 0 (m.sy - 1) && allIn r.wr 0 (m.sy - 1) && allIn r.mv (-1) 1
/-- A rule is valid and behind the one before it. -/
def mstepOk (m : MultiD) (k : Nat) : Bool := mruleOk m (m.rules.getD k mr0) && (decide (k = 0) || decide (cmpM (m.rules.getD (k - 1) mr0) (m.rules.getD k mr0) < 0))
def multiOk (m : MultiD) : Bool := inB m.tp 2 3 && inB m.sy 2 3 && inB m.st 1 16 && decide (m.rules.length ≤ 60) && (List.range m.rules.length).all (mstepOk m)
theorem multi_all {m : MultiD} (h : multiOk m = true) : (2 ≤ m.tp ∧ m.tp ≤ 3) ∧ (2 ≤ m.sy ∧ m.sy ≤ 3) ∧ (1 ≤ m.st ∧ m.st ≤ 16) ∧ m.rules.length ≤ 60 ∧ ∀ k, k < m.rules.length → mstepOk m k = true := by
  simp only [multiOk, Bool.and_eq_true, decide_eq_true_eq, List.all_eq_true, List.mem_range] at h
  obtain ⟨⟨⟨⟨h1, h2⟩, h3⟩, h4⟩, h5⟩ := h
  exact ⟨inB_iff.1 h1, inB_iff.1 h2, inB_iff.1 h3, h4, h5⟩
theorem mrule_all {m : MultiD} {r : MRuleD} (h : mruleOk m r = true) : (0 ≤ r.st ∧ r.st ≤ m.st - 1) ∧ (0 ≤ r.nx ∧ r.nx ≤ m.st - 1) ∧ (r.rd.length : Int) = m.tp ∧ (r.wr.length : Int) = m.tp ∧ (r.mv.length : Int) = m.tp ∧
    (∀ z ∈ r.rd, 0 ≤ z ∧ z ≤ m.sy - 1) ∧ (∀ z ∈ r.wr, 0 ≤ z ∧ z ≤ m.sy - 1) ∧ (∀ z ∈ r.mv, -1 ≤ z ∧ z ≤ 1) := by
  simp only [mruleOk, allIn, Bool.and_eq_true, decide_eq_true_eq, List.all_eq_true] at h
  obtain ⟨⟨⟨⟨⟨⟨⟨h1, h2⟩, h3⟩, h4⟩, h5⟩, h6⟩, h7⟩, h8⟩ := h
  exact ⟨inB_iff.1 h1, inB_iff.1 h2, h3, h4, h5, fun z hz => inB_iff.1 (h6 z hz), fun z hz => inB_iff.1 (h7 z hz), fun z hz => inB_iff.1 (h8 z hz)⟩
/-- A state and three symbols, the first ones of a list. -/
abbrev KeyM := Int × Int × Int × Int
def key3 (q : Int) (xs : List Int) : KeyM := (q, xs.getD 0 0, xs.getD 1 0, xs.getD 2 0)
def headT (t : TapeD) : Int := t.r.getD 0 0
def readM (c : MConfD) : KeyM := key3 c.q (c.tapes.map headT)
/-- The index of the last rule among the first k that has a key. -/
def findM (rs : List MRuleD) (x : KeyM) : Nat → Option Nat
  | 0 => none
  | k + 1 => if key3 (rs.getD k mr0).st (rs.getD k mr0).rd = x then some k else findM rs x k
def lookM (rs : List MRuleD) (c : MConfD) : Option Nat := findM rs (readM c) rs.length
def writeR (t : TapeD) (s : Int) : List Int := s :: t.r.drop 1
def writeT (t : TapeD) (s mv : Int) : TapeD :=
  if mv = 1 then ⟨trim (s :: t.l), trim (t.r.drop 1)⟩
  else if mv = -1 then ⟨trim (t.l.drop 1), trim (t.l.getD 0 0 :: writeR t s)⟩
  else ⟨trim t.l, trim (writeR t s)⟩
def writeAll : List TapeD → List Int → List Int → List TapeD
  | t :: ts, ws, ms => writeT t (ws.getD 0 0) (ms.getD 0 0) :: writeAll ts (ws.drop 1) (ms.drop 1)
  | [], _, _ => []
theorem writeAll_length : ∀ (ts : List TapeD) (ws ms : List Int), (writeAll ts ws ms).length = ts.length
  | [], _, _ => rfl
  | _ :: ts, ws, ms => by simp [writeAll, writeAll_length ts]
theorem writeAll_get : ∀ (ts : List TapeD) (ws ms : List Int) (k : Nat) (h : k < ts.length), (writeAll ts ws ms)[k]'(by rw [writeAll_length]; exact h) = writeT ts[k] (ws.getD k 0) (ms.getD k 0)
  | t :: ts, ws, ms, 0, _ => rfl
  | t :: ts, ws, ms, k + 1, h => by
    have := writeAll_get ts (ws.drop 1) (ms.drop 1) k (by simpa using h)
    simp only [writeAll, List.getElem_cons_succ, this]
    simp [List.getD_eq_getElem?_getD, List.getElem?_drop, Nat.add_comm]
def applyM (c : MConfD) (r : MRuleD) : MConfD := ⟨r.nx, writeAll c.tapes r.wr r.mv⟩
def roomT (t : TapeD) : Bool := decide (t.l.length ≤ 200) && decide (t.r.length ≤ 200)
def roomM (c : MConfD) : Bool := c.tapes.all roomT
def stepM (rs : List MRuleD) (c : MConfD) : MConfD := match lookM rs c with | none => c | some i => applyM c (rs.getD i mr0)
def cfgM (rs : List MRuleD) (c : MConfD) : Nat → MConfD
  | 0 => c
  | n + 1 => stepM rs (cfgM rs c n)
/-- The run makes i steps, with room. -/
structure MRuns (rs : List MRuleD) (c : MConfD) (i : Nat) : Prop where
  no : ∀ j, j < i → lookM rs (cfgM rs c j) ≠ none
  room : ∀ j, j ≤ i → roomM (cfgM rs c j) = true
/-- The run ends behind i steps. -/
structure MEnd (rs : List MRuleD) (c : MConfD) (N i : Nat) : Prop where
  runs : MRuns rs c i
  le : i ≤ N
  stop : i = N ∨ lookM rs (cfgM rs c i) = none
theorem MRuns.zero {rs : List MRuleD} {c : MConfD} (h : roomM c = true) : MRuns rs c 0 := ⟨fun j hj => by omega, fun j hj => by have e : j = 0 := (by omega); subst e; exact h⟩
theorem MRuns.succ {rs : List MRuleD} {c : MConfD} {i : Nat} (h : MRuns rs c i) (h1 : lookM rs (cfgM rs c i) ≠ none) (h2 : roomM (cfgM rs c (i + 1)) = true) : MRuns rs c (i + 1) :=
  ⟨fun j hj => by
    by_cases e : j = i
    · rw [e]; exact h1
    · exact h.no j (by omega), fun j hj => by
    by_cases e : j = i + 1
    · rw [e]; exact h2
    · exact h.room j (by omega)⟩
end Go.Proofs.YtnflhpgkffiloaaDoor
end
section
namespace Go.Proofs.YtnflhpgkffiloaaDoor
open Go Go.RowKit Go.Proofs
theorem Blk.kept {w w' : World} {g : Nat} {t : TypeId} {cs : Array Value} {row : Option Nat} (h : Blk w g t cs) (hg : w.grownBy w' row) (hne : some g ≠ row) : Blk w' g t cs := (hg.block g h.lt hne).trans h
theorem blk_ne_row {w : World} {g : Nat} {t : TypeId} {cs : Array Value} (hb : Blk w g t cs) {base : Nat} {e : TypeId} {size : Nat} {v : Value} {n : Nat} {xs : List Value} (ho : w.ownsRow base e size v n xs) (hne : t ≠ e) : some g ≠ v.ownBlock := by
  rcases ho.2 with ⟨rfl, _⟩ | ⟨g', cap, cur, rfl, _, hh, _⟩
  · simp [Value.ownBlock]
  · intro he
    have : g = g' := by simpa [Value.ownBlock] using he
    subst this
    unfold Blk at hb
    rw [hb] at hh
    injection hh with hh
    injection hh with _ ht
    exact hne ht
theorem grownBy_setCell (w : World) (p : Addr) (u : Value) : w.grownBy (w.setCell p u) (some p.block) :=
  ⟨rfl, rfl, rfl, by simp [World.setCell], fun k _ hk => Below.heap_setCell w p u k (fun e => hk (by rw [e]))⟩
theorem blk_type {w : World} {g : Nat} {t t' : TypeId} {cs cs' : Array Value} (h : Blk w g t cs) (h' : Blk w g t' cs') : t = t' := by
  unfold Blk at h h'
  rw [h] at h'
  injection h' with h'
  injection h' with _ e
theorem blk_ne {w : World} {g g' : Nat} {t t' : TypeId} {cs cs' : Array Value} (h : Blk w g t cs) (h' : Blk w g' t' cs') (ht : t ≠ t') : g ≠ g' := by
  rintro rfl
  exact ht (blk_type h h')
end Go.Proofs.YtnflhpgkffiloaaDoor
end
section
set_option linter.unusedVariables false
set_option linter.unusedSimpArgs false
namespace Go.Proofs.YtnflhpgkffiloaaDoor
open Go Go.RowKit Go.Proofs
/-- Rules of a machine with several tapes. -/
def MRules (w : World) (v : Value) (rs : List MRuleD) : Prop :=
  ∃ A c, v = .slice A rs.length c ∧ rs.length ≤ c ∧ c ≤ 9223372036854775807 ∧ (0 < rs.length → ∃ b off, A = some ⟨b, off, none⟩ ∧ ∀ i, (h : i < rs.length) → ∃ vr vw vm,
    w.cell? ⟨b, off + i * 5, none⟩ = some (.int .i64 rs[i].st) ∧ w.cell? ⟨b, off + i * 5 + 1, none⟩ = some vr ∧ w.cell? ⟨b, off + i * 5 + 2, none⟩ = some vw ∧ w.cell? ⟨b, off + i * 5 + 3, none⟩ = some vm ∧ w.cell? ⟨b, off + i * 5 + 4, none⟩ = some (.int .i64 rs[i].nx) ∧
    Ints w vr rs[i].rd ∧ Ints w vw rs[i].wr ∧ Ints w vm rs[i].mv)
theorem MRules.ext {w w' : World} {v : Value} {rs : List MRuleD} (h : MRules w v rs) (he : Ext w w') : MRules w' v rs := by
  obtain ⟨A, c, rfl, h1, h2, h3⟩ := h
  refine ⟨A, c, rfl, h1, h2, fun hn => ?_⟩
  obtain ⟨b, off, e, hc⟩ := h3 hn
  refine ⟨b, off, e, fun i hi => ?_⟩
  obtain ⟨vr, vw, vm, c0, c1, c2, c3, c4, i1, i2, i3⟩ := hc i hi
  exact ⟨vr, vw, vm, he.cell c0, he.cell c1, he.cell c2, he.cell c3, he.cell c4, i1.ext he, i2.ext he, i3.ext he⟩
theorem MRules.form {w : World} {v : Value} {rs : List MRuleD} (h : MRules w v rs) : ∃ A c, v = .slice A rs.length c ∧ rs.length ≤ c ∧ c ≤ 9223372036854775807 := by
  obtain ⟨A, c, e, h1, h2, _⟩ := h
  exact ⟨A, c, e, h1, h2⟩
theorem MRules.at {w : World} {A : Option Addr} {c : Nat} {rs : List MRuleD} (h : MRules w (.slice A rs.length c) rs) {i : Nat} (hi : i < rs.length) : ∃ b off vr vw vm, A = some ⟨b, off, none⟩ ∧
    w.cell? ⟨b, off + i * 5, none⟩ = some (.int .i64 rs[i].st) ∧ w.cell? ⟨b, off + i * 5 + 1, none⟩ = some vr ∧ w.cell? ⟨b, off + i * 5 + 2, none⟩ = some vw ∧ w.cell? ⟨b, off + i * 5 + 3, none⟩ = some vm ∧ w.cell? ⟨b, off + i * 5 + 4, none⟩ = some (.int .i64 rs[i].nx) ∧
    Ints w vr rs[i].rd ∧ Ints w vw rs[i].wr ∧ Ints w vm rs[i].mv := by
  obtain ⟨A', c', e, _, _, h3⟩ := h
  injection e with e1 _ _
  subst e1
  obtain ⟨b, off, e, hc⟩ := h3 (by omega)
  obtain ⟨vr, vw, vm, hh⟩ := hc i hi
  exact ⟨b, off, vr, vw, vm, e, hh⟩
/-- A machine with several tapes as a value. -/
def Mult (w : World) (v : Value) (m : MultiD) : Prop := ∃ rv, v = .agg #[.int .i64 m.tp, .int .i64 m.sy, .int .i64 m.st, rv] ∧ MRules w rv m.rules
theorem Mult.ext {w w' : World} {v : Value} {m : MultiD} (h : Mult w v m) (he : Ext w w') : Mult w' v m := by
  obtain ⟨rv, e, hr⟩ := h
  exact ⟨rv, e, hr.ext he⟩
/-- A rule as a value. -/
def MRul (w : World) (v : Value) (r : MRuleD) : Prop := ∃ vr vw vm, v = .agg #[.int .i64 r.st, vr, vw, vm, .int .i64 r.nx] ∧ Ints w vr r.rd ∧ Ints w vw r.wr ∧ Ints w vm r.mv
theorem MRul.ext {w w' : World} {v : Value} {r : MRuleD} (h : MRul w v r) (he : Ext w w') : MRul w' v r := by
  obtain ⟨vr, vw, vm, e, h1, h2, h3⟩ := h
  exact ⟨vr, vw, vm, e, h1.ext he, h2.ext he, h3.ext he⟩
/-- The block of a slice that is not empty. -/
def _root_.Go.Value.ownS (v : Value) : Option Nat := match v with | .slice (some a) (_ + 1) _ => some a.block | _ => none
theorem ownS_some {a : Addr} {n c g : Nat} (h : (Value.slice (some a) n c).ownS = some g) : a.block = g ∧ 0 < n := by
  cases n with
  | zero => simp [Value.ownS] at h
  | succ n => exact ⟨by simpa [Value.ownS] using h, by omega⟩
theorem ownS_pos {a : Addr} {n c : Nat} (h : 0 < n) : (Value.slice (some a) n c).ownS = some a.block := by
  cases n with
  | zero => omega
  | succ n => rfl
theorem ownS_zero {A : Option Addr} {c : Nat} : (Value.slice A 0 c).ownS = none := by cases A <;> rfl
/-- A side of a tape: a list in a block of its own, from whatever place of it on; an empty one may lie anywhere. -/
def Side (base : Nat) (w : World) (v : Value) (xs : List Int) : Prop :=
  (xs = [] ∧ (v = .slice none 0 0 ∨ ∃ b off c, v = .slice (some ⟨b, off, none⟩) 0 c ∧ c ≤ 9223372036854775807)) ∨ ∃ g off c cs, v = .slice (some ⟨g, off, none⟩) xs.length c ∧ xs.length ≤ c ∧ c ≤ 9223372036854775807 ∧ base ≤ g ∧ Blk w g 2 cs ∧ ∀ j, (h : j < xs.length) → cs[off + j]? = some (.int .i64 xs[j])
section
variable {base : Nat} {w w' : World} {v : Value} {xs : List Int}
theorem Side.ints (h : Side base w v xs) : Ints w v xs := by
  rcases h with ⟨rfl, rfl | ⟨b, off, c, rfl, hc⟩⟩ | ⟨g, off, c, cs, rfl, h1, h2, hb, hg, hc⟩
  · exact ⟨none, 0, rfl, by simp, by omega, rfl, fun h => by simp at h⟩
  · exact ⟨_, c, rfl, by simp, hc, rfl, fun h => by simp at h⟩
  · refine ⟨_, c, rfl, h1, h2, by simp, fun _ => ⟨g, off, rfl, fun j hj => ?_⟩⟩
    have hj' : j < xs.length := by simpa using hj
    rw [hg.cell, hc j hj', ivs_get xs j hj']
theorem Side.ext (h : Side base w v xs) (he : Ext w w') : Side base w' v xs := by
  rcases h with h | ⟨g, off, c, cs, e, h1, h2, hb, hg, hc⟩
  · exact .inl h
  · exact .inr ⟨g, off, c, cs, e, h1, h2, hb, hg.ext he, hc⟩
theorem Side.lt (h : Side base w v xs) : ∀ g, v.ownS = some g → base ≤ g ∧ g < w.heap.size := by
  intro g hg
  rcases h with ⟨_, rfl | ⟨b, off, c, rfl, hc⟩⟩ | ⟨g', off, c, cs, rfl, _, _, hb, hb', _⟩
  · simp [Value.ownS] at hg
  · rw [ownS_zero] at hg
    cases hg
  · obtain ⟨e, _⟩ := ownS_some hg
    have e : g' = g := e
    subst e
    exact ⟨hb, hb'.lt⟩
/-- What leaves a side's block leaves the side. -/
theorem Side.same (h : Side base w v xs) (hs : ∀ g, v.ownS = some g → w'.heap[g]? = w.heap[g]?) : Side base w' v xs := by
  rcases h with h | ⟨g, off, c, cs, rfl, h1, h2, hb, hg, hc⟩
  · exact .inl h
  · by_cases h0 : 0 < xs.length
    · exact .inr ⟨g, off, c, cs, rfl, h1, h2, hb, (hs g (ownS_pos h0)).trans hg, hc⟩
    · have e : xs = [] := List.length_eq_zero_iff.1 (by omega)
      subst e
      exact .inl ⟨rfl, .inr ⟨_, _, _, rfl, h2⟩⟩
theorem Side.far (h : Side base w v xs) {p : Addr} (hp : v.ownS ≠ some p.block) (u : Value) : Side base (w.setCell p u) v xs :=
  h.same fun g hg => Below.heap_setCell w p u g (fun e => hp (by rw [← e]; exact hg))
theorem Side.low (h : Side base w v xs) {base' : Nat} (hb : base' ≤ base) : Side base' w v xs := by
  rcases h with h | ⟨g, off, c, cs, e, h1, h2, hb', hg, hc⟩
  · exact .inl h
  · exact .inr ⟨g, off, c, cs, e, h1, h2, by omega, hg, hc⟩
end
end Go.Proofs.YtnflhpgkffiloaaDoor
end
