/- Plain words on runs: positions of the head, the tape around it, and runs that come again moved by some cells.
Contracts of the reference's reading of machines, as far as the known machines want it: cells of three signs, numbers of one digit.
Contract of the reference's reading of a machine from a text that stands for one.
Contracts of the reference's draws of machines. The sizes are small.
Contracts of the reference's draws of machines, continued: the known machines, a machine that is valid.
Contracts of the reference's draws of machines, continued: a machine that is valid, one that may be bent.
Contracts of the reference's draws of machines, continued: a machine is bent.
Contracts of the reference's draws of machines, continued: any machine, a small machine, a machine that is decided.
Contract of the reference's draw of a machine that is decided. -/
import Derived.Test.YtgeckhjkahnonaaGreatDoorO09
import Derived.Test.YtgeckhjkahnonaaGreatDoorO02
import Derived.Maps.AppendAt
import Derived.Test.YtgeckhjkahnonaaGreatDoorO03
import Derived.Deep.AppendLies
import Derived.Test.YtgeckhjkahnonaaGreatDoorO08
import Derived.Deep.RegionLaw
import Derived.Deep.RegionHeld3
section
set_option linter.unusedSimpArgs false
set_option linter.unusedVariables false
namespace Go.Proofs.YtgeckhjkahnonaaGreatDoor
open Go Go.RowKit Go.Proofs
/-- The symbol of a configuration at a distance from its head. -/
def cellC (c : ConfD) (z : Int) : Int := if 0 ≤ z then c.r.getD z.toNat 0 else c.l.getD (-1 - z).toNat 0
theorem pushL_getD (s : Int) (xs : List Int) (i : Nat) : (pushL s xs).getD i 0 = (s :: xs).getD i 0 := by
  unfold pushL
  split
  · rename_i h
    obtain ⟨rfl, rfl⟩ := h
    cases i <;> simp
  · rfl
theorem drop1_getD (xs : List Int) (i : Nat) : (xs.drop 1).getD i 0 = xs.getD (i + 1) 0 := by
  simp [List.getD_eq_getElem?_getD, Nat.add_comm]
theorem cell_step {ru : RuleD} (hm : ru.m = 1 ∨ ru.m = -1) (c : ConfD) (z : Int) : cellC (stepI ru c) (z - ru.m) = if z = 0 then ru.w else cellC c z := by
  rcases hm with h | h
  · have e : stepI ru c = ⟨ru.n, pushL ru.w c.l, c.r.drop 1⟩ := by unfold stepI; rw [if_pos (by omega)]
    rw [e, h]
    unfold cellC
    simp only
    by_cases h0 : z = 0
    · subst h0
      rw [if_neg (by omega), if_pos rfl, pushL_getD]
      rfl
    · rw [if_neg h0]
      by_cases h1 : 0 ≤ z
      · rw [if_pos (show 0 ≤ z - 1 by omega), if_pos h1, drop1_getD]
        congr 1
        omega
      · rw [if_neg (show ¬ 0 ≤ z - 1 by omega), if_neg h1, pushL_getD]
        obtain ⟨k, hk⟩ : ∃ k : Nat, (-1 - (z - 1)).toNat = k + 1 := ⟨(-1 - z).toNat, by omega⟩
        rw [hk, List.getD_cons_succ]
        congr 1
        omega
  · have e : stepI ru c = ⟨ru.n, c.l.drop 1, pushL (hdD c.l) (pushL ru.w (c.r.drop 1))⟩ := by unfold stepI; rw [if_neg (by omega)]
    rw [e, h]
    unfold cellC
    simp only
    by_cases h0 : z = 0
    · subst h0
      rw [if_pos (by omega), if_pos rfl, pushL_getD]
      have : (0 - (-1 : Int)).toNat = 0 + 1 := by omega
      rw [this, List.getD_cons_succ, pushL_getD]
      rfl
    · rw [if_neg h0]
      by_cases h1 : 0 ≤ z
      · rw [if_pos (show 0 ≤ z - -1 by omega), if_pos h1, pushL_getD]
        obtain ⟨k, hk⟩ : ∃ k : Nat, z.toNat = k + 1 := ⟨z.toNat - 1, by omega⟩
        have : (z - -1).toNat = (k + 1) + 1 := by omega
        rw [this, List.getD_cons_succ, pushL_getD, List.getD_cons_succ, drop1_getD, hk]
      · rw [if_neg h1]
        by_cases h2 : z = -1
        · subst h2
          rw [if_pos (by omega), pushL_getD]
          rfl
        · rw [if_neg (show ¬ 0 ≤ z - -1 by omega), drop1_getD]
          congr 1
          omega
theorem hd_cell (c : ConfD) : hdD c.r = cellC c 0 := by simp [hdD, cellC]
theorem look_cell (m : MachD) {c e : ConfD} (hq : c.q = e.q) (hc : cellC c 0 = cellC e 0) : lookI m c = lookI m e := by
  unfold lookI
  rw [hd_cell, hd_cell, hq, hc]
/-- Two configurations agree on a set of places, seen from two heads at the same place u. -/
structure Mt (D : Int → Prop) (u : Int) (c e : ConfD) : Prop where
  q : c.q = e.q
  at_ : ∀ z, D z → cellC c (z - u) = cellC e (z - u)
theorem Mt.look {D : Int → Prop} {u : Int} {c e : ConfD} (h : Mt D u c e) (hu : D u) (m : MachD) : lookI m c = lookI m e :=
  look_cell m h.q (by have := h.at_ u hu; rwa [Int.sub_self] at this)
theorem Mt.step {D : Int → Prop} {u : Int} {c e : ConfD} (h : Mt D u c e) {ru : RuleD} (hm : ru.m = 1 ∨ ru.m = -1) : Mt D (u + ru.m) (stepI ru c) (stepI ru e) := by
  refine ⟨?_, fun z hz => ?_⟩
  · unfold stepI
    split <;> rfl
  · have e1 : z - (u + ru.m) = (z - u) - ru.m := by omega
    rw [e1, cell_step hm, cell_step hm, h.at_ z hz]
section
variable {m : MachD} (hm : machOk m = true) {c0 : ConfD} (hc0 : IGood m c0) {a b : Nat} {d : Int} {D : Int → Prop}
include hm hc0
end
/-- No blanks at the end. -/
def tidyL (xs : List Int) : Prop := xs = [] ∨ xs.getLastD 0 ≠ 0
theorem tidy_drop {xs : List Int} (h : tidyL xs) : tidyL (xs.drop 1) := by
  cases xs with
  | nil => exact .inl rfl
  | cons a l =>
    cases l with
    | nil => exact .inl rfl
    | cons b l =>
      right
      rcases h with h | h
      · cases h
      · simpa using h
theorem tidy_push {s : Int} {xs : List Int} (h : tidyL xs) : tidyL (pushL s xs) := by
  unfold pushL
  split
  · exact .inl rfl
  · rename_i hn
    right
    cases xs with
    | nil => simp at hn; simpa using hn
    | cons a l =>
      rcases h with h | h
      · cases h
      · simpa using h
theorem tidy_step {ru : RuleD} {c : ConfD} (h : tidyL c.l ∧ tidyL c.r) : tidyL (stepI ru c).l ∧ tidyL (stepI ru c).r := by
  unfold stepI
  split
  · exact ⟨tidy_push h.1, tidy_drop h.2⟩
  · exact ⟨tidy_drop h.1, tidy_push (tidy_push (tidy_drop h.2))⟩
theorem tidy_cfg {m : MachD} {c : ConfD} (h : tidyL c.l ∧ tidyL c.r) : ∀ n, tidyL (cfgI m c n).l ∧ tidyL (cfgI m c n).r := by
  intro n
  induction n with
  | zero => exact h
  | succ n ih => exact tidy_step ih
end Go.Proofs.YtgeckhjkahnonaaGreatDoor
end
section
namespace Go.Proofs.YtgeckhjkahnonaaGreatDoor
open Go Go.RowKit Go.Proofs
set_option maxHeartbeats 400000
/-- A slice of texts in memory of the call's own. -/
def OwnStrs (base : Nat) (w : World) (v : Value) (xs : List ByteArray) : Prop := w.ownsRow base 9 1 v xs.length (xs.map Value.string)
theorem OwnStrs.ext {base : Nat} {w w' : World} {v : Value} {xs : List ByteArray} (h : OwnStrs base w v xs) (he : Ext w w') : OwnStrs base w' v xs := ownsRow_ext h he
theorem OwnStrs.cell {base : Nat} {w : World} {A : Option Addr} {c : Nat} {xs : List ByteArray} (h : OwnStrs base w (.slice A xs.length c) xs) {k : Nat} (hk : k < xs.length) : ∃ g, A = some ⟨g, 0, none⟩ ∧ w.cell? ⟨g, k, none⟩ = some (.string xs[k]) := by
  obtain ⟨g, rfl, _, _⟩ := own_at h (by omega)
  refine ⟨g, rfl, ?_⟩
  have := World.ownsRow.cellAt h k (by omega)
  rw [this]
  simp [hk]
end Go.Proofs.YtgeckhjkahnonaaGreatDoor
namespace Go.Proofs.YtgeckhjkahnonaaGreatDoor
open Go Go.RowKit Go.Proofs
set_option maxHeartbeats 400000
/-- The machine under way, in memory. -/
structure RdSt (g go : Nat) (w0 : World) (sy st : Int) (rs : List RuleD) (rv : Value) (w : World) : Prop where
  res : Blk w g 66 #[.int .i64 0, .int .i64 0, .slice none 0 0]
  mac : Blk w go 66 #[.int .i64 sy, .int .i64 st, rv]
  own : w.ownsRow g 136 3 rv rs.length (rvs rs)
  ex : Ext w0 w
  low : g < go
theorem RdSt.ext {g go : Nat} {w0 : World} {sy st : Int} {rs : List RuleD} {rv : Value} {w w' : World} (h : RdSt g go w0 sy st rs rv w) (he : Ext w w') : RdSt g go w0 sy st rs rv w' :=
  ⟨h.res.ext he, h.mac.ext he, ownsRow_ext h.own he, h.ex.trans he, h.low⟩
theorem RdSt.snoc {g go : Nat} {w0 : World} {sy st : Int} {rs : List RuleD} {rv : Value} {w w2 : World} {v' : Value} {r : RuleD} (h : RdSt g go w0 sy st rs rv w) (hg0 : w0.heap.size = g)
    (hown : w2.ownsRow g 136 3 v' (rs.length + 1) (rvs rs ++ [.int .i64 r.w, .int .i64 r.m, .int .i64 r.n])) (hg : w.grownBy w2 rv.ownBlock) :
    RdSt g go w0 sy st (rs ++ [r]) v' (w2.setCell ⟨go, 2, none⟩ v') := by
  have hro : ∀ k, rv.ownBlock = some k → g ≤ k := fun k hk => (h.own.lt k hk).1
  have m2 := Blk.apart h.mac h.own (by decide) hg
  have r2 := Blk.apart h.res h.own (by decide) hg
  have g2 : Ext w0 w2 := h.ex.grown hg (fun k hk => by have := hro k hk; omega)
  have hlow := h.low
  have far : ∀ k, v'.ownBlock = some k → k ≠ go := by
    intro k hk he
    subst he
    rcases hown.2 with ⟨rfl, _⟩ | ⟨g', cap, cur, rfl, _, hh, _⟩
    · simp [Value.ownBlock] at hk
    · have : g' = k := by simpa [Value.ownBlock] using hk
      subst this
      unfold Blk at m2
      rw [m2] at hh
      injection hh with hh
      injection hh with _ ht
      exact absurd ht (by decide)
  refine ⟨r2.far (by simp; omega) _, m2.set_ 2 _, ?_, g2.setCell (by simp; omega) _, hlow⟩
  have := ownsRow_far (p := ⟨go, 2, none⟩) hown far v'
  rw [List.length_append, List.length_cons, List.length_nil, rvs_append]
  exact this
theorem own_far_blk {w : World} {base : Nat} {e : TypeId} {size : Nat} {v : Value} {n : Nat} {xs : List Value} (ho : w.ownsRow base e size v n xs) {g : Nat} {t : TypeId} {cs : Array Value} (hb : Blk w g t cs) (hne : t ≠ e) : ∀ k, v.ownBlock = some k → k ≠ g := by
  intro k hk he
  subst he
  rcases ho.2 with ⟨rfl, _⟩ | ⟨g', cap, cur, rfl, _, hh, _⟩
  · simp [Value.ownBlock] at hk
  · have : g' = k := by simpa [Value.ownBlock] using hk
    subst this
    unfold Blk at hb
    rw [hb] at hh
    injection hh with hh
    injection hh with _ ht
    exact hne ht
end Go.Proofs.YtgeckhjkahnonaaGreatDoor
namespace Go.Proofs.YtgeckhjkahnonaaGreatDoor
open Go Go.RowKit Go.Proofs
set_option maxHeartbeats 400000
theorem grownBy_step {w a c : World} {r r' : Option Nat} (h : w.grownBy a r) (k : a.grownBy c r') (hr : ∀ k, r' = some k → w.heap.size ≤ k ∨ r = some k) : w.grownBy c r :=
  ⟨k.os.trans h.os, k.tape.trans h.tape, k.output.trans h.output, Nat.le_trans h.size k.size, fun i hi hne => (k.block i (Nat.lt_of_lt_of_le hi h.size) (fun e => by
    rcases hr i e.symm with c | c
    · omega
    · exact hne c.symm)).trans (h.block i hi hne)⟩
theorem ext_grownBy {a b : World} (h : Ext a b) (row : Option Nat) : a.grownBy b row := ⟨Below.os h, Below.tape h, Below.output h, Below.size h, fun i hi _ => Below.block h i hi⟩
theorem set_grownBy (w : World) (p : Addr) (u : Value) : w.grownBy (w.setCell p u) (some p.block) :=
  ⟨rfl, rfl, rfl, by simp [World.setCell], fun k _ hk => Below.heap_setCell w p u k (fun e => hk (by rw [e]))⟩
/-- What a machine that is drawn is, in memory: its rules lie in blocks of the call's own. -/
structure DrawSt (B g b : Nat) (w0 : World) (sy st : Int) (n : Nat) (rs : List RuleD) (rv : Value) (w : World) : Prop where
  res : Blk w g 66 #[.int .i64 0, .int .i64 0, .slice none 0 0]
  mac : Blk w (g + 1) 66 #[.int .i64 sy, .int .i64 st, rv]
  own : w.ownsRow g 136 3 rv rs.length (rvs rs)
  src : Src B w b n
  grown : w0.grownBy w (some b)
theorem DrawSt.src' {B g b : Nat} {w0 : World} {sy st : Int} {n n' : Nat} {rs : List RuleD} {rv : Value} {w w' : World} (h : DrawSt B g b w0 sy st n rs rv w) (hs : Src B w' b n') (hg : w.grownBy w' (some b)) : DrawSt B g b w0 sy st n' rs rv w' :=
  ⟨blk_src h.src hg h.res (by decide), blk_src h.src hg h.mac (by decide), own_src h.src hg h.own (by decide), hs, grownBy_trans h.grown hg⟩
theorem DrawSt.ext {B g b : Nat} {w0 : World} {sy st : Int} {n : Nat} {rs : List RuleD} {rv : Value} {w w' : World} (h : DrawSt B g b w0 sy st n rs rv w) (he : Ext w w') : DrawSt B g b w0 sy st n rs rv w' :=
  ⟨h.res.ext he, h.mac.ext he, ownsRow_ext h.own he, h.src.ext he, grownBy_trans h.grown (ext_grownBy he _)⟩
/-- A further rule is appended. -/
theorem DrawSt.snoc {B g b : Nat} {w0 : World} {sy st : Int} {n : Nat} {rs : List RuleD} {rv : Value} {w w2 : World} {v' : Value} {r : RuleD} (h : DrawSt B g b w0 sy st n rs rv w) (hg0 : w0.heap.size = g) (hB : B ≤ g) (hb : b < g)
    (hown : w2.ownsRow g 136 3 v' (rs.length + 1) (rvs rs ++ [.int .i64 r.w, .int .i64 r.m, .int .i64 r.n])) (hg : w.grownBy w2 rv.ownBlock) :
    DrawSt B g b w0 sy st n (rs ++ [r]) v' (w2.setCell ⟨g + 1, 2, none⟩ v') := by
  have hro : ∀ k, rv.ownBlock = some k → g ≤ k := fun k hk => (h.own.lt k hk).1
  have m2 := Blk.apart h.mac h.own (by decide) hg
  have r2 := Blk.apart h.res h.own (by decide) hg
  have s2 := h.src.kept hg (fun k hk => ⟨by have := hro k hk; omega, by have := hro k hk; omega⟩)
  have g2 := grownBy_step h.grown hg (fun k hk => .inl (by have := hro k hk; omega))
  have far : ∀ k, v'.ownBlock = some k → k ≠ g + 1 := by
    intro k hk he
    subst he
    rcases hown.2 with ⟨rfl, _⟩ | ⟨g', cap, cur, rfl, _, hh, _⟩
    · simp [Value.ownBlock] at hk
    · have : g' = g + 1 := by simpa [Value.ownBlock] using hk
      subst this
      unfold Blk at m2
      rw [m2] at hh
      injection hh with hh
      injection hh with _ ht
      exact absurd ht (by decide)
  refine ⟨r2.far (by simp) _, m2.set_ 2 _, ?_, s2.kept (set_grownBy _ _ _) (fun k hk => ?_), grownBy_step g2 (set_grownBy _ _ _) (fun k hk => ?_)⟩
  · have := ownsRow_far (p := ⟨g + 1, 2, none⟩) hown far v'
    rw [List.length_append, List.length_cons, List.length_nil, rvs_append]
    exact this
  · injection hk with hk
    subst hk
    exact ⟨by simp; omega, by simp; omega⟩
  · injection hk with hk
    subst hk
    exact .inl (by simp; omega)
theorem DrawSt.set {B g b : Nat} {w0 : World} {sy st : Int} {n : Nat} {rs : List RuleD} {rv : Value} {w : World} (h : DrawSt B g b w0 sy st n rs rv w) (hg0 : w0.heap.size = g) (hB : B ≤ g) (hb : b < g) {p : Addr} (hp : g + 1 < p.block) (hr : ∀ k, rv.ownBlock = some k → k ≠ p.block) (u : Value) : DrawSt B g b w0 sy st n rs rv (w.setCell p u) :=
  ⟨h.res.far (by omega) _, h.mac.far (by omega) _, ownsRow_far h.own hr _, h.src.kept (set_grownBy _ _ _) (fun k hk => by injection hk with hk; subst hk; exact ⟨by omega, by omega⟩),
   grownBy_step h.grown (set_grownBy _ _ _) (fun k hk => by injection hk with hk; subst hk; exact .inl (by omega))⟩
end Go.Proofs.YtgeckhjkahnonaaGreatDoor
namespace Go.Proofs.YtgeckhjkahnonaaGreatDoor
open Go Go.RowKit Go.Proofs
set_option maxHeartbeats 400000
/-- A result of three cells is stored. -/
theorem done3 {B b n g : Nat} {w w2 : World} (hs : Src B w2 b n) (hg : w.grownBy w2 (some b)) (hB : B ≤ g) (hbl : b < g) (hgw : w.heap.size = g) {base : Nat} {rv : Value} {rs : List RuleD} (ho : OwnRules base w2 rv rs) {cs : Array Value} (hb : Blk w2 g 66 cs) (x y z : Value) :
    Src B (((w2.setCell ⟨g, 0, none⟩ x).setCell ⟨g, 1, none⟩ y).setCell ⟨g, 2, none⟩ z) b n ∧ w.grownBy (((w2.setCell ⟨g, 0, none⟩ x).setCell ⟨g, 1, none⟩ y).setCell ⟨g, 2, none⟩ z) (some b) ∧ OwnRules base (((w2.setCell ⟨g, 0, none⟩ x).setCell ⟨g, 1, none⟩ y).setCell ⟨g, 2, none⟩ z) rv rs := by
  have e : ∀ k, some g = some k → B ≤ k ∧ k ≠ b := fun k hk => by injection hk with hk; subst hk; exact ⟨hB, by omega⟩
  have e' : ∀ k, some g = some k → w.heap.size ≤ k ∨ some b = some k := fun k hk => by injection hk with hk; subst hk; exact .inl (by omega)
  have hfar := own_far_blk ho hb (by decide)
  exact ⟨((hs.kept (set_grownBy _ _ _) e).kept (set_grownBy _ _ _) e).kept (set_grownBy _ _ _) e, grownBy_step (grownBy_step (grownBy_step hg (set_grownBy _ _ _) e') (set_grownBy _ _ _) e') (set_grownBy _ _ _) e', ownsRow_far (ownsRow_far (ownsRow_far ho hfar _) hfar _) hfar _⟩
/-- A machine that is drawn. -/
def MRes (B : Nat) (w : World) (b n c : Nat) (e : Ending) (w' : World) : Prop :=
  (∃ (m : MachD) (rv : Value), e = .returned (.agg #[.int .i64 m.sy, .int .i64 m.st, rv]) ∧ OwnRules w.heap.size w' rv m.rules ∧ 0 < m.rules.length ∧ m.rules.length ≤ 600 ∧ machOk m = true) ∧ Src B w' b (n + c) ∧ w.grownBy w' (some b)
end Go.Proofs.YtgeckhjkahnonaaGreatDoor
end
section
namespace Go.Proofs.YtgeckhjkahnonaaGreatDoor
open Go Go.RowKit Go.Proofs
set_option maxHeartbeats 400000
/-- The end of a draw: the machine is stored as the result. -/
theorem MRes.of {B b n n' c g : Nat} {w w2 : World} {m : MachD} {rv : Value} {base : Nat} {cs : Array Value} (hs : Src B w2 b n') (hn : n' ≤ n + c) (hg : w.grownBy w2 (some b)) (hB : B ≤ g) (hbl : b < g) (hgw : w.heap.size = g) (ho : OwnRules base w2 rv m.rules) (hbase : g ≤ base) (hb : Blk w2 g 66 cs) (hl : 0 < m.rules.length ∧ m.rules.length ≤ 600 ∧ machOk m = true) :
    MRes B w b n c (.returned (.agg #[.int .i64 m.sy, .int .i64 m.st, rv])) (((w2.setCell ⟨g, 0, none⟩ (.int .i64 m.sy)).setCell ⟨g, 1, none⟩ (.int .i64 m.st)).setCell ⟨g, 2, none⟩ rv) := by
  obtain ⟨r1, r2, r3⟩ := done3 hs hg hB hbl hgw ho hb (.int .i64 m.sy) (.int .i64 m.st) rv
  exact ⟨⟨m, rv, rfl, ownsRow_base r3 (by omega), hl.1, hl.2.1, hl.2.2⟩, r1.mono hn, r2⟩
end Go.Proofs.YtgeckhjkahnonaaGreatDoor
namespace Go.Proofs.YtgeckhjkahnonaaGreatDoor
open Go Go.RowKit Go.Proofs
set_option maxHeartbeats 400000
/-- A machine that is drawn, of any length. -/
def MRes0 (B : Nat) (w : World) (b n c : Nat) (e : Ending) (w' : World) : Prop :=
  (∃ (m : MachD) (rv : Value), e = .returned (.agg #[.int .i64 m.sy, .int .i64 m.st, rv]) ∧ OwnRules w.heap.size w' rv m.rules) ∧ Src B w' b (n + c) ∧ w.grownBy w' (some b)
theorem MRes.zero {B : Nat} {w : World} {b n c c' : Nat} {e : Ending} {w' : World} (h : MRes B w b n c e w') (hc : c ≤ c') : MRes0 B w b n c' e w' := by
  obtain ⟨⟨m, rv, he, ho, _, _⟩, hs, hg⟩ := h
  exact ⟨⟨m, rv, he, ho⟩, hs.mono (by omega), hg⟩
theorem MRes0.of {B b n n' c g : Nat} {w w2 : World} {sy st : Int} {rs : List RuleD} {rv : Value} {base : Nat} {cs : Array Value} (hs : Src B w2 b n') (hn : n' ≤ n + c) (hg : w.grownBy w2 (some b)) (hB : B ≤ g) (hbl : b < g) (hgw : w.heap.size ≤ g) (ho : OwnRules base w2 rv rs) (hbase : w.heap.size ≤ base) (hb : Blk w2 g 66 cs) :
    MRes0 B w b n c (.returned (.agg #[.int .i64 sy, .int .i64 st, rv])) (((w2.setCell ⟨g, 0, none⟩ (.int .i64 sy)).setCell ⟨g, 1, none⟩ (.int .i64 st)).setCell ⟨g, 2, none⟩ rv) := by
  have e : ∀ k, some g = some k → B ≤ k ∧ k ≠ b := fun k hk => by injection hk with hk; subst hk; exact ⟨hB, by omega⟩
  have e' : ∀ k, some g = some k → w.heap.size ≤ k ∨ some b = some k := fun k hk => by injection hk with hk; subst hk; exact .inl hgw
  have hfar := own_far_blk ho hb (by decide)
  have r1 := ((hs.kept (set_grownBy w2 ⟨g, 0, none⟩ (.int .i64 sy)) e).kept (set_grownBy _ ⟨g, 1, none⟩ (.int .i64 st)) e).kept (set_grownBy _ ⟨g, 2, none⟩ rv) e
  have r2 := grownBy_step (grownBy_step (grownBy_step hg (set_grownBy w2 ⟨g, 0, none⟩ (.int .i64 sy)) e') (set_grownBy _ ⟨g, 1, none⟩ (.int .i64 st)) e') (set_grownBy _ ⟨g, 2, none⟩ rv) e'
  have r3 := ownsRow_far (p := ⟨g, 2, none⟩) (ownsRow_far (p := ⟨g, 1, none⟩) (ownsRow_far (p := ⟨g, 0, none⟩) ho hfar (.int .i64 sy)) hfar (.int .i64 st)) hfar rv
  exact ⟨⟨⟨sy, st, rs⟩, rv, rfl, ownsRow_base r3 hbase⟩, r1.mono hn, r2⟩
/-- What is known while a machine is bent: the result's block, the machine's block, its rules. -/
structure BendSt (B b g go : Nat) (w0 : World) (n : Nat) (sy st : Int) (rs : List RuleD) (rv : Value) (w : World) : Prop where
  res : Blk w g 66 #[.int .i64 0, .int .i64 0, .slice none 0 0]
  mac : Blk w go 66 #[.int .i64 sy, .int .i64 st, rv]
  own : OwnRules w0.heap.size w rv rs
  src : Src B w b n
  grown : w0.grownBy w (some b)
theorem BendSt.src' {B b g go : Nat} {w0 : World} {n n' : Nat} {sy st : Int} {rs : List RuleD} {rv : Value} {w w' : World} (h : BendSt B b g go w0 n sy st rs rv w) (hs : Src B w' b n') (hg : w.grownBy w' (some b)) : BendSt B b g go w0 n' sy st rs rv w' :=
  ⟨blk_src h.src hg h.res (by decide), blk_src h.src hg h.mac (by decide), own_src h.src hg h.own (by decide), hs, grownBy_trans h.grown hg⟩
theorem BendSt.ext {B b g go : Nat} {w0 : World} {n : Nat} {sy st : Int} {rs : List RuleD} {rv : Value} {w w' : World} (h : BendSt B b g go w0 n sy st rs rv w) (he : Ext w w') : BendSt B b g go w0 n sy st rs rv w' :=
  ⟨h.res.ext he, h.mac.ext he, OwnRules.ext h.own he, h.src.ext he, grownBy_trans h.grown (ext_grownBy he _)⟩
theorem rvs_set0 : ∀ (rs : List RuleD) (k : Nat) (z : Int) (h : k < rs.length), (rvs rs).set (k * 3) (.int .i64 z) = rvs (rs.set k ⟨z, rs[k].m, rs[k].n⟩)
  | r :: rs, 0, z, _ => by simp [rvs]
  | r :: rs, k + 1, z, h => by
    have ih := rvs_set0 rs k z (by simpa using h)
    simp only [rvs, List.flatMap_cons, List.set_cons_succ, List.getElem_cons_succ] at ih ⊢
    rw [show (k + 1) * 3 = k * 3 + 1 + 1 + 1 by omega]
    simp only [List.cons_append, List.nil_append, List.set_cons_succ]
    rw [ih]
theorem rvs_set1 : ∀ (rs : List RuleD) (k : Nat) (z : Int) (h : k < rs.length), (rvs rs).set (k * 3 + 1) (.int .i64 z) = rvs (rs.set k ⟨rs[k].w, z, rs[k].n⟩)
  | r :: rs, 0, z, _ => by simp [rvs]
  | r :: rs, k + 1, z, h => by
    have ih := rvs_set1 rs k z (by simpa using h)
    simp only [rvs, List.flatMap_cons, List.set_cons_succ, List.getElem_cons_succ] at ih ⊢
    rw [show (k + 1) * 3 + 1 = k * 3 + 1 + 1 + 1 + 1 by omega]
    simp only [List.cons_append, List.nil_append, List.set_cons_succ]
    rw [ih]
theorem rvs_set2 : ∀ (rs : List RuleD) (k : Nat) (z : Int) (h : k < rs.length), (rvs rs).set (k * 3 + 2) (.int .i64 z) = rvs (rs.set k ⟨rs[k].w, rs[k].m, z⟩)
  | r :: rs, 0, z, _ => by simp [rvs]
  | r :: rs, k + 1, z, h => by
    have ih := rvs_set2 rs k z (by simpa using h)
    simp only [rvs, List.flatMap_cons, List.set_cons_succ, List.getElem_cons_succ] at ih ⊢
    rw [show (k + 1) * 3 + 2 = k * 3 + 2 + 1 + 1 + 1 by omega]
    simp only [List.cons_append, List.nil_append, List.set_cons_succ]
    rw [ih]
section
variable {B b g go : Nat} {w0 : World} {n : Nat} {sy st : Int} {rs : List RuleD} {rv : Value} {w : World}
theorem BendSt.putAny (h : BendSt B b g go w0 n sy st rs rv w) (h1 : b ≠ go) (h2 : B ≤ go) (h3 : w0.heap.size ≤ go) (h4 : g ≠ go) (j : Nat) (u : Value) :
    Blk (w.setCell ⟨go, j, none⟩ u) g 66 #[.int .i64 0, .int .i64 0, .slice none 0 0] ∧ Src B (w.setCell ⟨go, j, none⟩ u) b n ∧ w0.grownBy (w.setCell ⟨go, j, none⟩ u) (some b) ∧
      (∀ {base : Nat} {v : Value} {qs : List RuleD}, OwnRules base w v qs → OwnRules base (w.setCell ⟨go, j, none⟩ u) v qs) :=
  ⟨h.res.far (by simpa using h4) _, h.src.kept (set_grownBy _ _ _) (fun k hk => by injection hk with hk; subst hk; exact ⟨h2, fun e => h1 e.symm⟩),
   grownBy_step h.grown (set_grownBy _ _ _) (fun k hk => by injection hk with hk; subst hk; exact .inl h3), fun ho => ownsRow_far (p := ⟨go, j, none⟩) ho (own_far_blk ho h.mac (by decide)) _⟩
theorem BendSt.put2 (h : BendSt B b g go w0 n sy st rs rv w) (h1 : b ≠ go) (h2 : B ≤ go) (h3 : w0.heap.size ≤ go) (h4 : g ≠ go) {rv' : Value} {qs : List RuleD} (ho : OwnRules w0.heap.size w rv' qs) : BendSt B b g go w0 n sy st qs rv' (w.setCell ⟨go, 2, none⟩ rv') := by
  obtain ⟨a1, a2, a3, a4⟩ := h.putAny h1 h2 h3 h4 2 rv'
  exact ⟨a1, h.mac.set_ 2 _, a4 ho, a2, a3⟩
/-- A field of a rule is written. -/
theorem BendSt.field {gr c : Nat} {qs : List RuleD} (h : BendSt B b g go w0 n sy st rs (.slice (some ⟨gr, 0, none⟩) rs.length c) w) (hbw : b < w0.heap.size) (hB : B ≤ w0.heap.size) (j : Nat) (u : Value) (hq : (rvs rs).set j u = rvs qs) (hl : qs.length = rs.length) :
    BendSt B b g go w0 n sy st qs (.slice (some ⟨gr, 0, none⟩) rs.length c) (w.setCell ⟨gr, j, none⟩ u) := by
  have hlt := h.own.lt gr rfl
  have n1 := own_far_blk h.own h.res (by decide) gr rfl
  have n2 := own_far_blk h.own h.mac (by decide) gr rfl
  refine ⟨h.res.far (by simpa using fun e => n1 e.symm) _, h.mac.far (by simpa using fun e => n2 e.symm) _, ?_, h.src.kept (set_grownBy _ _ _) (fun k hk => by injection hk with hk; subst hk; exact ⟨by simp; omega, by simp; omega⟩), grownBy_step h.grown (set_grownBy _ _ _) (fun k hk => by injection hk with hk; subst hk; exact .inl (by simp; omega))⟩
  have := (World.ownsRow.stored h.own j u).1
  rw [hq] at this
  unfold OwnRules
  rw [hl]
  exact this
end
end Go.Proofs.YtgeckhjkahnonaaGreatDoor
namespace Go.Proofs.YtgeckhjkahnonaaGreatDoor
open Go Go.RowKit Go.Proofs
set_option maxHeartbeats 400000
theorem BendSt.fieldN {B b g go : Nat} {w0 : World} {n : Nat} {sy st : Int} {rs : List RuleD} {w : World} {gr c N : Nat} {qs : List RuleD} (hN : rs.length = N) (h : BendSt B b g go w0 n sy st rs (.slice (some ⟨gr, 0, none⟩) N c) w) (hbw : b < w0.heap.size) (hB : B ≤ w0.heap.size) (j : Nat) (u : Value) (hq : (rvs rs).set j u = rvs qs) (hl : qs.length = N) :
    BendSt B b g go w0 n sy st qs (.slice (some ⟨gr, 0, none⟩) N c) (w.setCell ⟨gr, j, none⟩ u) := by
  subst hN
  exact h.field hbw hB j u hq hl
/-- A rule is written whole. -/
theorem BendSt.rule {B b g go : Nat} {w0 : World} {n : Nat} {sy st : Int} {rs : List RuleD} {w : World} {gr c N : Nat} (hN : rs.length = N) (h : BendSt B b g go w0 n sy st rs (.slice (some ⟨gr, 0, none⟩) N c) w) (hbw : b < w0.heap.size) (hB : B ≤ w0.heap.size) (k : Nat) (hk : k < N) (x y z : Int) :
    BendSt B b g go w0 n sy st (rs.set k ⟨x, y, z⟩) (.slice (some ⟨gr, 0, none⟩) N c) (((w.setCell ⟨gr, k * 3, none⟩ (.int .i64 x)).setCell ⟨gr, k * 3 + 1, none⟩ (.int .i64 y)).setCell ⟨gr, k * 3 + 2, none⟩ (.int .i64 z)) := by
  have s1 := BendSt.fieldN hN h hbw hB (k * 3) (.int .i64 x) (rvs_set0 rs k x (by omega)) (by simpa using hN)
  have l1 : (rs.set k ⟨x, rs[k].m, rs[k].n⟩).length = N := by simpa using hN
  have s2 := BendSt.fieldN l1 s1 hbw hB (k * 3 + 1) (.int .i64 y) (rvs_set1 _ k y (by omega)) (by simpa using hN)
  have l2 : ((rs.set k ⟨x, rs[k].m, rs[k].n⟩).set k ⟨((rs.set k ⟨x, rs[k].m, rs[k].n⟩)[k]'(by omega)).w, y, ((rs.set k ⟨x, rs[k].m, rs[k].n⟩)[k]'(by omega)).n⟩).length = N := by simpa using hN
  have s3 := BendSt.fieldN l2 s2 hbw hB (k * 3 + 2) (.int .i64 z) (rvs_set2 _ k z (by omega)) (by simpa using hN)
  simpa [List.set_set] using s3
end Go.Proofs.YtgeckhjkahnonaaGreatDoor
namespace Go.Proofs.YtgeckhjkahnonaaGreatDoor
open Go Go.RowKit Go.Proofs
set_option maxHeartbeats 400000
structure DecSt (w : World) (b n : Nat) (wr : World) : Prop where
  res : Blk wr w.heap.size 66 #[.int .i64 0, .int .i64 0, .slice none 0 0]
  src : Src (w.heap.size + 1) wr b n
  ext : Ext w wr
theorem DecSt.done {w : World} {b n base : Nat} {wr : World} {m : MachD} {rv : Value} (h : DecSt w b n wr) (ho : OwnRules base wr rv m.rules) (hbase : w.heap.size ≤ base) :
    OwnRules w.heap.size (((wr.setCell ⟨w.heap.size, 0, none⟩ (.int .i64 m.sy)).setCell ⟨w.heap.size, 1, none⟩ (.int .i64 m.st)).setCell ⟨w.heap.size, 2, none⟩ rv) rv m.rules ∧
    Ext w (((wr.setCell ⟨w.heap.size, 0, none⟩ (.int .i64 m.sy)).setCell ⟨w.heap.size, 1, none⟩ (.int .i64 m.st)).setCell ⟨w.heap.size, 2, none⟩ rv) := by
  have hfar := own_far_blk ho h.res (by decide)
  refine ⟨ownsRow_base (ownsRow_far (ownsRow_far (ownsRow_far ho hfar _) hfar _) hfar _) hbase, ?_⟩
  exact ((h.ext.setCell (Nat.le_refl _) _).setCell (Nat.le_refl _) _).setCell (Nat.le_refl _) _
end Go.Proofs.YtgeckhjkahnonaaGreatDoor
end
