/- Plain words on runs: positions of the head, the tape around it, and runs that come again moved by some cells.
Contracts of the reference's source of choices: bytes first, then a sequence of its own. Fewer than 2 to the power of 60 choices are made.
Contracts of the laws' small helpers on bytes, lists and rows.
Contracts of the reference's reading of machines, as far as the known machines want it: cells of three signs, numbers of one digit.
Contract of the reference's reading of a machine from a text that stands for one.
Contracts of the reference's draws of machines. The sizes are small.
Contracts of the reference's draws of machines, continued: the known machines, a machine that is valid. -/
import Derived.Test.YtfghojbbofobeaaGreatDoorW25
import Derived.Test.YtfghojbbofobeaaGreatDoorW02
import Derived.Maps.AppendAt
import Derived.Test.YtfghojbbofobeaaGreatDoorW03
import Derived.Deep.AppendLies
section
set_option linter.unusedSimpArgs false
set_option linter.unusedVariables false
namespace Go.Proofs.YtfghojbbofobeaaGreatDoor
open Go Go.RowKit Go.Proofs
/-- The symbol of a configuration at a distance from its head. -/
def cellC (c : ConfD) (z : Int) : Int := if 0 ≤ z then c.r.getD z.toNat 0 else c.l.getD (-1 - z).toNat 0
theorem pushL_getD (s : Int) (xs : List Int) (i : Nat) : (pushL s xs).getD i 0 = (s :: xs).getD i 0 := by
  unfold pushL
  split
  · rename_i h
    obtain ⟨rfl, rfl⟩ := h
    cases i <;> simp
  · rfl
theorem drop1_getD (xs : List Int) (i : Nat) : (xs.drop 1).getD i 0 = xs.getD (i + 1) 0 := by
  simp [List.getD_eq_getElem?_getD, Nat.add_comm]
theorem cell_step {ru : RuleD} (hm : ru.m = 1 ∨ ru.m = -1) (c : ConfD) (z : Int) : cellC (stepI ru c) (z - ru.m) = if z = 0 then ru.w else cellC c z := by
  rcases hm with h | h
  · have e : stepI ru c = ⟨ru.n, pushL ru.w c.l, c.r.drop 1⟩ := by unfold stepI; rw [if_pos (by omega)]
    rw [e, h]
    unfold cellC
    simp only
    by_cases h0 : z = 0
    · subst h0
      rw [if_neg (by omega), if_pos rfl, pushL_getD]
      rfl
    · rw [if_neg h0]
      by_cases h1 : 0 ≤ z
      · rw [if_pos (show 0 ≤ z - 1 by omega), if_pos h1, drop1_getD]
        congr 1
        omega
      · rw [if_neg (show ¬ 0 ≤ z - 1 by omega), if_neg h1, pushL_getD]
        obtain ⟨k, hk⟩ : ∃ k : Nat, (-1 - (z - 1)).toNat = k + 1 := ⟨(-1 - z).toNat, by omega⟩
        rw [hk, List.getD_cons_succ]
        congr 1
        omega
  · have e : stepI ru c = ⟨ru.n, c.l.drop 1, pushL (hdD c.l) (pushL ru.w (c.r.drop 1))⟩ := by unfold stepI; rw [if_neg (by omega)]
    rw [e, h]
    unfold cellC
    simp only
    by_cases h0 : z = 0
    · subst h0
      rw [if_pos (by omega), if_pos rfl, pushL_getD]
      have : (0 - (-1 : Int)).toNat = 0 + 1 := by omega
      rw [this, List.getD_cons_succ, pushL_getD]
      rfl
    · rw [if_neg h0]
      by_cases h1 : 0 ≤ z
      · rw [if_pos (show 0 ≤ z - -1 by omega), if_pos h1, pushL_getD]
        obtain ⟨k, hk⟩ : ∃ k : Nat, z.toNat = k + 1 := ⟨z.toNat - 1, by omega⟩
        have : (z - -1).toNat = (k + 1) + 1 := by omega
        rw [this, List.getD_cons_succ, pushL_getD, List.getD_cons_succ, drop1_getD, hk]
      · rw [if_neg h1]
        by_cases h2 : z = -1
        · subst h2
          rw [if_pos (by omega), pushL_getD]
          rfl
        · rw [if_neg (show ¬ 0 ≤ z - -1 by omega), drop1_getD]
          congr 1
          omega
/-- Two configurations agree on a set of places, seen from two heads at the same place u. -/
structure Mt (D : Int → Prop) (u : Int) (c e : ConfD) : Prop where
  q : c.q = e.q
  at_ : ∀ z, D z → cellC c (z - u) = cellC e (z - u)
theorem Mt.step {D : Int → Prop} {u : Int} {c e : ConfD} (h : Mt D u c e) {ru : RuleD} (hm : ru.m = 1 ∨ ru.m = -1) : Mt D (u + ru.m) (stepI ru c) (stepI ru e) := by
  refine ⟨?_, fun z hz => ?_⟩
  · unfold stepI
    split <;> rfl
  · have e1 : z - (u + ru.m) = (z - u) - ru.m := by omega
    rw [e1, cell_step hm, cell_step hm, h.at_ z hz]
section
variable {m : MachD} (hm : machOk m = true) {c0 : ConfD} (hc0 : IGood m c0) {a b : Nat} {d : Int} {D : Int → Prop}
include hm hc0
end
/-- No blanks at the end. -/
def tidyL (xs : List Int) : Prop := xs = [] ∨ xs.getLastD 0 ≠ 0
theorem tidy_drop {xs : List Int} (h : tidyL xs) : tidyL (xs.drop 1) := by
  cases xs with
  | nil => exact .inl rfl
  | cons a l =>
    cases l with
    | nil => exact .inl rfl
    | cons b l =>
      right
      rcases h with h | h
      · cases h
      · simpa using h
theorem tidy_push {s : Int} {xs : List Int} (h : tidyL xs) : tidyL (pushL s xs) := by
  unfold pushL
  split
  · exact .inl rfl
  · rename_i hn
    right
    cases xs with
    | nil => simp at hn; simpa using hn
    | cons a l =>
      rcases h with h | h
      · cases h
      · simpa using h
theorem tidy_step {ru : RuleD} {c : ConfD} (h : tidyL c.l ∧ tidyL c.r) : tidyL (stepI ru c).l ∧ tidyL (stepI ru c).r := by
  unfold stepI
  split
  · exact ⟨tidy_push h.1, tidy_drop h.2⟩
  · exact ⟨tidy_drop h.1, tidy_push (tidy_push (tidy_drop h.2))⟩
theorem tidy_cfg {m : MachD} {c : ConfD} (h : tidyL c.l ∧ tidyL c.r) : ∀ n, tidyL (cfgI m c n).l ∧ tidyL (cfgI m c n).r := by
  intro n
  induction n with
  | zero => exact h
  | succ n ih => exact tidy_step ih
end Go.Proofs.YtfghojbbofobeaaGreatDoor
end
section
namespace Go.Proofs.YtfghojbbofobeaaGreatDoor
open Go Go.RowKit Go.Proofs
set_option maxHeartbeats 400000
def bvs (bs : List Int) : List Value := bs.map (Value.int .u8)
/-- A slice of bytes. -/
def Bytes (w : World) (v : Value) (bs : List Int) : Prop := Row w 1 v bs.length (bvs bs) ∧ ∀ z ∈ bs, 0 ≤ z ∧ z ≤ 255
theorem Bytes.ext {w w' : World} {v : Value} {bs : List Int} (h : Bytes w v bs) (he : Ext w w') : Bytes w' v bs := ⟨Row.ext h.1 he, h.2⟩
theorem bvs_get (bs : List Int) (k : Nat) (h : k < bs.length) : (bvs bs)[k]? = some (.int .u8 bs[k]) := by simp [bvs, h]
/-- A store of a number into a cell that holds no byte leaves bytes as they are. -/
theorem Bytes.store {w : World} {v : Value} {bs : List Int} (h : Bytes w v bs) {p : Addr} {u : Value} (hp : w.cell? p = some u) (hu : ∀ z, u ≠ .int .u8 z) (x : Value) : Bytes (w.setCell p x) v bs := by
  obtain ⟨⟨A, c, rfl, h1, h1', h2, h3⟩, h4⟩ := h
  refine ⟨⟨A, c, rfl, h1, h1', h2, fun hn => ?_⟩, h4⟩
  obtain ⟨b, off, rfl, hc⟩ := h3 hn
  refine ⟨b, off, rfl, fun j hj => ?_⟩
  have hj' : j < bs.length := by simpa [bvs] using hj
  have := hc j hj
  rw [bvs_get bs j hj'] at this ⊢
  refine (World.cell?_setCell_other w p _ x (fun e => ?_)).trans this
  have e2 : w.cell? p = some (.int .u8 bs[j]) := by first | (rw [← e]; exact this) | (rw [e]; exact this)
  rw [hp] at e2
  injection e2 with e2
  exact hu _ e2
end Go.Proofs.YtfghojbbofobeaaGreatDoor
namespace Go.Proofs.YtfghojbbofobeaaGreatDoor
open Go Go.RowKit Go.Proofs
set_option maxHeartbeats 400000
end Go.Proofs.YtfghojbbofobeaaGreatDoor
end
section
namespace Go.Proofs.YtfghojbbofobeaaGreatDoor
open Go Go.RowKit Go.Proofs
set_option maxHeartbeats 400000
/-- A slice of texts in memory of the call's own. -/
def OwnStrs (base : Nat) (w : World) (v : Value) (xs : List ByteArray) : Prop := w.ownsRow base 9 1 v xs.length (xs.map Value.string)
theorem OwnStrs.ext {base : Nat} {w w' : World} {v : Value} {xs : List ByteArray} (h : OwnStrs base w v xs) (he : Ext w w') : OwnStrs base w' v xs := ownsRow_ext h he
theorem OwnStrs.cell {base : Nat} {w : World} {A : Option Addr} {c : Nat} {xs : List ByteArray} (h : OwnStrs base w (.slice A xs.length c) xs) {k : Nat} (hk : k < xs.length) : ∃ g, A = some ⟨g, 0, none⟩ ∧ w.cell? ⟨g, k, none⟩ = some (.string xs[k]) := by
  obtain ⟨g, rfl, _, _⟩ := own_at h (by omega)
  refine ⟨g, rfl, ?_⟩
  have := World.ownsRow.cellAt h k (by omega)
  rw [this]
  simp [hk]
end Go.Proofs.YtfghojbbofobeaaGreatDoor
namespace Go.Proofs.YtfghojbbofobeaaGreatDoor
open Go Go.RowKit Go.Proofs
set_option maxHeartbeats 400000
/-- The machine under way, in memory. -/
structure RdSt (g go : Nat) (w0 : World) (sy st : Int) (rs : List RuleD) (rv : Value) (w : World) : Prop where
  res : Blk w g 61 #[.int .i64 0, .int .i64 0, .slice none 0 0]
  mac : Blk w go 61 #[.int .i64 sy, .int .i64 st, rv]
  own : w.ownsRow g 150 3 rv rs.length (rvs rs)
  ex : Ext w0 w
  low : g < go
theorem RdSt.ext {g go : Nat} {w0 : World} {sy st : Int} {rs : List RuleD} {rv : Value} {w w' : World} (h : RdSt g go w0 sy st rs rv w) (he : Ext w w') : RdSt g go w0 sy st rs rv w' :=
  ⟨h.res.ext he, h.mac.ext he, ownsRow_ext h.own he, h.ex.trans he, h.low⟩
theorem RdSt.snoc {g go : Nat} {w0 : World} {sy st : Int} {rs : List RuleD} {rv : Value} {w w2 : World} {v' : Value} {r : RuleD} (h : RdSt g go w0 sy st rs rv w) (hg0 : w0.heap.size = g)
    (hown : w2.ownsRow g 150 3 v' (rs.length + 1) (rvs rs ++ [.int .i64 r.w, .int .i64 r.m, .int .i64 r.n])) (hg : w.grownBy w2 rv.ownBlock) :
    RdSt g go w0 sy st (rs ++ [r]) v' (w2.setCell ⟨go, 2, none⟩ v') := by
  have hro : ∀ k, rv.ownBlock = some k → g ≤ k := fun k hk => (h.own.lt k hk).1
  have m2 := Blk.apart h.mac h.own (by decide) hg
  have r2 := Blk.apart h.res h.own (by decide) hg
  have g2 : Ext w0 w2 := h.ex.grown hg (fun k hk => by have := hro k hk; omega)
  have hlow := h.low
  have far : ∀ k, v'.ownBlock = some k → k ≠ go := by
    intro k hk he
    subst he
    rcases hown.2 with ⟨rfl, _⟩ | ⟨g', cap, cur, rfl, _, hh, _⟩
    · simp [Value.ownBlock] at hk
    · have : g' = k := by simpa [Value.ownBlock] using hk
      subst this
      unfold Blk at m2
      rw [m2] at hh
      injection hh with hh
      injection hh with _ ht
      exact absurd ht (by decide)
  refine ⟨r2.far (by simp; omega) _, m2.set_ 2 _, ?_, g2.setCell (by simp; omega) _, hlow⟩
  have := ownsRow_far (p := ⟨go, 2, none⟩) hown far v'
  rw [List.length_append, List.length_cons, List.length_nil, rvs_append]
  exact this
theorem own_far_blk {w : World} {base : Nat} {e : TypeId} {size : Nat} {v : Value} {n : Nat} {xs : List Value} (ho : w.ownsRow base e size v n xs) {g : Nat} {t : TypeId} {cs : Array Value} (hb : Blk w g t cs) (hne : t ≠ e) : ∀ k, v.ownBlock = some k → k ≠ g := by
  intro k hk he
  subst he
  rcases ho.2 with ⟨rfl, _⟩ | ⟨g', cap, cur, rfl, _, hh, _⟩
  · simp [Value.ownBlock] at hk
  · have : g' = k := by simpa [Value.ownBlock] using hk
    subst this
    unfold Blk at hb
    rw [hb] at hh
    injection hh with hh
    injection hh with _ ht
    exact hne ht
end Go.Proofs.YtfghojbbofobeaaGreatDoor
namespace Go.Proofs.YtfghojbbofobeaaGreatDoor
open Go Go.RowKit Go.Proofs
set_option maxHeartbeats 400000
end Go.Proofs.YtfghojbbofobeaaGreatDoor
namespace Go.Proofs.YtfghojbbofobeaaGreatDoor
open Go Go.RowKit Go.Proofs
set_option maxHeartbeats 400000
end Go.Proofs.YtfghojbbofobeaaGreatDoor
end
