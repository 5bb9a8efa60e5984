/- Contract of the program's run of a machine by its runner. The machine is valid and the configuration is one of its.
Contracts of the reference's source of choices: bytes first, then a sequence of its own. Fewer than 2 to the power of 60 choices are made.
Contracts of the laws' small helpers on bytes, lists and rows.
Contracts of the reference's reading of machines, as far as the known machines want it: cells of three signs, numbers of one digit.
Contract of the reference's reading of a machine from a text that stands for one.
Contracts of the reference's draws of machines. The sizes are small.
Contracts of the reference's draws of machines, continued: the known machines, a machine that is valid. -/
import Derived.Test.YthhjbmlkncdigaaGreatDoorB13
import Derived.Deep.RegionHeld3
import Derived.Test.YthhjbmlkncdigaaGreatDoorB02
import Derived.Maps.AppendAt
import Derived.Test.YthhjbmlkncdigaaGreatDoorB03
import Derived.Deep.AppendLies
section
set_option linter.unusedSimpArgs false
set_option linter.unusedVariables false
namespace Go.Proofs.YthhjbmlkncdigaaGreatDoor
open Go Go.RowKit Go.Proofs Go.Shelf
attribute [local go_sem] Oper.semAt_some
set_option maxHeartbeats 400000
section
variable {w0 : World} {b k : Nat} {m : MachD} {c : ConfD} {mv : Value} {N B : Nat}
theorem FourR.turn {W W' : World} {a e n : Int} {s : Bool} (h : FourR W k a s e n) {row : Option Nat} (hg : W.grownBy W' row) (hr : ∀ r, row = some r → ∃ o : Obj, W.heap[r]? = some o ∧ o.isCells = false) : FourR W' k a s e n := by
  refine ⟨h.b0.kept hg (fun e => ?_), h.b1.kept hg (fun e => ?_), h.b2.kept hg (fun e => ?_), h.b3.kept hg (fun e => ?_)⟩
  · exact not_cells (o := .cells #[] 0) h.b0 (hr _ e.symm)
  · exact not_cells (o := .cells #[] 0) h.b1 (hr _ e.symm)
  · exact not_cells (o := .cells #[] 0) h.b2 (hr _ e.symm)
  · exact not_cells (o := .cells #[] 0) h.b3 (hr _ e.symm)
theorem stR_own (h0 : w0.heap.size ≤ B) (pre : List (Int × Bool)) (x : Int × Bool) : OwnFrom B (fun (_ : Unit) W => StR w0 b m c mv N pre x W) := by
  rintro s W W' row ⟨i, lv, rv, hR, h2⟩ hg hr
  exact ⟨i, lv, rv, hR.turn hg (fun r e => ⟨Nat.le_trans h0 (hr r e).1, (hr r e).2⟩), h2⟩
theorem sR_own (h0 : w0.heap.size ≤ B) : OwnFrom B (SR w0 b m c mv N) := by
  rintro s W W' row ⟨i, lv, rv, p, hR, h2⟩ hg hr
  exact ⟨i, lv, rv, p, hR.turn hg (fun r e => ⟨Nat.le_trans h0 (hr r e).1, (hr r e).2⟩), h2⟩
theorem spR_own (h0 : w0.heap.size ≤ B) : OwnFrom B (SpR w0 b m c mv N) := by
  rintro s W W' row ⟨i, lv, rv, p, hR, h2⟩ hg hr
  exact ⟨i, lv, rv, p, hR.turn hg (fun r e => ⟨Nat.le_trans h0 (hr r e).1, (hr r e).2⟩), h2⟩
end
theorem kp_set {w0 W : World} {b bq bp : Nat} {m : MachD} {d : ConfD} {mv lv rv : Value} (h : RunAt w0 W b m d mv lv rv) {p : Addr} (ha : Apt b p.block lv rv) (h0 : w0.heap.size ≤ p.block) (hq : bq ≠ p.block) (hp : bp ≠ p.block) (u : Value) :
    KpR w0 b bq bp m mv W (W.setCell p u) ∧ RunAt w0 (W.setCell p u) b m d mv lv rv := by
  refine ⟨⟨(grownBy_setCell W p u).size, fun d' l' r' h' => ?_, Below.heap_setCell W p u bq hq, Below.heap_setCell W p u bp hp⟩, h.apart ha.nb ha.nl ha.nr h0 u⟩
  obtain ⟨rfl, rfl⟩ := h.vals h'
  exact h'.apart ha.nb ha.nl ha.nr h0 u
theorem FourR.set3 {W : World} {k : Nat} {a e n : Int} {s : Bool} (h : FourR W k a s e n) (x : Int) : FourR (W.setCell ⟨k + 1 + 1 + 1, 0, none⟩ (.int .i64 x)) k a s e x :=
  ⟨h.b0.far (by show k ≠ k + 1 + 1 + 1; omega) _, h.b1.far (by show k + 1 ≠ k + 1 + 1 + 1; omega) _, h.b2.far (by simp) _, h.b3.set_ 0 _⟩
end Go.Proofs.YthhjbmlkncdigaaGreatDoor
end
section
namespace Go.Proofs.YthhjbmlkncdigaaGreatDoor
open Go Go.RowKit Go.Proofs
set_option maxHeartbeats 400000
def bvs (bs : List Int) : List Value := bs.map (Value.int .u8)
/-- A slice of bytes. -/
def Bytes (w : World) (v : Value) (bs : List Int) : Prop := Row w 1 v bs.length (bvs bs) ∧ ∀ z ∈ bs, 0 ≤ z ∧ z ≤ 255
theorem Bytes.ext {w w' : World} {v : Value} {bs : List Int} (h : Bytes w v bs) (he : Ext w w') : Bytes w' v bs := ⟨Row.ext h.1 he, h.2⟩
theorem bvs_get (bs : List Int) (k : Nat) (h : k < bs.length) : (bvs bs)[k]? = some (.int .u8 bs[k]) := by simp [bvs, h]
/-- A store of a number into a cell that holds no byte leaves bytes as they are. -/
theorem Bytes.store {w : World} {v : Value} {bs : List Int} (h : Bytes w v bs) {p : Addr} {u : Value} (hp : w.cell? p = some u) (hu : ∀ z, u ≠ .int .u8 z) (x : Value) : Bytes (w.setCell p x) v bs := by
  obtain ⟨⟨A, c, rfl, h1, h1', h2, h3⟩, h4⟩ := h
  refine ⟨⟨A, c, rfl, h1, h1', h2, fun hn => ?_⟩, h4⟩
  obtain ⟨b, off, rfl, hc⟩ := h3 hn
  refine ⟨b, off, rfl, fun j hj => ?_⟩
  have hj' : j < bs.length := by simpa [bvs] using hj
  have := hc j hj
  rw [bvs_get bs j hj'] at this ⊢
  refine (World.cell?_setCell_other w p _ x (fun e => ?_)).trans this
  have e2 : w.cell? p = some (.int .u8 bs[j]) := by first | (rw [← e]; exact this) | (rw [e]; exact this)
  rw [hp] at e2
  injection e2 with e2
  exact hu _ e2
end Go.Proofs.YthhjbmlkncdigaaGreatDoor
namespace Go.Proofs.YthhjbmlkncdigaaGreatDoor
open Go Go.RowKit Go.Proofs
set_option maxHeartbeats 400000
end Go.Proofs.YthhjbmlkncdigaaGreatDoor
end
section
namespace Go.Proofs.YthhjbmlkncdigaaGreatDoor
open Go Go.RowKit Go.Proofs
set_option maxHeartbeats 400000
/-- A slice of texts in memory of the call's own. -/
def OwnStrs (base : Nat) (w : World) (v : Value) (xs : List ByteArray) : Prop := w.ownsRow base 9 1 v xs.length (xs.map Value.string)
theorem OwnStrs.ext {base : Nat} {w w' : World} {v : Value} {xs : List ByteArray} (h : OwnStrs base w v xs) (he : Ext w w') : OwnStrs base w' v xs := ownsRow_ext h he
theorem OwnStrs.cell {base : Nat} {w : World} {A : Option Addr} {c : Nat} {xs : List ByteArray} (h : OwnStrs base w (.slice A xs.length c) xs) {k : Nat} (hk : k < xs.length) : ∃ g, A = some ⟨g, 0, none⟩ ∧ w.cell? ⟨g, k, none⟩ = some (.string xs[k]) := by
  obtain ⟨g, rfl, _, _⟩ := own_at h (by omega)
  refine ⟨g, rfl, ?_⟩
  have := World.ownsRow.cellAt h k (by omega)
  rw [this]
  simp [hk]
end Go.Proofs.YthhjbmlkncdigaaGreatDoor
namespace Go.Proofs.YthhjbmlkncdigaaGreatDoor
open Go Go.RowKit Go.Proofs
set_option maxHeartbeats 400000
/-- The machine under way, in memory. -/
structure RdSt (g go : Nat) (w0 : World) (sy st : Int) (rs : List RuleD) (rv : Value) (w : World) : Prop where
  res : Blk w g 35 #[.int .i64 0, .int .i64 0, .slice none 0 0]
  mac : Blk w go 35 #[.int .i64 sy, .int .i64 st, rv]
  own : w.ownsRow g 98 3 rv rs.length (rvs rs)
  ex : Ext w0 w
  low : g < go
theorem RdSt.ext {g go : Nat} {w0 : World} {sy st : Int} {rs : List RuleD} {rv : Value} {w w' : World} (h : RdSt g go w0 sy st rs rv w) (he : Ext w w') : RdSt g go w0 sy st rs rv w' :=
  ⟨h.res.ext he, h.mac.ext he, ownsRow_ext h.own he, h.ex.trans he, h.low⟩
theorem own_far_blk {w : World} {base : Nat} {e : TypeId} {size : Nat} {v : Value} {n : Nat} {xs : List Value} (ho : w.ownsRow base e size v n xs) {g : Nat} {t : TypeId} {cs : Array Value} (hb : Blk w g t cs) (hne : t ≠ e) : ∀ k, v.ownBlock = some k → k ≠ g := by
  intro k hk he
  subst he
  rcases ho.2 with ⟨rfl, _⟩ | ⟨g', cap, cur, rfl, _, hh, _⟩
  · simp [Value.ownBlock] at hk
  · have : g' = k := by simpa [Value.ownBlock] using hk
    subst this
    unfold Blk at hb
    rw [hb] at hh
    injection hh with hh
    injection hh with _ ht
    exact hne ht
end Go.Proofs.YthhjbmlkncdigaaGreatDoor
namespace Go.Proofs.YthhjbmlkncdigaaGreatDoor
open Go Go.RowKit Go.Proofs
set_option maxHeartbeats 400000
end Go.Proofs.YthhjbmlkncdigaaGreatDoor
namespace Go.Proofs.YthhjbmlkncdigaaGreatDoor
open Go Go.RowKit Go.Proofs
set_option maxHeartbeats 400000
end Go.Proofs.YthhjbmlkncdigaaGreatDoor
end
