/- Contracts of the laws' copies, comparisons and marks of configurations. Lists are short; the marks stay below 2 to the power of 62.
Contracts of the reference's reading of machines, as far as the known machines want it: cells of three signs, numbers of one digit.
Contract of the reference's reading of a machine from a text that stands for one.
Contracts of the reference's draws of machines. The sizes are small.
Contracts of the reference's draws of machines, continued: the known machines, a machine that is valid.
Plain words and contracts on configurations that calls have made. -/
import Derived.Test.YtkbpchdncljlbaaGreatDoorV20
import Derived.Test.YtkbpchdncljlbaaGreatDoorV08
import Derived.Test.YtkbpchdncljlbaaGreatDoorV02
import Derived.Maps.AppendAt
import Derived.Test.YtkbpchdncljlbaaGreatDoorV03
import Derived.Deep.AppendLies
import Derived.Test.YtkbpchdncljlbaaGreatDoorV10
import Derived.Test.YtkbpchdncljlbaaGreatDoorV19
section
namespace Go.Proofs.YtkbpchdncljlbaaGreatDoor
open Go Go.RowKit Go.Proofs
set_option maxHeartbeats 400000
theorem ownsRow_lowC {w : World} {base : Nat} {e : TypeId} {size : Nat} {v : Value} {n : Nat} {xs : List Value} (h : w.ownsRow base e size v n xs) {p : Addr} (hp : p.block < base) (u : Value) : (w.setCell p u).ownsRow base e size v n xs :=
  ownsRow_far h (fun k hk => by have := (h.lt k hk).1; omega) u
/-- Only the blocks of two slices may have changed. -/
def TwoOnly (w w' : World) (u v : Value) : Prop := w.heap.size ≤ w'.heap.size ∧ ∀ g, g < w.heap.size → u.ownBlock ≠ some g → v.ownBlock ≠ some g → w'.heap[g]? = w.heap[g]?
theorem TwoOnly.own {w w' : World} {u v : Value} (h : TwoOnly w w' u v) {base : Nat} {e : TypeId} {size : Nat} {x : Value} {n : Nat} {xs : List Value} (ho : w.ownsRow base e size x n xs) (h1 : ∀ g, x.ownBlock = some g → u.ownBlock ≠ some g ∧ v.ownBlock ≠ some g) : w'.ownsRow base e size x n xs := by
  obtain ⟨a, b⟩ := ho
  refine ⟨a, ?_⟩
  rcases b with b | ⟨g, cap, cur, rfl, hb, hh, r⟩
  · exact .inl b
  · obtain ⟨n1, n2⟩ := h1 g rfl
    exact .inr ⟨g, cap, cur, rfl, hb, (h.2 g (Array.getElem?_eq_some_iff.1 hh).1 n1 n2).trans hh, r⟩
theorem TwoOnly.row {w w' : World} {u v : Value} (h : TwoOnly w w' u v) {size n : Nat} {x : Value} {xs : List Value} (ho : Row w size x n xs) (h1 : ∀ g o s, x = .slice (some ⟨g, o, s⟩) n (match x with | .slice _ _ c => c | _ => 0) → u.ownBlock ≠ some g ∧ v.ownBlock ≠ some g) : Row w' size x n xs := by
  obtain ⟨A, c, rfl, h2, h3, h4, h5⟩ := ho
  refine ⟨A, c, rfl, h2, h3, h4, fun hn => ?_⟩
  obtain ⟨b, off, rfl, hc⟩ := h5 hn
  refine ⟨b, off, rfl, fun j hj => ?_⟩
  obtain ⟨n1, n2⟩ := h1 b off none rfl
  have := hc j hj
  rw [List.getElem?_eq_getElem hj] at this ⊢
  have hlt := World.block_lt_of_cell? w _ this
  exact (World.cell?_of_block (h.2 b hlt n1 n2)).trans this
end Go.Proofs.YtkbpchdncljlbaaGreatDoor
end
section
namespace Go.Proofs.YtkbpchdncljlbaaGreatDoor
open Go Go.RowKit Go.Proofs
set_option maxHeartbeats 400000
/-- A cell of a known machine. -/
def ruleOfB (s : ByteArray) : Option RuleD :=
  match s.data.toList with
  | [a, b, c] => if a = 45 ∧ b = 45 ∧ c = 45 then some noR else if 48 ≤ a.toNat ∧ a.toNat ≤ 57 ∧ (b = 76 ∨ b = 82) ∧ 48 ≤ c.toNat ∧ c.toNat ≤ 57 then some ⟨(a.toNat : Int) - 48, if b = 76 then -1 else 1, (c.toNat : Int) - 48⟩ else none
  | _ => none
theorem toList3 (a b c : UInt8) : (⟨#[a, b, c]⟩ : ByteArray).toList = [a, b, c] := by
  unfold ByteArray.toList
  unfold ByteArray.toList.loop
  unfold ByteArray.toList.loop
  unfold ByteArray.toList.loop
  unfold ByteArray.toList.loop
  rfl
theorem ruleOfB_ways {s : ByteArray} {r : RuleD} (h : ruleOfB s = some r) : (s = ⟨#[45, 45, 45]⟩ ∧ r = noR) ∨
    (∃ (g1 : 3 ≤ s.size) (d0 d1 d2 : Nat), (s.toList == [45, 45, 45]) = false ∧ s.size ≤ 3 ∧ (s[0]'(by omega)).toNat = d0 ∧ (s[1]'(by omega)).toNat = d1 ∧ (s[2]'(by omega)).toNat = d2 ∧ 48 ≤ d0 ∧ d0 ≤ 57 ∧ 48 ≤ d2 ∧ d2 ≤ 57 ∧
      ((d1 = 76 ∧ r = ⟨(d0 : Int) - 48, -1, (d2 : Int) - 48⟩) ∨ (d1 = 82 ∧ r = ⟨(d0 : Int) - 48, 1, (d2 : Int) - 48⟩))) := by
  obtain ⟨⟨l⟩⟩ := s
  unfold ruleOfB at h
  match l, h with
  | [a, b, c], h =>
    simp only at h
    split at h
    · rename_i hh
      obtain ⟨rfl, rfl, rfl⟩ := hh
      injection h with h
      exact .inl ⟨rfl, h.symm⟩
    · rename_i hno
      split at h
      · rename_i hh
        obtain ⟨k1, k2, k3, k4, k5⟩ := hh
        injection h with h
        refine .inr ⟨Nat.le_refl 3, a.toNat, b.toNat, c.toNat, by rw [toList3, beq_eq_false_iff_ne]; intro e; injection e with e1 e; injection e with e2 e; injection e with e3 _; exact hno ⟨e1, e2, e3⟩, Nat.le_refl 3, rfl, rfl, rfl, k1, k2, k4, k5, ?_⟩
        rcases k3 with rfl | rfl
        · exact .inl ⟨rfl, by rw [← h, if_pos rfl]⟩
        · exact .inr ⟨rfl, by rw [← h, if_neg (by decide)]⟩
      · cases h
theorem storeR {w : World} {g : Nat} {t : TypeId} {a b c : Value} (h : Blk w g t #[a, b, c]) (x y z : Value) : Blk (((w.setCell ⟨g, 0, none⟩ x).setCell ⟨g, 1, none⟩ y).setCell ⟨g, 2, none⟩ z) g t #[x, y, z] := ((h.set_ 0 x).set_ 1 y).set_ 2 z
/-- A slice of texts in memory of the call's own. -/
def OwnStrs (base : Nat) (w : World) (v : Value) (xs : List ByteArray) : Prop := w.ownsRow base 9 1 v xs.length (xs.map Value.string)
theorem OwnStrs.ext {base : Nat} {w w' : World} {v : Value} {xs : List ByteArray} (h : OwnStrs base w v xs) (he : Ext w w') : OwnStrs base w' v xs := ownsRow_ext h he
theorem OwnStrs.cell {base : Nat} {w : World} {A : Option Addr} {c : Nat} {xs : List ByteArray} (h : OwnStrs base w (.slice A xs.length c) xs) {k : Nat} (hk : k < xs.length) : ∃ g, A = some ⟨g, 0, none⟩ ∧ w.cell? ⟨g, k, none⟩ = some (.string xs[k]) := by
  obtain ⟨g, rfl, _, _⟩ := own_at h (by omega)
  refine ⟨g, rfl, ?_⟩
  have := World.ownsRow.cellAt h k (by omega)
  rw [this]
  simp [hk]
theorem strInfoD : (Tryz.prog.info? 9).map (fun i => (i.zero, i.size, i.bytes)) = some (some (.string ⟨#[]⟩), 1, 16) := by kernel_rfl
/-- The pieces of a text between separators, after i bytes, and where the next one begins. -/
def splitTo (s : ByteArray) (d : Nat) : Nat → List ByteArray × Nat
  | 0 => ([], 0)
  | i + 1 => if (s.data.getD i 0).toNat = d then ((splitTo s d i).1 ++ [s.extract (splitTo s d i).2 i], i + 1) else splitTo s d i
def splitS (s : ByteArray) (d : Nat) : List ByteArray := (splitTo s d s.size).1 ++ [s.extract (splitTo s d s.size).2 s.size]
theorem splitTo_le (s : ByteArray) (d i : Nat) : (splitTo s d i).2 ≤ i ∧ (splitTo s d i).1.length ≤ i := by
  induction i with
  | zero => simp [splitTo]
  | succ i ih =>
    unfold splitTo
    split
    · simp; omega
    · omega
end Go.Proofs.YtkbpchdncljlbaaGreatDoor
namespace Go.Proofs.YtkbpchdncljlbaaGreatDoor
open Go Go.RowKit Go.Proofs
set_option maxHeartbeats 400000
def cellsR (x : ByteArray) : List RuleD := (splitS x 44).map fun c => (ruleOfB c).getD noR
/-- The machine of a text. -/
def parseM (s : ByteArray) : MachD := ⟨(splitS ((splitS s 59).getD 0 ⟨#[]⟩) 44).length, (splitS s 59).length, (splitS s 59).flatMap cellsR⟩
def parseOk (s : ByteArray) : Bool := decide (s.size ≤ 1000) && decide ((splitS s 59).length ≤ 100) && decide ((splitS ((splitS s 59).getD 0 ⟨#[]⟩) 44).length ≤ 6) &&
  ((splitS s 59).all fun x => decide (x.size ≤ 1000) && decide ((splitS x 44).length = (splitS ((splitS s 59).getD 0 ⟨#[]⟩) 44).length) && (splitS x 44).all fun c => (ruleOfB c).isSome) && machOk (parseM s)
theorem splitS_pos (s : ByteArray) (d : Nat) : 0 < (splitS s d).length := by simp [splitS]
theorem news3' (w : World) (a b c : Value) (t : TypeId) (g : Nat) (hg : w.heap.size = g) : ∀ j u, [a, b, c][j]? = some u → (w.alloc (.cells #[a, b, c] t)).cell? ((⟨g, 0, none⟩ : Addr).add j) = some u :=
  World.news_of_block (cs := #[a, b, c]) (Blk.new w g t #[a, b, c] hg)
theorem flat_take {rows : List ByteArray} {i : Nat} (h : i < rows.length) : (rows.take (i + 1)).flatMap cellsR = (rows.take i).flatMap cellsR ++ cellsR rows[i] := by
  rw [List.take_succ_eq_append_getElem h, List.flatMap_append]; simp
theorem cells_take {x : ByteArray} {k : Nat} (h : k < (splitS x 44).length) : (cellsR x).take (k + 1) = (cellsR x).take k ++ [(ruleOfB (splitS x 44)[k]).getD noR] := by
  have hl : k < (cellsR x).length := by simpa [cellsR] using h
  rw [List.take_succ_eq_append_getElem hl]
  simp [cellsR]
theorem flat_len {rows : List ByteArray} {K : Nat} (h : ∀ x ∈ rows, (splitS x 44).length = K) : (rows.flatMap cellsR).length = rows.length * K := by
  induction rows with
  | nil => simp
  | cons a l ih =>
    have h1 := h a List.mem_cons_self
    have h2 := ih fun x hx => h x (List.mem_cons_of_mem _ hx)
    simp only [List.flatMap_cons, List.length_append, List.length_cons, h2, Nat.succ_mul]
    simp [cellsR, h1]; omega
theorem own_far_blk {w : World} {base : Nat} {e : TypeId} {size : Nat} {v : Value} {n : Nat} {xs : List Value} (ho : w.ownsRow base e size v n xs) {g : Nat} {t : TypeId} {cs : Array Value} (hb : Blk w g t cs) (hne : t ≠ e) : ∀ k, v.ownBlock = some k → k ≠ g := by
  intro k hk he
  subst he
  rcases ho.2 with ⟨rfl, _⟩ | ⟨g', cap, cur, rfl, _, hh, _⟩
  · simp [Value.ownBlock] at hk
  · have : g' = k := by simpa [Value.ownBlock] using hk
    subst this
    unfold Blk at hb
    rw [hb] at hh
    injection hh with hh
    injection hh with _ ht
    exact hne ht
end Go.Proofs.YtkbpchdncljlbaaGreatDoor
namespace Go.Proofs.YtkbpchdncljlbaaGreatDoor
open Go Go.RowKit Go.Proofs
set_option maxHeartbeats 400000
theorem grownBy_step {w a c : World} {r r' : Option Nat} (h : w.grownBy a r) (k : a.grownBy c r') (hr : ∀ k, r' = some k → w.heap.size ≤ k ∨ r = some k) : w.grownBy c r :=
  ⟨k.os.trans h.os, k.tape.trans h.tape, k.output.trans h.output, Nat.le_trans h.size k.size, fun i hi hne => (k.block i (Nat.lt_of_lt_of_le hi h.size) (fun e => by
    rcases hr i e.symm with c | c
    · omega
    · exact hne c.symm)).trans (h.block i hi hne)⟩
theorem ext_grownBy {a b : World} (h : Ext a b) (row : Option Nat) : a.grownBy b row := ⟨Below.os h, Below.tape h, Below.output h, Below.size h, fun i hi _ => Below.block h i hi⟩
theorem set_grownBy (w : World) (p : Addr) (u : Value) : w.grownBy (w.setCell p u) (some p.block) :=
  ⟨rfl, rfl, rfl, by simp [World.setCell], fun k _ hk => Below.heap_setCell w p u k (fun e => hk (by rw [e]))⟩
theorem news3 (w : World) (a b c : Value) (t : TypeId) (g : Nat) (hg : w.heap.size = g) : ∀ j u, [a, b, c][j]? = some u → (w.alloc (.cells #[a, b, c] t)).cell? ((⟨g, 0, none⟩ : Addr).add j) = some u :=
  World.news_of_block (cs := #[a, b, c]) (Blk.new w g t #[a, b, c] hg)
theorem mul36 {a b : Int} (h1 : 1 ≤ a) (h2 : a ≤ 6) (h3 : 1 ≤ b) (h4 : b ≤ 6) : 1 ≤ a * b ∧ a * b ≤ 36 := by
  obtain rfl | rfl | rfl | rfl | rfl | rfl : a = 1 ∨ a = 2 ∨ a = 3 ∨ a = 4 ∨ a = 5 ∨ a = 6 := by omega
  all_goals omega
end Go.Proofs.YtkbpchdncljlbaaGreatDoor
namespace Go.Proofs.YtkbpchdncljlbaaGreatDoor
open Go Go.RowKit Go.Proofs
set_option maxHeartbeats 400000
def knownL : List ByteArray := [⟨#[49, 82, 49, 44, 49, 76, 49, 59, 49, 76, 48, 44, 45, 45, 45]⟩, ⟨#[49, 82, 49, 44, 45, 45, 45, 59, 49, 76, 49, 44, 48, 82, 50, 59, 49, 76, 50, 44, 49, 76, 48]⟩,
  ⟨#[49, 82, 49, 44, 49, 76, 49, 59, 49, 76, 48, 44, 48, 76, 50, 59, 45, 45, 45, 44, 49, 76, 51, 59, 49, 82, 51, 44, 48, 82, 48]⟩, ⟨#[49, 82, 48, 44, 45, 45, 45]⟩, ⟨#[49, 82, 49, 44, 48, 82, 48, 59, 49, 76, 48, 44, 49, 82, 49]⟩,
  ⟨#[49, 82, 49, 44, 50, 76, 49, 44, 45, 45, 45, 59, 50, 76, 48, 44, 50, 82, 49, 44, 49, 76, 49]⟩, ⟨#[49, 76, 48, 44, 49, 82, 49, 59, 49, 82, 48, 44, 48, 76, 49]⟩, ⟨#[49, 82, 49, 44, 49, 82, 48, 59, 49, 76, 48, 44, 49, 76, 49]⟩]
theorem known_ok : (knownL.all fun x => parseOk x && !(parseM x).rules.isEmpty && decide ((parseM x).rules.length ≤ 600) && machOk (parseM x)) = true := by decide +kernel
end Go.Proofs.YtkbpchdncljlbaaGreatDoor
end
section
set_option linter.unusedSimpArgs false
set_option linter.unusedVariables false
namespace Go.Proofs.YtkbpchdncljlbaaGreatDoor
open Go Go.RowKit Go.Proofs
set_option maxHeartbeats 400000
theorem unfD_len (q : Int) (D : List Int) (k : Nat) : (unfD q D k).1.l.length ≤ 200 ∧ (unfD q D k).1.r.length ≤ 200 := by
  unfold unfD
  split
  · rename_i h
    simp only [Bool.and_eq_true, decide_eq_true_eq] at h
    exact ⟨by simp only; omega, by simp only; omega⟩
  · simp [blankC]
theorem decAll_len (m : MachD) (c : ConfD) : (decAll m c).1.l.length ≤ 200 ∧ (decAll m c).1.r.length ≤ 200 := by
  have hb : ∀ k : Int, ((blankC, k) : ConfD × Int).1.l.length ≤ 200 ∧ ((blankC, k) : ConfD × Int).1.r.length ≤ 200 := fun k => by simp [blankC]
  unfold decAll decP
  repeat' split
  all_goals first | exact unfD_len _ _ _ | exact hb _
theorem ToConf (w : World) (q : Int) (lv rv : Value) (c : ConfD) (h1 : Ints w lv c.l) (h2 : Ints w rv c.r) : Conf w (.agg #[.int .i64 c.q, lv, rv]) c := ⟨_, _, rfl, h1, h2⟩
/-- A configuration that a call has made. -/
def MadeConf (base : Nat) (w : World) (v : Value) (c : ConfD) : Prop := ∃ lv rv, v = .agg #[.int .i64 c.q, lv, rv] ∧ OwnInts base w lv c.l ∧ OwnInts base w rv c.r ∧ (∀ g, lv.ownBlock = some g → rv.ownBlock ≠ some g)
theorem MadeConf.ext {base : Nat} {w w' : World} {u : Value} {c : ConfD} (h : MadeConf base w u c) (he : Ext w w') : MadeConf base w' u c := by
  obtain ⟨lv, rv, e, h1, h2, h3⟩ := h
  exact ⟨lv, rv, e, h1.ext he, h2.ext he, h3⟩
theorem MadeConf.conf {base : Nat} {w : World} {u : Value} {c : ConfD} (h : MadeConf base w u c) : Conf w u c := by
  obtain ⟨lv, rv, e, h1, h2, h3⟩ := h
  exact ⟨lv, rv, e, h1.ints, h2.ints⟩
theorem Ext.set3 {w0 wC : World} {g : Nat} (hx : Ext w0 wC) (hg : w0.heap.size ≤ g) (x y z : Value) : Ext w0 (((wC.setCell ⟨g, 0, none⟩ x).setCell ⟨g, 1, none⟩ y).setCell ⟨g, 2, none⟩ z) :=
  ((hx.setCell hg _).setCell hg _).setCell hg _
end Go.Proofs.YtkbpchdncljlbaaGreatDoor
end
