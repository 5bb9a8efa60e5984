/- Contracts of the reference's reading of machines, as far as the known machines want it: cells of three signs, numbers of one digit.
Contract of the reference's reading of a machine from a text that stands for one.
Contracts of the reference's draws of machines. The sizes are small.
Contracts of the reference's draws of machines, continued: the known machines, a machine that is valid.
Contracts of the reference's draws of machines, continued: a machine that is valid, one that may be bent.
Contracts of the reference's draws of machines, continued: a machine is bent.
Contracts of the reference's draws of machines, continued: any machine, a small machine, a machine that is decided.
Contract of the reference's draw of a machine that is decided.
A region that draws its order, in which one operation calls or makes memory and all others only read: one walk in the order of the text serves every order. No program stands here. -/
import Derived.Test.YtfghojbbofobeaaGreatQ02
import Derived.Maps.AppendAt
import Derived.Test.YtfghojbbofobeaaGreatQ03
import Derived.Deep.AppendLies
import Derived.Test.YtfghojbbofobeaaGreatQ29
import Derived.Deep.RegionLaw
import Derived.Deep.RegionHeld3
import Derived.BigQuiet
import Derived.Deep.QuietTactic
import Derived.Test.YtfghojbbofobeaaGreatQ01
section
namespace Go.Proofs.YtfghojbbofobeaaGreat
open Go Go.RowKit Go.Proofs
set_option maxHeartbeats 400000
/-- A cell of a known machine. -/
def ruleOfB (s : ByteArray) : Option RuleD :=
  match s.data.toList with
  | [a, b, c] => if a = 45 ∧ b = 45 ∧ c = 45 then some noR else if 48 ≤ a.toNat ∧ a.toNat ≤ 57 ∧ (b = 76 ∨ b = 82) ∧ 48 ≤ c.toNat ∧ c.toNat ≤ 57 then some ⟨(a.toNat : Int) - 48, if b = 76 then -1 else 1, (c.toNat : Int) - 48⟩ else none
  | _ => none
theorem toList3 (a b c : UInt8) : (⟨#[a, b, c]⟩ : ByteArray).toList = [a, b, c] := by
  unfold ByteArray.toList
  unfold ByteArray.toList.loop
  unfold ByteArray.toList.loop
  unfold ByteArray.toList.loop
  unfold ByteArray.toList.loop
  rfl
theorem ruleOfB_ways {s : ByteArray} {r : RuleD} (h : ruleOfB s = some r) : (s = ⟨#[45, 45, 45]⟩ ∧ r = noR) ∨
    (∃ (g1 : 3 ≤ s.size) (d0 d1 d2 : Nat), (s.toList == [45, 45, 45]) = false ∧ s.size ≤ 3 ∧ (s[0]'(by omega)).toNat = d0 ∧ (s[1]'(by omega)).toNat = d1 ∧ (s[2]'(by omega)).toNat = d2 ∧ 48 ≤ d0 ∧ d0 ≤ 57 ∧ 48 ≤ d2 ∧ d2 ≤ 57 ∧
      ((d1 = 76 ∧ r = ⟨(d0 : Int) - 48, -1, (d2 : Int) - 48⟩) ∨ (d1 = 82 ∧ r = ⟨(d0 : Int) - 48, 1, (d2 : Int) - 48⟩))) := by
  obtain ⟨⟨l⟩⟩ := s
  unfold ruleOfB at h
  match l, h with
  | [a, b, c], h =>
    simp only at h
    split at h
    · rename_i hh
      obtain ⟨rfl, rfl, rfl⟩ := hh
      injection h with h
      exact .inl ⟨rfl, h.symm⟩
    · rename_i hno
      split at h
      · rename_i hh
        obtain ⟨k1, k2, k3, k4, k5⟩ := hh
        injection h with h
        refine .inr ⟨Nat.le_refl 3, a.toNat, b.toNat, c.toNat, by rw [toList3, beq_eq_false_iff_ne]; intro e; injection e with e1 e; injection e with e2 e; injection e with e3 _; exact hno ⟨e1, e2, e3⟩, Nat.le_refl 3, rfl, rfl, rfl, k1, k2, k4, k5, ?_⟩
        rcases k3 with rfl | rfl
        · exact .inl ⟨rfl, by rw [← h, if_pos rfl]⟩
        · exact .inr ⟨rfl, by rw [← h, if_neg (by decide)]⟩
      · cases h
theorem storeR {w : World} {g : Nat} {t : TypeId} {a b c : Value} (h : Blk w g t #[a, b, c]) (x y z : Value) : Blk (((w.setCell ⟨g, 0, none⟩ x).setCell ⟨g, 1, none⟩ y).setCell ⟨g, 2, none⟩ z) g t #[x, y, z] := ((h.set_ 0 x).set_ 1 y).set_ 2 z
/-- A slice of texts in memory of the call's own. -/
def OwnStrs (base : Nat) (w : World) (v : Value) (xs : List ByteArray) : Prop := w.ownsRow base 9 1 v xs.length (xs.map Value.string)
theorem OwnStrs.ext {base : Nat} {w w' : World} {v : Value} {xs : List ByteArray} (h : OwnStrs base w v xs) (he : Ext w w') : OwnStrs base w' v xs := ownsRow_ext h he
theorem OwnStrs.cell {base : Nat} {w : World} {A : Option Addr} {c : Nat} {xs : List ByteArray} (h : OwnStrs base w (.slice A xs.length c) xs) {k : Nat} (hk : k < xs.length) : ∃ g, A = some ⟨g, 0, none⟩ ∧ w.cell? ⟨g, k, none⟩ = some (.string xs[k]) := by
  obtain ⟨g, rfl, _, _⟩ := own_at h (by omega)
  refine ⟨g, rfl, ?_⟩
  have := World.ownsRow.cellAt h k (by omega)
  rw [this]
  simp [hk]
theorem strInfoD : (Tryz.prog.info? 9).map (fun i => (i.zero, i.size, i.bytes)) = some (some (.string ⟨#[]⟩), 1, 16) := by kernel_rfl
/-- The pieces of a text between separators, after i bytes, and where the next one begins. -/
def splitTo (s : ByteArray) (d : Nat) : Nat → List ByteArray × Nat
  | 0 => ([], 0)
  | i + 1 => if (s.data.getD i 0).toNat = d then ((splitTo s d i).1 ++ [s.extract (splitTo s d i).2 i], i + 1) else splitTo s d i
def splitS (s : ByteArray) (d : Nat) : List ByteArray := (splitTo s d s.size).1 ++ [s.extract (splitTo s d s.size).2 s.size]
theorem splitTo_le (s : ByteArray) (d i : Nat) : (splitTo s d i).2 ≤ i ∧ (splitTo s d i).1.length ≤ i := by
  induction i with
  | zero => simp [splitTo]
  | succ i ih =>
    unfold splitTo
    split
    · simp; omega
    · omega
end Go.Proofs.YtfghojbbofobeaaGreat
namespace Go.Proofs.YtfghojbbofobeaaGreat
open Go Go.RowKit Go.Proofs
set_option maxHeartbeats 400000
def cellsR (x : ByteArray) : List RuleD := (splitS x 44).map fun c => (ruleOfB c).getD noR
/-- The machine of a text. -/
def parseM (s : ByteArray) : MachD := ⟨(splitS ((splitS s 59).getD 0 ⟨#[]⟩) 44).length, (splitS s 59).length, (splitS s 59).flatMap cellsR⟩
def parseOk (s : ByteArray) : Bool := decide (s.size ≤ 1000) && decide ((splitS s 59).length ≤ 100) && decide ((splitS ((splitS s 59).getD 0 ⟨#[]⟩) 44).length ≤ 6) &&
  ((splitS s 59).all fun x => decide (x.size ≤ 1000) && decide ((splitS x 44).length = (splitS ((splitS s 59).getD 0 ⟨#[]⟩) 44).length) && (splitS x 44).all fun c => (ruleOfB c).isSome) && machOk (parseM s)
theorem splitS_pos (s : ByteArray) (d : Nat) : 0 < (splitS s d).length := by simp [splitS]
/-- The machine under way, in memory. -/
structure RdSt (g go : Nat) (w0 : World) (sy st : Int) (rs : List RuleD) (rv : Value) (w : World) : Prop where
  res : Blk w g 62 #[.int .i64 0, .int .i64 0, .slice none 0 0]
  mac : Blk w go 62 #[.int .i64 sy, .int .i64 st, rv]
  own : w.ownsRow g 140 3 rv rs.length (rvs rs)
  ex : Ext w0 w
  low : g < go
theorem RdSt.ext {g go : Nat} {w0 : World} {sy st : Int} {rs : List RuleD} {rv : Value} {w w' : World} (h : RdSt g go w0 sy st rs rv w) (he : Ext w w') : RdSt g go w0 sy st rs rv w' :=
  ⟨h.res.ext he, h.mac.ext he, ownsRow_ext h.own he, h.ex.trans he, h.low⟩
theorem RdSt.snoc {g go : Nat} {w0 : World} {sy st : Int} {rs : List RuleD} {rv : Value} {w w2 : World} {v' : Value} {r : RuleD} (h : RdSt g go w0 sy st rs rv w) (hg0 : w0.heap.size = g)
    (hown : w2.ownsRow g 140 3 v' (rs.length + 1) (rvs rs ++ [.int .i64 r.w, .int .i64 r.m, .int .i64 r.n])) (hg : w.grownBy w2 rv.ownBlock) :
    RdSt g go w0 sy st (rs ++ [r]) v' (w2.setCell ⟨go, 2, none⟩ v') := by
  have hro : ∀ k, rv.ownBlock = some k → g ≤ k := fun k hk => (h.own.lt k hk).1
  have m2 := Blk.apart h.mac h.own (by decide) hg
  have r2 := Blk.apart h.res h.own (by decide) hg
  have g2 : Ext w0 w2 := h.ex.grown hg (fun k hk => by have := hro k hk; omega)
  have hlow := h.low
  have far : ∀ k, v'.ownBlock = some k → k ≠ go := by
    intro k hk he
    subst he
    rcases hown.2 with ⟨rfl, _⟩ | ⟨g', cap, cur, rfl, _, hh, _⟩
    · simp [Value.ownBlock] at hk
    · have : g' = k := by simpa [Value.ownBlock] using hk
      subst this
      unfold Blk at m2
      rw [m2] at hh
      injection hh with hh
      injection hh with _ ht
      exact absurd ht (by decide)
  refine ⟨r2.far (by simp; omega) _, m2.set_ 2 _, ?_, g2.setCell (by simp; omega) _, hlow⟩
  have := ownsRow_far (p := ⟨go, 2, none⟩) hown far v'
  rw [List.length_append, List.length_cons, List.length_nil, rvs_append]
  exact this
theorem news3' (w : World) (a b c : Value) (t : TypeId) (g : Nat) (hg : w.heap.size = g) : ∀ j u, [a, b, c][j]? = some u → (w.alloc (.cells #[a, b, c] t)).cell? ((⟨g, 0, none⟩ : Addr).add j) = some u :=
  World.news_of_block (cs := #[a, b, c]) (Blk.new w g t #[a, b, c] hg)
theorem ruleInfo3 : (Tryz.prog.info? 140).map (fun i => (i.zero, i.size, i.bytes)) = some (some (.agg #[.int .i64 0, .int .i64 0, .int .i64 0]), 3, 24) := by kernel_rfl
theorem flat_take {rows : List ByteArray} {i : Nat} (h : i < rows.length) : (rows.take (i + 1)).flatMap cellsR = (rows.take i).flatMap cellsR ++ cellsR rows[i] := by
  rw [List.take_succ_eq_append_getElem h, List.flatMap_append]; simp
theorem cells_take {x : ByteArray} {k : Nat} (h : k < (splitS x 44).length) : (cellsR x).take (k + 1) = (cellsR x).take k ++ [(ruleOfB (splitS x 44)[k]).getD noR] := by
  have hl : k < (cellsR x).length := by simpa [cellsR] using h
  rw [List.take_succ_eq_append_getElem hl]
  simp [cellsR]
theorem flat_len {rows : List ByteArray} {K : Nat} (h : ∀ x ∈ rows, (splitS x 44).length = K) : (rows.flatMap cellsR).length = rows.length * K := by
  induction rows with
  | nil => simp
  | cons a l ih =>
    have h1 := h a List.mem_cons_self
    have h2 := ih fun x hx => h x (List.mem_cons_of_mem _ hx)
    simp only [List.flatMap_cons, List.length_append, List.length_cons, h2, Nat.succ_mul]
    simp [cellsR, h1]; omega
theorem own_far_blk {w : World} {base : Nat} {e : TypeId} {size : Nat} {v : Value} {n : Nat} {xs : List Value} (ho : w.ownsRow base e size v n xs) {g : Nat} {t : TypeId} {cs : Array Value} (hb : Blk w g t cs) (hne : t ≠ e) : ∀ k, v.ownBlock = some k → k ≠ g := by
  intro k hk he
  subst he
  rcases ho.2 with ⟨rfl, _⟩ | ⟨g', cap, cur, rfl, _, hh, _⟩
  · simp [Value.ownBlock] at hk
  · have : g' = k := by simpa [Value.ownBlock] using hk
    subst this
    unfold Blk at hb
    rw [hb] at hh
    injection hh with hh
    injection hh with _ ht
    exact hne ht
theorem OwnStrs.keptR {b b' : Nat} {w w2 : World} {v rv : Value} {xs : List ByteArray} {n : Nat} {ys : List Value} {go : Nat} {cs : Array Value} (h : OwnStrs b w v xs) (ho : w.ownsRow b' 140 3 rv n ys) (hb : Blk w go 62 cs) (hg : w.grownBy w2 rv.ownBlock) (u : Value) : OwnStrs b (w2.setCell ⟨go, 2, none⟩ u) v xs := by
  have h2 : w2.ownsRow b 9 1 v xs.length (xs.map Value.string) := World.ownsRow.kept h hg (own_ne h ho (by decide))
  exact ownsRow_far (p := ⟨go, 2, none⟩) h2 (own_far_blk h2 (Blk.apart hb ho (by decide) hg) (by decide)) u
end Go.Proofs.YtfghojbbofobeaaGreat
namespace Go.Proofs.YtfghojbbofobeaaGreat
open Go Go.RowKit Go.Proofs
set_option maxHeartbeats 400000
theorem grownBy_step {w a c : World} {r r' : Option Nat} (h : w.grownBy a r) (k : a.grownBy c r') (hr : ∀ k, r' = some k → w.heap.size ≤ k ∨ r = some k) : w.grownBy c r :=
  ⟨k.os.trans h.os, k.tape.trans h.tape, k.output.trans h.output, Nat.le_trans h.size k.size, fun i hi hne => (k.block i (Nat.lt_of_lt_of_le hi h.size) (fun e => by
    rcases hr i e.symm with c | c
    · omega
    · exact hne c.symm)).trans (h.block i hi hne)⟩
theorem ext_grownBy {a b : World} (h : Ext a b) (row : Option Nat) : a.grownBy b row := ⟨Below.os h, Below.tape h, Below.output h, Below.size h, fun i hi _ => Below.block h i hi⟩
theorem set_grownBy (w : World) (p : Addr) (u : Value) : w.grownBy (w.setCell p u) (some p.block) :=
  ⟨rfl, rfl, rfl, by simp [World.setCell], fun k _ hk => Below.heap_setCell w p u k (fun e => hk (by rw [e]))⟩
theorem ruleInfo2 : (Tryz.prog.info? 140).map (fun i => (i.zero, i.size, i.bytes)) = some (some (.agg #[.int .i64 0, .int .i64 0, .int .i64 0]), 3, 24) := by kernel_rfl
theorem news3 (w : World) (a b c : Value) (t : TypeId) (g : Nat) (hg : w.heap.size = g) : ∀ j u, [a, b, c][j]? = some u → (w.alloc (.cells #[a, b, c] t)).cell? ((⟨g, 0, none⟩ : Addr).add j) = some u :=
  World.news_of_block (cs := #[a, b, c]) (Blk.new w g t #[a, b, c] hg)
theorem mul36 {a b : Int} (h1 : 1 ≤ a) (h2 : a ≤ 6) (h3 : 1 ≤ b) (h4 : b ≤ 6) : 1 ≤ a * b ∧ a * b ≤ 36 := by
  obtain rfl | rfl | rfl | rfl | rfl | rfl : a = 1 ∨ a = 2 ∨ a = 3 ∨ a = 4 ∨ a = 5 ∨ a = 6 := by omega
  all_goals omega
end Go.Proofs.YtfghojbbofobeaaGreat
namespace Go.Proofs.YtfghojbbofobeaaGreat
open Go Go.RowKit Go.Proofs
set_option maxHeartbeats 400000
def knownL : List ByteArray := [⟨#[49, 82, 49, 44, 49, 76, 49, 59, 49, 76, 48, 44, 45, 45, 45]⟩, ⟨#[49, 82, 49, 44, 45, 45, 45, 59, 49, 76, 49, 44, 48, 82, 50, 59, 49, 76, 50, 44, 49, 76, 48]⟩,
  ⟨#[49, 82, 49, 44, 49, 76, 49, 59, 49, 76, 48, 44, 48, 76, 50, 59, 45, 45, 45, 44, 49, 76, 51, 59, 49, 82, 51, 44, 48, 82, 48]⟩, ⟨#[49, 82, 48, 44, 45, 45, 45]⟩, ⟨#[49, 82, 49, 44, 48, 82, 48, 59, 49, 76, 48, 44, 49, 82, 49]⟩,
  ⟨#[49, 82, 49, 44, 50, 76, 49, 44, 45, 45, 45, 59, 50, 76, 48, 44, 50, 82, 49, 44, 49, 76, 49]⟩, ⟨#[49, 76, 48, 44, 49, 82, 49, 59, 49, 82, 48, 44, 48, 76, 49]⟩, ⟨#[49, 82, 49, 44, 49, 82, 48, 59, 49, 76, 48, 44, 49, 76, 49]⟩]
theorem known_ok : (knownL.all fun x => parseOk x && !(parseM x).rules.isEmpty && decide ((parseM x).rules.length ≤ 600) && machOk (parseM x)) = true := by decide +kernel
end Go.Proofs.YtfghojbbofobeaaGreat
end
section
namespace Go.Proofs.YtfghojbbofobeaaGreat
open Go Go.RowKit Go.Proofs
set_option maxHeartbeats 400000
end Go.Proofs.YtfghojbbofobeaaGreat
namespace Go.Proofs.YtfghojbbofobeaaGreat
open Go Go.RowKit Go.Proofs
set_option maxHeartbeats 400000
theorem own_lits {w : World} {base : Nat} (zs : List Int) (hb : base ≤ w.heap.size) (hl : zs.length ≤ 100) : OwnInts base (w.alloc (.cells (ivs zs).toArray 2)) (.slice (some ⟨w.heap.size, 0, none⟩) zs.length zs.length) zs :=
  ⟨by simp, .inr ⟨w.heap.size, zs.length, (ivs zs).toArray, rfl, hb, heap_alloc_new w _, Nat.le_refl _, by unfold maxLen; omega, by simp, by simp [List.take_of_length_le]⟩⟩
theorem rvs_set0 : ∀ (rs : List RuleD) (k : Nat) (z : Int) (h : k < rs.length), (rvs rs).set (k * 3) (.int .i64 z) = rvs (rs.set k ⟨z, rs[k].m, rs[k].n⟩)
  | r :: rs, 0, z, _ => by simp [rvs]
  | r :: rs, k + 1, z, h => by
    have ih := rvs_set0 rs k z (by simpa using h)
    simp only [rvs, List.flatMap_cons, List.set_cons_succ, List.getElem_cons_succ] at ih ⊢
    rw [show (k + 1) * 3 = k * 3 + 1 + 1 + 1 by omega]
    simp only [List.cons_append, List.nil_append, List.set_cons_succ]
    rw [ih]
theorem rvs_set1 : ∀ (rs : List RuleD) (k : Nat) (z : Int) (h : k < rs.length), (rvs rs).set (k * 3 + 1) (.int .i64 z) = rvs (rs.set k ⟨rs[k].w, z, rs[k].n⟩)
  | r :: rs, 0, z, _ => by simp [rvs]
  | r :: rs, k + 1, z, h => by
    have ih := rvs_set1 rs k z (by simpa using h)
    simp only [rvs, List.flatMap_cons, List.set_cons_succ, List.getElem_cons_succ] at ih ⊢
    rw [show (k + 1) * 3 + 1 = k * 3 + 1 + 1 + 1 + 1 by omega]
    simp only [List.cons_append, List.nil_append, List.set_cons_succ]
    rw [ih]
theorem rvs_set2 : ∀ (rs : List RuleD) (k : Nat) (z : Int) (h : k < rs.length), (rvs rs).set (k * 3 + 2) (.int .i64 z) = rvs (rs.set k ⟨rs[k].w, rs[k].m, z⟩)
  | r :: rs, 0, z, _ => by simp [rvs]
  | r :: rs, k + 1, z, h => by
    have ih := rvs_set2 rs k z (by simpa using h)
    simp only [rvs, List.flatMap_cons, List.set_cons_succ, List.getElem_cons_succ] at ih ⊢
    rw [show (k + 1) * 3 + 2 = k * 3 + 2 + 1 + 1 + 1 by omega]
    simp only [List.cons_append, List.nil_append, List.set_cons_succ]
    rw [ih]
theorem rvs_take (rs : List RuleD) (k : Nat) : (rvs rs).take (k * 3) = rvs (rs.take k) := by
  induction rs generalizing k with
  | nil => simp [rvs]
  | cons r rs ih =>
    cases k with
    | zero => simp [rvs]
    | succ k =>
      have := ih k
      simp only [rvs, List.flatMap_cons, List.take_succ_cons] at this ⊢
      rw [show (k + 1) * 3 = k * 3 + 1 + 1 + 1 by omega]
      simp only [List.cons_append, List.nil_append, List.take_succ_cons]
      rw [this]
/-- A shorter slice of the same row. -/
theorem OwnRules.cut {base : Nat} {w : World} {A : Option Addr} {c : Nat} {rs : List RuleD} (h : OwnRules base w (.slice A rs.length c) rs) {k : Nat} (hk : k ≤ rs.length) (h0 : 0 < rs.length) : OwnRules base w (.slice A k c) (rs.take k) := by
  have hl : (rs.take k).length = k := by simp; omega
  unfold OwnRules
  rw [hl, ← rvs_take]
  refine ⟨by rw [List.length_take, rvs_length]; omega, ?_⟩
  rcases h.2 with ⟨_, h1⟩ | ⟨g, cap, cur, hv, h1, h2, h3, h4, h5, h6⟩
  · omega
  · injection hv with e1 e2 e3
    subst e1
    subst e3
    refine .inr ⟨g, c, cur, rfl, h1, h2, by omega, h4, h5, ?_⟩
    rw [← h6, List.take_take]
    congr 1
    omega
section
variable {B b g go : Nat} {w0 : World} {n : Nat} {sy st : Int} {rs : List RuleD} {rv : Value} {w : World}
end
end Go.Proofs.YtfghojbbofobeaaGreat
namespace Go.Proofs.YtfghojbbofobeaaGreat
open Go Go.RowKit Go.Proofs
set_option maxHeartbeats 400000
end Go.Proofs.YtfghojbbofobeaaGreat
namespace Go.Proofs.YtfghojbbofobeaaGreat
open Go Go.RowKit Go.Proofs
set_option maxHeartbeats 400000
end Go.Proofs.YtfghojbbofobeaaGreat
end
section
namespace Go.Proofs.YtfghojbbofobeaaGreat
open Go
section
variable {P : Program} {ops : Array Oper} {md : Region.Mode} {C : World → Prop} {Post : Value → World → Prop}
/-- An operation that only reads. -/
def plainOp (o : Oper) : Bool :=
  match o.op with
  | .move _ | .assign _ | .pick _ _ _ | .load _ _ | .fieldAddr _ _ _ | .binOp _ _ _ _ _ | .unOp _ _ _ | .indexAddr _ _ _ | .slice _ _ _ _ _ | .convert _ _ _ | .extract _ _ | .field _ _ _ | .index _ _ _ => true
  | _ => false
theorem run_value {s : Sem Value} {w w' : World} {n : Next} (h : (do pure (Next.value (← s)) : Sem Next).run P w = .ok n w') : ∃ v, n = .value v := by
  rw [Sem.run_bind] at h
  cases hs : s.run P w with
  | ok v w1 => rw [hs] at h; simp only [Result.andThen_ok, Sem.run_pure, Result.ok.injEq] at h; exact ⟨v, h.1.symm⟩
  | halt x w1 => rw [hs] at h; cases h
theorem plain_value {o : Oper} (ho : plainOp o = true) {ρ : Operand → Value} {w w' : World} {n : Next} (h : (execOp ρ o).run P w = .ok n w') : ∃ v, n = .value v := by
  unfold plainOp at ho
  unfold execOp at h
  split at ho <;> rename_i hop <;> simp only [hop] at h
  case h_14 => cases ho
  case h_1 => simp only [Sem.run_pure, Result.ok.injEq] at h; exact ⟨_, h.1.symm⟩
  case h_2 => simp only [Sem.run_pure, Result.ok.injEq] at h; exact ⟨_, h.1.symm⟩
  case h_3 =>
    rw [Sem.run_bind] at h
    generalize (asBool _).run P w = r at h
    cases r with
    | ok v w1 => simp only [Result.andThen_ok, Sem.run_pure, Result.ok.injEq] at h; exact ⟨_, h.1.symm⟩
    | halt x w1 => cases h
  all_goals exact run_value h
/-- Two values that an operation yields in one world are one. -/
theorem yields_unique {o : Oper} (ho : plainOp o = true) {a : Act} {v v' : Value} {w : World} (hw : C w) (h : YieldsIn P ops C o v a) (h' : YieldsIn P ops C o v' a) : v = v' := by
  rcases h with ⟨h1, h2⟩ | ⟨h1, rfl⟩ <;> rcases h' with ⟨h1', h2'⟩ | ⟨h1', rfl⟩
  · have a1 := h2 w hw
    have a2 := h2' w hw
    unfold Oper.quietAt at a1 a2
    cases hr : (execOp a.eval o).run P w with
    | ok n w' =>
      obtain ⟨u, rfl⟩ := plain_value ho hr
      rw [hr] at a1 a2
      exact a1.2.symm.trans a2.2
    | halt x w' => rw [hr] at a1; exact a1.elim
  · rw [h1] at h1'; cases h1'
  · rw [h1] at h1'; cases h1'
  · rfl
/-- What is asked of the one operation that stirs, by what it comes to. -/
def stirUpon (P : Program) (K : Value → World → Prop) : Result Next → Prop
  | .ok (.value v) w' => K v w'
  | .ok .skip w' => K undef w'
  | .ok (.enter f args) w' => Calls P f args w' (fun e w'' => ∃ v, e = .returned v ∧ K v w'')
  | _ => False
def stirAt (P : Program) (o : Oper) (a : Act) (w : World) (K : Value → World → Prop) : Prop := stirUpon P K ((execOp a.eval o).run P w)
theorem stirAt.wp {o : Oper} {a : Act} {w : World} {K : Value → World → Prop} {K' : Act → World → Prop} {Q : Exit → Act → World → Prop} (h : stirAt P o a w K) (hk : ∀ u w', K u w' → K' (a.put o.dst u) w') : o.wp P a w K' Q := by
  unfold stirAt at h
  unfold Oper.wp
  generalize (execOp a.eval o).run P w = r at *
  cases r with
  | ok n w' =>
    cases n <;> simp only [stirUpon] at h <;> simp only [Oper.upon]
    case value v => exact hk _ _ h
    case skip => exact hk _ _ h
    case enter f args => exact Calls.mono h fun e w'' ⟨v, he, hv⟩ => by subst he; exact hk _ _ hv
  | halt x w' => simp only [stirUpon] at h
theorem stirAt.some {o : Oper} {a : Act} {w : World} {K : Value → World → Prop} (h : stirAt P o a w K) : ∃ u w', K u w' := by
  unfold stirAt at h
  generalize (execOp a.eval o).run P w = r at *
  cases r with
  | ok n w' =>
    cases n <;> simp only [stirUpon] at h
    case value v => exact ⟨_, _, h⟩
    case skip => exact ⟨_, _, h⟩
    case enter f args =>
      obtain ⟨e, w'', fr, ⟨v, _, hv⟩, _⟩ := h []
      exact ⟨_, _, hv⟩
  | halt x w' => simp only [stirUpon] at h
/-- From every world of the class it yields a value and a world of the class, with what is asked of both. -/
def Stirs (P : Program) (ops : Array Oper) (C : World → Prop) (Post : Value → World → Prop) (o : Oper) (a : Act) : Prop :=
  Region.wanted o (yielded ops a.tmps) = true ∧ ∀ w, C w → stirAt P o a w (fun u w' => C w' ∧ Post u w')
theorem Stirs.of_same {o : Oper} {a a' : Act} (h : Stirs P ops C Post o a) (he : execOp a'.eval o = execOp a.eval o)
    (hw : Region.wanted o (yielded ops a'.tmps) = Region.wanted o (yielded ops a.tmps)) : Stirs P ops C Post o a' := by
  unfold Stirs stirAt at *
  rw [he, hw]
  exact h
/-- Whatever order is picked, the one operation not having come up yet. -/
def wpA (P : Program) (md : Region.Mode) (ops : Array Oper) (C : World → Prop) (Post : Value → World → Prop) (QQ : Value → Act → Prop) (t : Nat) (ot : Oper) : Nat → Array Bool → Act → Prop
  | 0, _, _ => False
  | f + 1, listed, a => Region.ready md ops listed ≠ [] ∧ ∀ i ∈ Region.ready md ops listed, (i ≠ t → qOp P ops C i (wpA P md ops C Post QQ t ot f (listed.setIfInBounds i true)) a) ∧
      (i = t → Stirs P ops C Post ot a ∧ ∀ u, (∃ w, C w ∧ Post u w) → wpAnyQ P md ops C (QQ u) f (listed.setIfInBounds t true) (a.put ot.dst u))
theorem qOp_plain {i : Nat} {o : Oper} {a : Act} {K : Act → Prop} {K' : Act → World → Prop} {Q' : Exit → Act → World → Prop} {w : World} (hi : ops[i]? = some o) (ho : plainOp o = true) (hw : C w) (h : qOp P ops C i K a) (hk : ∀ a', K a' → K' a' w) : wpOp P ops Q' i K' a w := by
  unfold qOp at h
  unfold wpOp
  simp only [hi] at h ⊢
  split
  · rename_i hwn
    simp only [hwn, if_true] at h
    obtain ⟨v, hv, hn⟩ := h
    refine .inl ?_
    have a1 := hv w hw
    unfold Oper.quietAt at a1
    unfold Oper.wp
    cases hr : (execOp a.eval o).run P w with
    | ok n w' =>
      obtain ⟨u, rfl⟩ := plain_value ho hr
      rw [hr] at a1
      obtain ⟨rfl, rfl⟩ := a1
      exact hk _ hn
    | halt x w' => rw [hr] at a1; exact a1.elim
  · rename_i hwn
    simp only [hwn] at h
    exact hk _ h
theorem wpAny_of_B {QQ : Act → Prop} {Q' : Exit → Act → World → Prop} {w : World} (hw : C w) (hQ : ∀ a, QQ a → Q' .normal a w) : ∀ (f : Nat) (listed : Array Bool) (a : Act),
    (∀ j o, ops[j]? = some o → listed.getD j true = false → plainOp o = true) → wpAnyQ P md ops C QQ f listed a → wpAny P md ops Q' f listed a w
  | 0, _, _, _, h => ⟨h.1, hQ _ h.2⟩
  | f + 1, listed, a, hp, h => ⟨fun h0 => hQ _ (h.1 h0), fun i hi => by
      obtain ⟨hun, o, ho, _⟩ := mem_ready.1 hi
      refine qOp_plain ho (hp i o ho hun) hw (h.2 i hi) fun a' h' => wpAny_of_B hw hQ f _ a' ?_ h'
      intro j oj hj hjun
      by_cases e : i = j
      · subst e; exact hp _ _ hj hun
      · rw [getD_set_ne true e] at hjun; exact hp j oj hj hjun⟩
theorem wpAny_of_A {QQ : Value → Act → Prop} {Q' : Exit → Act → World → Prop} {t : Nat} {ot : Oper} (ht : ops[t]? = some ot) (hp : ∀ j o, ops[j]? = some o → j ≠ t → plainOp o = true) (hQ : ∀ u a w, C w → Post u w → QQ u a → Q' .normal a w) :
    ∀ (f : Nat) (listed : Array Bool) (a : Act) (w : World), C w → t < listed.size → wpA P md ops C Post QQ t ot f listed a → wpAny P md ops Q' f listed a w
  | 0, _, _, _, _, _, h => h.elim
  | f + 1, listed, a, w, hw, hl, h => ⟨fun h0 => absurd h0 h.1, fun i hi => by
      by_cases e : i = t
      · subst e
        obtain ⟨hs, hu⟩ := (h.2 i hi).2 rfl
        unfold wpOp
        simp only [ht]
        rw [if_pos hs.1]
        refine .inl ((hs.2 w hw).wp fun u w' ⟨hc, hpo⟩ => ?_)
        refine wpAny_of_B hc (fun a' ha' => hQ u a' w' hc hpo ha') f _ _ ?_ (hu u ⟨w', hc, hpo⟩)
        intro j o hj hjun
        by_cases ej : j = i
        · subst ej
          rw [Array.getD_eq_getD_getElem?, Array.getElem?_setIfInBounds_self_of_lt hl] at hjun
          simp at hjun
        · exact hp j o hj ej
      · obtain ⟨_, o, ho, _⟩ := mem_ready.1 hi
        exact qOp_plain ho (hp i o ho e) hw ((h.2 i hi).1 e) fun a' h' => wpAny_of_A ht hp hQ f _ a' w hw (by simpa using hl) h'⟩
theorem apart_keep {oi oj : Oper} {v : Value} {a : Act} (hap : oi.apart ops oj = true) (hsi : ∀ cs b, oi.op ≠ .select cs b) (hy : YieldsIn P ops C oi v a) (u : Value) : YieldsIn P ops C oi v (a.put oj.dst u) := by
  obtain ⟨_, _, h3⟩ := Oper.apart_spec hap
  exact hy.of_same (execOp_put oi hsi a oj.dst u h3) (wanted_put oi a oj.dst u h3)
theorem apart_back {oi oj : Oper} {v : Value} {a : Act} {u : Value} (hap : oj.apart ops oi = true) (hsi : ∀ cs b, oi.op ≠ .select cs b) (hy : YieldsIn P ops C oi v (a.put oj.dst u)) : YieldsIn P ops C oi v a := by
  obtain ⟨h1, _, _⟩ := Oper.apart_spec hap
  exact hy.of_same (execOp_put oi hsi a oj.dst u h1).symm (wanted_put oi a oj.dst u h1).symm
theorem free_set {i j : Nat} {oi : Oper} {listed : Array Bool} (hfree : ∀ k ok, ops[k]? = some ok → k ≠ i → listed.getD k true = false → (∀ e ∈ ok.after, Region.binds md e = true → e.on ≠ i) → oi.apart ops ok = true)
    (hjun : listed.getD j true = false) : ∀ k ok, ops[k]? = some ok → k ≠ i → (listed.setIfInBounds j true).getD k true = false → (∀ e ∈ ok.after, Region.binds md e = true → e.on ≠ i) → oi.apart ops ok = true := fun k ok hk hki hun hno => by
  refine hfree k ok hk hki ?_ hno
  by_cases hjk : j = k
  · subst hjk; exact hjun
  · rw [getD_set_ne true hjk] at hun; exact hun
theorem not_waits {i : Nat} {oj : Oper} {listed : Array Bool} (hall : ∀ e ∈ oj.after, Region.binds md e = true → listed.getD e.on false = true) (h0 : listed.getD i true = false) : ∀ e ∈ oj.after, Region.binds md e = true → e.on ≠ i := fun e he hb heq => by
  have h1 := hall e he hb
  rw [heq] at h1
  rcases Nat.lt_or_ge i listed.size with h' | h'
  · simp [h'] at h0 h1; rw [h0] at h1; cases h1
  · simp [Array.getElem?_eq_none h'] at h1
/-- A reading operation may be taken first. -/
theorem wpA_first {QQ : Value → Act → Prop} {t : Nat} {ot : Oper} {k : Nat} {ok : Oper} {v : Value} (ht : ops[t]? = some ot) (hk : ops[k]? = some ok) (hkt : k ≠ t) (hsel : ∀ (j : Nat) (o : Oper) cs b, ops[j]? = some o → o.op ≠ .select cs b) :
    ∀ (f : Nat) (listed : Array Bool) (a : Act),
      (∀ j oj, ops[j]? = some oj → j ≠ k → listed.getD j true = false → (∀ e ∈ oj.after, Region.binds md e = true → e.on ≠ k) → ok.apart ops oj = true) →
      k ∈ Region.ready md ops listed → YieldsIn P ops C ok v a →
      wpA P md ops C Post QQ t ot f (listed.setIfInBounds k true) (a.put ok.dst v) → wpA P md ops C Post QQ t ot (f + 1) listed a := by
  intro f
  induction f with
  | zero => intro listed a _ _ _ H; exact H.elim
  | succ f ih =>
    intro listed a hfree hr hy H
    refine ⟨fun h => (by rw [h] at hr; cases hr), fun j hj => ⟨fun hjt => ?_, fun hjt => ?_⟩⟩
    · by_cases hjk : j = k
      · subst hjk; exact hy.qOp hk H
      · have h1 := (H.2 j (ready_mono hj hjk)).1 hjt
        obtain ⟨hjun, oj, hoj, hall⟩ := mem_ready.1 hj
        have hnot := not_waits (md := md) hall (mem_ready.1 hr).1
        have h2 := qOp_put hoj (hfree j oj hoj hjk hjun hnot) (fun cs b => hsel k ok cs b hk) (fun cs b => hsel j oj cs b hoj) hy h1
        refine qOp_mono (fun a' h3 => ih (listed.setIfInBounds j true) a' (free_set hfree hjun) (ready_mono hr (Ne.symm hjk)) h3.1 ?_) h2
        rw [Array.setIfInBounds_comm _ _ hjk]
        exact h3.2
    · subst hjt
      have hjk : j ≠ k := Ne.symm hkt
      obtain ⟨hjun, oj, hoj, hall⟩ := mem_ready.1 hj
      have hoe : oj = ot := Option.some.inj (hoj.symm.trans ht)
      subst hoe
      have hnot := not_waits (md := md) hall (mem_ready.1 hr).1
      have hap := hfree j oj hoj hjk hjun hnot
      obtain ⟨p1, p2, p3⟩ := Oper.apart_spec hap
      obtain ⟨hs, hu⟩ := (H.2 j (ready_mono hj hjk)).2 rfl
      have hsj := fun cs b => hsel j oj cs b hoj
      refine ⟨hs.of_same (execOp_put oj hsj a ok.dst v p1).symm (wanted_put oj a ok.dst v p1).symm, fun u hsh => ?_⟩
      have h4 := hu u hsh
      refine wpAnyQ_first hk hsel f (listed.setIfInBounds j true) (a.put oj.dst u) (free_set hfree hjun) (ready_mono hr (Ne.symm hjk)) (apart_keep hap (fun cs b => hsel k ok cs b hk) hy u) ?_
      rw [Array.setIfInBounds_comm _ _ hjk, ← Act.put_comm a v u p2]
      exact h4
/-- The one operation may be taken first. -/
theorem wpA_stir {QQ : Value → Act → Prop} {t : Nat} {ot : Oper} {w0 : World} (hw0 : C w0) (ht : ops[t]? = some ot) (hp : ∀ j o, ops[j]? = some o → j ≠ t → plainOp o = true) (hsel : ∀ (j : Nat) (o : Oper) cs b, ops[j]? = some o → o.op ≠ .select cs b) :
    ∀ (f : Nat) (listed : Array Bool) (a : Act),
      (∀ j oj, ops[j]? = some oj → j ≠ t → listed.getD j true = false → (∀ e ∈ oj.after, Region.binds md e = true → e.on ≠ t) → ot.apart ops oj = true) →
      t ∈ Region.ready md ops listed → Stirs P ops C Post ot a →
      (∀ u, (∃ w, C w ∧ Post u w) → wpAnyQ P md ops C (QQ u) f (listed.setIfInBounds t true) (a.put ot.dst u)) → wpA P md ops C Post QQ t ot (f + 1) listed a := by
  intro f
  induction f with
  | zero =>
    intro listed a _ hr hs H
    refine ⟨fun h => (by rw [h] at hr; cases hr), fun j hj => ⟨fun hjt => ?_, fun hjt => ?_⟩⟩
    · obtain ⟨u0, w', hc, hpo⟩ := (hs.2 w0 hw0).some
      have h1 := (H u0 ⟨w', hc, hpo⟩).1
      have := ready_mono hj hjt
      rw [h1] at this
      cases this
    · exact ⟨hs, H⟩
  | succ f ih =>
    intro listed a hfree hr hs H
    refine ⟨fun h => (by rw [h] at hr; cases hr), fun j hj => ⟨fun hjt => ?_, fun hjt => ?_⟩⟩
    · obtain ⟨u0, w', hc, hpo⟩ := (hs.2 w0 hw0).some
      obtain ⟨hjun, oj, hoj, hall⟩ := mem_ready.1 hj
      have hnot := not_waits (md := md) hall (mem_ready.1 hr).1
      have hap := hfree j oj hoj hjt hjun hnot
      obtain ⟨p1, p2, p3⟩ := Oper.apart_spec hap
      have hsj := fun cs b => hsel j oj cs b hoj
      have hst := fun cs b => hsel t ot cs b ht
      obtain ⟨v, hv, _⟩ := yieldsIn_of_qOp hoj ((H u0 ⟨w', hc, hpo⟩).2 j (ready_mono hj hjt))
      have hv := apart_back hap hsj hv
      refine hv.qOp hoj (ih (listed.setIfInBounds j true) _ (free_set hfree hjun) (ready_mono hr (Ne.symm hjt)) (hs.of_same (execOp_put ot hst a oj.dst v p3) (wanted_put ot a oj.dst v p3)) fun u hsh => ?_)
      obtain ⟨v', hv', hk'⟩ := yieldsIn_of_qOp hoj ((H u hsh).2 j (ready_mono hj hjt))
      have e := yields_unique (hp j oj hoj hjt) hw0 hv (apart_back hap hsj hv')
      subst e
      rw [Array.setIfInBounds_comm _ _ hjt, ← Act.put_comm a u v p2]
      exact hk'
    · subst hjt
      exact ⟨hs, H⟩
theorem wpA_lex {QQ : Value → Act → Prop} {t : Nat} {ot : Oper} {w0 : World} (hw0 : C w0) (ht : ops[t]? = some ot) (hp : ∀ j o, ops[j]? = some o → j ≠ t → plainOp o = true) (hs : Region.noSelect ops = true) (l2 : List Oper) :
    ∀ (l1 : List Oper) (k : Nat) (listed : Array Bool) (a : Act), k + l1.length = t → (∀ j, (l1 ++ ot :: l2)[j]? = ops[k + j]?) →
      Region.lexFrom md ops (l1 ++ ot :: l2).length k listed = true →
      wpQuiet P ops C (fun a => Stirs P ops C Post ot a ∧ ∀ u, (∃ w, C w ∧ Post u w) → wpQuiet P ops C (QQ u) l2 (a.put ot.dst u)) l1 a → wpA P md ops C Post QQ t ot (l1 ++ ot :: l2).length listed a
  | [], k, listed, a, hkt, hl, hB, h => by
    have hk : k = t := by simpa using hkt
    subst hk
    simp only [List.nil_append, List.length_cons, Region.lexFrom, Bool.and_eq_true] at hB ⊢
    obtain ⟨⟨hr, hf⟩, hB'⟩ := hB
    refine wpA_stir hw0 ht hp (Region.noSelect_spec hs) l2.length listed a (Region.free_spec ht hf) (by simpa using hr) h.1 fun u hsh => ?_
    exact wpAnyQ_lex hs l2 (k + 1) _ _ (fun j => by have := hl (j + 1); simpa [Nat.add_assoc, Nat.add_comm 1 j] using this) hB' (h.2 u hsh)
  | o :: l1, k, listed, a, hkt, hl, hB, h => by
    have h0 : ops[k]? = some o := by simpa using (hl 0).symm
    simp only [List.cons_append, List.length_cons, Region.lexFrom, Bool.and_eq_true] at hB ⊢
    obtain ⟨⟨hr, hf⟩, hB'⟩ := hB
    have hst : qOp P ops C k (wpQuiet P ops C (fun a => Stirs P ops C Post ot a ∧ ∀ u, (∃ w, C w ∧ Post u w) → wpQuiet P ops C (QQ u) l2 (a.put ot.dst u)) l1) a := by unfold qOp; simp only [h0]; exact h
    obtain ⟨v, hy, hK⟩ := yieldsIn_of_qOp h0 hst
    refine wpA_first ht h0 (by simp at hkt; omega) (Region.noSelect_spec hs) _ listed a (Region.free_spec h0 hf) (by simpa using hr) hy ?_
    exact wpA_lex hw0 ht hp hs l2 l1 (k + 1) _ _ (by simp at hkt ⊢; omega) (fun j => by have := hl (j + 1); simpa [Nat.add_assoc, Nat.add_comm 1 j] using this) hB' hK
/-- ONE WALK SERVES EVERY ORDER: the operations l1, the one that stirs, the operations l2. -/
theorem wp_region_one {id : Nat} {Q : Exit → Act → World → Prop} {a : Act} {w : World} (l1 l2 : List Oper) (ot : Oper) (hm : P.follows .mixedOrders = true) (hB : Region.lexB .any (l1 ++ ot :: l2).toArray = true)
    (hp1 : l1.all plainOp = true) (hp2 : l2.all plainOp = true) (hC : C { w with drawn := w.drawn + 1 })
    (h : wpQuiet P (l1 ++ ot :: l2).toArray C (fun a => Stirs P (l1 ++ ot :: l2).toArray C Post ot a ∧ ∀ u, (∃ w, C w ∧ Post u w) → wpQuiet P (l1 ++ ot :: l2).toArray C (fun a' => ∀ w', C w' → Post u w' → Q .normal a' w') l2 (a.put ot.dst u)) l1 a) :
    (Code.region id (l1 ++ ot :: l2).toArray true).wp P Q a w := by
  simp only [Region.lexB, Bool.and_eq_true] at hB
  have ht : (l1 ++ ot :: l2).toArray[l1.length]? = some ot := by simp
  have hp : ∀ j o, (l1 ++ ot :: l2).toArray[j]? = some o → j ≠ l1.length → plainOp o = true := by
    intro j o hj hne
    simp only [List.getElem?_toArray] at hj
    by_cases h1 : j < l1.length
    · rw [List.getElem?_append_left h1] at hj
      exact List.all_eq_true.1 hp1 o (List.mem_of_getElem? hj)
    · rw [List.getElem?_append_right (by omega)] at hj
      obtain ⟨d, hd⟩ : ∃ d, j - l1.length = d + 1 := ⟨j - l1.length - 1, by omega⟩
      rw [hd, List.getElem?_cons_succ] at hj
      exact List.all_eq_true.1 hp2 o (List.mem_of_getElem? hj)
  refine wp_region_any hm (wpAny_of_A (Post := Post) (QQ := fun u a' => ∀ w', C w' → Post u w' → Q .normal a' w') ht hp (fun u a' w' hc hpo hq => hq w' hc hpo) _ _ _ _ hC (by simp) ?_)
  have := wpA_lex (md := .any) (Post := Post) hC ht hp hB.1 l2 l1 0 (Array.replicate (l1 ++ ot :: l2).toArray.size false) a (by simp) (by simp) (by simpa using hB.2) h
  simpa using this
end
end Go.Proofs.YtfghojbbofobeaaGreat
namespace Go.Proofs.YtfghojbbofobeaaGreat
open Go Go.RowKit
/-- The class of worlds that extend a world, as the quiet walk wants it. -/
def Grows (w : World) : World → Prop := fun w' => ∃ p : Regrown, w' = Sort.grow (redrawn w p.d) p.os
theorem grows_iff {w w' : World} : (∃ p : Regrown, w' = Sort.grow (redrawn w p.d) p.os) ↔ Ext w w' :=
  ⟨fun ⟨p, hp⟩ => by subst hp; exact below_regrown w p.d p.os, fun h => regrown_of_below h⟩
theorem wp_region_mix {P : Program} {id : Nat} {Q : Exit → Act → World → Prop} {a : Act} {w : World} {l : List Oper} (t : Nat) (ot : Oper) (Post : Value → World → Prop) (hm : P.follows .mixedOrders = true) (hB : Region.lexB .any l.toArray = true)
    (hl : l = l.take t ++ ot :: l.drop (t + 1)) (hp1 : (l.take t).all plainOp = true) (hp2 : (l.drop (t + 1)).all plainOp = true)
    (h : wpQuiet P l.toArray (fun w' => ∃ p : Regrown, w' = Sort.grow (redrawn w p.d) p.os) (fun a =>
      (Region.wanted ot (yielded l.toArray a.tmps) = true ∧ ∀ w1, Ext w w1 → stirAt P ot a w1 (fun u w' => Ext w1 w' ∧ Post u w')) ∧
      ∀ u, (∃ w', Ext w w' ∧ Post u w') → wpQuiet P l.toArray (fun w' => ∃ p : Regrown, w' = Sort.grow (redrawn w p.d) p.os) (fun a' => ∀ w', Ext w w' → Post u w' → Q .normal a' w') (l.drop (t + 1)) (a.put ot.dst u)) (l.take t) a) :
    (Code.region id l.toArray true).wp P Q a w := by
  have hC : (fun w' => ∃ p : Regrown, w' = Sort.grow (redrawn w p.d) p.os) { w with drawn := w.drawn + 1 } := ⟨⟨w.drawn + 1, #[]⟩, by rw [Sort.grow_empty]; rfl⟩
  have hB' : Region.lexB .any (l.take t ++ ot :: l.drop (t + 1)).toArray = true := by rw [← hl]; exact hB
  have key := wp_region_one (P := P) (id := id) (Q := Q) (a := a) (w := w) (C := fun w' => ∃ p : Regrown, w' = Sort.grow (redrawn w p.d) p.os) (Post := Post) (l.take t) (l.drop (t + 1)) ot hm hB' hp1 hp2 hC ?_
  · rwa [← hl] at key
  · rw [← hl]
    refine wpQuiet_mono ?_ _ _ h
    rintro a' ⟨⟨hw, hs⟩, hu⟩
    refine ⟨⟨hw, fun w1 h1 => ?_⟩, fun u ⟨w', h1, h2⟩ => ?_⟩
    · have h1' := grows_iff.1 h1
      have := hs w1 h1'
      exact stirAt.mono this fun u w' ⟨e1, e2⟩ => ⟨grows_iff.2 (h1'.trans e1), e2⟩
    · refine wpQuiet_mono ?_ _ _ (hu u ⟨w', grows_iff.1 h1, h2⟩)
      intro a'' hq w'' hc hpo
      exact hq w'' (grows_iff.1 hc) hpo
where
  wpQuiet_mono {P : Program} {ops : Array Oper} {C : World → Prop} {Q Q' : Act → Prop} (hq : ∀ a, Q a → Q' a) : ∀ (l : List Oper) (a : Act), wpQuiet P ops C Q l a → wpQuiet P ops C Q' l a
    | [], a, h => hq a h
    | o :: l, a, h => by
      have h' : if Region.wanted o (yielded ops a.tmps) then o.quiet P a C (wpQuiet P ops C Q l) else wpQuiet P ops C Q l (a.put o.dst undef) := h
      show if Region.wanted o (yielded ops a.tmps) then o.quiet P a C (wpQuiet P ops C Q' l) else wpQuiet P ops C Q' l (a.put o.dst undef)
      by_cases hw : Region.wanted o (yielded ops a.tmps) = true
      · rw [if_pos hw] at h' ⊢
        exact Oper.quiet_mono (fun a' h'' => wpQuiet_mono hq l a' h'') h'
      · rw [if_neg hw] at h' ⊢
        exact wpQuiet_mono hq l _ h'
  stirAt.mono {P : Program} {o : Oper} {a : Act} {w : World} {K K' : Value → World → Prop} (h : stirAt P o a w K) (hk : ∀ u w', K u w' → K' u w') : stirAt P o a w K' := by
    unfold stirAt at *
    generalize (execOp a.eval o).run P w = r at *
    cases r with
    | ok n w' =>
      cases n <;> simp only [stirUpon] at h ⊢
      case value v => exact hk _ _ h
      case skip => exact hk _ _ h
      case enter f args => exact Calls.mono h fun e w'' ⟨v, he, hv⟩ => ⟨v, he, hk _ _ hv⟩
    | halt x w' => simp only [stirUpon] at h
end Go.Proofs.YtfghojbbofobeaaGreat
end
