/- The beginning on two words, and a run on two tapes that has room, in the form that the law on them asks.
Contracts of the reference's reading of machines, as far as the known machines want it: cells of three signs, numbers of one digit.
Contract of the reference's reading of a machine from a text that stands for one.
Contracts of the reference's draws of machines. The sizes are small.
Contracts of the reference's draws of machines, continued: the known machines, a machine that is valid. -/
import Derived.Test.YtkbpchdncljlbaaT31
import Derived.Test.YtkbpchdncljlbaaT18
import Derived.Test.YtkbpchdncljlbaaT02
import Derived.Test.YtkbpchdncljlbaaT03
import Derived.Maps.AppendAt
import Derived.Test.YtkbpchdncljlbaaT05
import Derived.Deep.AppendLies
import Derived.Test.YtkbpchdncljlbaaT04
section
set_option linter.unusedVariables false
set_option linter.unusedSimpArgs false
namespace Go.Proofs.Ytkbpchdncljlbaa
open Go Go.RowKit Go.Proofs Go.Maps
set_option maxHeartbeats 400000
theorem start2_c (m : MultiD) (mv : Value) (x y : List Int) (A B : Option Addr) (ca cb gS : Nat) (w : World) (hM : Mult w mv m) (hm : multiOk m = true) (ht : m.tp = 2) (hx : wordOk m x = true) (hy : wordOk m y = true)
    (hb : Blk w gS 24 #[.slice A x.length ca, .slice B y.length cb]) (hi : Ints w (.slice A x.length ca) x) (hj : Ints w (.slice B y.length cb) y) (fi : Flat (.slice A x.length ca)) (fj : Flat (.slice B y.length cb)) :
    Calls Try.prog 8 #[mv, .slice (some ⟨gS, 0, none⟩) 2 2] w fun e w' => ∃ g cap, e = .returned (.tuple #[.agg #[.int .i64 0, .slice (some ⟨g, 0, none⟩) 2 cap], .int .i64 0]) ∧ 2 ≤ cap ∧ cap ≤ 9223372036854775807 ∧ TapF w' g 0 (startM [x, y]).tapes ∧ Ext w w' := by
  have hb' : Blk w gS 24 ([.slice A x.length ca, .slice B y.length cb] : List Value).toArray := hb
  have hall : [x, y].all (wordOk m) = true := by simp [hx, hy]
  refine (StartMulti_c m mv _ [x, y] [.slice A x.length ca, .slice B y.length cb] w hM (row_blk hb' rfl (by simp)) (fun i h => ?_)).mono ?_
  · match i, h with
    | 0, _ => exact ⟨_, rfl, hi, fi⟩
    | 1, _ => exact ⟨_, rfl, hj, fj⟩
  · rintro e w' ⟨h1 | h1 | h1, hX⟩
    · rw [hm] at h1; cases h1.1
    · exact absurd ⟨by rw [ht]; rfl, hall⟩ h1.2.1
    · obtain ⟨_, _, _, g, cap, rfl, h2, h3, h4⟩ := h1
      exact ⟨g, cap, rfl, h2, h3, h4, hX⟩
theorem run2_c (m : MultiD) (mv : Value) (x y : List Int) (c : MConfD) (b cap N : Nat) (w : World) (hc : startM [x, y] = c) (hM : Mult w mv m) (hm : multiOk m = true) (ht : m.tp = 2) (hx : wordOk m x = true) (hy : wordOk m y = true)
    (hT : TapF w b 0 c.tapes) (h1 : 2 ≤ cap) (h2 : cap ≤ 9223372036854775807) (hN1 : 1 ≤ N) (hN2 : N ≤ 20000) (hf : ∀ i, ¬ MFull m.rules c N i) :
    Calls Try.prog 9 #[mv, .agg #[.int .i64 0, .slice (some ⟨b, 0, none⟩) 2 cap], .int .i64 (N : Int)] w fun e w' => ∃ i g cap' t0 t1, MEnd m.rules c N i ∧
      e = .returned (.tuple #[.agg #[.int .i64 (cfgM m.rules c i).q, .slice (some ⟨g, 0, none⟩) 2 cap'], .int .i64 (i : Int), .bool (lookM m.rules (cfgM m.rules c i)).isNone, .int .i64 0]) ∧ 2 ≤ cap' ∧ cap' ≤ 9223372036854775807 ∧
      (cfgM m.rules c i).tapes = [t0, t1] ∧ tapeOk m t0 = true ∧ tapeOk m t1 = true ∧ TapF w' g 0 [t0, t1] ∧ Ext w w' := by
  subst hc
  obtain ⟨_, ⟨sy1, sy2⟩, ⟨st1, st2⟩, _⟩ := multi_all hm
  have hts : (startM [x, y]).tapes.all (tapeOk m) = true := start_ok sy1 (by simp [hx, hy])
  have hq : inB (startM [x, y]).q 0 (m.st - 1) = true := inB_iff.2 ⟨Int.le_refl _, by show (0 : Int) ≤ m.st - 1; omega⟩
  have hn : ((startM [x, y]).tapes.length : Int) = m.tp := by rw [ht]; rfl
  refine (RunMulti_c m mv (startM [x, y]) b 0 cap N w hM hm hq hn hts hT h1 h2 hN1 hN2).mono ?_
  rintro e w' ⟨⟨i, g, cap', hE, rfl, c1, c2, hT'⟩ | ⟨i, hF, _⟩, hX⟩
  · obtain ⟨_, hok⟩ := cfg_ok hm hq hn hts i hE.runs
    have hl := cfgM_tapes m.rules (startM [x, y]) i
    obtain ⟨ts, hts'⟩ : ∃ ts, (cfgM m.rules (startM [x, y]) i).tapes = ts := ⟨_, rfl⟩
    rw [hts'] at hok hl hT'
    match ts, hl with
    | [t0, t1], _ =>
      simp only [List.all_cons, List.all_nil, Bool.and_true, Bool.and_eq_true] at hok
      exact ⟨i, g, cap', t0, t1, hE, rfl, c1, c2, hts', hok.1, hok.2, hT', hX⟩
  · exact absurd hF (hf i)
theorem ord10 : isOrd [1, 0] 2 = true := by
  have e : sortL [1, 0] = [0, 1] := by simp [sortL, List.mergeSort, List.MergeSort.Internal.splitInTwo]
  simp only [isOrd, e]
  decide +kernel
end Go.Proofs.Ytkbpchdncljlbaa
end
section
namespace Go.Proofs.Ytkbpchdncljlbaa
open Go Go.RowKit Go.Proofs
set_option maxHeartbeats 400000
/-- A cell of a known machine. -/
def ruleOfB (s : ByteArray) : Option RuleD :=
  match s.data.toList with
  | [a, b, c] => if a = 45 ∧ b = 45 ∧ c = 45 then some noR else if 48 ≤ a.toNat ∧ a.toNat ≤ 57 ∧ (b = 76 ∨ b = 82) ∧ 48 ≤ c.toNat ∧ c.toNat ≤ 57 then some ⟨(a.toNat : Int) - 48, if b = 76 then -1 else 1, (c.toNat : Int) - 48⟩ else none
  | _ => none
theorem toList3 (a b c : UInt8) : (⟨#[a, b, c]⟩ : ByteArray).toList = [a, b, c] := by
  unfold ByteArray.toList
  unfold ByteArray.toList.loop
  unfold ByteArray.toList.loop
  unfold ByteArray.toList.loop
  unfold ByteArray.toList.loop
  rfl
theorem ruleOfB_ways {s : ByteArray} {r : RuleD} (h : ruleOfB s = some r) : (s = ⟨#[45, 45, 45]⟩ ∧ r = noR) ∨
    (∃ (g1 : 3 ≤ s.size) (d0 d1 d2 : Nat), (s.toList == [45, 45, 45]) = false ∧ s.size ≤ 3 ∧ (s[0]'(by omega)).toNat = d0 ∧ (s[1]'(by omega)).toNat = d1 ∧ (s[2]'(by omega)).toNat = d2 ∧ 48 ≤ d0 ∧ d0 ≤ 57 ∧ 48 ≤ d2 ∧ d2 ≤ 57 ∧
      ((d1 = 76 ∧ r = ⟨(d0 : Int) - 48, -1, (d2 : Int) - 48⟩) ∨ (d1 = 82 ∧ r = ⟨(d0 : Int) - 48, 1, (d2 : Int) - 48⟩))) := by
  obtain ⟨⟨l⟩⟩ := s
  unfold ruleOfB at h
  match l, h with
  | [a, b, c], h =>
    simp only at h
    split at h
    · rename_i hh
      obtain ⟨rfl, rfl, rfl⟩ := hh
      injection h with h
      exact .inl ⟨rfl, h.symm⟩
    · rename_i hno
      split at h
      · rename_i hh
        obtain ⟨k1, k2, k3, k4, k5⟩ := hh
        injection h with h
        refine .inr ⟨Nat.le_refl 3, a.toNat, b.toNat, c.toNat, by rw [toList3, beq_eq_false_iff_ne]; intro e; injection e with e1 e; injection e with e2 e; injection e with e3 _; exact hno ⟨e1, e2, e3⟩, Nat.le_refl 3, rfl, rfl, rfl, k1, k2, k4, k5, ?_⟩
        rcases k3 with rfl | rfl
        · exact .inl ⟨rfl, by rw [← h, if_pos rfl]⟩
        · exact .inr ⟨rfl, by rw [← h, if_neg (by decide)]⟩
      · cases h
theorem storeR {w : World} {g : Nat} {t : TypeId} {a b c : Value} (h : Blk w g t #[a, b, c]) (x y z : Value) : Blk (((w.setCell ⟨g, 0, none⟩ x).setCell ⟨g, 1, none⟩ y).setCell ⟨g, 2, none⟩ z) g t #[x, y, z] := ((h.set_ 0 x).set_ 1 y).set_ 2 z
/-- A slice of texts in memory of the call's own. -/
def OwnStrs (base : Nat) (w : World) (v : Value) (xs : List ByteArray) : Prop := w.ownsRow base 9 1 v xs.length (xs.map Value.string)
theorem OwnStrs.ext {base : Nat} {w w' : World} {v : Value} {xs : List ByteArray} (h : OwnStrs base w v xs) (he : Ext w w') : OwnStrs base w' v xs := ownsRow_ext h he
theorem OwnStrs.cell {base : Nat} {w : World} {A : Option Addr} {c : Nat} {xs : List ByteArray} (h : OwnStrs base w (.slice A xs.length c) xs) {k : Nat} (hk : k < xs.length) : ∃ g, A = some ⟨g, 0, none⟩ ∧ w.cell? ⟨g, k, none⟩ = some (.string xs[k]) := by
  obtain ⟨g, rfl, _, _⟩ := own_at h (by omega)
  refine ⟨g, rfl, ?_⟩
  have := World.ownsRow.cellAt h k (by omega)
  rw [this]
  simp [hk]
theorem strInfoD : (Try.prog.info? 9).map (fun i => (i.zero, i.size, i.bytes)) = some (some (.string ⟨#[]⟩), 1, 16) := by kernel_rfl
/-- The pieces of a text between separators, after i bytes, and where the next one begins. -/
def splitTo (s : ByteArray) (d : Nat) : Nat → List ByteArray × Nat
  | 0 => ([], 0)
  | i + 1 => if (s.data.getD i 0).toNat = d then ((splitTo s d i).1 ++ [s.extract (splitTo s d i).2 i], i + 1) else splitTo s d i
def splitS (s : ByteArray) (d : Nat) : List ByteArray := (splitTo s d s.size).1 ++ [s.extract (splitTo s d s.size).2 s.size]
theorem splitTo_le (s : ByteArray) (d i : Nat) : (splitTo s d i).2 ≤ i ∧ (splitTo s d i).1.length ≤ i := by
  induction i with
  | zero => simp [splitTo]
  | succ i ih =>
    unfold splitTo
    split
    · simp; omega
    · omega
end Go.Proofs.Ytkbpchdncljlbaa
namespace Go.Proofs.Ytkbpchdncljlbaa
open Go Go.RowKit Go.Proofs
set_option maxHeartbeats 400000
def cellsR (x : ByteArray) : List RuleD := (splitS x 44).map fun c => (ruleOfB c).getD noR
/-- The machine of a text. -/
def parseM (s : ByteArray) : MachD := ⟨(splitS ((splitS s 59).getD 0 ⟨#[]⟩) 44).length, (splitS s 59).length, (splitS s 59).flatMap cellsR⟩
def parseOk (s : ByteArray) : Bool := decide (s.size ≤ 1000) && decide ((splitS s 59).length ≤ 100) && decide ((splitS ((splitS s 59).getD 0 ⟨#[]⟩) 44).length ≤ 6) &&
  ((splitS s 59).all fun x => decide (x.size ≤ 1000) && decide ((splitS x 44).length = (splitS ((splitS s 59).getD 0 ⟨#[]⟩) 44).length) && (splitS x 44).all fun c => (ruleOfB c).isSome) && machOk (parseM s)
theorem splitS_pos (s : ByteArray) (d : Nat) : 0 < (splitS s d).length := by simp [splitS]
theorem news3' (w : World) (a b c : Value) (t : TypeId) (g : Nat) (hg : w.heap.size = g) : ∀ j u, [a, b, c][j]? = some u → (w.alloc (.cells #[a, b, c] t)).cell? ((⟨g, 0, none⟩ : Addr).add j) = some u :=
  World.news_of_block (cs := #[a, b, c]) (Blk.new w g t #[a, b, c] hg)
theorem flat_take {rows : List ByteArray} {i : Nat} (h : i < rows.length) : (rows.take (i + 1)).flatMap cellsR = (rows.take i).flatMap cellsR ++ cellsR rows[i] := by
  rw [List.take_succ_eq_append_getElem h, List.flatMap_append]; simp
theorem cells_take {x : ByteArray} {k : Nat} (h : k < (splitS x 44).length) : (cellsR x).take (k + 1) = (cellsR x).take k ++ [(ruleOfB (splitS x 44)[k]).getD noR] := by
  have hl : k < (cellsR x).length := by simpa [cellsR] using h
  rw [List.take_succ_eq_append_getElem hl]
  simp [cellsR]
theorem flat_len {rows : List ByteArray} {K : Nat} (h : ∀ x ∈ rows, (splitS x 44).length = K) : (rows.flatMap cellsR).length = rows.length * K := by
  induction rows with
  | nil => simp
  | cons a l ih =>
    have h1 := h a List.mem_cons_self
    have h2 := ih fun x hx => h x (List.mem_cons_of_mem _ hx)
    simp only [List.flatMap_cons, List.length_append, List.length_cons, h2, Nat.succ_mul]
    simp [cellsR, h1]; omega
theorem own_far_blk {w : World} {base : Nat} {e : TypeId} {size : Nat} {v : Value} {n : Nat} {xs : List Value} (ho : w.ownsRow base e size v n xs) {g : Nat} {t : TypeId} {cs : Array Value} (hb : Blk w g t cs) (hne : t ≠ e) : ∀ k, v.ownBlock = some k → k ≠ g := by
  intro k hk he
  subst he
  rcases ho.2 with ⟨rfl, _⟩ | ⟨g', cap, cur, rfl, _, hh, _⟩
  · simp [Value.ownBlock] at hk
  · have : g' = k := by simpa [Value.ownBlock] using hk
    subst this
    unfold Blk at hb
    rw [hb] at hh
    injection hh with hh
    injection hh with _ ht
    exact hne ht
end Go.Proofs.Ytkbpchdncljlbaa
namespace Go.Proofs.Ytkbpchdncljlbaa
open Go Go.RowKit Go.Proofs
set_option maxHeartbeats 400000
theorem grownBy_step {w a c : World} {r r' : Option Nat} (h : w.grownBy a r) (k : a.grownBy c r') (hr : ∀ k, r' = some k → w.heap.size ≤ k ∨ r = some k) : w.grownBy c r :=
  ⟨k.os.trans h.os, k.tape.trans h.tape, k.output.trans h.output, Nat.le_trans h.size k.size, fun i hi hne => (k.block i (Nat.lt_of_lt_of_le hi h.size) (fun e => by
    rcases hr i e.symm with c | c
    · omega
    · exact hne c.symm)).trans (h.block i hi hne)⟩
theorem ext_grownBy {a b : World} (h : Ext a b) (row : Option Nat) : a.grownBy b row := ⟨Below.os h, Below.tape h, Below.output h, Below.size h, fun i hi _ => Below.block h i hi⟩
theorem set_grownBy (w : World) (p : Addr) (u : Value) : w.grownBy (w.setCell p u) (some p.block) :=
  ⟨rfl, rfl, rfl, by simp [World.setCell], fun k _ hk => Below.heap_setCell w p u k (fun e => hk (by rw [e]))⟩
theorem news3 (w : World) (a b c : Value) (t : TypeId) (g : Nat) (hg : w.heap.size = g) : ∀ j u, [a, b, c][j]? = some u → (w.alloc (.cells #[a, b, c] t)).cell? ((⟨g, 0, none⟩ : Addr).add j) = some u :=
  World.news_of_block (cs := #[a, b, c]) (Blk.new w g t #[a, b, c] hg)
theorem mul36 {a b : Int} (h1 : 1 ≤ a) (h2 : a ≤ 6) (h3 : 1 ≤ b) (h4 : b ≤ 6) : 1 ≤ a * b ∧ a * b ≤ 36 := by
  obtain rfl | rfl | rfl | rfl | rfl | rfl : a = 1 ∨ a = 2 ∨ a = 3 ∨ a = 4 ∨ a = 5 ∨ a = 6 := by omega
  all_goals omega
end Go.Proofs.Ytkbpchdncljlbaa
namespace Go.Proofs.Ytkbpchdncljlbaa
open Go Go.RowKit Go.Proofs
set_option maxHeartbeats 400000
def knownL : List ByteArray := [⟨#[49, 82, 49, 44, 49, 76, 49, 59, 49, 76, 48, 44, 45, 45, 45]⟩, ⟨#[49, 82, 49, 44, 45, 45, 45, 59, 49, 76, 49, 44, 48, 82, 50, 59, 49, 76, 50, 44, 49, 76, 48]⟩,
  ⟨#[49, 82, 49, 44, 49, 76, 49, 59, 49, 76, 48, 44, 48, 76, 50, 59, 45, 45, 45, 44, 49, 76, 51, 59, 49, 82, 51, 44, 48, 82, 48]⟩, ⟨#[49, 82, 48, 44, 45, 45, 45]⟩, ⟨#[49, 82, 49, 44, 48, 82, 48, 59, 49, 76, 48, 44, 49, 82, 49]⟩,
  ⟨#[49, 82, 49, 44, 50, 76, 49, 44, 45, 45, 45, 59, 50, 76, 48, 44, 50, 82, 49, 44, 49, 76, 49]⟩, ⟨#[49, 76, 48, 44, 49, 82, 49, 59, 49, 82, 48, 44, 48, 76, 49]⟩, ⟨#[49, 82, 49, 44, 49, 82, 48, 59, 49, 76, 48, 44, 49, 76, 49]⟩]
theorem known_ok : (knownL.all fun x => parseOk x && !(parseM x).rules.isEmpty && decide ((parseM x).rules.length ≤ 600) && machOk (parseM x)) = true := by decide +kernel
end Go.Proofs.Ytkbpchdncljlbaa
end
