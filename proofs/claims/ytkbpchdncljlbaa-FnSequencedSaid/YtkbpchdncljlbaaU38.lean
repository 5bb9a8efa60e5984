/- Contracts of the reference's reading of machines, as far as the known machines want it: cells of three signs, numbers of one digit.
Contract of the reference's reading of a machine from a text that stands for one.
Contracts of the reference's draws of machines. The sizes are small.
Contracts of the reference's draws of machines, continued: the known machines, a machine that is valid.
Contract of the reference's drawing of a tape. -/
import Derived.Test.YtkbpchdncljlbaaU02
import Derived.Test.YtkbpchdncljlbaaU03
import Derived.Maps.AppendAt
import Derived.Test.YtkbpchdncljlbaaU05
import Derived.Deep.AppendLies
import Derived.Test.YtkbpchdncljlbaaU04
import Derived.Test.YtkbpchdncljlbaaU36
import Derived.Test.YtkbpchdncljlbaaU22
import Derived.Test.YtkbpchdncljlbaaU23
import Derived.Test.YtkbpchdncljlbaaU27
import Derived.Deep.CutBlock
import Derived.Deep.DeepCutAuto
section
namespace Go.Proofs.Ytkbpchdncljlbaa
open Go Go.RowKit Go.Proofs
set_option maxHeartbeats 400000
/-- A cell of a known machine. -/
def ruleOfB (s : ByteArray) : Option RuleD :=
  match s.data.toList with
  | [a, b, c] => if a = 45 ∧ b = 45 ∧ c = 45 then some noR else if 48 ≤ a.toNat ∧ a.toNat ≤ 57 ∧ (b = 76 ∨ b = 82) ∧ 48 ≤ c.toNat ∧ c.toNat ≤ 57 then some ⟨(a.toNat : Int) - 48, if b = 76 then -1 else 1, (c.toNat : Int) - 48⟩ else none
  | _ => none
theorem toList3 (a b c : UInt8) : (⟨#[a, b, c]⟩ : ByteArray).toList = [a, b, c] := by
  unfold ByteArray.toList
  unfold ByteArray.toList.loop
  unfold ByteArray.toList.loop
  unfold ByteArray.toList.loop
  unfold ByteArray.toList.loop
  rfl
theorem ruleOfB_ways {s : ByteArray} {r : RuleD} (h : ruleOfB s = some r) : (s = ⟨#[45, 45, 45]⟩ ∧ r = noR) ∨
    (∃ (g1 : 3 ≤ s.size) (d0 d1 d2 : Nat), (s.toList == [45, 45, 45]) = false ∧ s.size ≤ 3 ∧ (s[0]'(by omega)).toNat = d0 ∧ (s[1]'(by omega)).toNat = d1 ∧ (s[2]'(by omega)).toNat = d2 ∧ 48 ≤ d0 ∧ d0 ≤ 57 ∧ 48 ≤ d2 ∧ d2 ≤ 57 ∧
      ((d1 = 76 ∧ r = ⟨(d0 : Int) - 48, -1, (d2 : Int) - 48⟩) ∨ (d1 = 82 ∧ r = ⟨(d0 : Int) - 48, 1, (d2 : Int) - 48⟩))) := by
  obtain ⟨⟨l⟩⟩ := s
  unfold ruleOfB at h
  match l, h with
  | [a, b, c], h =>
    simp only at h
    split at h
    · rename_i hh
      obtain ⟨rfl, rfl, rfl⟩ := hh
      injection h with h
      exact .inl ⟨rfl, h.symm⟩
    · rename_i hno
      split at h
      · rename_i hh
        obtain ⟨k1, k2, k3, k4, k5⟩ := hh
        injection h with h
        refine .inr ⟨Nat.le_refl 3, a.toNat, b.toNat, c.toNat, by rw [toList3, beq_eq_false_iff_ne]; intro e; injection e with e1 e; injection e with e2 e; injection e with e3 _; exact hno ⟨e1, e2, e3⟩, Nat.le_refl 3, rfl, rfl, rfl, k1, k2, k4, k5, ?_⟩
        rcases k3 with rfl | rfl
        · exact .inl ⟨rfl, by rw [← h, if_pos rfl]⟩
        · exact .inr ⟨rfl, by rw [← h, if_neg (by decide)]⟩
      · cases h
theorem storeR {w : World} {g : Nat} {t : TypeId} {a b c : Value} (h : Blk w g t #[a, b, c]) (x y z : Value) : Blk (((w.setCell ⟨g, 0, none⟩ x).setCell ⟨g, 1, none⟩ y).setCell ⟨g, 2, none⟩ z) g t #[x, y, z] := ((h.set_ 0 x).set_ 1 y).set_ 2 z
/-- A slice of texts in memory of the call's own. -/
def OwnStrs (base : Nat) (w : World) (v : Value) (xs : List ByteArray) : Prop := w.ownsRow base 9 1 v xs.length (xs.map Value.string)
theorem OwnStrs.ext {base : Nat} {w w' : World} {v : Value} {xs : List ByteArray} (h : OwnStrs base w v xs) (he : Ext w w') : OwnStrs base w' v xs := ownsRow_ext h he
theorem OwnStrs.cell {base : Nat} {w : World} {A : Option Addr} {c : Nat} {xs : List ByteArray} (h : OwnStrs base w (.slice A xs.length c) xs) {k : Nat} (hk : k < xs.length) : ∃ g, A = some ⟨g, 0, none⟩ ∧ w.cell? ⟨g, k, none⟩ = some (.string xs[k]) := by
  obtain ⟨g, rfl, _, _⟩ := own_at h (by omega)
  refine ⟨g, rfl, ?_⟩
  have := World.ownsRow.cellAt h k (by omega)
  rw [this]
  simp [hk]
theorem strInfoD : (Try.prog.info? 9).map (fun i => (i.zero, i.size, i.bytes)) = some (some (.string ⟨#[]⟩), 1, 16) := by kernel_rfl
/-- The pieces of a text between separators, after i bytes, and where the next one begins. -/
def splitTo (s : ByteArray) (d : Nat) : Nat → List ByteArray × Nat
  | 0 => ([], 0)
  | i + 1 => if (s.data.getD i 0).toNat = d then ((splitTo s d i).1 ++ [s.extract (splitTo s d i).2 i], i + 1) else splitTo s d i
def splitS (s : ByteArray) (d : Nat) : List ByteArray := (splitTo s d s.size).1 ++ [s.extract (splitTo s d s.size).2 s.size]
theorem splitTo_le (s : ByteArray) (d i : Nat) : (splitTo s d i).2 ≤ i ∧ (splitTo s d i).1.length ≤ i := by
  induction i with
  | zero => simp [splitTo]
  | succ i ih =>
    unfold splitTo
    split
    · simp; omega
    · omega
end Go.Proofs.Ytkbpchdncljlbaa
namespace Go.Proofs.Ytkbpchdncljlbaa
open Go Go.RowKit Go.Proofs
set_option maxHeartbeats 400000
def cellsR (x : ByteArray) : List RuleD := (splitS x 44).map fun c => (ruleOfB c).getD noR
/-- The machine of a text. -/
def parseM (s : ByteArray) : MachD := ⟨(splitS ((splitS s 59).getD 0 ⟨#[]⟩) 44).length, (splitS s 59).length, (splitS s 59).flatMap cellsR⟩
def parseOk (s : ByteArray) : Bool := decide (s.size ≤ 1000) && decide ((splitS s 59).length ≤ 100) && decide ((splitS ((splitS s 59).getD 0 ⟨#[]⟩) 44).length ≤ 6) &&
  ((splitS s 59).all fun x => decide (x.size ≤ 1000) && decide ((splitS x 44).length = (splitS ((splitS s 59).getD 0 ⟨#[]⟩) 44).length) && (splitS x 44).all fun c => (ruleOfB c).isSome) && machOk (parseM s)
theorem splitS_pos (s : ByteArray) (d : Nat) : 0 < (splitS s d).length := by simp [splitS]
theorem news3' (w : World) (a b c : Value) (t : TypeId) (g : Nat) (hg : w.heap.size = g) : ∀ j u, [a, b, c][j]? = some u → (w.alloc (.cells #[a, b, c] t)).cell? ((⟨g, 0, none⟩ : Addr).add j) = some u :=
  World.news_of_block (cs := #[a, b, c]) (Blk.new w g t #[a, b, c] hg)
theorem flat_take {rows : List ByteArray} {i : Nat} (h : i < rows.length) : (rows.take (i + 1)).flatMap cellsR = (rows.take i).flatMap cellsR ++ cellsR rows[i] := by
  rw [List.take_succ_eq_append_getElem h, List.flatMap_append]; simp
theorem cells_take {x : ByteArray} {k : Nat} (h : k < (splitS x 44).length) : (cellsR x).take (k + 1) = (cellsR x).take k ++ [(ruleOfB (splitS x 44)[k]).getD noR] := by
  have hl : k < (cellsR x).length := by simpa [cellsR] using h
  rw [List.take_succ_eq_append_getElem hl]
  simp [cellsR]
theorem flat_len {rows : List ByteArray} {K : Nat} (h : ∀ x ∈ rows, (splitS x 44).length = K) : (rows.flatMap cellsR).length = rows.length * K := by
  induction rows with
  | nil => simp
  | cons a l ih =>
    have h1 := h a List.mem_cons_self
    have h2 := ih fun x hx => h x (List.mem_cons_of_mem _ hx)
    simp only [List.flatMap_cons, List.length_append, List.length_cons, h2, Nat.succ_mul]
    simp [cellsR, h1]; omega
theorem own_far_blk {w : World} {base : Nat} {e : TypeId} {size : Nat} {v : Value} {n : Nat} {xs : List Value} (ho : w.ownsRow base e size v n xs) {g : Nat} {t : TypeId} {cs : Array Value} (hb : Blk w g t cs) (hne : t ≠ e) : ∀ k, v.ownBlock = some k → k ≠ g := by
  intro k hk he
  subst he
  rcases ho.2 with ⟨rfl, _⟩ | ⟨g', cap, cur, rfl, _, hh, _⟩
  · simp [Value.ownBlock] at hk
  · have : g' = k := by simpa [Value.ownBlock] using hk
    subst this
    unfold Blk at hb
    rw [hb] at hh
    injection hh with hh
    injection hh with _ ht
    exact hne ht
end Go.Proofs.Ytkbpchdncljlbaa
namespace Go.Proofs.Ytkbpchdncljlbaa
open Go Go.RowKit Go.Proofs
set_option maxHeartbeats 400000
theorem grownBy_step {w a c : World} {r r' : Option Nat} (h : w.grownBy a r) (k : a.grownBy c r') (hr : ∀ k, r' = some k → w.heap.size ≤ k ∨ r = some k) : w.grownBy c r :=
  ⟨k.os.trans h.os, k.tape.trans h.tape, k.output.trans h.output, Nat.le_trans h.size k.size, fun i hi hne => (k.block i (Nat.lt_of_lt_of_le hi h.size) (fun e => by
    rcases hr i e.symm with c | c
    · omega
    · exact hne c.symm)).trans (h.block i hi hne)⟩
theorem ext_grownBy {a b : World} (h : Ext a b) (row : Option Nat) : a.grownBy b row := ⟨Below.os h, Below.tape h, Below.output h, Below.size h, fun i hi _ => Below.block h i hi⟩
theorem set_grownBy (w : World) (p : Addr) (u : Value) : w.grownBy (w.setCell p u) (some p.block) :=
  ⟨rfl, rfl, rfl, by simp [World.setCell], fun k _ hk => Below.heap_setCell w p u k (fun e => hk (by rw [e]))⟩
theorem news3 (w : World) (a b c : Value) (t : TypeId) (g : Nat) (hg : w.heap.size = g) : ∀ j u, [a, b, c][j]? = some u → (w.alloc (.cells #[a, b, c] t)).cell? ((⟨g, 0, none⟩ : Addr).add j) = some u :=
  World.news_of_block (cs := #[a, b, c]) (Blk.new w g t #[a, b, c] hg)
theorem mul36 {a b : Int} (h1 : 1 ≤ a) (h2 : a ≤ 6) (h3 : 1 ≤ b) (h4 : b ≤ 6) : 1 ≤ a * b ∧ a * b ≤ 36 := by
  obtain rfl | rfl | rfl | rfl | rfl | rfl : a = 1 ∨ a = 2 ∨ a = 3 ∨ a = 4 ∨ a = 5 ∨ a = 6 := by omega
  all_goals omega
end Go.Proofs.Ytkbpchdncljlbaa
namespace Go.Proofs.Ytkbpchdncljlbaa
open Go Go.RowKit Go.Proofs
set_option maxHeartbeats 400000
def knownL : List ByteArray := [⟨#[49, 82, 49, 44, 49, 76, 49, 59, 49, 76, 48, 44, 45, 45, 45]⟩, ⟨#[49, 82, 49, 44, 45, 45, 45, 59, 49, 76, 49, 44, 48, 82, 50, 59, 49, 76, 50, 44, 49, 76, 48]⟩,
  ⟨#[49, 82, 49, 44, 49, 76, 49, 59, 49, 76, 48, 44, 48, 76, 50, 59, 45, 45, 45, 44, 49, 76, 51, 59, 49, 82, 51, 44, 48, 82, 48]⟩, ⟨#[49, 82, 48, 44, 45, 45, 45]⟩, ⟨#[49, 82, 49, 44, 48, 82, 48, 59, 49, 76, 48, 44, 49, 82, 49]⟩,
  ⟨#[49, 82, 49, 44, 50, 76, 49, 44, 45, 45, 45, 59, 50, 76, 48, 44, 50, 82, 49, 44, 49, 76, 49]⟩, ⟨#[49, 76, 48, 44, 49, 82, 49, 59, 49, 82, 48, 44, 48, 76, 49]⟩, ⟨#[49, 82, 49, 44, 49, 82, 48, 59, 49, 76, 48, 44, 49, 76, 49]⟩]
theorem known_ok : (knownL.all fun x => parseOk x && !(parseM x).rules.isEmpty && decide ((parseM x).rules.length ≤ 600) && machOk (parseM x)) = true := by decide +kernel
end Go.Proofs.Ytkbpchdncljlbaa
end
section
set_option linter.unusedVariables false
set_option linter.unusedSimpArgs false
namespace Go.Proofs.Ytkbpchdncljlbaa
open Go Go.RowKit Go.Proofs Go.Maps
set_option maxHeartbeats 400000
structure CellT (B b gO n d : Nat) (w : World) (u : Value) (xs : List Int) (W : World) : Prop where
  out : Blk W gO 42 #[.slice none 0 0, .slice none 0 0]
  own : OwnInts w.heap.size W u xs
  src : Src B W b (n + d)
  grown : w.grownBy W (some b)
theorem CellT.ext {B b gO n d : Nat} {w : World} {u : Value} {xs : List Int} {W W' : World} (h : CellT B b gO n d w u xs W) (he : Ext W W') : CellT B b gO n d w u xs W' :=
  ⟨h.out.ext he, ownsRow_ext h.own he, h.src.ext he, grownBy_trans h.grown (ext_grownBy he _)⟩
theorem CellT.src' {B b gO n d d' : Nat} {w : World} {u : Value} {xs : List Int} {W W' : World} (h : CellT B b gO n d w u xs W) (hs : Src B W' b (n + d')) (hg : W.grownBy W' (some b)) : CellT B b gO n d' w u xs W' :=
  ⟨blk_src h.src hg h.out (by decide), own_src h.src hg h.own (by decide), hs, grownBy_trans h.grown hg⟩
theorem CellT.snoc {B b gO n d : Nat} {w : World} {u v : Value} {xs ys : List Int} {W W' : World} (h : CellT B b gO n d w u xs W) (hB : B ≤ w.heap.size) (hb : b < w.heap.size)
    (ho : OwnInts w.heap.size W' v ys) (hg : W.grownBy W' u.ownBlock) : CellT B b gO n d w v ys W' :=
  ⟨Blk.apart h.out h.own (by decide) hg, ho, h.src.kept hg (fun k hk => by have := (h.own.lt k hk).1; exact ⟨by omega, by omega⟩),
   grownBy_step h.grown hg (fun k hk => .inl (h.own.lt k hk).1)⟩
def sliceLen : Value → Nat
  | .slice _ n _ => n
  | _ => 0
theorem own_new (w : World) : OwnInts w.heap.size (w.alloc (.cells #[] 2)) (.slice (some ⟨w.heap.size, 0, none⟩) 0 0) [] :=
  ⟨by simp [ivs], .inr ⟨w.heap.size, 0, #[], rfl, Nat.le_refl _, heap_alloc_new w _, by simp, by unfold maxLen; omega, rfl, by simp [ivs]⟩⟩
set_option maxRecDepth 20000 in
set_option maxHeartbeats 8000000 in
theorem l06DrawTape_c (B b n : Nat) (sy : Int) (w0 : World) (h : Src B w0 b n) (hB : B ≤ w0.heap.size) (h2 : 2 ≤ sy) (h6 : sy ≤ 6) (hn : n ≤ 100000000000) :
    Calls Try.prog 42 #[.pointer (some ⟨b, 0, none⟩), .int .i64 sy] w0 fun e w' => (∃ (A1 : Option Addr) (c1 : Nat) (A2 : Option Addr) (c2 : Nat) (t : TapeD), e = .returned (.agg #[.slice A1 t.l.length c1, .slice A2 t.r.length c2]) ∧ OwnInts w0.heap.size w' (.slice A1 t.l.length c1) t.l ∧ OwnInts w0.heap.size w' (.slice A2 t.r.length c2) t.r ∧ sideOk t.l sy 200 = true ∧ sideOk t.r sy 200 = true) ∧ Src B w' b (n + 500) ∧ w0.grownBy w' (some b) := by
  obtain ⟨i0, hi, hz0, hz1, hz2⟩ := info_parts intInfo
  have hbl := h.lt
  obtain ⟨gO, hgO⟩ : ∃ g, w0.heap.size = g := ⟨_, rfl⟩
  obtain ⟨w, hw⟩ : ∃ w, w = w0.alloc (.cells #[.slice none 0 0, .slice none 0 0] 42) := ⟨_, rfl⟩
  have eW : Ext w0 w := by rw [hw]; exact Ext.alloc _ _
  have bO : Blk w gO 42 #[.slice none 0 0, .slice none 0 0] := by rw [hw]; exact Blk.new _ _ _ _ hgO
  have hws : w.heap.size = gO + 1 := by rw [hw]; simp [hgO]
  obtain ⟨W, hW⟩ : ∃ W, W = w.alloc (.cells #[] 2) := ⟨_, rfl⟩
  have hX : Ext w W := by rw [hW]; exact Ext.alloc _ _
  have st0 : CellT B b gO n 0 w (.slice (some ⟨w.heap.size, 0, none⟩) 0 0) [] W :=
    ⟨bO.ext hX, by rw [hW]; exact own_new w, (h.ext eW).ext hX, ext_grownBy hX _⟩
  have HBa : Hid (B ≤ w.heap.size) := Lib.hid (by omega)
  have HBLa : Hid (b < w.heap.size) := Lib.hid (by omega)
  have HE := Lib.hid eW
  have HB0 := Lib.hid hB
  rw [hws] at st0
  have HWS := Lib.hid hws
  have HGO := Lib.hid hgO
  clear h hX eW bO
  go_enter Try.func42, Try.ntmps42
  go_wp2_with fail
  try rw [← hw]
  try rw [hws]
  try rw [← hW]
  clear hW hB hbl hw hws hgO
  refine (pick_c B b _ 4 W st0.src (by omega)).mono ?_
  rintro e waa ⟨⟨xa, rfl, x0, _, x2⟩, hs1, hg1⟩
  have x3 := x2 (by omega)
  clear x2
  have saa := st0.src' (d' := 2) hs1 hg1
  obtain ⟨Ka, rfl⟩ := Int.eq_ofNat_of_zero_le x0
  have HKa : Hid (Ka ≤ 4) := Lib.hid (by omega)
  clear st0 hs1 hg1
  go_wp2_with fail
  go_loopw [5, 6] (fun u i wr => ∃ (xs : List Int), xs.length ≤ Ka ∧ i = .int .i64 ((Ka - xs.length : Nat) : Int) ∧ CellT B b gO n (2 + 2 * xs.length) w u xs wr ∧ Hid (∀ z ∈ xs, 0 ≤ z ∧ z < sy)) (fun _ i _ => (intOf i).toNat)
  case atStart => exact ⟨[], Nat.zero_le _, rfl, saa, Lib.hid (fun z hz => by simp at hz)⟩
  case round =>
    clear saa
    obtain ⟨xsa, hk, rfl, stk, HAa⟩ := hrel
    obtain ⟨Aua, cua, rfl, _, _⟩ := stk.own.ints.form
    by_cases hlt : xsa.length < Ka
    · have hd : decide ((0 : Int) < ((Ka - xsa.length : Nat) : Int)) = true := by simp; omega
      go_wp2_with fail
      refine (pick_c B b _ sy _ stk.src (by omega)).mono ?_
      rintro e w2 ⟨⟨z, rfl, z0, _, z2⟩, hs2, hg2⟩
      have HZ := Lib.hid (z2 (by omega))
      have st2 := stk.src' (d' := 2 + 2 * xsa.length + 2) hs2 hg2
      have HZ0 := Lib.hid z0
      clear stk hs2 hg2 z2 z0
      have ho1 : w2.ownsRow w.heap.size 2 1 (.slice Aua xsa.length cua) xsa.length (ivs xsa) := st2.own
      have ho' := ho1.alloc (.cells #[.int .i64 z] 2)
      have st3 := st2.ext (Ext.alloc w2 (.cells #[.int .i64 z] 2))
      have hs := st2.grown.size
      go_wp2_with (at_builtin; refine wpList_append_own_at _ rfl _ _ 24 rfl w.heap.size 2 i0 (.int .i64 0) 1 8 Try.underlying24 hi hz0 hz1 hz2 rfl (by decide) _ _ _ rfl ho' ⟨w2.heap.size, 0, none⟩ 1 1 [.int .i64 z] rfl rfl (cell_one_new _ _ _) ?c2 ?c3 ?c4 ?c5 ?_)
      case c2 => intro u hu; simp at hu; subst hu; rfl
      case c3 => unfold maxLen; omega
      case c4 => omega
      case c5 => simp; omega
      intro v' w4 hown4 hg4 _ hloc
      obtain ⟨A', c', rfl, _, _, _⟩ := (ownsRow_row hown4).form
      have st4 := st3.snoc (ys := xsa ++ [z]) HBa.out HBLa.out (by simpa [OwnInts, ivs_append, ivs] using hown4) hg4
      have hKk : ((Ka - xsa.length : Nat) : Int) - 1 = ((Ka - (xsa.length + 1) : Nat) : Int) := by omega
      have HS := Lib.hid st4
      clear st2 st3 st4 ho' ho1 hown4 hg4
      go_wp2_with fail
      go_roundw
      case rel => exact ⟨xsa ++ [z], by simp; omega, by first | (rw [hKk]; simp; done) | (simp; done) | (simp; omega), by simpa [Nat.mul_add, Nat.add_assoc] using HS.out, Lib.hid (fun y hy => by
        rcases List.mem_append.1 hy with hy | hy
        · exact HAa.out y hy
        · rw [List.mem_singleton.1 hy]; exact ⟨HZ0.out, HZ.out⟩)⟩
      case measure => simp [intOf]; omega
    · have hke : xsa.length = Ka := by omega
      have HKEa := Lib.hid hke
      clear hke
      have hd : decide ((0 : Int) < ((Ka - xsa.length : Nat) : Int)) = false := by simp; omega
      obtain ⟨wl, hwl⟩ : ∃ x, x = wr := ⟨_, rfl⟩
      subst hwl
      have sz1 := stk.grown.size
      obtain ⟨g1, hg1⟩ : ∃ g, wl.heap.size = g := ⟨_, rfl⟩
      obtain ⟨W1, hW1⟩ : ∃ W, W = wl.alloc (.cells #[] 2) := ⟨_, rfl⟩
      have hX1 : Ext wl W1 := by rw [hW1]; exact Ext.alloc _ _
      have st1 : CellT B b gO n (2 + 2 * xsa.length) wl (.slice (some ⟨wl.heap.size, 0, none⟩) 0 0) [] W1 :=
        ⟨stk.out.ext hX1, by rw [hW1]; exact own_new wl, stk.src.ext hX1, ext_grownBy hX1 _⟩
      have HBb : Hid (B ≤ wl.heap.size) := Lib.hid (by have := HBa.out; omega)
      have HBLb : Hid (b < wl.heap.size) := stk.src.lt
      have HGW := Lib.hid stk.grown
      have HOA := Lib.hid stk.own
      have HSA := Lib.hid stk.src
      rw [hg1] at st1
      have HG1 := Lib.hid hg1
      have HLA : Hid (xsa.length ≤ 4) := Lib.hid (by have := HKEa.out; have := HKa.out; omega)
      have hla : xsa.length ≤ 4 := HLA.out
      clear stk hX1 hd
      go_wp2_with fail
      try rw [hg1]
      try rw [← hW1]
      clear hW1 hg1
      refine (pick_c B b _ 5 W1 st1.src (by omega)).mono ?_
      rintro e wab ⟨⟨xb, rfl, x0, _, x2⟩, hs1, hg1⟩
      have x3 := x2 (by omega)
      clear x2
      have sab := st1.src' (d' := (2 + 2 * xsa.length + 2)) hs1 hg1
      obtain ⟨Kb, rfl⟩ := Int.eq_ofNat_of_zero_le x0
      have HKb : Hid (Kb ≤ 5) := Lib.hid (by omega)
      clear st1 hs1 hg1
      go_wp2_with fail
      go_loopw [7, 8] (fun u i wr => ∃ (xs : List Int), xs.length ≤ Kb ∧ i = .int .i64 ((Kb - xs.length : Nat) : Int) ∧ CellT B b gO n ((2 + 2 * xsa.length + 2) + 2 * xs.length) wl u xs wr ∧ Hid (∀ z ∈ xs, 0 ≤ z ∧ z < sy)) (fun _ i _ => (intOf i).toNat)
      case atStart => exact ⟨[], Nat.zero_le _, rfl, sab, Lib.hid (fun z hz => by simp at hz)⟩
      case round =>
        clear sab
        obtain ⟨xsb, hk, rfl, stk, HAb⟩ := hrel
        obtain ⟨Aub, cub, rfl, _, _⟩ := stk.own.ints.form
        by_cases hlt : xsb.length < Kb
        · have hd : decide ((0 : Int) < ((Kb - xsb.length : Nat) : Int)) = true := by simp; omega
          go_wp2_with fail
          refine (pick_c B b _ sy _ stk.src (by omega)).mono ?_
          rintro e w2 ⟨⟨z, rfl, z0, _, z2⟩, hs2, hg2⟩
          have HZ := Lib.hid (z2 (by omega))
          have st2 := stk.src' (d' := (2 + 2 * xsa.length + 2) + 2 * xsb.length + 2) hs2 hg2
          have HZ0 := Lib.hid z0
          clear stk hs2 hg2 z2 z0
          have ho1 : w2.ownsRow wl.heap.size 2 1 (.slice Aub xsb.length cub) xsb.length (ivs xsb) := st2.own
          have ho' := ho1.alloc (.cells #[.int .i64 z] 2)
          have st3 := st2.ext (Ext.alloc w2 (.cells #[.int .i64 z] 2))
          have hs := st2.grown.size
          go_wp2_with (at_builtin; refine wpList_append_own_at _ rfl _ _ 24 rfl wl.heap.size 2 i0 (.int .i64 0) 1 8 Try.underlying24 hi hz0 hz1 hz2 rfl (by decide) _ _ _ rfl ho' ⟨w2.heap.size, 0, none⟩ 1 1 [.int .i64 z] rfl rfl (cell_one_new _ _ _) ?c2 ?c3 ?c4 ?c5 ?_)
          case c2 => intro u hu; simp at hu; subst hu; rfl
          case c3 => unfold maxLen; omega
          case c4 => omega
          case c5 => simp; omega
          intro v' w4 hown4 hg4 _ hloc
          obtain ⟨A', c', rfl, _, _, _⟩ := (ownsRow_row hown4).form
          have st4 := st3.snoc (ys := xsb ++ [z]) HBb.out HBLb.out (by simpa [OwnInts, ivs_append, ivs] using hown4) hg4
          have hKk : ((Kb - xsb.length : Nat) : Int) - 1 = ((Kb - (xsb.length + 1) : Nat) : Int) := by omega
          have HS := Lib.hid st4
          clear st2 st3 st4 ho' ho1 hown4 hg4
          go_wp2_with fail
          go_roundw
          case rel => exact ⟨xsb ++ [z], by simp; omega, by first | (rw [hKk]; simp; done) | (simp; done) | (simp; omega), by simpa [Nat.mul_add, Nat.add_assoc] using HS.out, Lib.hid (fun y hy => by
            rcases List.mem_append.1 hy with hy | hy
            · exact HAb.out y hy
            · rw [List.mem_singleton.1 hy]; exact ⟨HZ0.out, HZ.out⟩)⟩
          case measure => simp [intOf]; omega
        · have hke : xsb.length = Kb := by omega
          have HKEb := Lib.hid hke
          clear hke
          have hd : decide ((0 : Int) < ((Kb - xsb.length : Nat) : Int)) = false := by simp; omega
          have hlb : xsb.length ≤ 5 := by have := HKEb.out; have := HKb.out; omega
          clear hd
          go_wp2_with fail
          refine (one_c B b _ 25 _ stk.src (by omega)).mono ?_
          rintro e w2 ⟨⟨q, rfl⟩, hs2, hg2⟩
          have st2 := stk.src' (d' := 30) (hs2.mono (by omega)) hg2
          clear stk hs2 hg2
          go_upto_if 37 with fail
          go_cut [7] (fun u wx => ∃ ys : List Int, CellT B b gO n 60 wl u ys wx ∧ ys.length ≤ 200 ∧ Hid (∀ z ∈ ys, 0 ≤ z ∧ z < sy))
          case first =>
            cases q with
            | false =>
              go_wp2_with fail
              go_meet
              exact ⟨xsb, ⟨st2.out, st2.own, st2.src.mono (by omega), st2.grown⟩, by omega, HAb⟩
            | true =>
              obtain ⟨gs, hgs⟩ : ∃ g, w2.heap.size = g := ⟨_, rfl⟩
              obtain ⟨W3, hW3⟩ : ∃ W, W = w2.alloc (.cells #[.int .i64 199, .int .i64 200] 2) := ⟨_, rfl⟩
              have e3 : Ext w2 W3 := by rw [hW3]; exact Ext.alloc _ _
              have b3 : Blk W3 gs 2 #[.int .i64 199, .int .i64 200] := by rw [hW3]; exact Blk.new _ _ _ _ hgs
              have st3 := st2.ext e3
              have AM := among_c B 0 b _ _ [199, 200] W3 st3.src (own2 b3 (Nat.zero_le _)) (by simp) (by omega)
              clear st2 e3 b3
              go_wp2_with fail
              try rw [← hW3]
              try rw [hgs]
              clear hW3 hgs
              refine AM.mono ?_
              rintro e w4 ⟨⟨M, rfl, hM⟩, hs4, hg4⟩
              have st4 := st3.src' (d' := 32) hs4 hg4
              have hM1 : 199 ≤ M ∧ M ≤ 200 := by
                simp at hM
                omega
              clear hM AM st3 hs4 hg4
              go_wp2_with fail
              go_loopw [7] (fun u wr => ∃ (ys : List Int), ys.length ≤ 200 ∧ CellT B b gO n 32 wl u ys wr ∧ Hid (∀ z ∈ ys, 0 ≤ z ∧ z < sy)) (fun u _ => 200 - (sliceLen u))
              case atStart => exact ⟨xsb, by omega, st4, HAb⟩
              case round =>
                clear st4
                obtain ⟨ys, hyl, stj, HY⟩ := hrel
                obtain ⟨Ay, cy, rfl, _, _⟩ := stj.own.ints.form
                by_cases hlt : (ys.length : Int) < M
                · have ho1 : wr.ownsRow wl.heap.size 2 1 (.slice Ay ys.length cy) ys.length (ivs ys) := stj.own
                  have ho' := ho1.alloc (.cells #[.int .i64 1] 2)
                  have st5 := stj.ext (Ext.alloc wr (.cells #[.int .i64 1] 2))
                  have hs := stj.grown.size
                  clear stj
                  go_wp2_with (at_builtin; refine wpList_append_own_at _ rfl _ _ 24 rfl wl.heap.size 2 i0 (.int .i64 0) 1 8 Try.underlying24 hi hz0 hz1 hz2 rfl (by decide) _ _ _ rfl ho' ⟨wr.heap.size, 0, none⟩ 1 1 [.int .i64 1] rfl rfl (cell_one_new _ _ _) ?c2 ?c3 ?c4 ?c5 ?_)
                  case c2 => intro u hu; simp at hu; subst hu; rfl
                  case c3 => unfold maxLen; omega
                  case c4 => omega
                  case c5 => simp; omega
                  intro v' w6 hown6 hg6 _ _
                  obtain ⟨A', c', rfl, _, _, _⟩ := (ownsRow_row hown6).form
                  have st6 := st5.snoc (ys := ys ++ [1]) HBb.out HBLb.out (by simpa [OwnInts, ivs_append, ivs] using hown6) hg6
                  have HS := Lib.hid st6
                  clear st5 st6 ho' ho1 hown6 hg6
                  go_wp2_with fail
                  go_roundw
                  case rel => exact ⟨ys ++ [1], by simp; omega, by simpa using HS.out, Lib.hid (fun y hy => by
                    rcases List.mem_append.1 hy with hy | hy
                    · exact HY.out y hy
                    · rw [List.mem_singleton.1 hy]; omega)⟩
                  case measure => simp [sliceLen]; omega
                · go_wp2_with fail
                  go_meet
                  exact ⟨ys, ⟨stj.out, stj.own, stj.src.mono (by omega), stj.grown⟩, hyl, HY⟩
          case rest =>
            rename World => wc
            obtain ⟨ys, stf, hyl, HY⟩ := hcut
            have HOL : OwnInts w.heap.size wc (.slice Aua xsa.length cua) xsa := own_src HSA.out stf.grown HOA.out (by decide)
            have HG : w0.grownBy wc (some b) := grownBy_trans (ext_grownBy HE.out _) (grownBy_trans HGW.out stf.grown)
            have T1 := l06Trim_c _ xsa wc HOL.ints (by omega)
            obtain ⟨Ay, cy, rfl, _, _⟩ := stf.own.ints.form
            clear HOL
            go_wp2_with fail
            refine T1.mono ?_
            rintro e w5 ⟨u, rfl, o5, hx5⟩
            obtain ⟨A5, c5, rfl, _, _⟩ := id o5.ints.form
            have st5 := stf.ext hx5
            have T2 := l06Trim_c _ ys w5 st5.own.ints (by omega)
            have hsz := stf.grown.size
            have hszl := HGW.out.size
            have hsz0 := HE.out.size
            clear T1 stf
            go_wp2_with fail
            refine T2.mono ?_
            rintro e w6 ⟨u, rfl, o6, hx6⟩
            obtain ⟨A6, c6, rfl, _, _⟩ := id o6.ints.form
            have st6 := st5.ext hx6
            have ob := st6.out.cell
            have of_ := st6.out.frozen
            have hx5s := hx5.size
            have o5' : OwnInts w0.heap.size w6 (.slice A5 (trim xsa).length c5) (trim xsa) := ownsRow_base (OwnInts.ext o5 hx6) (by omega)
            have o6' : OwnInts w0.heap.size w6 (.slice A6 (trim ys).length c6) (trim ys) := ownsRow_base o6 (by omega)
            have n5 : ∀ q, (Value.slice A5 (trim xsa).length c5).ownBlock = some q → q ≠ gO := fun q hq e => by
              subst e
              exact blk_ne_row st6.out o5' (by decide) hq.symm
            have n6 : ∀ q, (Value.slice A6 (trim ys).length c6).ownBlock = some q → q ≠ gO := fun q hq e => by
              subst e
              exact blk_ne_row st6.out o6' (by decide) hq.symm
            have HF : Hid (∀ a b', OwnInts w0.heap.size ((w6.setCell ⟨gO, 0, none⟩ a).setCell ⟨gO, 1, none⟩ b') (.slice A5 (trim xsa).length c5) (trim xsa) ∧ OwnInts w0.heap.size ((w6.setCell ⟨gO, 0, none⟩ a).setCell ⟨gO, 1, none⟩ b') (.slice A6 (trim ys).length c6) (trim ys) ∧ Src B ((w6.setCell ⟨gO, 0, none⟩ a).setCell ⟨gO, 1, none⟩ b') b (n + 500) ∧ w0.grownBy ((w6.setCell ⟨gO, 0, none⟩ a).setCell ⟨gO, 1, none⟩ b') (some b)) := Lib.hid fun a b' => by
              have hgO : w0.heap.size = gO := HGO.out
              have hB1 := HBa.out
              have hB0 := HB0.out
              have hB2 := HBLa.out
              have hW1 := HWS.out
              have s1 : ((w6.setCell ⟨gO, 0, none⟩ a).setCell ⟨gO, 1, none⟩ b').heap.size = w6.heap.size := by simp
              have hgs : w6.grownBy ((w6.setCell ⟨gO, 0, none⟩ a).setCell ⟨gO, 1, none⟩ b') (some gO) := grownBy_trans (set_grownBy w6 ⟨gO, 0, none⟩ a) (set_grownBy _ ⟨gO, 1, none⟩ b')
              have hbgO : gO ≠ b := by
                intro e
                subst e
                obtain ⟨_, _, _, _, _, hb, _⟩ := st6.src
                exact absurd (blk_type hb st6.out) (by decide)
              refine ⟨ownsRow_far (ownsRow_far o5' n5 a) n5 b', ownsRow_far (ownsRow_far o6' n6 a) n6 b', (st6.src.kept hgs (fun k hk => ?_)).mono (by omega), grownBy_step (grownBy_trans HG (ext_grownBy (hx5.trans hx6) _)) hgs (fun k hk => .inl ?_)⟩
              · injection hk with hk
                subst hk
                exact ⟨by omega, hbgO⟩
              · injection hk with hk
                omega
            have HT : Hid (sideOk (trim xsa) sy 200 = true ∧ sideOk (trim ys) sy 200 = true) := Lib.hid ⟨trim_side2 (by have := trim_len xsa; omega) (fun z hz => by have := HAa.out z hz; omega), trim_side2 (by have := trim_len ys; omega) (fun z hz => by have := HY.out z hz; omega)⟩
            generalize trim xsa = l1 at *
            generalize trim ys = l2 at *
            clear T2 st5 st6 o5 o6 o5' o6' n5 n6 hx5 hx6 HG
            go_wp2_with fail
            exact bodyPost_ret (v := .agg #[.slice A5 l1.length c5, .slice A6 l2.length c6]) (by simp [results, Try.results42, go_sem, ob]) rfl ⟨⟨A5, c5, A6, c6, ⟨l1, l2⟩, rfl, (HF.out _ _).1, (HF.out _ _).2.1, HT.out.1, HT.out.2⟩, (HF.out _ _).2.2.1, (HF.out _ _).2.2.2⟩
end Go.Proofs.Ytkbpchdncljlbaa
end
