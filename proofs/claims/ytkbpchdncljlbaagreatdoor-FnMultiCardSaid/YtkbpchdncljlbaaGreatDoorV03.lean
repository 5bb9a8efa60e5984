/- Contracts of the tests whether rules and machines are valid, the program's and the reference's. No condition but that a rule is looked at for valid numbers of symbols and states.
Contracts of the reference's test whether a machine is valid. No condition.
Contracts of the program's test whether a machine is valid. No condition.
Contracts of the program's test whether a machine is valid, continued. No condition.
Contracts of the program's list of the places without a rule. The machine has at most 6000 rules.
Contracts of the lists of the partial configurations at which a machine halts, the program's and the reference's. The machine is valid.
Contract of the reference's list of the partial configurations at which a machine halts. The machine is valid.
Contracts of the copies of lists and of the nodes of segments. Lists are not empty and short.
Contract of the library's Repeat, for a list of one number and up to eleven of it.
Contract of the program's list of the nodes at which a machine halts. The machine is valid, the size is from 1 to 9. -/
import Derived.Test.YtkbpchdncljlbaaGreatDoorV02
import Derived.Deep.RegionHeld3
import Derived.Deep.AppendLies
import Derived.Test.YtkbpchdncljlbaaGreatDoorShelf
import Derived.Laws.CopyOwn
section
namespace Go.Proofs.YtkbpchdncljlbaaGreatDoor
open Go Go.RowKit Go.Proofs
set_option maxHeartbeats 400000
def ruleOk (sy st : Int) (r : RuleD) : Bool := decide (r = noR) || (inB r.w 0 (sy - 1) && ((r.m == 1) || (r.m == -1)) && inB r.n 0 (st - 1))
theorem ruleWays (sy st a b c : Int) (h : ¬ (⟨a, b, c⟩ : RuleD) = noR) : (inB a 0 (sy - 1) = false ∧ ruleOk sy st ⟨a, b, c⟩ = false) ∨
    (inB a 0 (sy - 1) = true ∧ (b == 1) = true ∧ (b == -1) = false ∧ inB c 0 (st - 1) = false ∧ ruleOk sy st ⟨a, b, c⟩ = false) ∨ (inB a 0 (sy - 1) = true ∧ (b == 1) = true ∧ (b == -1) = false ∧ inB c 0 (st - 1) = true ∧ ruleOk sy st ⟨a, b, c⟩ = true) ∨
    (inB a 0 (sy - 1) = true ∧ (b == 1) = false ∧ (b == -1) = true ∧ inB c 0 (st - 1) = false ∧ ruleOk sy st ⟨a, b, c⟩ = false) ∨ (inB a 0 (sy - 1) = true ∧ (b == 1) = false ∧ (b == -1) = true ∧ inB c 0 (st - 1) = true ∧ ruleOk sy st ⟨a, b, c⟩ = true) ∨
    (inB a 0 (sy - 1) = true ∧ (b == 1) = false ∧ (b == -1) = false ∧ ruleOk sy st ⟨a, b, c⟩ = false) := by
  unfold ruleOk
  have h' : decide ((⟨a, b, c⟩ : RuleD) = noR) = false := by simpa using h
  rw [h']
  by_cases e1 : b = 1
  · subst e1
    cases inB a 0 (sy - 1) <;> cases inB c 0 (st - 1) <;> simp
  · by_cases e2 : b = -1
    · subst e2
      cases inB a 0 (sy - 1) <;> cases inB c 0 (st - 1) <;> simp
    · have e1' : (b == 1) = false := by simp [e1]
      have e2' : (b == -1) = false := by simp [e2]
      cases inB a 0 (sy - 1) <;> cases inB c 0 (st - 1) <;> simp [e1', e2']
end Go.Proofs.YtkbpchdncljlbaaGreatDoor
namespace Go.Proofs.YtkbpchdncljlbaaGreatDoor
open Go Go.RowKit Go.Proofs
set_option maxHeartbeats 400000
def machOk (m : MachD) : Bool := inB m.sy 2 6 && inB m.st 1 1000 && decide ((m.rules.length : Int) = m.sy * m.st) && m.rules.all (ruleOk m.sy m.st)
/-- A machine behind a pointer to its block's head. -/
def MachAt (w : World) (b : Nat) (m : MachD) : Prop := ∃ rv, w.cell? ⟨b, 0, none⟩ = some (.int .i64 m.sy) ∧ w.cell? ⟨b, 1, none⟩ = some (.int .i64 m.st) ∧ w.cell? ⟨b, 2, none⟩ = some rv ∧ Rules w rv m.rules
theorem MachAt.ext {w w' : World} {b : Nat} {m : MachD} (h : MachAt w b m) (he : Ext w w') : MachAt w' b m := by
  obtain ⟨rv, h0, h1, h2, hr⟩ := h
  exact ⟨rv, he.cell h0, he.cell h1, he.cell h2, hr.ext he⟩
theorem mul_bounds {a b : Int} (h1 : 2 ≤ a) (h2 : a ≤ 6) (h3 : 1 ≤ b) (h4 : b ≤ 1000) : 0 ≤ a * b ∧ a * b ≤ 6000 := by
  have e1 : 0 ≤ a * b := Int.mul_nonneg (by omega) (by omega)
  have e2 : a * b ≤ 6 * 1000 := Int.mul_le_mul h2 h4 (by omega) (by omega)
  omega
/-- The first k rules are valid. -/
def okTo (m : MachD) (k : Nat) : Prop := (m.rules.take k).all (ruleOk m.sy m.st) = true
theorem okTo_step {m : MachD} {k : Nat} (h : okTo m k) (hk : k < m.rules.length) (he : ruleOk m.sy m.st m.rules[k] = true) : okTo m (k + 1) := by
  unfold okTo at *
  rw [List.take_succ_eq_append_getElem hk, List.all_append, h]; simp [he]
theorem okTo_end {m : MachD} {k : Nat} (h : okTo m k) (hk : m.rules.length ≤ k) : m.rules.all (ruleOk m.sy m.st) = true := by
  unfold okTo at h
  rwa [List.take_of_length_le hk] at h
theorem all_false {m : MachD} {k : Nat} (hk : k < m.rules.length) (he : ruleOk m.sy m.st m.rules[k] = false) : m.rules.all (ruleOk m.sy m.st) = false := by
  rw [List.all_eq_false]
  exact ⟨m.rules[k], List.getElem_mem hk, by simp [he]⟩
end Go.Proofs.YtkbpchdncljlbaaGreatDoor
namespace Go.Proofs.YtkbpchdncljlbaaGreatDoor
open Go Go.RowKit Go.Proofs
set_option maxHeartbeats 400000
end Go.Proofs.YtkbpchdncljlbaaGreatDoor
namespace Go.Proofs.YtkbpchdncljlbaaGreatDoor
open Go Go.RowKit Go.Proofs
set_option maxHeartbeats 400000
theorem sizeInt_c (v : Value) (zs : List Int) (w : World) (h : Ints w v zs) : Calls Tryz.prog 96 #[v] w fun e w' => e = .returned (.int .i64 zs.length) ∧ w = w' := by
  obtain ⟨A, c, rfl, h1, h2⟩ := h.form
  go_enter Tryz.func96, Tryz.ntmps96
  go_wp2
  go_ret
  exact ⟨rfl, rfl⟩
end Go.Proofs.YtkbpchdncljlbaaGreatDoor
end
section
namespace Go.Proofs.YtkbpchdncljlbaaGreatDoor
open Go Go.RowKit Go.Proofs
set_option maxHeartbeats 400000
theorem intInfo : (Tryz.prog.info? 2).map (fun i => (i.zero, i.size, i.bytes)) = some (some (.int .i64 0), 1, 8) := by kernel_rfl
def freeTo (rs : List RuleD) (k : Nat) : List Int := (List.range k).filterMap fun (j : Nat) => if rs[j]? = some noR then some (Int.ofNat j) else none
theorem freeTo_yes {rs : List RuleD} {k : Nat} (hk : k < rs.length) (h : rs[k] = noR) : freeTo rs (k + 1) = freeTo rs k ++ [(k : Int)] := by
  simp [freeTo, List.range_succ, hk, h]
theorem freeTo_no {rs : List RuleD} {k : Nat} (hk : k < rs.length) (h : ¬ rs[k] = noR) : freeTo rs (k + 1) = freeTo rs k := by
  simp [freeTo, List.range_succ, hk, h]
theorem freeTo_length (rs : List RuleD) (k : Nat) : (freeTo rs k).length ≤ k := by
  unfold freeTo
  exact Nat.le_trans (List.length_filterMap_le _ _) (by simp)
theorem isR_mk (r : RuleD) : isR ⟨r.w, r.m, r.n⟩ = isR r := rfl
end Go.Proofs.YtkbpchdncljlbaaGreatDoor
namespace Go.Proofs.YtkbpchdncljlbaaGreatDoor
open Go Go.RowKit Go.Proofs
set_option maxHeartbeats 400000
/-- The states and symbols of indices. -/
def partsOf (sy : Int) (zs : List Int) : List (Int × Int) := zs.map fun z => (z / sy, z % sy)
theorem freeTo_get (rs : List RuleD) (k j : Nat) (h : j < (freeTo rs k).length) : 0 ≤ (freeTo rs k)[j] ∧ (freeTo rs k)[j] < k := by
  have hm := List.getElem_mem h
  generalize (freeTo rs k)[j] = z at *
  simp only [freeTo, List.mem_filterMap, List.mem_range] at hm
  obtain ⟨i, hi, e⟩ := hm
  split at e
  · injection e with e; subst e; simp; omega
  · cases e
theorem partsOf_take (sy : Int) (zs : List Int) (k : Nat) (h : k < zs.length) : partsOf sy (zs.take (k + 1)) = partsOf sy (zs.take k) ++ [(zs[k] / sy, zs[k] % sy)] := by
  unfold partsOf; rw [List.take_succ_eq_append_getElem h, List.map_append]; rfl
end Go.Proofs.YtkbpchdncljlbaaGreatDoor
namespace Go.Proofs.YtkbpchdncljlbaaGreatDoor
open Go Go.RowKit Go.Proofs
set_option maxHeartbeats 400000
theorem partsOf_yes {sy : Int} {rs : List RuleD} {k : Nat} (hk : k < rs.length) (h : rs[k] = noR) : partsOf sy (freeTo rs (k + 1)) = partsOf sy (freeTo rs k) ++ [((k : Int) / sy, (k : Int) % sy)] := by
  rw [freeTo_yes hk h]; simp [partsOf]
end Go.Proofs.YtkbpchdncljlbaaGreatDoor
end
section
namespace Go.Proofs.YtkbpchdncljlbaaGreatDoor
open Go Go.RowKit Go.Proofs
set_option maxHeartbeats 400000
theorem intSize (w : World) : (Go.sizeOf 2).run Tryz.prog w = .ok 1 w := by kernel_rfl
theorem ivs_one (zs : List Int) : ∀ u ∈ ivs zs, u.oneCell' = true := by
  intro u hu
  simp only [ivs, List.mem_map] at hu
  obtain ⟨z, _, rfl⟩ := hu
  rfl
theorem ints_cells {w : World} {b off : Nat} {zs : List Int} (hc : ∀ j, (hj : j < zs.length) → w.cell? ⟨b, off + j, none⟩ = some (.int .i64 zs[j])) : ∀ j u, (ivs zs)[j]? = some u → w.cell? ⟨b, off + j, none⟩ = some u := by
  intro j u hj
  obtain ⟨hl, _⟩ := List.getElem?_eq_some_iff.1 hj
  rw [ivs_length] at hl
  rw [ivs_get zs j hl] at hj
  injection hj with hj
  subst hj
  exact hc j hl
theorem Clone_c (v : Value) (zs : List Int) (w : World) (h : Ints w v zs) (h0 : 0 < zs.length) (h1 : zs.length ≤ 1048576) :
    Calls Tryz.prog 85 #[v] w fun e w' => ∃ u, e = .returned u ∧ OwnInts w.heap.size w' u zs ∧ Ext w w' := by
  obtain ⟨i0, hi, hz0, hz1, hz2⟩ := info_parts intInfo
  obtain ⟨A, c, rfl, _, _⟩ := h.form
  obtain ⟨b, off, rfl, hc⟩ := h.at h0
  have hm : zs.length ≤ maxLen := by unfold maxLen; omega
  refine (Tryz.slices_Clone i0 _ 1 8 hi hz0 hz1 hz2 rfl (by omega) intSize b off zs.length c (ivs zs) w (by simp) hm (by omega) (ints_cells hc) (ivs_one zs)).mono ?_
  rintro e w' ⟨u, rfl, ho, _, hb⟩
  exact ⟨u, rfl, ho, hb⟩
/-- A node with a place, a state, and a symbol at a cell. -/
def segNode (x : List Int) (place state symbol : Int) : List Int :=
  if 0 ≤ place ∧ place ≤ (x.length : Int) - 3 then ((x.set 0 place).set 1 state).set (2 + place).toNat symbol else (x.set 0 place).set 1 state
theorem ivs_set (zs : List Int) (k : Nat) (a : Int) : ivs (zs.set k a) = (ivs zs).set k (.int .i64 a) := by simp [ivs, List.map_set]
@[simp] theorem segNode_length (x : List Int) (a b c : Int) : (segNode x a b c).length = x.length := by unfold segNode; split <;> simp
end Go.Proofs.YtkbpchdncljlbaaGreatDoor
namespace Go.Proofs.YtkbpchdncljlbaaGreatDoor
open Go Go.RowKit Go.Proofs
set_option maxHeartbeats 400000
theorem intSize' : (Tryz.prog.info? 2).map (·.size) = some 1 := by kernel_rfl
/-- Of c cells the first j hold the number. -/
def RepSt (w : World) (g c : Nat) (z : Int) (j : Nat) (wr : World) : Prop := Ext w wr ∧ ∃ cur : List Value, wr.heap[g]? = some (.cells cur.toArray 2 (0, 0)) ∧ cur.length = c ∧ cur.take j = List.replicate j (.int .i64 z)
theorem splice_take {cur : List Value} {j m : Nat} {u : Value} (h : cur.take j = List.replicate j u) (_ : j ≤ cur.length) (_ : j + m ≤ cur.length) : (splice cur j (List.replicate m u)).take (j + m) = List.replicate (j + m) u := by
  unfold splice
  rw [h, ← List.append_assoc, List.replicate_append_replicate, List.take_append_of_le_length (by simp), List.take_of_length_le (by simp)]
theorem mulHi {c : Nat} (h : c ≤ 11) : 1 * c / 18446744073709551616 = 0 := by omega
theorem mulLo {c : Nat} (h : c ≤ 11) : 1 * c % 18446744073709551616 = c := by omega
theorem mulC {c : Nat} (h : c ≤ 11) : c < 18446744073709551616 := by omega
end Go.Proofs.YtkbpchdncljlbaaGreatDoor
namespace Go.Proofs.YtkbpchdncljlbaaGreatDoor
open Go Go.RowKit Go.Proofs
set_option maxHeartbeats 400000
theorem rowInfo : (Tryz.prog.info? 48).map (fun i => (i.zero, i.size, i.bytes)) = some (some (.slice none 0 0), 1, 24) := by kernel_rfl
/-- A row is appended. -/
theorem OwnIntRows.snoc {base : Nat} {w w' : World} {v v' u : Value} {xss : List (List Int)} {ys : List Int} {vs : List Value} (h1 : w.ownsRow base 48 1 v xss.length vs)
    (h2 : ∀ i, (h : i < xss.length) → ∃ u, vs[i]? = some u ∧ OwnInts base w u xss[i])
    (h3 : ∀ (i j : Nat) (u u' : Value) (g : Nat), vs[i]? = some u → vs[j]? = some u' → u.ownBlock = some g → u'.ownBlock = some g → i = j)
    (hu : OwnInts base w u ys) (hne : ∀ (i : Nat) (u' : Value) (g : Nat), vs[i]? = some u' → u'.ownBlock = some g → u.ownBlock ≠ some g)
    (ho : w'.ownsRow base 48 1 v' (xss.length + 1) (vs ++ [u])) (hg : w.grownBy w' v.ownBlock) : OwnIntRows base w' v' (xss ++ [ys]) := by
  have hl := h1.1
  have keep : ∀ {x : Value} {zs : List Int}, OwnInts base w x zs → OwnInts base w' x zs := fun hx => World.ownsRow.kept hx hg (own_ne hx h1 (by decide))
  refine ⟨vs ++ [u], by simpa using ho, fun i hi => ?_, ?_⟩
  · by_cases h : i < xss.length
    · obtain ⟨x, e, hx⟩ := h2 i h
      exact ⟨x, by rw [List.getElem?_append_left (by omega), e], by rw [List.getElem_append_left h]; exact keep hx⟩
    · have hie : i = xss.length := by simp at hi; omega
      subst hie
      exact ⟨u, by rw [List.getElem?_append_right (by omega)]; simp [hl], by simpa using keep hu⟩
  · intro i j x y g hx hy hgx hgy
    have hlv : vs.length = xss.length := by omega
    by_cases hi : i < vs.length <;> by_cases hj : j < vs.length
    · rw [List.getElem?_append_left hi] at hx
      rw [List.getElem?_append_left hj] at hy
      exact h3 i j x y g hx hy hgx hgy
    · rw [List.getElem?_append_left hi] at hx
      rw [List.getElem?_append_right (by omega)] at hy
      have : u = y := by
        have := (List.getElem?_eq_some_iff.1 hy).1
        have e : j - vs.length = 0 := by simp at this; omega
        rw [e] at hy; simpa using hy
      subst this
      exact absurd hgy (hne i x g hx hgx)
    · rw [List.getElem?_append_right (by omega)] at hx
      rw [List.getElem?_append_left hj] at hy
      have : u = x := by
        have := (List.getElem?_eq_some_iff.1 hx).1
        have e : i - vs.length = 0 := by simp at this; omega
        rw [e] at hx; simpa using hx
      subst this
      exact absurd hgx (hne j y g hy hgy)
    · rw [List.getElem?_append_right (by omega)] at hx hy
      have a1 := (List.getElem?_eq_some_iff.1 hx).1
      have a2 := (List.getElem?_eq_some_iff.1 hy).1
      simp at a1 a2
      omega
/-- The rows of a list lie below the heap's end: a row that is made later lies in another block. -/
theorem rows_ne {base : Nat} {w w' : World} {u : Value} {xss : List (List Int)} {ys : List Int} {vs : List Value} {n : Nat} {v : Value} (h1 : w.ownsRow base 48 1 v n vs) (hn : n = xss.length)
    (h2 : ∀ i, (h : i < xss.length) → ∃ u, vs[i]? = some u ∧ OwnInts base w u xss[i]) (hu : OwnInts w.heap.size w' u ys) :
    ∀ (i : Nat) (u' : Value) (g : Nat), vs[i]? = some u' → u'.ownBlock = some g → u.ownBlock ≠ some g := by
  intro i u' g hi hg hg'
  have hl := h1.1
  have hil : i < xss.length := by have := (List.getElem?_eq_some_iff.1 hi).1; omega
  obtain ⟨x, e, hx⟩ := h2 i hil
  rw [hi] at e
  injection e with e
  subst e
  have a := (hx.lt g hg).2
  have b := (hu.lt g hg').1
  omega
/-- The nodes at which a machine halts. -/
def startsOf (n : Nat) (ps : List (Int × Int)) : List (List Int) := ps.map fun p => segNode (List.replicate (n + 2) (-1)) ((n : Int) / 2) p.1 p.2
theorem startsOf_take (n : Nat) (ps : List (Int × Int)) (k : Nat) (h : k < ps.length) : startsOf n (ps.take (k + 1)) = startsOf n (ps.take k) ++ [segNode (List.replicate (n + 2) (-1)) ((n : Int) / 2) ps[k].1 ps[k].2] := by
  unfold startsOf; rw [List.take_succ_eq_append_getElem h, List.map_append]; rfl
theorem OwnInts.base {b b' : Nat} {w : World} {v : Value} {zs : List Int} (h : OwnInts b w v zs) (hb : b' ≤ b) : OwnInts b' w v zs := ownsRow_base h hb
end Go.Proofs.YtkbpchdncljlbaaGreatDoor
end
