/- Contracts of the tests on lists of numbers, the program's and the reference's.
Contracts of the reference's test whether a node may begin, and of its copies.
Plain words on nodes of segments: when a node is valid, and the node before it. No program stands here.
A region that draws its order, in which one operation calls or makes memory and all others only read: one walk in the order of the text serves every order. No program stands here.
Contracts of the decimal forms of numbers and lists of numbers. The numbers are below a million, the lists have from 1 to 11 of them; the library's table of powers of ten is as its text lays it. -/
import Derived.Test.YtnflhpgkffiloaaDoorF03
import Derived.BigQuiet
import Derived.Deep.QuietTactic
import Derived.Test.YtnflhpgkffiloaaDoorF01
import Derived.Deep.DeepCutAuto
import Derived.Lib.ItoaNum
import Derived.Lib.ItoaMem
import Derived.Lib.ItoaLen
import Derived.Lib.Join
import Derived.WalkSmall
section
namespace Go.Proofs.YtnflhpgkffiloaaDoor
open Go Go.RowKit Go.Proofs
set_option maxHeartbeats 400000
theorem slicesEqual_c (w : World) (u v : Value) (xs ys : List Int) (ha : Ints w u xs) (hb : Ints w v ys) :
    Calls Tryd.prog 72 #[u, v] w fun e w' => e = .returned (.bool (lEq xs ys)) ∧ Ext w w' := by
  obtain ⟨A, ca, rfl, h1, h1'⟩ := ha.form
  obtain ⟨B, cb, rfl, h2, h2'⟩ := hb.form
  by_cases hl : xs.length = ys.length
  · have hl1 : ((xs.length : Int) != (ys.length : Int)) = false := by simp [hl]
    have hlle : xs.length ≤ ys.length := by omega
    have hlge : ys.length ≤ xs.length := by omega
    clear hl
    go_enter Tryd.func72, Tryd.ntmps72
    go_wp2
    go_loopw [13] (fun i wr => ∃ k : Nat, k ≤ xs.length ∧ i = .int .i64 k ∧ Ext w wr ∧ takeEq xs ys k) (fun i _ => xs.length - (intOf i).toNat)
    case atStart => exact ⟨0, Nat.zero_le _, rfl, Ext.refl _, rfl⟩
    case round =>
      obtain ⟨k, hk, rfl, hx, ht⟩ := hrel
      by_cases hlt : k < xs.length
      · obtain ⟨b, off, rfl, hc⟩ := ha.at hlt
        obtain ⟨b', off', rfl, hc'⟩ := hb.at (k := k) (by omega)
        have c0 := hx.cell (hc k hlt)
        have c0' := hx.cell (hc' k (by omega))
        clear hc hc' ha hb
        by_cases he : xs[k] = ys[k]
        · have H : (xs[k] != ys[k]) = false := by simp [he]
          have he' := Lib.hid he
          clear he
          go_wp2
          go_quiet (fail)
          go_wp2
          go_roundw
          case rel => exact ⟨k + 1, by omega, by go_num, hx.trans (Ext.drewN _ _), takeEq_step ht hlt (by omega) he'.out⟩
          case measure => simp [intOf]; omega
        · have H : (xs[k] != ys[k]) = true := by simp [he]
          go_wp2
          go_quiet (fail)
          go_wp2
          go_ret
          exact ⟨by simp [lEq_false (ne_of_get hlt (by omega) he)], hx.trans (Ext.drewN _ _)⟩
      · go_wp2
        go_ret
        exact ⟨by simp [lEq_true (eq_of_takeEq ht (by omega) (by omega))], hx⟩
  · have hl1 : ((xs.length : Int) != (ys.length : Int)) = true := by simp; omega
    go_enter Tryd.func72, Tryd.ntmps72
    go_wp2
    go_ret
    exact ⟨by simp [lEq_false (show ¬ xs = ys from fun h => hl (by rw [h]))], Ext.refl _⟩

def allTo (p : Int → Bool) (zs : List Int) (k : Nat) : Prop := (zs.take k).all p = true
theorem allTo_step {p : Int → Bool} {zs : List Int} {k : Nat} (h : allTo p zs k) (hk : k < zs.length) (he : p zs[k] = true) : allTo p zs (k + 1) := by
  unfold allTo at *
  rw [List.take_succ_eq_append_getElem hk, List.all_append, h]; simp [he]
theorem allTo_end {p : Int → Bool} {zs : List Int} {k : Nat} (h : allTo p zs k) (hk : zs.length ≤ k) : zs.all p = true := by
  unfold allTo at h
  rwa [List.take_of_length_le hk] at h
theorem all_no {p : Int → Bool} {zs : List Int} {k : Nat} (hk : k < zs.length) (he : p zs[k] = false) : zs.all p = false := by
  rw [List.all_eq_false]
  exact ⟨zs[k], List.getElem_mem hk, by simp [he]⟩
theorem allWithin_c (v : Value) (zs : List Int) (lo hi : Int) (w : World) (h : Ints w v zs) :
    Calls Tryd.prog 20 #[v, .int .i64 lo, .int .i64 hi] w fun e w' => e = .returned (.bool (zs.all fun z => inB z lo hi)) ∧ w = w' := by
  obtain ⟨A, c, rfl, h1, h2⟩ := h.form
  go_enter Tryd.func20, Tryd.ntmps20
  go_wp2
  go_loop [11] (fun i => ∃ k : Nat, k ≤ zs.length ∧ i = .int .i64 k ∧ allTo (fun z => inB z lo hi) zs k) (fun i => zs.length - (intOf i).toNat)
  case atStart => exact ⟨0, Nat.zero_le _, rfl, rfl⟩
  case round =>
    obtain ⟨k, hk, rfl, ht⟩ := hrel
    by_cases hlt : k < zs.length
    · obtain ⟨b, off, rfl, hc⟩ := h.at hlt
      have c0 := hc k hlt
      clear hc
      cases he : inB zs[k] lo hi
      · go_wp2_with (go_at_call 42; refine (within_c _ _ _ _).mono ?_; rintro e w' ⟨rfl, rfl⟩)
        go_ret
        exact ⟨by simp [all_no (p := fun z => inB z lo hi) hlt he], rfl⟩
      · go_wp2_with (go_at_call 42; refine (within_c _ _ _ _).mono ?_; rintro e w' ⟨rfl, rfl⟩)
        go_round
        case rel => exact ⟨k + 1, by omega, by go_num, allTo_step (p := fun z => inB z lo hi) ht hlt he⟩
        case measure => simp [intOf]; omega
    · go_wp2
      go_ret
      exact ⟨by simp [allTo_end ht (by omega)], rfl⟩
theorem Ints.drop {w : World} {b off c : Nat} {zs : List Int} (h : Ints w (.slice (some ⟨b, off, none⟩) zs.length c) zs) (k : Nat) (hk : k ≤ zs.length) : Ints w (.slice (some ⟨b, off + k, none⟩) (zs.length - k) (c - k)) (zs.drop k) := by
  obtain ⟨A, c', hv, h1, h2, h3, h4⟩ := h
  injection hv with e1 e2 e3
  subst e1 e3
  refine ⟨_, _, by rw [List.length_drop], by rw [List.length_drop]; omega, by omega, by simp, fun hn => ⟨b, off + k, rfl, fun j hj => ?_⟩⟩
  rw [List.length_drop] at hn
  obtain ⟨b', off', e, hc⟩ := h4 (by omega)
  injection e with e
  injection e with e5 e6 e7
  subst e5 e6
  simp only [ivs_length, List.length_drop] at hj
  rw [Nat.add_assoc, hc (k + j) (by simp; omega), ivs_get zs (k + j) (by omega), ivs_get (zs.drop k) j (by simp; omega)]
  simp
end Go.Proofs.YtnflhpgkffiloaaDoor
namespace Go.Proofs.YtnflhpgkffiloaaDoor
open Go Go.RowKit Go.Proofs
set_option maxHeartbeats 400000
end Go.Proofs.YtnflhpgkffiloaaDoor
namespace Go.Proofs.YtnflhpgkffiloaaDoor
open Go Go.RowKit Go.Proofs
/-- The node before a node, by a rule r of a state p and a symbol a. -/
def before (x : List Int) (p a : Int) (r : RuleD) : Option (List Int) :=
  if (0 ≤ x.getD 1 0 ∧ r.n ≠ x.getD 1 0) ∨ x.getD 0 0 - r.m < -1 ∨ (x.length : Int) - 2 < x.getD 0 0 - r.m then none
  else if x.getD 0 0 - r.m = -1 ∨ x.getD 0 0 - r.m = (x.length : Int) - 2 then (if 0 ≤ x.getD 1 0 then some (segNode x (x.getD 0 0 - r.m) (-1) 0) else none)
  else if x.getD (2 + (x.getD 0 0 - r.m)).toNat 0 = r.w ∨ x.getD (2 + (x.getD 0 0 - r.m)).toNat 0 = -1 then some (segNode x (x.getD 0 0 - r.m) p a) else none
end Go.Proofs.YtnflhpgkffiloaaDoor
end
section
namespace Go.Proofs.YtnflhpgkffiloaaDoor
open Go
section
variable {P : Program} {ops : Array Oper} {md : Region.Mode} {C : World → Prop} {Post : Value → World → Prop}
/-- What is asked of the one operation that stirs, by what it comes to. -/
def stirUpon (P : Program) (K : Value → World → Prop) : Result Next → Prop
  | .ok (.value v) w' => K v w'
  | .ok .skip w' => K undef w'
  | .ok (.enter f args) w' => Calls P f args w' (fun e w'' => ∃ v, e = .returned v ∧ K v w'')
  | _ => False
def stirAt (P : Program) (o : Oper) (a : Act) (w : World) (K : Value → World → Prop) : Prop := stirUpon P K ((execOp a.eval o).run P w)
theorem stirAt.wp {o : Oper} {a : Act} {w : World} {K : Value → World → Prop} {K' : Act → World → Prop} {Q : Exit → Act → World → Prop} (h : stirAt P o a w K) (hk : ∀ u w', K u w' → K' (a.put o.dst u) w') : o.wp P a w K' Q := by
  unfold stirAt at h
  unfold Oper.wp
  generalize (execOp a.eval o).run P w = r at *
  cases r with
  | ok n w' =>
    cases n <;> simp only [stirUpon] at h <;> simp only [Oper.upon]
    case value v => exact hk _ _ h
    case skip => exact hk _ _ h
    case enter f args => exact Calls.mono h fun e w'' ⟨v, he, hv⟩ => by subst he; exact hk _ _ hv
  | halt x w' => simp only [stirUpon] at h
theorem stirAt.some {o : Oper} {a : Act} {w : World} {K : Value → World → Prop} (h : stirAt P o a w K) : ∃ u w', K u w' := by
  unfold stirAt at h
  generalize (execOp a.eval o).run P w = r at *
  cases r with
  | ok n w' =>
    cases n <;> simp only [stirUpon] at h
    case value v => exact ⟨_, _, h⟩
    case skip => exact ⟨_, _, h⟩
    case enter f args =>
      obtain ⟨e, w'', fr, ⟨v, _, hv⟩, _⟩ := h []
      exact ⟨_, _, hv⟩
  | halt x w' => simp only [stirUpon] at h
end
end Go.Proofs.YtnflhpgkffiloaaDoor
namespace Go.Proofs.YtnflhpgkffiloaaDoor
open Go Go.RowKit
end Go.Proofs.YtnflhpgkffiloaaDoor
end
section
namespace Go.Proofs.YtnflhpgkffiloaaDoor
open Go Go.RowKit Go.Proofs
set_option maxHeartbeats 400000
def Tab (w : World) : Prop := Lib.TabIs Tryd.prog w "internal/strconv.uint64pow10" .u64 Lib.pow10Tab
theorem Tab.ext {w w' : World} (h : Tab w) (he : Ext w w') : Tab w' := by
  unfold Tab Lib.TabIs World.var? at *
  cases hg : Tryd.prog.globalNamed "internal/strconv.uint64pow10" with
  | none => rw [hg] at h; cases h
  | some g =>
    rw [hg] at h
    simp only [Option.bind_some] at h ⊢
    cases hb : w.heap[g]? with
    | none => rw [hb] at h; cases h
    | some o => rw [he.block hb]; rw [hb] at h; exact h
theorem ext_grow (w : World) (k : Nat) (os : Array Obj) : Ext w (Sort.grow (w.drewN k) os) :=
  ⟨rfl, rfl, rfl, by simp [Sort.grow], fun j hj => by simp [Sort.grow, Array.getElem?_append, hj]⟩
def itoaS (n : Int) : ByteArray := ⟨(Lib.itoa n).toArray⟩
theorem Decimal_c (n : Int) (w : World) (h0 : -1000000 ≤ n) (h1 : n ≤ 1000000) (hT : Tab w) :
    Calls Tryd.prog 25 #[.int .i64 n] w fun e w' => e = .returned (.string (itoaS n)) ∧ Ext w w' := by
  go_enter Tryd.func25, Tryd.ntmps25
  go_wp2_with fail
  refine (Tryd.strconv_FormatInt_10 n (by omega) (by omega) w hT).mono ?_
  rintro e w2 ⟨rfl, k, os, rfl⟩
  have hx := ext_grow w k os
  generalize Sort.grow (w.drewN k) os = w2 at *
  go_wp2
  go_ret
  exact ⟨rfl, hx⟩
end Go.Proofs.YtnflhpgkffiloaaDoor
end
