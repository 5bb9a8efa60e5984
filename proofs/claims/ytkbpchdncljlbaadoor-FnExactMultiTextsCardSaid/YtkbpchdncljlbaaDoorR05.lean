/- Plain facts on the decimal forms of lists of numbers: two lists of numbers with one text between commas are one list. No program stands here.
Contracts of the decimal forms of numbers and lists of numbers. The numbers are below a million, the lists have from 1 to 11 of them; the library's table of powers of ten is as its text lays it.
What a door seat's rows share: the listed tables of the library, and the world that the program's own text lays. -/
import Derived.Lib.ItoaNum
import Derived.Lib.ItoaMem
import Derived.Lib.ItoaLen
import Derived.Lib.Join
import Derived.Test.YtkbpchdncljlbaaDoorR04
import Derived.WalkSmall
import Derived.Test.YtkbpchdncljlbaaDoorR02
import Derived.Test.YtkbpchdncljlbaaDoorTie
import Derived.Lib.LaidTab
section
namespace Go.Proofs.YtkbpchdncljlbaaDoor
open Go
/-- A digit. -/
def isDig (c : UInt8) : Bool := 48 ≤ c && c ≤ 57
theorem dig_of (n : Nat) (h : n < 10) : isDig (UInt8.ofNat (48 + n)) = true := by
  match n, h with
  | 0, _ => decide
  | 1, _ => decide
  | 2, _ => decide
  | 3, _ => decide
  | 4, _ => decide
  | 5, _ => decide
  | 6, _ => decide
  | 7, _ => decide
  | 8, _ => decide
  | 9, _ => decide
theorem dig_inj (a b : Nat) (ha : a < 10) (hb : b < 10) (h : UInt8.ofNat (48 + a) = UInt8.ofNat (48 + b)) : a = b := by
  have := congrArg UInt8.toNat h
  simp only [UInt8.toNat_ofNat'] at this
  omega
theorem decDigits_dig (u : Nat) : ∀ c ∈ Lib.decDigits u, isDig c = true := by
  induction u using Nat.strongRecOn with
  | _ u ih =>
    intro c hc
    rw [Lib.decDigits] at hc
    split at hc
    · rename_i h; rw [List.mem_singleton] at hc; subst hc; exact dig_of u h
    · rename_i h
      rcases List.mem_append.1 hc with h1 | h1
      · exact ih (u / 10) (by omega) c h1
      · rw [List.mem_singleton] at h1; subst h1; exact dig_of _ (by omega)
theorem decDigits_ne (u : Nat) : Lib.decDigits u ≠ [] := by
  rw [Lib.decDigits]
  split <;> simp
theorem decDigits_inj : ∀ u v : Nat, Lib.decDigits u = Lib.decDigits v → u = v := by
  intro u
  induction u using Nat.strongRecOn with
  | _ u ih =>
    intro v h
    rw [Lib.decDigits, Lib.decDigits.eq_def v] at h
    split at h <;> split at h
    · rename_i h1 h2
      simp only [List.cons.injEq, and_true] at h
      exact dig_inj u v h1 h2 h
    · rename_i h1 h2
      have := congrArg List.length h
      have hn := decDigits_ne (v / 10)
      cases hh : Lib.decDigits (v / 10) with
      | nil => exact absurd hh hn
      | cons a b => rw [hh] at this; simp at this
    · rename_i h1 h2
      have := congrArg List.length h
      have hn := decDigits_ne (u / 10)
      cases hh : Lib.decDigits (u / 10) with
      | nil => exact absurd hh hn
      | cons a b => rw [hh] at this; simp at this
    · rename_i h1 h2
      have hl := List.append_inj' h rfl
      have e1 := ih (u / 10) (by omega) (v / 10) hl.1
      have e2 := dig_inj _ _ (by omega) (by omega) (List.head_eq_of_cons_eq hl.2)
      omega
theorem itoa_inj {m n : Int} (h : Lib.itoa m = Lib.itoa n) : m = n := by
  unfold Lib.itoa at h
  split at h <;> split at h
  · simp only [List.cons.injEq, true_and] at h
    have := decDigits_inj _ _ h
    omega
  · rename_i h1 h2
    have hd : isDig 45 = true := decDigits_dig n.toNat 45 (by rw [← h]; exact List.mem_cons_self)
    simp [isDig] at hd
  · rename_i h1 h2
    have hd : isDig 45 = true := decDigits_dig m.toNat 45 (by rw [h]; exact List.mem_cons_self)
    simp [isDig] at hd
  · have := decDigits_inj _ _ h
    omega
theorem itoa_no_comma (n : Int) : ∀ c ∈ Lib.itoa n, c ≠ 44 := by
  intro c hc
  unfold Lib.itoa at hc
  have key : ∀ u, ∀ c ∈ Lib.decDigits u, c ≠ 44 := by
    intro u c hc e
    subst e
    have := decDigits_dig u 44 hc
    simp [isDig] at this
  split at hc
  · rcases List.mem_cons.1 hc with h | h
    · subst h; decide
    · exact key _ c h
  · exact key _ c hc
/-- The text of a list of numbers. -/
def keyOfList (x : List Int) : List UInt8 := Lib.join (x.map Lib.itoa) [44]
theorem cut_eq {a b : List UInt8} {s t : List UInt8} (ha : ∀ c ∈ a, c ≠ 44) (hb : ∀ c ∈ b, c ≠ 44) (h : a ++ 44 :: s = b ++ 44 :: t) : a = b ∧ s = t := by
  induction a generalizing b with
  | nil =>
    cases b with
    | nil => simpa using h
    | cons c b => simp only [List.nil_append, List.cons_append, List.cons.injEq] at h; exact absurd h.1.symm (hb c List.mem_cons_self)
  | cons c a ih =>
    cases b with
    | nil => simp only [List.nil_append, List.cons_append, List.cons.injEq] at h; exact absurd h.1 (ha c List.mem_cons_self)
    | cons d b =>
      simp only [List.cons_append, List.cons.injEq] at h
      obtain ⟨rfl, h⟩ := h
      obtain ⟨e1, e2⟩ := ih (fun c hc => ha c (List.mem_cons_of_mem _ hc)) (fun c hc => hb c (List.mem_cons_of_mem _ hc)) h
      exact ⟨by rw [e1], e2⟩
theorem cut_ne {a b : List UInt8} {t : List UInt8} (ha : ∀ c ∈ a, c ≠ 44) (h : a = b ++ 44 :: t) : False := ha 44 (by rw [h]; simp) rfl
theorem keyTail_inj : ∀ (xs ys : List Int), Lib.joinTail [44] (xs.map Lib.itoa) = Lib.joinTail [44] (ys.map Lib.itoa) → xs = ys
  | [], [], _ => rfl
  | [], y :: ys, h => by simp [Lib.joinTail] at h
  | x :: xs, [], h => by simp [Lib.joinTail] at h
  | x :: xs, y :: ys, h => by
    simp only [Lib.joinTail, List.map_cons, List.flatten_cons, List.cons_append, List.nil_append, List.cons.injEq, true_and] at h
    have go : ∀ (l : List Int), ((l.map Lib.itoa).map ([44] ++ ·)).flatten = [] ∨ ∃ t, ((l.map Lib.itoa).map ([44] ++ ·)).flatten = 44 :: t := by
      intro l
      cases l with
      | nil => exact .inl rfl
      | cons a l => exact .inr ⟨_, by simp; rfl⟩
    simp only [List.cons_append, List.nil_append] at go
    rcases go xs with e1 | ⟨s, e1⟩ <;> rcases go ys with e2 | ⟨t, e2⟩
    · rw [e1, e2, List.append_nil, List.append_nil] at h
      have := itoa_inj h
      subst this
      have := keyTail_inj xs ys (by simp only [Lib.joinTail, List.cons_append, List.nil_append]; rw [e1, e2])
      rw [this]
    · rw [e1, e2, List.append_nil] at h
      exact (cut_ne (itoa_no_comma x) h).elim
    · rw [e1, e2, List.append_nil] at h
      exact (cut_ne (itoa_no_comma y) h.symm).elim
    · rw [e1, e2] at h
      obtain ⟨h1, h2⟩ := cut_eq (itoa_no_comma x) (itoa_no_comma y) h
      have := itoa_inj h1
      subst this
      have := keyTail_inj xs ys (by simp only [Lib.joinTail, List.cons_append, List.nil_append]; rw [e1, e2, h2])
      rw [this]
theorem keyOfList_inj {x y : List Int} (hx : x ≠ []) (hy : y ≠ []) (h : keyOfList x = keyOfList y) : x = y := by
  have : Lib.joinTail [44] (x.map Lib.itoa) = Lib.joinTail [44] (y.map Lib.itoa) := by
    cases x with
    | nil => exact absurd rfl hx
    | cons a x =>
      cases y with
      | nil => exact absurd rfl hy
      | cons b y =>
        unfold keyOfList at h
        simp only [List.map_cons, Lib.join_cons] at h
        simp only [Lib.joinTail, List.map_cons, List.flatten_cons, List.append_assoc] at h ⊢
        rw [h]
  exact keyTail_inj x y this
end Go.Proofs.YtkbpchdncljlbaaDoor
end
section
namespace Go.Proofs.YtkbpchdncljlbaaDoor
open Go Go.RowKit Go.Proofs
set_option maxHeartbeats 400000
def Tab (w : World) : Prop := Lib.TabIs Tryd.prog w "internal/strconv.uint64pow10" .u64 Lib.pow10Tab
theorem Tab.ext {w w' : World} (h : Tab w) (he : Ext w w') : Tab w' := by
  unfold Tab Lib.TabIs World.var? at *
  cases hg : Tryd.prog.globalNamed "internal/strconv.uint64pow10" with
  | none => rw [hg] at h; cases h
  | some g =>
    rw [hg] at h
    simp only [Option.bind_some] at h ⊢
    cases hb : w.heap[g]? with
    | none => rw [hb] at h; cases h
    | some o => rw [he.block hb]; rw [hb] at h; exact h
theorem ext_grow (w : World) (k : Nat) (os : Array Obj) : Ext w (Sort.grow (w.drewN k) os) :=
  ⟨rfl, rfl, rfl, by simp [Sort.grow], fun j hj => by simp [Sort.grow, Array.getElem?_append, hj]⟩
def itoaS (n : Int) : ByteArray := ⟨(Lib.itoa n).toArray⟩
theorem Decimal_c (n : Int) (w : World) (h0 : -1000000 ≤ n) (h1 : n ≤ 1000000) (hT : Tab w) :
    Calls Tryd.prog 62 #[.int .i64 n] w fun e w' => e = .returned (.string (itoaS n)) ∧ Ext w w' := by
  go_enter Tryd.func62, Tryd.ntmps62
  go_wp2_with fail
  refine (Tryd.strconv_FormatInt_10 n (by omega) (by omega) w hT).mono ?_
  rintro e w2 ⟨rfl, k, os, rfl⟩
  have hx := ext_grow w k os
  generalize Sort.grow (w.drewN k) os = w2 at *
  go_wp2
  go_ret
  exact ⟨rfl, hx⟩
theorem strInfo : (Tryd.prog.info? 9).map (fun i => (i.zero, i.size, i.bytes)) = some (some (.string ⟨#[]⟩), 1, 16) := by kernel_rfl
def svs (x : List Int) : List Value := x.map fun z => .string (itoaS z)
theorem svs_take (x : List Int) (k : Nat) (h : k < x.length) : svs (x.take (k + 1)) = svs (x.take k) ++ [.string (itoaS x[k])] := by
  unfold svs; rw [List.take_succ_eq_append_getElem h, List.map_append]; rfl
theorem svs_length (x : List Int) : (svs x).length = x.length := by simp [svs]
theorem lens_le (x : List Int) (hb : ∀ z ∈ x, -1000000 ≤ z ∧ z ≤ 1000000) : Lib.lens (x.map Lib.itoa) ≤ 21 * x.length := by
  induction x with
  | nil => simp [Lib.lens]
  | cons a x ih =>
    have h1 := Lib.itoa_length_le a (by have := hb a List.mem_cons_self; omega) (by have := hb a List.mem_cons_self; omega)
    have h2 := ih fun z hz => hb z (List.mem_cons_of_mem _ hz)
    simp only [Lib.lens, List.map_cons, List.sum_cons, List.length_cons] at *
    omega
theorem key_length (x : List Int) (hb : ∀ z ∈ x, -1000000 ≤ z ∧ z ≤ 1000000) : (keyOfList x).length ≤ 22 * x.length := by
  have h1 := lens_le x hb
  cases x with
  | nil => simp [keyOfList, Lib.join_nil]
  | cons a x =>
    unfold keyOfList
    rw [List.map_cons, Lib.join_length]
    simp only [List.map_cons, List.length_cons, List.length_nil, List.length_map] at *
    omega
end Go.Proofs.YtkbpchdncljlbaaDoor
end
section
namespace Go.Proofs.YtkbpchdncljlbaaDoor
open Go Go.RowKit Go.ChangeShapes Go.WideShapes Go.ChangeAt
theorem ownKn : ownKnob Tryd.prog.godebug = none := by kernel_rfl
theorem laidOutP : laidOutB Tryd.prog = true := by kernel_rfl
abbrev laid3 : List (String × DataW Unit) := Rows.fnExactMultiTextsRow.laid
theorem door_met (os : Os) (args : Array Value) : laidMetH Tryd.prog laid3 ((World.doorLaid Tryd.prog 24 os).forCall (fun _ _ => 0) ⟨#[], args, []⟩).memory :=
  laidMetH_of_parts3 (fuel := 8) (laidMet_of_run' 8 (by kernel_rfl) (by kernel_rfl)) (by kernel_rfl) (by kernel_rfl)
set_option maxRecDepth 100000 in
theorem tab_of_laid {W : World} (h : laidMetH Tryd.prog laid3 W) : Tab W := by
  rw [MakeChecks.laidMetH_plain _ _ _ (by kernel_rfl)] at h
  obtain ⟨ps, ⟨g0, t0, cs0, f0, p0, q0, hg0, ht0, hv0, hd0, ⟨g1, t1, cs1, f1, p1, q1, hg1, ht1, hv1, hd1, ⟨g2, t2, cs2, f2, p2, q2, hg2, ht2, hv2, hd2, _, _⟩, _⟩, _⟩, _, _⟩ := h
  obtain rfl := Option.some.inj ((show Tryd.prog.globalNamed "internal/strconv.uint64pow10" = some 0 by kernel_rfl).symm.trans hg2)
  obtain rfl := Option.some.inj ((show (Tryd.prog.globals[0]?).map (·.type) = some 132 by kernel_rfl).symm.trans ht2)
  show World.var? Tryd.prog W "internal/strconv.uint64pow10" = _
  rw [hv2, ← Lib.cells_of_tab Tryd.underlying132 Tryd.underlying123 (by kernel_rfl) (by kernel_rfl) (zs := Lib.pow10Tab) hd2]
end Go.Proofs.YtkbpchdncljlbaaDoor
end
