/- Plain facts on the decimal forms of lists of numbers: two lists of numbers with one text between commas are one list. No program stands here.
Contracts of the decimal forms of numbers and lists of numbers. The numbers are below a million, the lists have from 1 to 11 of them; the library's table of powers of ten is as its text lays it.
Plain words: the text of a machine, and that its parts are found again. No program stands here. -/
import Derived.Lib.ItoaNum
import Derived.Lib.ItoaMem
import Derived.Lib.ItoaLen
import Derived.Lib.Join
import Derived.Test.YtkbpchdncljlbaaGreatDoorV04
import Derived.WalkSmall
import Derived.Test.YtkbpchdncljlbaaGreatDoorV03
import Derived.Lib.Split
import Derived.Lib.SplitLaws
import Derived.Lib.CountLaws
import Derived.Lib.CutLaws
import Derived.Lib.IndexAny
import Derived.Lib.ParseIntBTie
import Derived.Lib.AtoiTie
import Derived.Lib.AtoiAllCases
section
namespace Go.Proofs.YtkbpchdncljlbaaGreatDoor
open Go
/-- A digit. -/
def isDig (c : UInt8) : Bool := 48 ≤ c && c ≤ 57
theorem dig_of (n : Nat) (h : n < 10) : isDig (UInt8.ofNat (48 + n)) = true := by
  match n, h with
  | 0, _ => decide
  | 1, _ => decide
  | 2, _ => decide
  | 3, _ => decide
  | 4, _ => decide
  | 5, _ => decide
  | 6, _ => decide
  | 7, _ => decide
  | 8, _ => decide
  | 9, _ => decide
theorem dig_inj (a b : Nat) (ha : a < 10) (hb : b < 10) (h : UInt8.ofNat (48 + a) = UInt8.ofNat (48 + b)) : a = b := by
  have := congrArg UInt8.toNat h
  simp only [UInt8.toNat_ofNat'] at this
  omega
theorem decDigits_dig (u : Nat) : ∀ c ∈ Lib.decDigits u, isDig c = true := by
  induction u using Nat.strongRecOn with
  | _ u ih =>
    intro c hc
    rw [Lib.decDigits] at hc
    split at hc
    · rename_i h; rw [List.mem_singleton] at hc; subst hc; exact dig_of u h
    · rename_i h
      rcases List.mem_append.1 hc with h1 | h1
      · exact ih (u / 10) (by omega) c h1
      · rw [List.mem_singleton] at h1; subst h1; exact dig_of _ (by omega)
theorem decDigits_ne (u : Nat) : Lib.decDigits u ≠ [] := by
  rw [Lib.decDigits]
  split <;> simp
theorem decDigits_inj : ∀ u v : Nat, Lib.decDigits u = Lib.decDigits v → u = v := by
  intro u
  induction u using Nat.strongRecOn with
  | _ u ih =>
    intro v h
    rw [Lib.decDigits, Lib.decDigits.eq_def v] at h
    split at h <;> split at h
    · rename_i h1 h2
      simp only [List.cons.injEq, and_true] at h
      exact dig_inj u v h1 h2 h
    · rename_i h1 h2
      have := congrArg List.length h
      have hn := decDigits_ne (v / 10)
      cases hh : Lib.decDigits (v / 10) with
      | nil => exact absurd hh hn
      | cons a b => rw [hh] at this; simp at this
    · rename_i h1 h2
      have := congrArg List.length h
      have hn := decDigits_ne (u / 10)
      cases hh : Lib.decDigits (u / 10) with
      | nil => exact absurd hh hn
      | cons a b => rw [hh] at this; simp at this
    · rename_i h1 h2
      have hl := List.append_inj' h rfl
      have e1 := ih (u / 10) (by omega) (v / 10) hl.1
      have e2 := dig_inj _ _ (by omega) (by omega) (List.head_eq_of_cons_eq hl.2)
      omega
theorem itoa_inj {m n : Int} (h : Lib.itoa m = Lib.itoa n) : m = n := by
  unfold Lib.itoa at h
  split at h <;> split at h
  · simp only [List.cons.injEq, true_and] at h
    have := decDigits_inj _ _ h
    omega
  · rename_i h1 h2
    have hd : isDig 45 = true := decDigits_dig n.toNat 45 (by rw [← h]; exact List.mem_cons_self)
    simp [isDig] at hd
  · rename_i h1 h2
    have hd : isDig 45 = true := decDigits_dig m.toNat 45 (by rw [h]; exact List.mem_cons_self)
    simp [isDig] at hd
  · have := decDigits_inj _ _ h
    omega
theorem itoa_no_comma (n : Int) : ∀ c ∈ Lib.itoa n, c ≠ 44 := by
  intro c hc
  unfold Lib.itoa at hc
  have key : ∀ u, ∀ c ∈ Lib.decDigits u, c ≠ 44 := by
    intro u c hc e
    subst e
    have := decDigits_dig u 44 hc
    simp [isDig] at this
  split at hc
  · rcases List.mem_cons.1 hc with h | h
    · subst h; decide
    · exact key _ c h
  · exact key _ c hc
/-- The text of a list of numbers. -/
def keyOfList (x : List Int) : List UInt8 := Lib.join (x.map Lib.itoa) [44]
theorem cut_eq {a b : List UInt8} {s t : List UInt8} (ha : ∀ c ∈ a, c ≠ 44) (hb : ∀ c ∈ b, c ≠ 44) (h : a ++ 44 :: s = b ++ 44 :: t) : a = b ∧ s = t := by
  induction a generalizing b with
  | nil =>
    cases b with
    | nil => simpa using h
    | cons c b => simp only [List.nil_append, List.cons_append, List.cons.injEq] at h; exact absurd h.1.symm (hb c List.mem_cons_self)
  | cons c a ih =>
    cases b with
    | nil => simp only [List.nil_append, List.cons_append, List.cons.injEq] at h; exact absurd h.1 (ha c List.mem_cons_self)
    | cons d b =>
      simp only [List.cons_append, List.cons.injEq] at h
      obtain ⟨rfl, h⟩ := h
      obtain ⟨e1, e2⟩ := ih (fun c hc => ha c (List.mem_cons_of_mem _ hc)) (fun c hc => hb c (List.mem_cons_of_mem _ hc)) h
      exact ⟨by rw [e1], e2⟩
theorem cut_ne {a b : List UInt8} {t : List UInt8} (ha : ∀ c ∈ a, c ≠ 44) (h : a = b ++ 44 :: t) : False := ha 44 (by rw [h]; simp) rfl
theorem keyTail_inj : ∀ (xs ys : List Int), Lib.joinTail [44] (xs.map Lib.itoa) = Lib.joinTail [44] (ys.map Lib.itoa) → xs = ys
  | [], [], _ => rfl
  | [], y :: ys, h => by simp [Lib.joinTail] at h
  | x :: xs, [], h => by simp [Lib.joinTail] at h
  | x :: xs, y :: ys, h => by
    simp only [Lib.joinTail, List.map_cons, List.flatten_cons, List.cons_append, List.nil_append, List.cons.injEq, true_and] at h
    have go : ∀ (l : List Int), ((l.map Lib.itoa).map ([44] ++ ·)).flatten = [] ∨ ∃ t, ((l.map Lib.itoa).map ([44] ++ ·)).flatten = 44 :: t := by
      intro l
      cases l with
      | nil => exact .inl rfl
      | cons a l => exact .inr ⟨_, by simp; rfl⟩
    simp only [List.cons_append, List.nil_append] at go
    rcases go xs with e1 | ⟨s, e1⟩ <;> rcases go ys with e2 | ⟨t, e2⟩
    · rw [e1, e2, List.append_nil, List.append_nil] at h
      have := itoa_inj h
      subst this
      have := keyTail_inj xs ys (by simp only [Lib.joinTail, List.cons_append, List.nil_append]; rw [e1, e2])
      rw [this]
    · rw [e1, e2, List.append_nil] at h
      exact (cut_ne (itoa_no_comma x) h).elim
    · rw [e1, e2, List.append_nil] at h
      exact (cut_ne (itoa_no_comma y) h.symm).elim
    · rw [e1, e2] at h
      obtain ⟨h1, h2⟩ := cut_eq (itoa_no_comma x) (itoa_no_comma y) h
      have := itoa_inj h1
      subst this
      have := keyTail_inj xs ys (by simp only [Lib.joinTail, List.cons_append, List.nil_append]; rw [e1, e2, h2])
      rw [this]
theorem keyOfList_inj {x y : List Int} (hx : x ≠ []) (hy : y ≠ []) (h : keyOfList x = keyOfList y) : x = y := by
  have : Lib.joinTail [44] (x.map Lib.itoa) = Lib.joinTail [44] (y.map Lib.itoa) := by
    cases x with
    | nil => exact absurd rfl hx
    | cons a x =>
      cases y with
      | nil => exact absurd rfl hy
      | cons b y =>
        unfold keyOfList at h
        simp only [List.map_cons, Lib.join_cons] at h
        simp only [Lib.joinTail, List.map_cons, List.flatten_cons, List.append_assoc] at h ⊢
        rw [h]
  exact keyTail_inj x y this
end Go.Proofs.YtkbpchdncljlbaaGreatDoor
end
section
namespace Go.Proofs.YtkbpchdncljlbaaGreatDoor
open Go Go.RowKit Go.Proofs
set_option maxHeartbeats 400000
def Tab (w : World) : Prop := Lib.TabIs Tryz.prog w "internal/strconv.uint64pow10" .u64 Lib.pow10Tab
theorem Tab.ext {w w' : World} (h : Tab w) (he : Ext w w') : Tab w' := by
  unfold Tab Lib.TabIs World.var? at *
  cases hg : Tryz.prog.globalNamed "internal/strconv.uint64pow10" with
  | none => rw [hg] at h; cases h
  | some g =>
    rw [hg] at h
    simp only [Option.bind_some] at h ⊢
    cases hb : w.heap[g]? with
    | none => rw [hb] at h; cases h
    | some o => rw [he.block hb]; rw [hb] at h; exact h
theorem ext_grow (w : World) (k : Nat) (os : Array Obj) : Ext w (Sort.grow (w.drewN k) os) :=
  ⟨rfl, rfl, rfl, by simp [Sort.grow], fun j hj => by simp [Sort.grow, Array.getElem?_append, hj]⟩
def itoaS (n : Int) : ByteArray := ⟨(Lib.itoa n).toArray⟩
theorem Decimal_c (n : Int) (w : World) (h0 : -1000000 ≤ n) (h1 : n ≤ 1000000) (hT : Tab w) :
    Calls Tryz.prog 30 #[.int .i64 n] w fun e w' => e = .returned (.string (itoaS n)) ∧ Ext w w' := by
  go_enter Tryz.func30, Tryz.ntmps30
  go_wp2_with fail
  refine (Tryz.strconv_FormatInt_10 n (by omega) (by omega) w hT).mono ?_
  rintro e w2 ⟨rfl, k, os, rfl⟩
  have hx := ext_grow w k os
  generalize Sort.grow (w.drewN k) os = w2 at *
  go_wp2
  go_ret
  exact ⟨rfl, hx⟩
theorem strInfo : (Tryz.prog.info? 9).map (fun i => (i.zero, i.size, i.bytes)) = some (some (.string ⟨#[]⟩), 1, 16) := by kernel_rfl
def svs (x : List Int) : List Value := x.map fun z => .string (itoaS z)
theorem svs_take (x : List Int) (k : Nat) (h : k < x.length) : svs (x.take (k + 1)) = svs (x.take k) ++ [.string (itoaS x[k])] := by
  unfold svs; rw [List.take_succ_eq_append_getElem h, List.map_append]; rfl
theorem svs_length (x : List Int) : (svs x).length = x.length := by simp [svs]
theorem lens_le (x : List Int) (hb : ∀ z ∈ x, -1000000 ≤ z ∧ z ≤ 1000000) : Lib.lens (x.map Lib.itoa) ≤ 21 * x.length := by
  induction x with
  | nil => simp [Lib.lens]
  | cons a x ih =>
    have h1 := Lib.itoa_length_le a (by have := hb a List.mem_cons_self; omega) (by have := hb a List.mem_cons_self; omega)
    have h2 := ih fun z hz => hb z (List.mem_cons_of_mem _ hz)
    simp only [Lib.lens, List.map_cons, List.sum_cons, List.length_cons] at *
    omega
theorem key_length (x : List Int) (hb : ∀ z ∈ x, -1000000 ≤ z ∧ z ≤ 1000000) : (keyOfList x).length ≤ 22 * x.length := by
  have h1 := lens_le x hb
  cases x with
  | nil => simp [keyOfList, Lib.join_nil]
  | cons a x =>
    unfold keyOfList
    rw [List.map_cons, Lib.join_length]
    simp only [List.map_cons, List.length_cons, List.length_nil, List.length_map] at *
    omega
theorem decimals_c (v : Value) (x : List Int) (w : World) (h : Ints w v x) (h0 : 1 ≤ x.length) (h1 : x.length ≤ 11) (hb : ∀ z ∈ x, -1000000 ≤ z ∧ z ≤ 1000000) (hT : Tab w) :
    Calls Tryz.prog 28 #[v, .string ⟨#[44]⟩] w fun e w' => e = .returned (.string ⟨(keyOfList x).toArray⟩) ∧ Ext w w' := by
  obtain ⟨A, c, rfl, h2, h2'⟩ := h.form
  obtain ⟨i0, hi, hz0, hz1, hz2⟩ := info_parts strInfo
  have HB := Lib.hid hb
  have hkl := key_length x hb
  clear hb
  go_enter Tryz.func28, Tryz.ntmps28
  go_wp2
  have hown0 : (w.alloc (.cells #[] 9)).ownsRow w.heap.size 9 1 (.slice (some ⟨w.heap.size, 0, none⟩) 0 0) 0 [] :=
    World.ownsRow_made (base := w.heap.size) (e := 9) (size := 1) w #[] 0 (by simp) (by unfold maxLen; omega) (by simp)
  have hX0 := Ext.alloc w (.cells #[] 9)
  generalize w.alloc (.cells #[] 9) = W at *
  go_loopw [5, 11] (fun l i wr => ∃ k : Nat, k ≤ x.length ∧ i = .int .i64 k ∧ Ext w wr ∧ wr.ownsRow w.heap.size 9 1 l k (svs (x.take k))) (fun _ i _ => x.length - (intOf i).toNat)
  case atStart => exact ⟨0, Nat.zero_le _, rfl, hX0, hown0⟩
  case round =>
    clear hown0 hX0
    obtain ⟨k, hk, rfl, hX, ho⟩ := hrel
    obtain ⟨Al, cl, rfl, h3, h3', _⟩ := (ownsRow_row ho).form
    by_cases hlt : k < x.length
    · obtain ⟨b, off, rfl, hc⟩ := h.at hlt
      have c0 := hX.cell (hc k hlt)
      obtain ⟨z1, z2⟩ := HB.out x[k] (List.getElem_mem hlt)
      have HS := Lib.hid (svs_take x k hlt)
      clear hc
      go_wp2_with fail
      refine (Decimal_c _ _ z1 z2 (hT.ext hX)).mono ?_
      rintro e w2 ⟨rfl, hx2⟩
      have ho2 := ownsRow_ext ho hx2
      have hX2 := hX.trans hx2
      have hsz := hX2.size
      clear c0
      go_wp2_with (at_builtin; refine wpList_append_own _ rfl _ _ 59 rfl w.heap.size 9 i0 (.string ⟨#[]⟩) 1 16 Tryz.underlying59 hi hz0 hz1 hz2 rfl (by decide) _ _ _ rfl (ho2.alloc _) ⟨w2.heap.size, 0, none⟩ 1 1 [.string (itoaS x[k])] rfl rfl ?c1 ?c2 ?c3 ?c4 ?c5 ?_)
      case c1 =>
        intro j u hj
        match j, hj with
        | 0, hj => simp at hj; subst hj; simp [Addr.add]
      case c2 => intro u hu; simp at hu; subst hu; rfl
      case c3 => unfold maxLen; omega
      case c4 => omega
      case c5 => simp; omega
      intro v' w3 hown' hgrow _
      have hX3 : Ext w w3 := hX2.grown (grownBy_trans (World.grownBy_alloc _ _ _) hgrow) (fun b hb => (ho2.lt b hb).1)
      have R : w3.ownsRow w.heap.size 9 1 v' (k + 1) (svs (x.take (k + 1))) := by rw [HS.out]; exact hown'
      clear hown' hgrow ho2 ho
      go_wp2
      go_roundw
      case rel => exact ⟨k + 1, by omega, by go_num, hX3, R⟩
      case measure => simp [intOf]; omega
    · obtain rfl : k = x.length := by omega
      have HT := Lib.hid (show x.take x.length = x from List.take_of_length_le (Nat.le_refl _))
      rw [HT.out] at ho
      obtain ⟨g, rfl, hbg, hgl⟩ := own_at ho (by omega)
      have hcells : ∀ (j : Nat) s, (x.map itoaS)[j]? = some s → wr.cell? ⟨g, 0 + j, none⟩ = some (.string s) := by
        intro j s hj
        have hjl : j < x.length := by have := (List.getElem?_eq_some_iff.1 hj).1; simpa using this
        rw [Nat.zero_add, ho.cellAt j (by omega)]
        simp only [svs, List.getElem?_map] at hj ⊢
        rw [List.getElem?_eq_getElem hjl] at hj ⊢
        simp only [Option.map_some, Option.some.injEq] at hj ⊢
        rw [hj]
      have ej : (x.map itoaS).map (·.data.toList) = x.map Lib.itoa := by simp [itoaS]
      have eS : (⟨#[44]⟩ : ByteArray).data.toList = [44] := rfl
      have hlen : (Lib.join ((x.map itoaS).map (·.data.toList)) (⟨#[44]⟩ : ByteArray).data.toList).length ≤ 140737488355328 := by
        rw [ej, eS]; show (keyOfList x).length ≤ _; omega
      have eK : Lib.join ((x.map itoaS).map (·.data.toList)) (⟨#[44]⟩ : ByteArray).data.toList = keyOfList x := by rw [ej, eS]; rfl
      have hj := Tryz.strings_Join g 0 cl (x.map itoaS) ⟨#[44]⟩ wr hcells hgl (by simp; omega) (by simpa using h3) hlen
      rw [eK, List.length_map] at hj
      have HJ := Lib.hid hj
      clear hcells ej eS hlen eK hj ho
      go_wp2_with fail
      refine HJ.out.mono ?_
      rintro e w2 ⟨rfl, hb2⟩
      have hX2 : Ext w w2 := hX.trans hb2
      clear hb2
      go_wp2
      go_ret
      exact ⟨rfl, hX2⟩
end Go.Proofs.YtkbpchdncljlbaaGreatDoor
end
section
set_option linter.unusedSimpArgs false
set_option linter.unusedVariables false
namespace Go.Proofs.YtkbpchdncljlbaaGreatDoor
open Go Go.RowKit Go.Proofs
theorem idx_one {c : UInt8} : ∀ {p : List UInt8} (r : List UInt8), c ∉ p → Lib.index (p ++ c :: r) [c] = p.length
  | [], r, _ => by simp [Lib.index]
  | b :: p, r, h => by
    have hb : ¬ b = c := fun e => h (by rw [e]; exact List.mem_cons_self)
    have ih := idx_one (p := p) r (fun hc => h (List.mem_cons_of_mem _ hc))
    have h1 : [c].isPrefixOf (b :: (p ++ c :: r)) = false := by
      show (c == b && _) = false
      rw [beq_eq_false_iff_ne.2 (Ne.symm hb)]
      rfl
    rw [List.cons_append, Lib.index, h1, ih]
    have : ((p.length : Int) == -1) = false := by rw [beq_eq_false_iff_ne]; omega
    simp [this]
theorem idx_none {c : UInt8} : ∀ {p : List UInt8}, c ∉ p → Lib.index p [c] = -1
  | [], _ => rfl
  | b :: p, h => by
    have hb : ¬ b = c := fun e => h (by rw [e]; exact List.mem_cons_self)
    have ih := idx_none (p := p) (fun hc => h (List.mem_cons_of_mem _ hc))
    have h1 : [c].isPrefixOf (b :: p) = false := by
      show (c == b && _) = false
      rw [beq_eq_false_iff_ne.2 (Ne.symm hb)]
      rfl
    rw [Lib.index, h1, ih]
    rfl
theorem split_joinK {c : UInt8} : ∀ (ps : List (List UInt8)) (p : List UInt8), (∀ q ∈ p :: ps, c ∉ q) → Lib.splitK [c] 0 (Lib.count (Lib.join (p :: ps) [c]) [c]) (Lib.join (p :: ps) [c]) = p :: ps ∧ Lib.count (Lib.join (p :: ps) [c]) [c] = ps.length
  | [], p, h => by
    have hp := idx_none (h p List.mem_cons_self)
    rw [Lib.join_one, Lib.count_miss hp]
    exact ⟨rfl, rfl⟩
  | q :: ps, p, h => by
    have hp : c ∉ p := h p List.mem_cons_self
    obtain ⟨ih1, ih2⟩ := split_joinK ps q (fun x hx => h x (List.mem_cons_of_mem _ hx))
    have e : Lib.join (p :: q :: ps) [c] = p ++ c :: Lib.join (q :: ps) [c] := by
      rw [Lib.join_cons, Lib.join_cons]
      simp [Lib.joinTail]
    have hi := idx_one (Lib.join (q :: ps) [c]) hp
    have hd : (p ++ c :: Lib.join (q :: ps) [c]).drop (p.length + [c].length) = Lib.join (q :: ps) [c] := by
      rw [show p.length + [c].length = p.length + 1 from rfl, List.drop_append, List.drop_of_length_le (by omega), show p.length + 1 - p.length = 1 by omega]
      rfl
    have hc : Lib.count (p ++ c :: Lib.join (q :: ps) [c]) [c] = ps.length + 1 := by rw [Lib.count_hit (by simp) hi, hd, ih2]; omega
    rw [e, hc]
    refine ⟨?_, rfl⟩
    rw [ih2] at ih1
    rw [Lib.splitK, hi]
    have : ((p.length : Int) == -1) = false := by rw [beq_eq_false_iff_ne]; omega
    rw [if_neg (by rw [this]; simp), Int.toNat_natCast, hd, ih1]
    simp
abbrev bsS (l : List UInt8) : ByteArray := ⟨l.toArray⟩
theorem split_join {c : UInt8} (p : List UInt8) (ps : List (List UInt8)) (h : ∀ q ∈ p :: ps, c ∉ q) : Lib.splitB ⟨#[c]⟩ 0 (Lib.countB (bsS (Lib.join (p :: ps) [c])) ⟨#[c]⟩) (bsS (Lib.join (p :: ps) [c])) = (p :: ps).map bsS ∧ Lib.countB (bsS (Lib.join (p :: ps) [c])) ⟨#[c]⟩ = ps.length := by
  obtain ⟨h1, h2⟩ := split_joinK ps p h
  have hd := Lib.splitB_data ⟨#[c]⟩ 0 (Lib.countB (bsS (Lib.join (p :: ps) [c])) ⟨#[c]⟩) (bsS (Lib.join (p :: ps) [c]))
  refine ⟨?_, h2⟩
  have e : Lib.splitK [c] 0 (Lib.countB (bsS (Lib.join (p :: ps) [c])) ⟨#[c]⟩) (Lib.join (p :: ps) [c]) = p :: ps := h1
  have back : ∀ (l : List ByteArray) (xs : List (List UInt8)), l.map (·.data.toList) = xs → l = xs.map bsS := by
    intro l xs hl
    subst hl
    rw [List.map_map]
    conv => lhs; rw [← List.map_id l]
    rfl
  exact back _ _ (hd.trans e)
/-! Numbers. -/
theorem decFrom_snoc {b : UInt8} {d : Nat} (hb : Lib.digitVal b = some d) : ∀ (l : List UInt8) (a n : Nat), Lib.decFrom a l = some n → Lib.decFrom a (l ++ [b]) = some (n * 10 + d)
  | [], a, n, h => by
    have : a = n := by simpa [Lib.decFrom] using h
    subst this
    simp [Lib.decFrom, hb]
  | x :: l, a, n, h => by
    rw [List.cons_append, Lib.decFrom]
    rw [Lib.decFrom] at h
    cases hx : Lib.digitVal x with
    | none => rw [hx] at h; cases h
    | some y =>
      rw [hx] at h
      exact decFrom_snoc hb l _ _ h
theorem dig_val (n : Nat) (h : n < 10) : Lib.digitVal (UInt8.ofNat (48 + n)) = some n := by
  match n, h with
  | 0, _ => decide
  | 1, _ => decide
  | 2, _ => decide
  | 3, _ => decide
  | 4, _ => decide
  | 5, _ => decide
  | 6, _ => decide
  | 7, _ => decide
  | 8, _ => decide
  | 9, _ => decide
theorem decFrom_digits (u : Nat) : Lib.decFrom 0 (Lib.decDigits u) = some u := by
  induction u using Nat.strongRecOn with
  | _ u ih =>
    rw [Lib.decDigits]
    split
    · rename_i h
      show (match Lib.digitVal (UInt8.ofNat (48 + u)) with | some d => Lib.decFrom (0 * 10 + d) [] | none => none) = some u
      rw [dig_val u h]
      show some (0 * 10 + u) = some u
      congr 1
      omega
    · rename_i h
      have := decFrom_snoc (dig_val (u % 10) (by omega)) _ _ _ (ih (u / 10) (by omega))
      rw [this]
      congr 1
      omega
theorem digits_len (u : Nat) (h : u ≤ 1000000) : (Lib.decDigits u).length ≤ 18 := by
  rw [Lib.decDigits_length]
  by_cases h0 : Lib.nDigits u ≤ 18
  · exact h0
  · exfalso
    have key : ∀ k u : Nat, u < 10 ^ (k + 1) → Lib.nDigits u ≤ k + 1 := by
      intro k
      induction k with
      | zero => intro u hu; rw [Lib.nDigits_small (by simpa using hu)]; exact Nat.le_refl _
      | succ k ih =>
        intro u hu
        by_cases hs : u < 10
        · rw [Lib.nDigits_small hs]; omega
        · rw [Lib.nDigits_big hs]
          have := ih (u / 10) (by rw [Nat.pow_succ] at hu; omega)
          omega
    have := key 17 u (by omega)
    omega
/-- The number that a decimal form spells. -/
theorem parse_itoa {n : Int} (h0 : 0 ≤ n) (h1 : n ≤ 1000000) : Lib.parseIntB 64 (Lib.itoa n) = .ok n := by
  obtain ⟨u, rfl⟩ : ∃ u : Nat, n = (u : Int) := ⟨n.toNat, by omega⟩
  have hi : Lib.itoa (u : Int) = Lib.decDigits u := by
    unfold Lib.itoa
    rw [if_neg (by omega), Int.toNat_natCast]
  rw [hi, Lib.parseIntB_64]
  have hne := decDigits_ne u
  have hdig := decDigits_dig u
  have hlen := digits_len u (by omega)
  have hval := decFrom_digits u
  cases hl : Lib.decDigits u with
  | nil => exact absurd hl hne
  | cons c r =>
    rw [hl] at hdig hlen hval
    have hc := hdig c List.mem_cons_self
    have hc2 : 48 ≤ c.toNat ∧ c.toNat ≤ 57 := by
      simp only [isDig, Bool.and_eq_true, decide_eq_true_eq, UInt8.le_iff_toNat_le] at hc
      simpa using hc
    rw [Lib.atoiAll_plain c r (by omega) (by omega), Lib.signless_short hlen]
    have : Lib.decNat (c :: r) = some u := by simp [Lib.decNat, hval]
    rw [this]
    rfl
/-! The text of a machine. -/
/-- The text of a rule. -/
def ruleT (r : RuleD) : List UInt8 := if r = noR then [45, 45, 45] else Lib.itoa r.w ++ (if r.m < 0 then 76 else 82) :: Lib.itoa r.n
def rowT (rs : List RuleD) : List UInt8 := Lib.join (rs.map ruleT) [44]
/-- The rules of each state. -/
def rowsM (m : MachD) : List (List RuleD) := (List.range m.st.toNat).map fun i => (m.rules.drop (i * m.sy.toNat)).take m.sy.toNat
def machT (m : MachD) : List UInt8 := Lib.join ((rowsM m).map rowT) [59]
/-- The bytes of a rule's text. -/
def inRule (c : UInt8) : Bool := isDig c || c == 45 || c == 76 || c == 82
theorem itoa_dig {n : Int} (h : 0 ≤ n) : ∀ c ∈ Lib.itoa n, isDig c = true := by
  intro c hc
  unfold Lib.itoa at hc
  rw [if_neg (by omega)] at hc
  exact decDigits_dig _ c hc
theorem ruleT_bytes {sy st : Int} {r : RuleD} (h : ruleOk sy st r = true) : ∀ c ∈ ruleT r, inRule c = true := by
  intro c hc
  unfold ruleT at hc
  by_cases hr : r = noR
  · rw [if_pos hr] at hc
    simp only [List.mem_cons, List.not_mem_nil, or_false, or_self] at hc
    subst hc; decide
  · rw [if_neg hr] at hc
    simp only [ruleOk, decide_eq_false hr, Bool.false_or, Bool.and_eq_true] at h
    have h1 := inB_iff.1 h.1.1
    have h2 := inB_iff.1 h.2
    rcases List.mem_append.1 hc with h3 | h3
    · simp [inRule, itoa_dig h1.1 c h3]
    · rcases List.mem_cons.1 h3 with h4 | h4
      · subst h4
        split <;> decide
      · simp [inRule, itoa_dig h2.1 c h4]
theorem ruleT_no {sy st : Int} {r : RuleD} (h : ruleOk sy st r = true) : (44 : UInt8) ∉ ruleT r ∧ (59 : UInt8) ∉ ruleT r :=
  ⟨fun hc => absurd (ruleT_bytes h _ hc) (by decide), fun hc => absurd (ruleT_bytes h _ hc) (by decide)⟩
theorem mem_joinTail {c : UInt8} {sep : List UInt8} : ∀ {l : List (List UInt8)}, c ∈ Lib.joinTail sep l → c ∈ sep ∨ ∃ x ∈ l, c ∈ x := by
  intro l hc
  unfold Lib.joinTail at hc
  obtain ⟨y, hy, hcy⟩ := List.mem_flatten.1 hc
  obtain ⟨x, hx, rfl⟩ := List.mem_map.1 hy
  rcases List.mem_append.1 hcy with h | h
  · exact .inl h
  · exact .inr ⟨x, hx, h⟩
theorem mem_join {c : UInt8} {sep : List UInt8} {l : List (List UInt8)} (hc : c ∈ Lib.join l sep) : c ∈ sep ∨ ∃ x ∈ l, c ∈ x := by
  cases l with
  | nil => simp [Lib.join_nil] at hc
  | cons a l =>
    rw [Lib.join_cons] at hc
    rcases List.mem_append.1 hc with h | h
    · exact .inr ⟨a, List.mem_cons_self, h⟩
    · rcases mem_joinTail h with h | ⟨x, hx, h⟩
      · exact .inl h
      · exact .inr ⟨x, List.mem_cons_of_mem _ hx, h⟩
theorem rowT_no {sy st : Int} {rs : List RuleD} (h : ∀ r ∈ rs, ruleOk sy st r = true) : (59 : UInt8) ∉ rowT rs := by
  intro hc
  rcases mem_join hc with h1 | ⟨x, hx, h1⟩
  · exact absurd h1 (by decide)
  · obtain ⟨r, hr, rfl⟩ := List.mem_map.1 hx
    exact (ruleT_no (h r hr)).2 h1
/-- Where the move stands in the text of a rule, and what stands around it. -/
theorem rule_at {sy st : Int} {r : RuleD} (h : ruleOk sy st r = true) (hr : r ≠ noR) : Lib.indexAny (ruleT r) [76, 82] = ((Lib.itoa r.w).length : Int) := by
  simp only [ruleOk, decide_eq_false hr, Bool.false_or, Bool.and_eq_true] at h
  have h1 := inB_iff.1 h.1.1
  unfold ruleT
  rw [if_neg hr]
  have hno : Lib.NoAny (Lib.itoa r.w ++ (if r.m < 0 then 76 else 82) :: Lib.itoa r.n) [76, 82] (Lib.itoa r.w).length := by
    intro j b hj hb
    rw [List.getElem?_append_left hj] at hb
    have := itoa_dig h1.1 b (List.mem_of_getElem? hb)
    by_cases e : b = 76
    · subst e; exact absurd this (by decide)
    · by_cases e2 : b = 82
      · subst e2; exact absurd this (by decide)
      · simp [e, e2]
  refine Lib.indexAny_hit (x := if r.m < 0 then 76 else 82) hno ?_ ?_
  · rw [List.getElem?_append_right (Nat.le_refl _), Nat.sub_self]; rfl
  · split <;> rfl
theorem rule_none : Lib.indexAny (ruleT noR) [76, 82] = -1 := by decide
end Go.Proofs.YtkbpchdncljlbaaGreatDoor
end
