/- Contracts of the decimal forms of numbers and lists of numbers. The numbers are below a million, the lists have from 1 to 11 of them; the library's table of powers of ten is as its text lays it. -/
import Derived.Test.YtmffnlpndgdcjaaGreatDoorPred
import Derived.Test.YtmffnlpndgdcjaaGreatDoorKey
import Derived.WalkSmall
namespace Go.Proofs.YtmffnlpndgdcjaaGreatDoor
open Go Go.RowKit Go.Proofs
set_option maxHeartbeats 400000
def Tab (w : World) : Prop := Lib.TabIs Tryz.prog w "internal/strconv.uint64pow10" .u64 Lib.pow10Tab
theorem Tab.ext {w w' : World} (h : Tab w) (he : Ext w w') : Tab w' := by
  unfold Tab Lib.TabIs World.var? at *
  cases hg : Tryz.prog.globalNamed "internal/strconv.uint64pow10" with
  | none => rw [hg] at h; cases h
  | some g =>
    rw [hg] at h
    simp only [Option.bind_some] at h ⊢
    cases hb : w.heap[g]? with
    | none => rw [hb] at h; cases h
    | some o => rw [he.block hb]; rw [hb] at h; exact h
theorem ext_grow (w : World) (k : Nat) (os : Array Obj) : Ext w (Sort.grow (w.drewN k) os) :=
  ⟨rfl, rfl, rfl, by simp [Sort.grow], fun j hj => by simp [Sort.grow, Array.getElem?_append, hj]⟩
def itoaS (n : Int) : ByteArray := ⟨(Lib.itoa n).toArray⟩
theorem Decimal_c (n : Int) (w : World) (h0 : -1000000 ≤ n) (h1 : n ≤ 1000000) (hT : Tab w) :
    Calls Tryz.prog 64 #[.int .i64 n] w fun e w' => e = .returned (.string (itoaS n)) ∧ Ext w w' := by
  go_enter Tryz.func64, Tryz.ntmps64
  go_wp2_with fail
  refine (Tryz.strconv_FormatInt_10 n (by omega) (by omega) w hT).mono ?_
  rintro e w2 ⟨rfl, k, os, rfl⟩
  have hx := ext_grow w k os
  generalize Sort.grow (w.drewN k) os = w2 at *
  go_wp2
  go_ret
  exact ⟨rfl, hx⟩
theorem strInfo : (Tryz.prog.info? 9).map (fun i => (i.zero, i.size, i.bytes)) = some (some (.string ⟨#[]⟩), 1, 16) := by kernel_rfl
def svs (x : List Int) : List Value := x.map fun z => .string (itoaS z)
theorem svs_take (x : List Int) (k : Nat) (h : k < x.length) : svs (x.take (k + 1)) = svs (x.take k) ++ [.string (itoaS x[k])] := by
  unfold svs; rw [List.take_succ_eq_append_getElem h, List.map_append]; rfl
theorem svs_length (x : List Int) : (svs x).length = x.length := by simp [svs]
theorem lens_le (x : List Int) (hb : ∀ z ∈ x, -1000000 ≤ z ∧ z ≤ 1000000) : Lib.lens (x.map Lib.itoa) ≤ 21 * x.length := by
  induction x with
  | nil => simp [Lib.lens]
  | cons a x ih =>
    have h1 := Lib.itoa_length_le a (by have := hb a List.mem_cons_self; omega) (by have := hb a List.mem_cons_self; omega)
    have h2 := ih fun z hz => hb z (List.mem_cons_of_mem _ hz)
    simp only [Lib.lens, List.map_cons, List.sum_cons, List.length_cons] at *
    omega
theorem key_length (x : List Int) (hb : ∀ z ∈ x, -1000000 ≤ z ∧ z ≤ 1000000) : (keyOfList x).length ≤ 22 * x.length := by
  have h1 := lens_le x hb
  cases x with
  | nil => simp [keyOfList, Lib.join_nil]
  | cons a x =>
    unfold keyOfList
    rw [List.map_cons, Lib.join_length]
    simp only [List.map_cons, List.length_cons, List.length_nil, List.length_map] at *
    omega
theorem decimals_c (v : Value) (x : List Int) (w : World) (h : Ints w v x) (h0 : 1 ≤ x.length) (h1 : x.length ≤ 11) (hb : ∀ z ∈ x, -1000000 ≤ z ∧ z ≤ 1000000) (hT : Tab w) :
    Calls Tryz.prog 40 #[v, .string ⟨#[44]⟩] w fun e w' => e = .returned (.string ⟨(keyOfList x).toArray⟩) ∧ Ext w w' := by
  obtain ⟨A, c, rfl, h2, h2'⟩ := h.form
  obtain ⟨i0, hi, hz0, hz1, hz2⟩ := info_parts strInfo
  have HB := Lib.hid hb
  have hkl := key_length x hb
  clear hb
  go_enter Tryz.func40, Tryz.ntmps40
  go_wp2
  have hown0 : (w.alloc (.cells #[] 9)).ownsRow w.heap.size 9 1 (.slice (some ⟨w.heap.size, 0, none⟩) 0 0) 0 [] :=
    World.ownsRow_made (base := w.heap.size) (e := 9) (size := 1) w #[] 0 (by simp) (by unfold maxLen; omega) (by simp)
  have hX0 := Ext.alloc w (.cells #[] 9)
  generalize w.alloc (.cells #[] 9) = W at *
  go_loopw [5, 11] (fun l i wr => ∃ k : Nat, k ≤ x.length ∧ i = .int .i64 k ∧ Ext w wr ∧ wr.ownsRow w.heap.size 9 1 l k (svs (x.take k))) (fun _ i _ => x.length - (intOf i).toNat)
  case atStart => exact ⟨0, Nat.zero_le _, rfl, hX0, hown0⟩
  case round =>
    clear hown0 hX0
    obtain ⟨k, hk, rfl, hX, ho⟩ := hrel
    obtain ⟨Al, cl, rfl, h3, h3', _⟩ := (ownsRow_row ho).form
    by_cases hlt : k < x.length
    · obtain ⟨b, off, rfl, hc⟩ := h.at hlt
      have c0 := hX.cell (hc k hlt)
      obtain ⟨z1, z2⟩ := HB.out x[k] (List.getElem_mem hlt)
      have HS := Lib.hid (svs_take x k hlt)
      clear hc
      go_wp2_with fail
      refine (Decimal_c _ _ z1 z2 (hT.ext hX)).mono ?_
      rintro e w2 ⟨rfl, hx2⟩
      have ho2 := ownsRow_ext ho hx2
      have hX2 := hX.trans hx2
      have hsz := hX2.size
      clear c0
      go_wp2_with (at_builtin; refine wpList_append_own _ rfl _ _ 103 rfl w.heap.size 9 i0 (.string ⟨#[]⟩) 1 16 Tryz.underlying103 hi hz0 hz1 hz2 rfl (by decide) _ _ _ rfl (ho2.alloc _) ⟨w2.heap.size, 0, none⟩ 1 1 [.string (itoaS x[k])] rfl rfl ?c1 ?c2 ?c3 ?c4 ?c5 ?_)
      case c1 =>
        intro j u hj
        match j, hj with
        | 0, hj => simp at hj; subst hj; simp [Addr.add]
      case c2 => intro u hu; simp at hu; subst hu; rfl
      case c3 => unfold maxLen; omega
      case c4 => omega
      case c5 => simp; omega
      intro v' w3 hown' hgrow _
      have hX3 : Ext w w3 := hX2.grown (grownBy_trans (World.grownBy_alloc _ _ _) hgrow) (fun b hb => (ho2.lt b hb).1)
      have R : w3.ownsRow w.heap.size 9 1 v' (k + 1) (svs (x.take (k + 1))) := by rw [HS.out]; exact hown'
      clear hown' hgrow ho2 ho
      go_wp2
      go_roundw
      case rel => exact ⟨k + 1, by omega, by go_num, hX3, R⟩
      case measure => simp [intOf]; omega
    · obtain rfl : k = x.length := by omega
      have HT := Lib.hid (show x.take x.length = x from List.take_of_length_le (Nat.le_refl _))
      rw [HT.out] at ho
      obtain ⟨g, rfl, hbg, hgl⟩ := own_at ho (by omega)
      have hcells : ∀ (j : Nat) s, (x.map itoaS)[j]? = some s → wr.cell? ⟨g, 0 + j, none⟩ = some (.string s) := by
        intro j s hj
        have hjl : j < x.length := by have := (List.getElem?_eq_some_iff.1 hj).1; simpa using this
        rw [Nat.zero_add, ho.cellAt j (by omega)]
        simp only [svs, List.getElem?_map] at hj ⊢
        rw [List.getElem?_eq_getElem hjl] at hj ⊢
        simp only [Option.map_some, Option.some.injEq] at hj ⊢
        rw [hj]
      have ej : (x.map itoaS).map (·.data.toList) = x.map Lib.itoa := by simp [itoaS]
      have eS : (⟨#[44]⟩ : ByteArray).data.toList = [44] := rfl
      have hlen : (Lib.join ((x.map itoaS).map (·.data.toList)) (⟨#[44]⟩ : ByteArray).data.toList).length ≤ 140737488355328 := by
        rw [ej, eS]; show (keyOfList x).length ≤ _; omega
      have eK : Lib.join ((x.map itoaS).map (·.data.toList)) (⟨#[44]⟩ : ByteArray).data.toList = keyOfList x := by rw [ej, eS]; rfl
      have hj := Tryz.strings_Join g 0 cl (x.map itoaS) ⟨#[44]⟩ wr hcells hgl (by simp; omega) (by simpa using h3) hlen
      rw [eK, List.length_map] at hj
      have HJ := Lib.hid hj
      clear hcells ej eS hlen eK hj ho
      go_wp2_with fail
      refine HJ.out.mono ?_
      rintro e w2 ⟨rfl, hb2⟩
      have hX2 : Ext w w2 := hX.trans hb2
      clear hb2
      go_wp2
      go_ret
      exact ⟨rfl, hX2⟩
end Go.Proofs.YtmffnlpndgdcjaaGreatDoor
