/- Contracts: the number of a decimal form, and the rule of a text. The texts are those that the program makes; the library's table is as its text lays it.
Contract: the rule of a text. The text is that of a rule of a valid machine; the library's table is as its text lays it.
Contracts of the library's maker of strings in a block of the call's own: an ASCII rune is laid behind what it holds. -/
import Derived.Test.YtkbpchdncljlbaaGreatDoorV06
import Derived.Test.YtkbpchdncljlbaaGreatDoorV01
import Derived.Test.YtkbpchdncljlbaaGreatDoorShelf
import Derived.Lib.Builder
import Derived.Shelf.Strings.Builder1
import Derived.Maps.AppendAt
section
set_option linter.unusedSimpArgs false
set_option linter.unusedVariables false
namespace Go.Proofs.YtkbpchdncljlbaaGreatDoor
open Go Go.RowKit Go.Proofs
set_option maxHeartbeats 400000
theorem itoa_nat {n : Int} (h0 : 0 ≤ n) : Lib.itoa n = Lib.decDigits n.toNat := by
  unfold Lib.itoa
  rw [if_neg (by omega)]
theorem itoa_len {n : Int} (h0 : 0 ≤ n) (h1 : n ≤ 1000000) : (Lib.itoa n).length ≤ 18 := by
  rw [itoa_nat h0]
  exact digits_len _ (by omega)
theorem trim_itoa {n : Int} (h0 : 0 ≤ n) : Lib.trimPrefix (Lib.itoa n) [45] = Lib.itoa n := by
  have hd := itoa_dig h0
  cases hl : Lib.itoa n with
  | nil => rfl
  | cons c r =>
    have hc := hd c (by rw [hl]; exact List.mem_cons_self)
    have hne : ¬ (45 : UInt8) = c := fun e => by subst e; exact absurd hc (by decide)
    have h1 : [(45 : UInt8)].isPrefixOf (c :: r) = false := by
      show (45 == c && _) = false
      rw [beq_eq_false_iff_ne.2 hne]
      rfl
    unfold Lib.trimPrefix Lib.hasPrefix
    rw [h1]
    rfl
set_option maxRecDepth 20000 in
set_option maxHeartbeats 4000000 in
theorem ReadDecimal_c (n : Int) (w : World) (h0 : 0 ≤ n) (h1 : n ≤ 1000000) (hT : Tab w) :
    Calls Tryz.prog 25 #[.string (itoaS n)] w fun e w' => e = .returned (.tuple #[.int .i64 n, .bool true]) ∧ Ext w w' := by
  have hlen := itoa_len h0 h1
  have hsz : (itoaS n).size ≤ 9223372036854775806 := by
    show (Lib.itoa n).toArray.size ≤ _
    simp; omega
  have hp := Tryz.strconv_ParseInt_10_at64_ok (itoaS n) hsz n (parse_itoa h0 h1) w
  go_enter Tryz.func25, Tryz.ntmps25
  go_wp2_with fail
  refine hp.mono ?_
  rintro e w1 ⟨rfl, hw1⟩
  have hx1 : Ext w w1 := by
    rcases hw1 with rfl | ⟨t, rfl⟩
    · exact Ext.refl _
    · exact Lib.bytesWorld_below _ _ _
  clear hw1 hp
  go_wp2_with fail
  refine (Decimal_c n w1 (by omega) h1 (hT.ext hx1)).mono ?_
  rintro e w2 ⟨rfl, hx2⟩
  have hX2 := hx1.trans hx2
  have htr := Tryz.strings_TrimPrefix (itoaS n) ⟨#[45]⟩ w2
  rw [show Lib.trimPrefix (itoaS n).data.toList (⟨#[45]⟩ : ByteArray).data.toList = Lib.itoa n from trim_itoa h0] at htr
  have hs18 : ¬ (18 : Int) < ((itoaS n).size : Int) := by
    have : (itoaS n).size = (Lib.itoa n).length := by show (Lib.itoa n).toArray.size = _; simp
    omega
  have HT := Lib.hid htr
  clear htr
  go_wp2_with fail
  refine HT.out.mono ?_
  rintro e w3 ⟨rfl, rfl⟩
  have hs19 : ¬ (18 : Int) < (((⟨(Lib.itoa n).toArray⟩ : ByteArray).size : Nat) : Int) := by
    have := itoaS_size h0 h1
    show ¬ (18 : Int) < ((itoaS n).size : Int)
    omega
  clear hs18
  go_wp2
  exact bodyPost_ret (v := .tuple #[.int .i64 n, .bool true]) (by simp [results, Tryz.results25, go_sem]) rfl ⟨rfl, hX2⟩
end Go.Proofs.YtkbpchdncljlbaaGreatDoor
end
section
set_option linter.unusedSimpArgs false
set_option linter.unusedVariables false
namespace Go.Proofs.YtkbpchdncljlbaaGreatDoor
open Go Go.RowKit Go.Proofs
set_option maxHeartbeats 400000
theorem ascii_of {l : List UInt8} (h : ∀ c ∈ l, inRule c = true) (j : Nat) (b : UInt8) (hb : (bsS l).data.toList[j]? = some b) : b.toNat < 128 := by
  have hm : b ∈ l := List.mem_of_getElem? hb
  have := h b hm
  simp only [inRule, isDig, Bool.or_eq_true, Bool.and_eq_true, decide_eq_true_eq, beq_iff_eq, UInt8.le_iff_toNat_le] at this
  rcases this with ((⟨h1, h2⟩ | rfl) | rfl) | rfl
  · have : (57 : UInt8).toNat = 57 := rfl
    omega
  · decide
  · decide
  · decide
theorem bs_extract (l : List UInt8) (a b : Nat) : (bsS l).extract a b = bsS ((l.drop a).take (b - a)) := by
  apply ByteArray.ext
  apply Array.toList_inj.1
  exact Lib.extract_data _ _ _
theorem bs_size (l : List UInt8) : (bsS l).size = l.length := by show l.toArray.size = _; simp
theorem bs_get (l : List UInt8) (k : Nat) (h : k < (bsS l).size) (h' : k < l.length) : (bsS l)[k]'h = l[k]'h' := by
  show l.toArray[k]'_ = _
  simp
/-- The text of a rule in parts. -/
theorem rule_parts {r : RuleD} (hr : r ≠ noR) : ∃ (k : Nat) (hk : k < (bsS (ruleT r)).size), (Lib.itoa r.w).length = k ∧ (bsS (ruleT r))[k] = (if r.m < 0 then 76 else 82) ∧ (bsS (ruleT r)).extract 0 k = itoaS r.w ∧ (bsS (ruleT r)).extract (k + 1) (bsS (ruleT r)).size = itoaS r.n := by
  have e : ruleT r = Lib.itoa r.w ++ (if r.m < 0 then 76 else 82) :: Lib.itoa r.n := by unfold ruleT; rw [if_neg hr]
  have hl : (Lib.itoa r.w).length < (ruleT r).length := by rw [e]; simp
  refine ⟨(Lib.itoa r.w).length, by rw [bs_size]; exact hl, rfl, ?_, ?_, ?_⟩
  · rw [bs_get _ _ _ hl]
    have : (ruleT r)[(Lib.itoa r.w).length]? = some (if r.m < 0 then 76 else 82) := by rw [e, List.getElem?_append_right (Nat.le_refl _), Nat.sub_self]; rfl
    rw [List.getElem?_eq_getElem hl] at this
    exact Option.some.inj this
  · rw [bs_extract, e]
    simp
    rfl
  · rw [bs_extract, bs_size, e]
    have : (Lib.itoa r.w ++ (if r.m < 0 then 76 else 82) :: Lib.itoa r.n).drop ((Lib.itoa r.w).length + 1) = Lib.itoa r.n := by
      rw [List.drop_append, List.drop_of_length_le (by omega), show (Lib.itoa r.w).length + 1 - (Lib.itoa r.w).length = 1 by omega]
      rfl
    rw [this]
    show bsS _ = bsS _
    congr 1
    apply List.take_of_length_le
    simp
    omega
end Go.Proofs.YtkbpchdncljlbaaGreatDoor
end
section
set_option linter.unusedSimpArgs false
set_option linter.unusedVariables false
namespace Go.Proofs.YtkbpchdncljlbaaGreatDoor
open Go Go.RowKit Go.Proofs
set_option maxHeartbeats 400000
abbrev BdAt (B b : Nat) (p : Value) (l : List UInt8) (w : World) : Prop := Lib.BuilderAt 113 5 B b p (Lib.byteCells l) w
/-- A builder of the call's own, that may have been written. -/
def Bldr (B b : Nat) (l : List UInt8) (w : World) : Prop := Lib.IsBuilder 113 5 B b (Lib.byteCells l) w
theorem bldSize : (Tryz.prog.info? 113).map (·.size) = some 2 := by kernel_rfl
theorem bldLies : liesAt Tryz.prog Tryz.prog.depth 113 (2 / Tryz.prog.cellsOf 113) 0 113 1 = true := by kernel_rfl
theorem byteInfo : (Tryz.prog.info? 5).map (fun i => (i.zero, i.size, i.bytes)) = some (some (.int .u8 0), 1, 1) := by kernel_rfl
set_option maxRecDepth 20000 in
theorem copyFresh_c (b : Nat) (w : World) (h0 : w.cell? ⟨b, 0, none⟩ = some (.pointer none)) (hsh : w.shape? b = some (113, 2)) (hfz : w.frozen? ⟨b, 0, none⟩ = false) :
    Calls Tryz.prog 99 #[.pointer (some ⟨b, 0, none⟩)] w fun e w' => e = .returned (.tuple #[]) ∧ w' = w.setCell ⟨b, 0, none⟩ (.pointer (some ⟨b, 0, none⟩)) := by
  obtain ⟨j, hj, hjs⟩ := Option.map_eq_some_iff.1 bldSize
  go_enter Tryz.func99, Tryz.ntmps99
  go_wp2
  rw [Lib.run_to_unsafe w ⟨b, 0, none⟩ Tryz.underlying111 Tryz.underlying159 hj (by rw [hjs]; decide) hsh (Nat.zero_lt_succ 1)]
  simp only [Result.andThen]
  rw [Oper.upon_value]
  go_wp2
  rw [run_callFunc_extern Tryz.func120 (by kernel_rfl) (by kernel_rfl) (by kernel_rfl) (e := Extern.AbiNoEscape.same) (by kernel_rfl)]
  rw [Lib.run_noEscape]
  simp only [Result.andThen]
  rw [Oper.upon_value]
  go_wp2
  rw [Lib.run_from_unsafe w ⟨b, 0, none⟩ Tryz.underlying159 Tryz.underlying111 hj hsh bldLies]
  simp only [Result.andThen]
  rw [Oper.upon_value]
  go_wp2
  go_end0
  exact ⟨rfl, rfl⟩
set_option maxRecDepth 20000 in
theorem copyUsed_c (b : Nat) (w : World) (h0 : w.cell? ⟨b, 0, none⟩ = some (.pointer (some ⟨b, 0, none⟩))) :
    Calls Tryz.prog 99 #[.pointer (some ⟨b, 0, none⟩)] w fun e w' => e = .returned (.tuple #[]) ∧ w' = w := by
  obtain ⟨j, hj, _⟩ := Option.map_eq_some_iff.1 bldSize
  go_enter Tryz.func99, Tryz.ntmps99
  go_wp2
  rw [Lib.run_neq_ptr_same w _ Tryz.underlying111 hj]
  go_wp2
  go_end0
  exact ⟨rfl, rfl⟩
theorem copyCheck_c (B b : Nat) (l : List UInt8) (w : World) (h : Bldr B b l w) :
    Calls Tryz.prog 99 #[.pointer (some ⟨b, 0, none⟩)] w fun e w' => e = .returned (.tuple #[]) ∧ BdAt B b (.pointer (some ⟨b, 0, none⟩)) l w' ∧ Below B w w' := by
  rcases h with h | h
  · refine (copyFresh_c b w h.cell0 h.shape h.frozen0).mono ?_
    rintro e w' ⟨rfl, rfl⟩
    exact ⟨rfl, h.used _, (Below.refl B w).setCell (p := ⟨b, 0, none⟩) h.1 _⟩
  · refine (copyUsed_c b w h.cell0).mono ?_
    rintro e w' ⟨rfl, rfl⟩
    exact ⟨rfl, h, Below.refl B _⟩
set_option maxRecDepth 20000 in
set_option maxHeartbeats 4000000 in
/-- An ASCII rune behind a row of bytes of the call's own. -/
theorem appendRuneA_c (B : Nat) (v : Value) (n : Nat) (xs : List Value) (r : Int) (h0 : 0 ≤ r) (h1 : r ≤ 127) (w : World) (hown : w.ownsRow B 5 1 v n xs) (hlen : n + 4 ≤ 140737488355328) (hBw : B ≤ w.heap.size) :
    Calls Tryz.prog 102 #[v, .int .i32 r] w fun e w' => ∃ v', e = .returned v' ∧ w'.ownsRow B 5 1 v' (n + 1) (xs ++ [.int .u8 r]) ∧ ∃ o, (w.alloc o).grownBy w' v.ownBlock := by
  obtain ⟨i0, hi, hz0, hz1, hz2⟩ := info_parts byteInfo
  go_enter Tryz.func102, Tryz.ntmps102
  go_wp2_with (at_builtin; refine wpList_append_own_at _ rfl _ _ 22 rfl B 5 i0 (.int .u8 0) 1 1 Tryz.underlying22 hi hz0 hz1 hz2 rfl (by decide) _ _ _ rfl (hown.alloc _) ⟨w.heap.size, 0, none⟩ 1 1 [.int .u8 r] rfl rfl (cell_one_new _ _ _) ?c2 ?c3 ?c4 ?c5 ?_)
  case c2 => intro u hu; simp at hu; subst hu; rfl
  case c3 => unfold maxLen; omega
  case c4 => omega
  case c5 => simp; omega
  intro v' w2 hown' hgrow _ _
  go_wp2
  go_ret
  exact ⟨_, rfl, hown', _, hgrow⟩
set_option maxRecDepth 20000 in
set_option maxHeartbeats 4000000 in
theorem writeRuneA_c (B b : Nat) (l : List UInt8) (c : UInt8) (hc : c.toNat ≤ 127) (w : World) (h : Bldr B b l w) (hlen : l.length + 4 ≤ 140737488355328) (hBw : B ≤ w.heap.size) :
    Calls Tryz.prog 67 #[.pointer (some ⟨b, 0, none⟩), .int .i32 c.toNat] w fun e w' => e = .returned (.tuple #[.int .i64 1, .nilIface]) ∧ BdAt B b (.pointer (some ⟨b, 0, none⟩)) (l ++ [c]) w' ∧ Below B w w' := by
  have e240 : ∀ args w, (callFunc 99 args).run Tryz.prog w = .ok (.enter 99 args) w := enters_of Tryz.func99 (by kernel_rfl) rfl
  have hbl : (Lib.byteCells l).length = l.length := by simp [Lib.byteCells]
  go_enter Tryz.func67, Tryz.ntmps67
  go_wp2_with fail
  refine (copyCheck_c B b l w h).mono ?_
  rintro e w1 ⟨rfl, h1, hb1⟩
  obtain ⟨hB, v, hbk, hown, hne⟩ := h1
  rw [hbl] at hown
  obtain ⟨ao, cap, rfl⟩ : ∃ ao cap, v = .slice ao l.length cap := by
    rcases hown.2 with ⟨hv, h0⟩ | ⟨g, cap, cur, hv, _⟩
    · exact ⟨none, 0, by rw [hv, h0]⟩
    · exact ⟨_, _, hv⟩
  have c0 : w1.cell? ⟨b, 0, none⟩ = some (.pointer (some ⟨b, 0, none⟩)) := by rw [Lib.cell_of_heap hbk]; rfl
  have c1 : w1.cell? ⟨b, 1, none⟩ = some (.slice ao l.length cap) := by rw [Lib.cell_of_heap hbk]; rfl
  have hbs := hb1.size
  have hlt : b < w1.heap.size := by
    rcases Nat.lt_or_ge b w1.heap.size with h' | h'
    · exact h'
    · simp [Array.getElem?_eq_none h'] at hbk
  go_wp2_with fail
  refine (appendRuneA_c B _ l.length _ (c.toNat : Int) (by omega) (by omega) w1 hown hlen (by omega)).mono ?_
  rintro e w2 ⟨v', rfl, hown', o, hgrow⟩
  have hb2 : w2.heap[b]? = some (.cells #[.pointer (some ⟨b, 0, none⟩), .slice ao l.length cap] 113 (0, 0)) := by
    rw [hgrow.block b (by simp; omega) (fun e => hne e.symm), Lib.alloc_old w1 _ b hlt]
    exact hbk
  have d0 : w2.cell? ⟨b, 0, none⟩ = some (.pointer (some ⟨b, 0, none⟩)) := by rw [Lib.cell_of_heap hb2]; rfl
  have d1 : w2.cell? ⟨b, 1, none⟩ = some (.slice ao l.length cap) := by rw [Lib.cell_of_heap hb2]; rfl
  have f1 : w2.frozen? ⟨b, 1, none⟩ = false := Lib.frozen_of_heap hb2 1
  obtain ⟨g, cap', rfl⟩ : ∃ g cap', v' = .slice (some ⟨g, 0, none⟩) (l.length + 1) cap' := by
    rcases hown'.2 with ⟨_, h0⟩ | ⟨g, cap', cur, hv, _⟩
    · omega
    · exact ⟨g, cap', hv⟩
  have e1 : (l.length : Int) + 1 - (l.length : Int) = 1 := by omega
  go_wp2
  go_ret2
  refine ⟨by simp, ?_, ?_⟩
  · refine Lib.BuilderAt.put (T := 113) (e := 5) hB hb2 (bs' := Lib.byteCells (l ++ [c])) ?_ (by decide)
    have : Lib.byteCells (l ++ [c]) = Lib.byteCells l ++ [.int .u8 c.toNat] := by simp [Lib.byteCells]
    rw [this]
    simpa [hbl] using hown'
  · exact ((hb1.alloc (by have := hb1.size; omega) _).grown hgrow (by have := hb1.size; simp; omega) (fun k hk => (hown.lt k hk).1)).setCell (p := ⟨b, 1, none⟩) hB _
end Go.Proofs.YtkbpchdncljlbaaGreatDoor
end
