/- Partial configurations in memory, and the contract of their texts. The letters are from 0 to 9, the state below a million; the library's table of powers of ten is as its text lays it.
Contracts of the library's Concat and of the program's joined lists. Lists are short.
Contract of the program's step back of a partial configuration. -/
import Derived.Test.YtacpchapgklcgaaGreatDoorR20
import Derived.Test.YtacpchapgklcgaaGreatDoorR05
import Derived.Test.YtacpchapgklcgaaGreatDoorR10
import Derived.Test.YtacpchapgklcgaaGreatDoorR16
import Derived.Maps.AppendAt
import Derived.Test.YtacpchapgklcgaaGreatDoorR15
section
set_option linter.unusedSimpArgs false
set_option linter.unusedVariables false
namespace Go.Proofs.YtacpchapgklcgaaGreatDoor
open Go Go.RowKit Go.Proofs
set_option maxHeartbeats 400000
/-- Partial configurations in a row of the call's own. -/
def PdAt (ib : Nat) (w : World) (vs : List Value) (xs : List PartD) : Prop :=
  ∀ i, (h : i < xs.length) → ∃ u, vs[i * 3]? = some (.int .i64 xs[i].q) ∧ vs[i * 3 + 1]? = some (.int .i64 (xs[i].p : Int)) ∧ vs[i * 3 + 2]? = some u ∧ OwnInts ib w u xs[i].cs
def OwnPD (base : Nat) (w : World) (v : Value) (xs : List PartD) : Prop := ∃ vs, w.ownsRow base 101 3 v xs.length vs ∧ PdAt base w vs xs
theorem PdAt.ext {ib : Nat} {w w' : World} {vs : List Value} {xs : List PartD} (h : PdAt ib w vs xs) (he : Ext w w') : PdAt ib w' vs xs := fun i hi => by
  obtain ⟨u, e0, e1, e2, hu⟩ := h i hi
  exact ⟨u, e0, e1, e2, hu.ext he⟩
theorem OwnPD.ext {base : Nat} {w w' : World} {v : Value} {xs : List PartD} (h : OwnPD base w v xs) (he : Ext w w') : OwnPD base w' v xs := by
  obtain ⟨vs, h1, h2⟩ := h
  exact ⟨vs, ownsRow_ext h1 he, h2.ext he⟩
theorem OwnPD.form {base : Nat} {w : World} {v : Value} {xs : List PartD} (h : OwnPD base w v xs) : ∃ A c, v = .slice A xs.length c ∧ xs.length ≤ c ∧ c ≤ 9223372036854775807 := by
  obtain ⟨vs, h1, _⟩ := h
  obtain ⟨A, c, hv, h1, h2, _⟩ := (ownsRow_row h1).form
  exact ⟨A, c, hv, h1, h2⟩
theorem OwnPD.at {base : Nat} {w : World} {A : Option Addr} {c : Nat} {xs : List PartD} (h : OwnPD base w (.slice A xs.length c) xs) {k : Nat} (hk : k < xs.length) :
    ∃ g u, A = some ⟨g, 0, none⟩ ∧ w.cell? ⟨g, k * 3, none⟩ = some (.int .i64 xs[k].q) ∧ w.cell? ⟨g, k * 3 + 1, none⟩ = some (.int .i64 (xs[k].p : Int)) ∧ w.cell? ⟨g, k * 3 + 2, none⟩ = some u ∧ OwnInts base w u xs[k].cs := by
  obtain ⟨vs, h1, h2⟩ := h
  obtain ⟨g, rfl, _, _⟩ := own_at h1 (by omega)
  obtain ⟨u, e0, e1, e2, hu⟩ := h2 k hk
  exact ⟨g, u, rfl, by rw [h1.cellAt _ (by omega), e0], by rw [h1.cellAt _ (by omega), e1], by rw [h1.cellAt _ (by omega), e2], hu⟩
theorem PdAt.kept {ib base : Nat} {w w' : World} {v : Value} {n : Nat} {ws vs : List Value} {xs : List PartD} (h : PdAt ib w vs xs) (ho : w.ownsRow base 101 3 v n ws) (hg : w.grownBy w' v.ownBlock) : PdAt ib w' vs xs := fun i hi => by
  obtain ⟨u, e0, e1, e2, hu⟩ := h i hi
  exact ⟨u, e0, e1, e2, World.ownsRow.kept hu hg (own_ne hu ho (by decide))⟩
theorem PdAt.snoc {ib : Nat} {w : World} {vs : List Value} {xs : List PartD} {x : PartD} {u : Value} (h : PdAt ib w vs xs) (hl : vs.length = xs.length * 3) (hu : OwnInts ib w u x.cs) : PdAt ib w (vs ++ [.int .i64 x.q, .int .i64 (x.p : Int), u]) (xs ++ [x]) := by
  intro i hi
  by_cases hlt : i < xs.length
  · obtain ⟨u', e0, e1, e2, hu'⟩ := h i hlt
    refine ⟨u', ?_, ?_, ?_, by rw [List.getElem_append_left hlt]; exact hu'⟩
    · rw [List.getElem?_append_left (by omega), e0, List.getElem_append_left hlt]
    · rw [List.getElem?_append_left (by omega), e1, List.getElem_append_left hlt]
    · rw [List.getElem?_append_left (by omega), e2]
  · have hie : i = xs.length := by simp at hi; omega
    subst hie
    refine ⟨u, ?_, ?_, ?_, by simpa using hu⟩
    · rw [List.getElem?_append_right (by omega), hl]; simp
    · rw [List.getElem?_append_right (by omega), hl]; simp
    · rw [List.getElem?_append_right (by omega), hl]; simp
theorem PdAt.low {b b' : Nat} {w : World} {vs : List Value} {xs : List PartD} (h : PdAt b w vs xs) (hb : b' ≤ b) : PdAt b' w vs xs := fun i hi => by
  obtain ⟨u, e0, e1, e2, hu⟩ := h i hi
  exact ⟨u, e0, e1, e2, ownsRow_base hu hb⟩
theorem OwnPD.low {b b' : Nat} {w : World} {v : Value} {xs : List PartD} (h : OwnPD b w v xs) (hb : b' ≤ b) : OwnPD b' w v xs := by
  obtain ⟨vs, h1, h2⟩ := h
  exact ⟨vs, ownsRow_base h1 hb, h2.low hb⟩
/-- The text of a partial configuration. -/
def keyP (x : PartD) : List UInt8 := digB (x.cs.take x.p) ++ [91] ++ Lib.itoa x.q ++ [93] ++ digB (x.cs.drop x.p)
/-- It is valid enough for its text. -/
structure TextOk (x : PartD) : Prop where
  q0 : 0 ≤ x.q
  q1 : x.q ≤ 1000
  p : x.p < x.cs.length
  len : x.cs.length ≤ 1000
  cs : ∀ z ∈ x.cs, 0 ≤ z ∧ z ≤ 9
theorem takeInts {w : World} {b off n c : Nat} {zs : List Int} (h : Ints w (.slice (some ⟨b, off, none⟩) n c) zs) (k : Nat) (hk : k ≤ zs.length) : Ints w (.slice (some ⟨b, off, none⟩) k c) (zs.take k) := by
  obtain ⟨A, c', hv, h1, h2, h3, h4⟩ := h
  injection hv with e1 e2 e3
  subst e3
  have hl : (zs.take k).length = k := by simp; omega
  refine ⟨_, c, by rw [hl], by omega, h2, by simp, fun hn => ⟨b, off, rfl, fun j hj => ?_⟩⟩
  obtain ⟨b', off', hA, hc⟩ := h4 (by omega)
  rw [← e1] at hA
  injection hA with hA
  injection hA with e4 e5
  subst e4 e5
  have hj2 : j < k := by simpa [hl] using hj
  rw [hc j (by simp; omega)]
  simp [ivs, List.getElem?_take, hj2]
theorem dropInts {w : World} {b off n c : Nat} {zs : List Int} (h : Ints w (.slice (some ⟨b, off, none⟩) n c) zs) (k : Nat) (hk : k < zs.length) : Ints w (.slice (some ⟨b, off + k, none⟩) (n - k) (c - k)) (zs.drop k) := by
  obtain ⟨A, c', hv, h1, h2, h3, h4⟩ := h
  injection hv with e1 e2 e3
  subst e3
  have hl : (zs.drop k).length = n - k := by simp; omega
  refine ⟨_, c - k, by rw [hl], by omega, by omega, by simp, fun hn => ⟨b, off + k, rfl, fun j hj => ?_⟩⟩
  obtain ⟨b', off', hA, hc⟩ := h4 (by omega)
  rw [← e1] at hA
  injection hA with hA
  injection hA with e4 e5
  subst e4 e5
  have hj2 : k + j < zs.length := by have := hl; simp only [ivs_length] at hj; omega
  have := hc (k + j) (by simpa using hj2)
  rw [Nat.add_assoc, this]
  simp [ivs]
set_option maxRecDepth 20000 in
set_option maxHeartbeats 4000000 in
theorem partialText_c (x : PartD) (u : Value) (w : World) (h : OwnInts 0 w u x.cs) (hx : TextOk x) (hT : Tab w) :
    Calls Tryz.prog 88 #[.agg #[.int .i64 x.q, .int .i64 (x.p : Int), u]] w fun e w' => e = .returned (.string ⟨(keyP x).toArray⟩) ∧ Ext w w' := by
  obtain ⟨hq0, hq1, hp, hl, hcs⟩ := hx
  obtain ⟨q, p, cs⟩ := x
  simp only at *
  obtain ⟨A, c, rfl, h1, h2⟩ := h.ints.form
  obtain ⟨b, rfl, _, _⟩ := own_at h (by omega)
  obtain ⟨W, hW⟩ : ∃ W, w.alloc (.cells #[.int .i64 q, .int .i64 (p : Int), .slice (some ⟨b, 0, none⟩) cs.length c] 101) = W := ⟨_, rfl⟩
  have hX : Ext w W := by rw [← hW]; exact Ext.alloc _ _
  have bP : Blk W w.heap.size 101 #[.int .i64 q, .int .i64 (p : Int), .slice (some ⟨b, 0, none⟩) cs.length c] := by rw [← hW]; exact Blk.new _ _ _ _ rfl
  generalize hg0 : w.heap.size = g at *
  have hXD := hX.trans (Ext.drew W)
  have q0 := (bP.ext (Ext.drew W)).cell 0
  have q1 := (bP.ext (Ext.drew W)).cell 1
  have q2 := (bP.ext (Ext.drew W)).cell 2
  simp only [List.getElem?_toArray, List.getElem?_cons_zero, List.getElem?_cons_succ] at q0 q1 q2
  have i0 : (0 : Int) ≤ (p : Int) := by omega
  have i1 : (p : Int) ≤ (cs.length : Int) := by omega
  have i2 : (p : Int) ≤ (c : Int) := by omega
  have i3 : ¬ c = p := by omega
  have HI := Lib.hid h.ints
  have HCS := Lib.hid hcs
  have HT := Lib.hid hT
  clear hcs hT h
  go_enter Tryz.func88, Tryz.ntmps88
  go_wp2_with fail
  refine wp_region_ord 19 [0, 1, 2, 3, 4, 7, 8, 12, 13, 14, 15, 16, 5, 6, 9, 10, 11, 17, 18] (by kernel_rfl) (by kernel_rfl) (fun _ _ _ _ _ h => h) ?_
  simp only [pickO, List.drop_succ_cons, List.drop_zero, List.head?_cons, Option.elim_some]
  repeat (refine wpOrd_read (v := ?_) (by rfl) (Or.inl ⟨by rfl, fun x hx => ?_⟩) ?_; rotate_left; (· have a0 := hx.cell q0; have a1 := hx.cell q1; have a2 := hx.cell q2; go_simp; try with_reducible rfl); simp only [Act.put, List.setIfInBounds_toArray, List.set_cons_zero, List.set_cons_succ])
  have hdr := dropInts HI.out p (by omega)
  rw [Nat.zero_add] at hdr
  have D1 := fun W' hx => digitsText_c _ (cs.take p) W' ((takeInts HI.out p (by omega)).ext hx) (fun z hz => HCS.out z (List.mem_of_mem_take hz)) (by simp; omega)
  have D2 := fun W' hx => digitsText_c _ (cs.drop p) W' (hdr.ext hx) (fun z hz => HCS.out z (List.mem_of_mem_drop hz)) (by simp; omega)
  have D3 := fun W' hx => Decimal_c q W' (by omega) (by omega) (HT.out.ext hx)
  have l1 : (digB (cs.take p)).length ≤ 1000 := by simp [digB]; omega
  have l2 : (digB (cs.drop p)).length ≤ 1000 := by simp [digB]; omega
  have l3 := Lib.itoa_length_le q (by omega) (by omega)
  have HK : Hid (keyP ⟨q, p, cs⟩ = digB (cs.take p) ++ [91] ++ Lib.itoa q ++ [93] ++ digB (cs.drop p)) := Lib.hid rfl
  clear hdr
  generalize digB (cs.take p) = t1 at *
  generalize digB (cs.drop p) = t2 at *
  unfold itoaS at D3
  generalize Lib.itoa q = t3 at *
  obtain ⟨s1, hs1⟩ : ∃ s, t1 ++ [91] = s := ⟨_, rfl⟩
  have ls1 : s1.length ≤ 1100 := by rw [← hs1]; simp only [List.length_append, List.length_cons, List.length_nil]; omega
  have Hs1 := Lib.hid hs1
  clear hs1
  obtain ⟨s2, hs2⟩ : ∃ s, s1 ++ t3 = s := ⟨_, rfl⟩
  have ls2 : s2.length ≤ 1200 := by rw [← hs2]; simp only [List.length_append, List.length_cons, List.length_nil]; omega
  have Hs2 := Lib.hid hs2
  clear hs2
  obtain ⟨s3, hs3⟩ : ∃ s, s2 ++ [93] = s := ⟨_, rfl⟩
  have ls3 : s3.length ≤ 1300 := by rw [← hs3]; simp only [List.length_append, List.length_cons, List.length_nil]; omega
  have Hs3 := Lib.hid hs3
  clear hs3
  obtain ⟨s4, hs4⟩ : ∃ s, s3 ++ t2 = s := ⟨_, rfl⟩
  have ls4 : s4.length ≤ 2400 := by rw [← hs4]; simp only [List.length_append, List.length_cons, List.length_nil]; omega
  have Hs4 := Lib.hid hs4
  clear hs4
  refine wpOrd_stir (by rfl) (fun K hK => ?_)
  go_simp
  go_at_call 114
  refine (D1 _ hXD).mono ?_
  rintro e w3 ⟨rfl, hx3⟩
  refine hK _ _ hx3 ?_
  clear hK K
  refine wpOrd_read (v := .string ⟨s1.toArray⟩) (by rfl) (Or.inl ⟨by rfl, fun x hx => ?_⟩) ?_
  · go_simp
    rw [if_neg (by omega)]
    exact congrArg (fun b => Result.ok (Next.value (Value.string b)) x) ((ByteArray.mk_append_mk t1 [91]).trans (by rw [Hs1.out]))
  try simp only [Act.put, List.setIfInBounds_toArray, List.set_cons_zero, List.set_cons_succ]
  refine wpOrd_stir (by rfl) (fun K hK => ?_)
  go_simp
  go_at_call 99
  refine (D3 _ (hXD.trans hx3)).mono ?_
  rintro e w4 ⟨rfl, hx4⟩
  refine hK _ _ hx4 ?_
  clear hK K
  refine wpOrd_read (v := .string ⟨s2.toArray⟩) (by rfl) (Or.inl ⟨by rfl, fun x hx => ?_⟩) ?_
  · go_simp
    rw [if_neg (by omega)]
    exact congrArg (fun b => Result.ok (Next.value (Value.string b)) x) ((ByteArray.mk_append_mk s1 t3).trans (by rw [Hs2.out]))
  try simp only [Act.put, List.setIfInBounds_toArray, List.set_cons_zero, List.set_cons_succ]
  refine wpOrd_read (v := .string ⟨s3.toArray⟩) (by rfl) (Or.inl ⟨by rfl, fun x hx => ?_⟩) ?_
  · go_simp
    rw [if_neg (by omega)]
    exact congrArg (fun b => Result.ok (Next.value (Value.string b)) x) ((ByteArray.mk_append_mk s2 [93]).trans (by rw [Hs3.out]))
  try simp only [Act.put, List.setIfInBounds_toArray, List.set_cons_zero, List.set_cons_succ]
  refine wpOrd_stir (by rfl) (fun K hK => ?_)
  go_simp
  go_at_call 114
  refine (D2 _ ((hXD.trans hx3).trans hx4)).mono ?_
  rintro e w5 ⟨rfl, hx5⟩
  refine hK _ _ hx5 ?_
  clear hK K
  refine wpOrd_read (v := .string ⟨s4.toArray⟩) (by rfl) (Or.inl ⟨by rfl, fun x hx => ?_⟩) ?_
  · go_simp
    rw [if_neg (by omega)]
    exact congrArg (fun b => Result.ok (Next.value (Value.string b)) x) ((ByteArray.mk_append_mk s3 t2).trans (by rw [Hs4.out]))
  try simp only [Act.put, List.setIfInBounds_toArray, List.set_cons_zero, List.set_cons_succ]
  refine wpOrd_done ?_
  have hXE := ((hXD.trans hx3).trans hx4).trans hx5
  try simp only [List.drop_succ_cons, List.drop_zero]
  go_wp2
  go_ret
  exact ⟨by rw [HK.out, Hs1.out, Hs2.out, Hs3.out, Hs4.out]; rfl, hXE⟩
end Go.Proofs.YtacpchapgklcgaaGreatDoor
end
section
set_option linter.unusedSimpArgs false
set_option linter.unusedVariables false
namespace Go.Proofs.YtacpchapgklcgaaGreatDoor
open Go Go.RowKit Go.Proofs
set_option maxHeartbeats 400000
/-- An append of a short list of numbers, nil among them. -/
theorem wpList_append_ints {w : World} {ops : Array Oper} {rest : List Oper} {o : Oper} {a : Act} {Q : Exit → Act → World → Prop} (hgd : o.guard = none) (s x : Operand)
    (ho : o.op = .call { callee := .builtin .append, args := #[s, x], argTypes := #[28, 28] }) (base : Nat)
    (v u : Value) (xs news : List Int) (hs : a.eval s = v) (hx : a.eval x = u) (hown : OwnInts base w v xs) (hu : Ints w u news) (hf : Flat u) (hl : xs.length + news.length ≤ 4194304) (hbase : base ≤ w.heap.size)
    (h : ∀ v' w', OwnInts base w' v' (xs ++ news) → w.grownBy w' v.ownBlock → wpList Tryz.prog ops Q rest (a.put o.dst v') w') : wpList Tryz.prog ops Q (o :: rest) a w := by
  obtain ⟨i0, hi, hz0, hz1, hz2⟩ := info_parts intInfo
  obtain ⟨A, c, rfl, _, _⟩ := id hu.form
  rcases hf with hf | ⟨b, off, n, c', hf⟩
  · injection hf with e1 e2 e3
    subst e1 e3
    have hz : news = [] := List.length_eq_zero_iff.1 e2
    subst hz
    refine wpList_append_own_none hgd s x _ ho base 2 i0 1 Tryz.underlying28 hi v xs.length (ivs xs) hs hown hx ?_
    exact h _ _ (by simpa using hown) (grownBy_refl _ _)
  · injection hf with e1 e2 e3
    subst e1 e3
    have hc : ∀ j y, (ivs news)[j]? = some y → w.cell? ((⟨b, off, none⟩ : Addr).add j) = some y := by
      intro j y hj
      obtain ⟨hl, _⟩ := List.getElem?_eq_some_iff.1 hj
      rw [ivs_length] at hl
      obtain ⟨b', off', e', hc⟩ := hu.at hl
      cases e'
      have := ints_cells hc j y hj
      by_cases hj0 : j = 0
      · subst hj0
        simpa [Addr.add] using this
      · simpa [Addr.add, hj0] using this
    refine wpList_append_own_at w hgd s x _ ho base 2 i0 (.int .i64 0) 1 8 Tryz.underlying28 hi hz0 hz1 hz2 rfl (by decide) v xs.length (ivs xs) hs hown ⟨b, off, none⟩ news.length c (ivs news) hx (by simp) hc (ivs_one news) (by unfold maxLen; omega) (by omega) hbase ?_
    intro v' w' h1 h2 _ _
    exact h v' w' (by unfold OwnInts; rw [ivs_append, List.length_append]; exact h1) h2
theorem flatten_take_succ (xss : List (List Int)) (i : Nat) (h : i < xss.length) : (xss.take (i + 1)).flatten = (xss.take i).flatten ++ xss[i] := by
  rw [List.take_succ_eq_append_getElem h, List.flatten_append]
  simp
theorem flatten_len (xss : List (List Int)) : xss.flatten.length = tot xss := by simp [tot, List.length_flatten]
set_option maxRecDepth 20000 in
set_option maxHeartbeats 1000000 in
theorem Concat_c (v : Value) (xss : List (List Int)) (vs : List Value) (w : World) (h : Row w 1 v xss.length vs) (he : ∀ i, (hi : i < xss.length) → ∃ u, vs[i]? = some u ∧ Ints w u xss[i] ∧ Flat u) (hn : xss.length ≤ 1000) (ht : tot xss ≤ 1048576) :
    Calls Tryz.prog 103 #[v] w fun e w' => ∃ u, e = .returned u ∧ OwnInts w.heap.size w' u xss.flatten ∧ Ext w w' := by
  obtain ⟨A, c, rfl, h1, h2, h3⟩ := id h.form
  go_enter Tryz.func103, Tryz.ntmps103
  go_wp2
  go_loop [3, 11] (fun s i => ∃ k : Nat, k ≤ xss.length ∧ i = .int .i64 k ∧ s = .int .i64 (tot (xss.take k))) (fun _ i => xss.length - (intOf i).toNat)
  case atStart => exact ⟨0, Nat.zero_le _, rfl, by simp [tot]⟩
  case round =>
    obtain ⟨k, hk, rfl, rfl⟩ := hrel
    by_cases hlt : k < xss.length
    · obtain ⟨b, off, rfl, hc⟩ := h.at hlt
      obtain ⟨u, hu, hui, _⟩ := he k hlt
      have c0 := hc k (by omega)
      rw [hu] at c0
      have HT := Lib.hid (tot_take_succ xss k hlt)
      have hle := tot_take_le xss (k + 1)
      rw [HT.out] at hle
      obtain ⟨Au, cu, rfl, _, _⟩ := hui.form
      clear hc hu hui he h
      generalize xss[k] = y at *
      generalize tot (xss.take k) = t at *
      go_wp2
      go_round
      case rel => exact ⟨k + 1, by omega, by go_num, by rw [HT.out]; go_num⟩
      case measure => simp [intOf]; omega
    · have hke : k = xss.length := by omega
      subst hke
      rw [List.take_length]
      generalize hT : tot xss = T at *
      have HTT := Lib.hid hT
      clear hT
      go_wp2_with fail
      refine (Grow0_c T w ht).mono ?_
      rintro e w1 ⟨u, rfl, ho, hx⟩
      obtain ⟨Ag, cg, rfl, _, _⟩ := id ho.ints.form
      go_wp2
      go_loopw [6, 27] (fun u i wr => ∃ k : Nat, k ≤ xss.length ∧ i = .int .i64 k ∧ OwnInts w.heap.size wr u (xss.take k).flatten ∧ Ext w wr) (fun _ i _ => xss.length - (intOf i).toNat)
      case atStart => exact ⟨0, Nat.zero_le _, rfl, by simpa using ho, hx⟩
      case round =>
        obtain ⟨k, hk, rfl, hok, hxk⟩ := hrel
        by_cases hlt2 : k < xss.length
        · obtain ⟨b, off, rfl, hc⟩ := h.at hlt2
          obtain ⟨u, hu, hui, huf⟩ := he k hlt2
          have c0 := hc k (by omega)
          rw [hu] at c0
          have c1 := hxk.cell c0
          have HF := Lib.hid (flatten_take_succ xss k hlt2)
          have hle := tot_take_le xss (k + 1)
          rw [← flatten_len, HF.out, HTT.out] at hle
          have hui' := hui.ext hxk
          obtain ⟨Au, cu, rfl, _, _⟩ := id hui'.form
          have hs := hxk.size
          clear hc hu hui
          generalize xss[k] = y at *
          generalize (xss.take k).flatten = ys at *
          simp only [List.length_append] at hle
          obtain ⟨Ay, cy, rfl, _, _⟩ := id hok.ints.form
          go_wp2_with (at_builtin; refine wpList_append_ints rfl _ _ rfl w.heap.size _ _ ys y rfl rfl hok hui' huf (by omega) hs ?_)
          intro v' w4 hown4 hg4
          obtain ⟨A', c', rfl, _, _⟩ := id hown4.ints.form
          have hx4 : Ext w w4 := hxk.grown hg4 (fun k hk => (hok.lt k hk).1)
          go_wp2
          go_roundw
          case rel => exact ⟨k + 1, by omega, by go_num, by rw [HF.out]; exact hown4, hx4⟩
          case measure => simp [intOf]; omega
        · have hke : k = xss.length := by omega
          subst hke
          rw [List.take_length] at hok
          obtain ⟨Ay, cy, rfl, _, _⟩ := id hok.ints.form
          go_wp2
          go_ret
          exact ⟨_, rfl, hok, hxk⟩
theorem joined_c (v : Value) (xss : List (List Int)) (vs : List Value) (w : World) (h : Row w 1 v xss.length vs) (he : ∀ i, (hi : i < xss.length) → ∃ u, vs[i]? = some u ∧ Ints w u xss[i] ∧ Flat u) (hn : xss.length ≤ 1000) (ht : tot xss ≤ 1048576) :
    Calls Tryz.prog 73 #[v] w fun e w' => ∃ u, e = .returned u ∧ OwnInts w.heap.size w' u xss.flatten ∧ Ext w w' := by
  obtain ⟨A, c, rfl, h1, h2, h3⟩ := id h.form
  obtain ⟨ys, hys⟩ : ∃ ys, xss.flatten = ys := ⟨_, rfl⟩
  rw [hys]
  have HYS := Lib.hid hys
  clear hys
  go_enter Tryz.func73, Tryz.ntmps73
  go_wp2_with fail
  refine (Concat_c _ xss vs w h he hn ht).mono ?_
  rintro e w1 ⟨u, rfl, ho, hx⟩
  rw [HYS.out] at ho
  obtain ⟨Ag, cg, rfl, _, _⟩ := id ho.ints.form
  go_wp2
  go_ret
  exact ⟨_, rfl, ho, hx⟩
end Go.Proofs.YtacpchapgklcgaaGreatDoor
end
section
set_option linter.unusedSimpArgs false
set_option linter.unusedVariables false
namespace Go.Proofs.YtacpchapgklcgaaGreatDoor
open Go Go.RowKit Go.Proofs
set_option maxHeartbeats 400000
/-- What a step back gives. -/
def PrdRes (w : World) (o : Option PartD) (e : Ending) (w' : World) : Prop :=
  Ext w w' ∧ ((o = none ∧ e = .returned (.tuple #[.agg #[.int .i64 0, .int .i64 0, .slice none 0 0], .bool false])) ∨
    ∃ y u, o = some y ∧ e = .returned (.tuple #[.agg #[.int .i64 y.q, .int .i64 (y.p : Int), u], .bool true]) ∧ OwnInts w.heap.size w' u y.cs)
/-- The result's block is written. -/
theorem prd_put {w X : World} {g : Nat} {cs : Array Value} {u : Value} {zs : List Int} {base : Nat} (hx : Ext w X) (hg : w.heap.size ≤ g) (hb : Blk X g 101 cs) (ho : OwnInts base X u zs) (x y : Value) :
    Ext w (((X.setCell ⟨g, 0, none⟩ x).setCell ⟨g, 1, none⟩ y).setCell ⟨g, 2, none⟩ u) ∧ OwnInts base (((X.setCell ⟨g, 0, none⟩ x).setCell ⟨g, 1, none⟩ y).setCell ⟨g, 2, none⟩ u) u zs := by
  have hf := own_far_blk ho hb (by decide)
  exact ⟨((hx.setCell hg _).setCell hg _).setCell hg _, ownsRow_far (ownsRow_far (ownsRow_far ho hf _) hf _) hf _⟩
theorem own_nil0 (w : World) : OwnInts 0 w (.slice none 0 0) [] := ⟨by simp [ivs], .inl ⟨rfl, rfl⟩⟩
theorem blkRow {w : World} {g : Nat} {t : TypeId} {vs : List Value} (h : Blk w g t vs.toArray) (hl : vs.length ≤ 1000) : Row w 1 (.slice (some ⟨g, 0, none⟩) vs.length vs.length) vs.length vs := by
  refine ⟨_, vs.length, rfl, Nat.le_refl _, by omega, by simp, fun _ => ⟨g, 0, rfl, fun j hj => ?_⟩⟩
  rw [Nat.zero_add, h.cell j]
  simp
theorem ownOne {w : World} {g : Nat} {z : Int} (h : Blk w g 2 #[.int .i64 z]) : OwnInts 0 w (.slice (some ⟨g, 0, none⟩) 1 1) [z] :=
  ⟨by simp [ivs], .inr ⟨g, 1, #[.int .i64 z], rfl, Nat.zero_le _, h, by simp, by unfold maxLen; omega, by simp, by simp [ivs]⟩⟩
/-- Two lists are joined. -/
theorem joinTwo_c (u v : Value) (xs ys : List Int) (g : Nat) (w : World) (hu : OwnInts 0 w u xs) (hv : OwnInts 0 w v ys) (hb : Blk w g 28 #[u, v]) (hl : xs.length + ys.length ≤ 10000) :
    Calls Tryz.prog 73 #[.slice (some ⟨g, 0, none⟩) 2 2] w fun e w' => ∃ u, e = .returned u ∧ OwnInts w.heap.size w' u (xs ++ ys) ∧ Ext w w' := by
  have := joined_c (.slice (some ⟨g, 0, none⟩) 2 2) [xs, ys] [u, v] w (blkRow (vs := [u, v]) hb (by simp)) (fun i hi => by
    match i, hi with
    | 0, _ => exact ⟨u, rfl, hu.ints, hu.flat⟩
    | 1, _ => exact ⟨v, rfl, hv.ints, hv.flat⟩) (by simp) (by simp [tot]; omega)
  simpa using this
set_option maxRecDepth 20000 in
set_option maxHeartbeats 4000000 in
theorem predecessor_c (x : PartD) (q a : Int) (r : RuleD) (u : Value) (w : World) (h : OwnInts 0 w u x.cs) (hp : x.p < x.cs.length) (hl : x.cs.length ≤ 1000) (hm : r.m = 1 ∨ r.m = -1) :
    Calls Tryz.prog 113 #[.agg #[.int .i64 x.q, .int .i64 (x.p : Int), u], .int .i64 q, .int .i64 a, .agg #[.int .i64 r.w, .int .i64 r.m, .int .i64 r.n]] w (PrdRes w (predP x q a r)) := by
  obtain ⟨xq, p, cs⟩ := x
  simp only at *
  obtain ⟨A, c, rfl, h1, h2⟩ := h.ints.form
  obtain ⟨b, rfl, _, _⟩ := own_at h (by omega)
  obtain ⟨W, hW⟩ : ∃ W, ((w.alloc (.cells #[.int .i64 xq, .int .i64 (p : Int), .slice (some ⟨b, 0, none⟩) cs.length c] 101)).alloc (.cells #[.int .i64 r.w, .int .i64 r.m, .int .i64 r.n] 38)).alloc (.cells #[.int .i64 0, .int .i64 0, .slice none 0 0] 101) = W := ⟨_, rfl⟩
  have hX : Ext w W := by rw [← hW]; exact ((Ext.alloc _ _).trans (Ext.alloc _ _)).trans (Ext.alloc _ _)
  have bP : Blk W w.heap.size 101 #[.int .i64 xq, .int .i64 (p : Int), .slice (some ⟨b, 0, none⟩) cs.length c] := by rw [← hW]; exact ((Blk.new _ _ _ _ rfl).alloc _).alloc _
  have bR : Blk W (w.heap.size + 1) 38 #[.int .i64 r.w, .int .i64 r.m, .int .i64 r.n] := by rw [← hW]; exact (Blk.new _ _ _ _ (by simp)).alloc _
  have bO : Blk W (w.heap.size + 1 + 1) 101 #[.int .i64 0, .int .i64 0, .slice none 0 0] := by rw [← hW]; exact Blk.new _ _ _ _ (by simp)
  generalize hg0 : w.heap.size = g at *
  have p0 := bP.cell 0
  have p1 := bP.cell 1
  have p2 := bP.cell 2
  have r0 := bR.cell 0
  have r1 := bR.cell 1
  have r2 := bR.cell 2
  have o0 := bO.cell 0
  have o1 := bO.cell 1
  have o2 := bO.cell 2
  have f0 := bO.frozen 0
  have f1 := bO.frozen 1
  have f2 := bO.frozen 2
  simp only [List.getElem?_toArray, List.getElem?_cons_zero, List.getElem?_cons_succ] at p0 p1 p2 r0 r1 r2 o0 o1 o2
  have hw1 : IntKind.i64.wrap ((p : Int) - r.m) = (p : Int) - r.m := IntWalk.i64_in _ (by omega)
  have HI := Lib.hid h
  have HM := Lib.hid hm
  have HX := Lib.hid hX
  clear h hm hX
  unfold predP
  simp only
  have hw : Hid (w.heap.size ≤ g) := Lib.hid (by omega)
  by_cases c0 : ¬ r.n = xq
  · rw [if_pos c0]
    have hne : (r.n != xq) = true := by simp [c0]
    go_enter Tryz.func113, Tryz.ntmps113
    go_wp2_with fail
    refine bodyPost_ret (v := .tuple #[.agg #[.int .i64 0, .int .i64 0, .slice none 0 0], .bool false]) (by simp [results, Tryz.results113, go_sem, o0, o1, o2]) rfl ⟨?_, .inl ⟨rfl, rfl⟩⟩
    exact (prd_put HX.out (by rw [hg0]; omega) bO (own_nil0 W) _ _).1
  rw [if_neg c0]
  obtain rfl : r.n = xq := Decidable.not_not.1 c0
  have hne : (r.n != r.n) = false := by simp
  clear c0
  by_cases c1 : (p : Int) - r.m < 0
  · rw [if_pos c1]
    obtain ⟨n2, hn2⟩ : ∃ n, W.heap.size = n := ⟨_, rfl⟩
    obtain ⟨W2, hW2⟩ : ∃ X, W.alloc (.cells #[.int .i64 a] 2) = X := ⟨_, rfl⟩
    obtain ⟨W3, hW3⟩ : ∃ X, W2.alloc (.cells #[.slice (some ⟨n2, 0, none⟩) 1 1, .slice (some ⟨b, 0, none⟩) cs.length c] 28) = X := ⟨_, rfl⟩
    have E2 : Ext W W2 := by rw [← hW2]; exact Ext.alloc _ _
    have E3 : Ext W2 W3 := by rw [← hW3]; exact Ext.alloc _ _
    have b2 : Blk W2 n2 2 #[.int .i64 a] := by rw [← hW2]; exact Blk.new _ _ _ _ hn2
    have b3 : Blk W3 W2.heap.size 28 #[.slice (some ⟨n2, 0, none⟩) 1 1, .slice (some ⟨b, 0, none⟩) cs.length c] := by rw [← hW3]; exact Blk.new _ _ _ _ rfl
    have k2 := (bP.ext E2).cell 2
    simp only [List.getElem?_toArray, List.getElem?_cons_zero, List.getElem?_cons_succ] at k2
    have hj := joinTwo_c _ _ _ _ _ W3 ((ownOne b2).ext E3) (((HI.out.ext HX.out).ext E2).ext E3) b3 (by simp; omega)
    have bO3 := (bO.ext E2).ext E3
    have hs3 : w.heap.size ≤ W3.heap.size := ((HX.out.trans E2).trans E3).size
    go_enter Tryz.func113, Tryz.ntmps113
    go_wp2_with fail
    refine hj.mono ?_
    rintro e w4 ⟨uj, rfl, hoj, hxj⟩
    have bO4 := bO3.ext hxj
    have o0 := bO4.cell 0
    have o1 := bO4.cell 1
    have o2 := bO4.cell 2
    have f0 := bO4.frozen 0
    have f1 := bO4.frozen 1
    have f2 := bO4.frozen 2
    simp only [List.getElem?_toArray, List.getElem?_cons_zero, List.getElem?_cons_succ] at o0 o1 o2
    obtain ⟨Aj, cj, rfl, _, _⟩ := hoj.ints.form
    have hp := Lib.hid (prd_put (((HX.out.trans E2).trans E3).trans hxj) (by rw [hg0]; omega) bO4 (OwnInts.base hoj hs3) (.int .i64 q) (.int .i64 0))
    clear hoj
    go_wp2_with fail
    refine bodyPost_ret (v := .tuple #[.agg #[.int .i64 q, .int .i64 0, .slice Aj ([a] ++ cs).length cj], .bool true]) (by simp [results, Tryz.results113, go_sem, o0, o1, o2]) rfl ⟨hp.out.1, .inr ⟨_, _, rfl, rfl, hp.out.2⟩⟩
  rw [if_neg c1]
  obtain ⟨k, hk⟩ : ∃ k : Nat, (p : Int) - r.m = (k : Int) := ⟨((p : Int) - r.m).toNat, by omega⟩
  have hkl : k ≤ cs.length := by have := HM.out; omega
  rw [hk]
  rw [hk] at hw1
  have HKM := Lib.hid hk
  have hsz := sizeInt_c (.slice (some ⟨b, 0, none⟩) cs.length c) cs W ((HI.out.ext HX.out).ints)
  by_cases c2 : (k : Int) = (cs.length : Int)
  · rw [if_pos c2]
    have hkc : cs.length = k := by omega
    have hd : ((k : Int) == (cs.length : Int)) = true := by simp [c2]
    obtain ⟨n2, hn2⟩ : ∃ n, W.heap.size = n := ⟨_, rfl⟩
    obtain ⟨W2, hW2⟩ : ∃ X, W.alloc (.cells #[.int .i64 a] 2) = X := ⟨_, rfl⟩
    obtain ⟨W3, hW3⟩ : ∃ X, W2.alloc (.cells #[.slice (some ⟨b, 0, none⟩) cs.length c, .slice (some ⟨n2, 0, none⟩) 1 1] 28) = X := ⟨_, rfl⟩
    have E2 : Ext W W2 := by rw [← hW2]; exact Ext.alloc _ _
    have E3 : Ext W2 W3 := by rw [← hW3]; exact Ext.alloc _ _
    have b2 : Blk W2 n2 2 #[.int .i64 a] := by rw [← hW2]; exact Blk.new _ _ _ _ hn2
    have b3 : Blk W3 W2.heap.size 28 #[.slice (some ⟨b, 0, none⟩) cs.length c, .slice (some ⟨n2, 0, none⟩) 1 1] := by rw [← hW3]; exact Blk.new _ _ _ _ rfl
    have k2 := (bP.ext E2).cell 2
    simp only [List.getElem?_toArray, List.getElem?_cons_zero, List.getElem?_cons_succ] at k2
    have hj := joinTwo_c _ _ _ _ _ W3 (((HI.out.ext HX.out).ext E2).ext E3) ((ownOne b2).ext E3) b3 (by simp; omega)
    obtain ⟨L, hL⟩ : ∃ L, cs ++ [a] = L := ⟨_, rfl⟩
    rw [hL] at hj ⊢
    have bO3 := (bO.ext E2).ext E3
    have hs3 : w.heap.size ≤ W3.heap.size := ((HX.out.trans E2).trans E3).size
    have HC := Lib.hid hkc
    clear hkc c2
    go_enter Tryz.func113, Tryz.ntmps113
    go_wp2_with (go_at_call 40; refine hsz.mono ?_; rintro e w' ⟨rfl, rfl⟩)
    refine hj.mono ?_
    rintro e w4 ⟨uj, rfl, hoj, hxj⟩
    have bO4 := bO3.ext hxj
    have o0 := bO4.cell 0
    have o1 := bO4.cell 1
    have o2 := bO4.cell 2
    have f0 := bO4.frozen 0
    have f1 := bO4.frozen 1
    have f2 := bO4.frozen 2
    simp only [List.getElem?_toArray, List.getElem?_cons_zero, List.getElem?_cons_succ] at o0 o1 o2
    obtain ⟨Aj, cj, rfl, _, _⟩ := hoj.ints.form
    have hp := Lib.hid (prd_put (((HX.out.trans E2).trans E3).trans hxj) (by rw [hg0]; omega) bO4 (OwnInts.base hoj hs3) (.int .i64 q) (.int .i64 (k : Int)))
    clear hoj
    go_wp2_with fail
    refine bodyPost_ret (v := .tuple #[.agg #[.int .i64 q, .int .i64 (k : Int), .slice Aj L.length cj], .bool true]) (by simp [results, Tryz.results113, go_sem, o0, o1, o2]) rfl ⟨hp.out.1, .inr ⟨_, _, rfl, by rw [HC.out], hp.out.2⟩⟩
  rw [if_neg c2]
  have hkl2 : k < cs.length := by omega
  have hd : ((k : Int) == (cs.length : Int)) = false := by simp; omega
  rw [Int.toNat_natCast]
  have hgd : cs.getD k 0 = cs[k] := by rw [List.getD_eq_getElem?_getD, List.getElem?_eq_getElem hkl2]; rfl
  rw [hgd]
  obtain ⟨b', off, hA, hcc⟩ := ((HI.out.ext HX.out).ints).at hkl2
  injection hA with hA
  injection hA with hA1 hA2
  subst hA1 hA2
  have e1 := hcc k hkl2
  rw [Nat.zero_add] at e1
  have i1 : (0 : Int) ≤ (k : Int) := by omega
  have i2 : (k : Int) < (cs.length : Int) := by omega
  have e2 := p2
  have e3 := r0
  have HSET : Hid (cs.set k a = cs.set k a) := Lib.hid rfl
  have HK := Lib.hid hgd
  clear hgd hcc
  by_cases c3 : ¬ cs[k] = r.w
  · rw [if_pos c3]
    have hne2 : (cs[k] != r.w) = true := by simp [c3]
    generalize cs[k] = z at *
    go_enter Tryz.func113, Tryz.ntmps113
    go_wp2_with (go_at_call 40; refine hsz.mono ?_; rintro e w' ⟨rfl, rfl⟩)
    refine wp_region_ord 8 [0, 1, 2, 3, 4, 5, 6, 7] (by kernel_rfl) (by kernel_rfl) (fun _ _ _ _ _ h => h) ?_
    simp only [pickO, List.drop_succ_cons, List.drop_zero, List.head?_cons, Option.elim_some]
    repeat (refine wpOrd_read (v := ?_) (by rfl) (Or.inl ⟨by rfl, fun x hx => ?_⟩) ?_; rotate_left; (· have a1 := hx.cell e1; have a2 := hx.cell e2; have a3 := hx.cell e3; go_simp; try with_reducible rfl); simp only [Act.put, List.setIfInBounds_toArray, List.set_cons_zero, List.set_cons_succ])
    refine wpOrd_done ?_
    try simp only [List.drop_succ_cons, List.drop_zero]
    have bOD := bO.drew
    have o0 := bOD.cell 0
    have o1 := bOD.cell 1
    have o2 := bOD.cell 2
    have f0 := bOD.frozen 0
    have f1 := bOD.frozen 1
    have f2 := bOD.frozen 2
    simp only [List.getElem?_toArray, List.getElem?_cons_zero, List.getElem?_cons_succ] at o0 o1 o2
    have hp := Lib.hid (prd_put (HX.out.trans (Ext.drew W)) (by rw [hg0]; omega) bOD (own_nil0 _) (.int .i64 0) (.int .i64 0))
    have z0 := bO.cell 0
    have z1 := bO.cell 1
    have z2 := bO.cell 2
    simp only [List.getElem?_toArray, List.getElem?_cons_zero, List.getElem?_cons_succ] at z0 z1 z2
    go_wp2_with fail
    refine bodyPost_ret (v := .tuple #[.agg #[.int .i64 0, .int .i64 0, .slice none 0 0], .bool false]) (by simp [results, Tryz.results113, go_sem, z0, z1, z2]) rfl ⟨?_, .inl ⟨rfl, rfl⟩⟩
    exact hp.out.1
  rw [if_neg c3]
  have hne2 : (cs[k] != r.w) = false := by simpa using c3
  have hzw : cs[k] = r.w := Decidable.not_not.1 c3
  rw [hzw] at e1
  have hne3 : (r.w != r.w) = false := by simp
  clear c3 hne2 hzw HK
  have hD := HX.out.trans (Ext.drew W)
  have hcl := Clone_c (.slice (some ⟨b, 0, none⟩) cs.length c) cs W.drew ((HI.out.ext hD).ints) (by omega) (by omega)
  have bOD := bO.drew
  have d2 := bP.drew.cell 2
  simp only [List.getElem?_toArray, List.getElem?_cons_zero, List.getElem?_cons_succ] at d2
  have hsD : w.heap.size ≤ W.drew.heap.size := hD.size
  go_enter Tryz.func113, Tryz.ntmps113
  go_wp2_with (go_at_call 40; refine hsz.mono ?_; rintro e w' ⟨rfl, rfl⟩)
  refine wp_region_ord 8 [0, 1, 2, 3, 4, 5, 6, 7] (by kernel_rfl) (by kernel_rfl) (fun _ _ _ _ _ h => h) ?_
  simp only [pickO, List.drop_succ_cons, List.drop_zero, List.head?_cons, Option.elim_some]
  repeat (refine wpOrd_read (v := ?_) (by rfl) (Or.inl ⟨by rfl, fun x hx => ?_⟩) ?_; rotate_left; (· have a1 := hx.cell e1; have a2 := hx.cell e2; have a3 := hx.cell e3; go_simp; try with_reducible rfl); simp only [Act.put, List.setIfInBounds_toArray, List.set_cons_zero, List.set_cons_succ])
  refine wpOrd_done ?_
  try simp only [List.drop_succ_cons, List.drop_zero]
  go_wp2_with fail
  refine hcl.mono ?_
  rintro e w4 ⟨uc, rfl, hoc, hxc⟩
  obtain ⟨Ac, cc, rfl, _, _⟩ := hoc.ints.form
  obtain ⟨gc, rfl, _, hgc⟩ := own_at hoc (by omega)
  have bO4 := bOD.ext hxc
  have hX4 := hD.trans hxc
  have eB := Ext.alloc w4 (.cells #[.int .i64 q, .int .i64 (k : Int), .slice (some ⟨gc, 0, none⟩) cs.length cc] 101)
  have hoE := hoc.ext eB
  have bN : Blk (w4.alloc (.cells #[.int .i64 q, .int .i64 (k : Int), .slice (some ⟨gc, 0, none⟩) cs.length cc] 101)) w4.heap.size 101 #[.int .i64 q, .int .i64 (k : Int), .slice (some ⟨gc, 0, none⟩) cs.length cc] := Blk.new _ _ _ _ rfl
  have ck := hoE.cellAt k (by omega)
  rw [ivs_get _ _ hkl2] at ck
  have fk := hoE.frozenAt k
  have nb := bN.cell 2
  simp only [List.getElem?_toArray, List.getElem?_cons_zero, List.getElem?_cons_succ] at nb
  clear o0 o1 o2 f0 f1 f2
  have hfar := own_far_blk hoc bO4 (by decide)
  have hne5 : g + 1 + 1 ≠ gc := fun e => hfar gc rfl e.symm
  have bO5 := bO4.far (p := ⟨gc, k, none⟩) hne5 (.int .i64 a)
  have hs5 := (World.ownsRow.stored hoc k (.int .i64 a)).1
  rw [← ivs_set] at hs5
  have hX5 := hX4.setCell (p := ⟨gc, k, none⟩) (by show w.heap.size ≤ gc; omega) (.int .i64 a)
  have bO6 := bO5.alloc (.cells #[.int .i64 q, .int .i64 (k : Int), .slice (some ⟨gc, 0, none⟩) cs.length cc] 101)
  have e6 := Ext.alloc (w4.setCell ⟨gc, k, none⟩ (.int .i64 a)) (.cells #[.int .i64 q, .int .i64 (k : Int), .slice (some ⟨gc, 0, none⟩) cs.length cc] 101)
  have hl5 : (cs.set k a).length = cs.length := List.length_set ..
  have hs6 : OwnInts w.heap.size _ (.slice (some ⟨gc, 0, none⟩) cs.length cc) (cs.set k a) := OwnInts.base (b := W.drew.heap.size) (show OwnInts _ _ _ _ from by
    unfold OwnInts
    rw [hl5]
    exact ownsRow_ext hs5 e6) hsD
  have o0 := bO6.cell 0
  have o1 := bO6.cell 1
  have o2 := bO6.cell 2
  have f0 := bO6.frozen 0
  have f1 := bO6.frozen 1
  have f2 := bO6.frozen 2
  simp only [List.getElem?_toArray, List.getElem?_cons_zero, List.getElem?_cons_succ] at o0 o1 o2
  have hp := Lib.hid (prd_put (hX5.trans e6) (by rw [hg0]; omega) bO6 hs6 (.int .i64 q) (.int .i64 (k : Int)))
  clear hs5 hs6 hl5 hfar
  go_wp2_with fail
  refine bodyPost_ret (v := .tuple #[.agg #[.int .i64 q, .int .i64 (k : Int), .slice (some ⟨gc, 0, none⟩) cs.length cc], .bool true]) (by simp [results, Tryz.results113, go_sem, o0, o1, o2]) rfl ⟨hp.out.1, .inr ⟨_, _, rfl, rfl, hp.out.2⟩⟩
end Go.Proofs.YtacpchapgklcgaaGreatDoor
end
