/- Contracts of the library's Concat and of the program's joined lists. Lists are short.
Contract of the program's joined lists, of two lists.
Contract of the program's writing of one symbol on one tape. -/
import Derived.Test.YtapjofbjedpmgaaGreatC11
import Derived.Maps.AppendAt
import Derived.Test.YtapjofbjedpmgaaGreatC07
import Derived.Deep.CutBlock
import Derived.Deep.DeepCutAuto
section
set_option linter.unusedSimpArgs false
set_option linter.unusedVariables false
namespace Go.Proofs.YtapjofbjedpmgaaGreat
open Go Go.RowKit Go.Proofs
set_option maxHeartbeats 400000
/-- An append of a short list of numbers, nil among them. -/
theorem wpList_append_ints {w : World} {ops : Array Oper} {rest : List Oper} {o : Oper} {a : Act} {Q : Exit → Act → World → Prop} (hgd : o.guard = none) (s x : Operand)
    (ho : o.op = .call { callee := .builtin .append, args := #[s, x], argTypes := #[27, 27] }) (base : Nat)
    (v u : Value) (xs news : List Int) (hs : a.eval s = v) (hx : a.eval x = u) (hown : OwnInts base w v xs) (hu : Ints w u news) (hf : Flat u) (hl : xs.length + news.length ≤ 4194304) (hbase : base ≤ w.heap.size)
    (h : ∀ v' w', OwnInts base w' v' (xs ++ news) → w.grownBy w' v.ownBlock → wpList Tryz.prog ops Q rest (a.put o.dst v') w') : wpList Tryz.prog ops Q (o :: rest) a w := by
  obtain ⟨i0, hi, hz0, hz1, hz2⟩ := info_parts intInfo
  obtain ⟨A, c, rfl, _, _⟩ := id hu.form
  rcases hf with hf | ⟨b, off, n, c', hf⟩
  · injection hf with e1 e2 e3
    subst e1 e3
    have hz : news = [] := List.length_eq_zero_iff.1 e2
    subst hz
    refine wpList_append_own_none hgd s x _ ho base 2 i0 1 Tryz.underlying27 hi v xs.length (ivs xs) hs hown hx ?_
    exact h _ _ (by simpa using hown) (grownBy_refl _ _)
  · injection hf with e1 e2 e3
    subst e1 e3
    have hc : ∀ j y, (ivs news)[j]? = some y → w.cell? ((⟨b, off, none⟩ : Addr).add j) = some y := by
      intro j y hj
      obtain ⟨hl, _⟩ := List.getElem?_eq_some_iff.1 hj
      rw [ivs_length] at hl
      obtain ⟨b', off', e', hc⟩ := hu.at hl
      cases e'
      have := ints_cells hc j y hj
      by_cases hj0 : j = 0
      · subst hj0
        simpa [Addr.add] using this
      · simpa [Addr.add, hj0] using this
    refine wpList_append_own_at w hgd s x _ ho base 2 i0 (.int .i64 0) 1 8 Tryz.underlying27 hi hz0 hz1 hz2 rfl (by decide) v xs.length (ivs xs) hs hown ⟨b, off, none⟩ news.length c (ivs news) hx (by simp) hc (ivs_one news) (by unfold maxLen; omega) (by omega) hbase ?_
    intro v' w' h1 h2 _ _
    exact h v' w' (by unfold OwnInts; rw [ivs_append, List.length_append]; exact h1) h2
theorem flatten_take_succ (xss : List (List Int)) (i : Nat) (h : i < xss.length) : (xss.take (i + 1)).flatten = (xss.take i).flatten ++ xss[i] := by
  rw [List.take_succ_eq_append_getElem h, List.flatten_append]
  simp
theorem flatten_len (xss : List (List Int)) : xss.flatten.length = tot xss := by simp [tot, List.length_flatten]
set_option maxRecDepth 20000 in
set_option maxHeartbeats 1000000 in
theorem Concat_c (v : Value) (xss : List (List Int)) (vs : List Value) (w : World) (h : Row w 1 v xss.length vs) (he : ∀ i, (hi : i < xss.length) → ∃ u, vs[i]? = some u ∧ Ints w u xss[i] ∧ Flat u) (hn : xss.length ≤ 1000) (ht : tot xss ≤ 1048576) :
    Calls Tryz.prog 73 #[v] w fun e w' => ∃ u, e = .returned u ∧ OwnInts w.heap.size w' u xss.flatten ∧ Ext w w' := by
  obtain ⟨A, c, rfl, h1, h2, h3⟩ := id h.form
  go_enter Tryz.func73, Tryz.ntmps73
  go_wp2
  go_loop [3, 11] (fun s i => ∃ k : Nat, k ≤ xss.length ∧ i = .int .i64 k ∧ s = .int .i64 (tot (xss.take k))) (fun _ i => xss.length - (intOf i).toNat)
  case atStart => exact ⟨0, Nat.zero_le _, rfl, by simp [tot]⟩
  case round =>
    obtain ⟨k, hk, rfl, rfl⟩ := hrel
    by_cases hlt : k < xss.length
    · obtain ⟨b, off, rfl, hc⟩ := h.at hlt
      obtain ⟨u, hu, hui, _⟩ := he k hlt
      have c0 := hc k (by omega)
      rw [hu] at c0
      have HT := Lib.hid (tot_take_succ xss k hlt)
      have hle := tot_take_le xss (k + 1)
      rw [HT.out] at hle
      obtain ⟨Au, cu, rfl, _, _⟩ := hui.form
      clear hc hu hui he h
      generalize xss[k] = y at *
      generalize tot (xss.take k) = t at *
      go_wp2
      go_round
      case rel => exact ⟨k + 1, by omega, by go_num, by rw [HT.out]; go_num⟩
      case measure => simp [intOf]; omega
    · have hke : k = xss.length := by omega
      subst hke
      rw [List.take_length]
      generalize hT : tot xss = T at *
      have HTT := Lib.hid hT
      clear hT
      go_wp2_with fail
      refine (Grow0_c T w ht).mono ?_
      rintro e w1 ⟨u, rfl, ho, hx⟩
      obtain ⟨Ag, cg, rfl, _, _⟩ := id ho.ints.form
      go_wp2
      go_loopw [6, 27] (fun u i wr => ∃ k : Nat, k ≤ xss.length ∧ i = .int .i64 k ∧ OwnInts w.heap.size wr u (xss.take k).flatten ∧ Ext w wr) (fun _ i _ => xss.length - (intOf i).toNat)
      case atStart => exact ⟨0, Nat.zero_le _, rfl, by simpa using ho, hx⟩
      case round =>
        obtain ⟨k, hk, rfl, hok, hxk⟩ := hrel
        by_cases hlt2 : k < xss.length
        · obtain ⟨b, off, rfl, hc⟩ := h.at hlt2
          obtain ⟨u, hu, hui, huf⟩ := he k hlt2
          have c0 := hc k (by omega)
          rw [hu] at c0
          have c1 := hxk.cell c0
          have HF := Lib.hid (flatten_take_succ xss k hlt2)
          have hle := tot_take_le xss (k + 1)
          rw [← flatten_len, HF.out, HTT.out] at hle
          have hui' := hui.ext hxk
          obtain ⟨Au, cu, rfl, _, _⟩ := id hui'.form
          have hs := hxk.size
          clear hc hu hui
          generalize xss[k] = y at *
          generalize (xss.take k).flatten = ys at *
          simp only [List.length_append] at hle
          obtain ⟨Ay, cy, rfl, _, _⟩ := id hok.ints.form
          go_wp2_with (at_builtin; refine wpList_append_ints rfl _ _ rfl w.heap.size _ _ ys y rfl rfl hok hui' huf (by omega) hs ?_)
          intro v' w4 hown4 hg4
          obtain ⟨A', c', rfl, _, _⟩ := id hown4.ints.form
          have hx4 : Ext w w4 := hxk.grown hg4 (fun k hk => (hok.lt k hk).1)
          go_wp2
          go_roundw
          case rel => exact ⟨k + 1, by omega, by go_num, by rw [HF.out]; exact hown4, hx4⟩
          case measure => simp [intOf]; omega
        · have hke : k = xss.length := by omega
          subst hke
          rw [List.take_length] at hok
          obtain ⟨Ay, cy, rfl, _, _⟩ := id hok.ints.form
          go_wp2
          go_ret
          exact ⟨_, rfl, hok, hxk⟩
theorem joined_c (v : Value) (xss : List (List Int)) (vs : List Value) (w : World) (h : Row w 1 v xss.length vs) (he : ∀ i, (hi : i < xss.length) → ∃ u, vs[i]? = some u ∧ Ints w u xss[i] ∧ Flat u) (hn : xss.length ≤ 1000) (ht : tot xss ≤ 1048576) :
    Calls Tryz.prog 35 #[v] w fun e w' => ∃ u, e = .returned u ∧ OwnInts w.heap.size w' u xss.flatten ∧ Ext w w' := by
  obtain ⟨A, c, rfl, h1, h2, h3⟩ := id h.form
  obtain ⟨ys, hys⟩ : ∃ ys, xss.flatten = ys := ⟨_, rfl⟩
  rw [hys]
  have HYS := Lib.hid hys
  clear hys
  go_enter Tryz.func35, Tryz.ntmps35
  go_wp2_with fail
  refine (Concat_c _ xss vs w h he hn ht).mono ?_
  rintro e w1 ⟨u, rfl, ho, hx⟩
  rw [HYS.out] at ho
  obtain ⟨Ag, cg, rfl, _, _⟩ := id ho.ints.form
  go_wp2
  go_ret
  exact ⟨_, rfl, ho, hx⟩
end Go.Proofs.YtapjofbjedpmgaaGreat
end
section
set_option linter.unusedSimpArgs false
set_option linter.unusedVariables false
namespace Go.Proofs.YtapjofbjedpmgaaGreat
open Go Go.RowKit Go.Proofs
set_option maxHeartbeats 400000
theorem row_blk {w : World} {g n : Nat} {t : TypeId} {cs : List Value} (h : Blk w g t cs.toArray) (hl : cs.length = n) (hn : n ≤ 1000000) : Row w 1 (.slice (some ⟨g, 0, none⟩) n n) n cs := by
  subst hl
  refine ⟨_, _, rfl, Nat.le_refl _, by omega, by simp, fun _ => ⟨g, 0, rfl, fun j hj => ?_⟩⟩
  rw [Nat.zero_add, h.cell j]
  simp
theorem joinedA_c (A B : Option Addr) (ca cb : Nat) (xs ys : List Int) (w : World) (h1 : Ints w (.slice A xs.length ca) xs) (h2 : Ints w (.slice B ys.length cb) ys) (f1 : Flat (.slice A xs.length ca)) (f2 : Flat (.slice B ys.length cb)) (hn : xs.length + ys.length ≤ 1048576) :
    Calls Tryz.prog 35 #[.slice (some ⟨w.heap.size, 0, none⟩) 2 2] (w.alloc (.cells #[.slice A xs.length ca, .slice B ys.length cb] 27)) fun e w' => ∃ u, e = .returned u ∧ OwnInts w.heap.size w' u (xs ++ ys) ∧ Ext (w.alloc (.cells #[.slice A xs.length ca, .slice B ys.length cb] 27)) w' := by
  have hx := Ext.alloc w (.cells #[.slice A xs.length ca, .slice B ys.length cb] 27)
  have hb : Blk (w.alloc (.cells #[.slice A xs.length ca, .slice B ys.length cb] 27)) w.heap.size 27 ([.slice A xs.length ca, .slice B ys.length cb] : List Value).toArray := Blk.new _ _ _ _ rfl
  refine (joined_c _ [xs, ys] [.slice A xs.length ca, .slice B ys.length cb] _ (row_blk hb rfl (by simp)) ?_ (by simp) (by simp [tot]; omega)).mono ?_
  · intro i hi
    match i, hi with
    | 0, _ => exact ⟨_, rfl, h1.ext hx, f1⟩
    | 1, _ => exact ⟨_, rfl, h2.ext hx, f2⟩
  · rintro e w' ⟨u, rfl, ho, he⟩
    have e : [xs, ys].flatten = xs ++ ys := by simp
    rw [e] at ho
    exact ⟨u, rfl, ownsRow_base ho (by simp), he⟩
theorem joined2_c (A B : Option Addr) (ca cb : Nat) (xs ys : List Int) (w : World) (h1 : Ints w (.slice A xs.length ca) xs) (h2 : Ints w (.slice B ys.length cb) ys) (f1 : Flat (.slice A xs.length ca)) (f2 : Flat (.slice B ys.length cb)) (hn : xs.length + ys.length ≤ 1048576) :
    Calls Tryz.prog 35 #[.slice (some ⟨w.heap.size, 0, none⟩) 2 2] (w.alloc (.cells #[.slice A xs.length ca, .slice B ys.length cb] 27)) fun e w' => ∃ u, e = .returned u ∧ OwnInts w.heap.size w' u (xs ++ ys) ∧ Ext w w' := by
  refine (joinedA_c A B ca cb xs ys w h1 h2 f1 f2 hn).mono ?_
  rintro e w' ⟨u, rfl, ho, he⟩
  exact ⟨u, rfl, ho, (Ext.alloc w _).trans he⟩
end Go.Proofs.YtapjofbjedpmgaaGreat
end
section
set_option linter.unusedVariables false
set_option linter.unusedSimpArgs false
namespace Go.Proofs.YtapjofbjedpmgaaGreat
open Go Go.RowKit Go.Proofs Go.Maps
set_option maxHeartbeats 400000
theorem Side.flat {base : Nat} {w : World} {v : Value} {xs : List Int} (h : Side base w v xs) : Flat v := by
  rcases h with ⟨_, rfl | ⟨b, off, c, rfl, _⟩⟩ | ⟨g, off, c, cs, rfl, _⟩
  · exact .inl rfl
  · exact .inr ⟨_, _, _, _, rfl⟩
  · exact .inr ⟨_, _, _, _, rfl⟩
theorem Side.form {base : Nat} {w : World} {v : Value} {xs : List Int} (h : Side base w v xs) : ∃ A c, v = .slice A xs.length c ∧ xs.length ≤ c ∧ c ≤ 9223372036854775807 := h.ints.form
/-- A side that is not empty lies in its own block. -/
theorem Side.at {base : Nat} {w : World} {v : Value} {xs : List Int} (h : Side base w v xs) (h1 : 1 ≤ xs.length) : ∃ g off c cs, v = .slice (some ⟨g, off, none⟩) xs.length c ∧ xs.length ≤ c ∧ c ≤ 9223372036854775807 ∧ base ≤ g ∧ Blk w g 2 cs ∧ ∀ j, (h : j < xs.length) → cs[off + j]? = some (.int .i64 xs[j]) := by
  rcases h with ⟨rfl, _⟩ | h
  · simp at h1
  · exact h
theorem Side.nil {base : Nat} {w : World} {v : Value} {xs : List Int} (h : Side base w v xs) (h0 : xs.length = 0) : (v = .slice none 0 0 ∨ ∃ b off c, v = .slice (some ⟨b, off, none⟩) 0 c ∧ c ≤ 9223372036854775807) := by
  rcases h with ⟨_, h⟩ | ⟨g, off, c, cs, rfl, _, h2, _⟩
  · exact h
  · rw [h0]
    exact .inr ⟨_, _, _, rfl, h2⟩
theorem Side.take {base : Nat} {w : World} {A : Option Addr} {n c : Nat} {xs : List Int} (h : Side base w (.slice A n c) xs) (k : Nat) (hk : k ≤ xs.length) : Side base w (.slice A k c) (xs.take k) := by
  have hl : (xs.take k).length = k := by simp; omega
  rcases h with ⟨rfl, h⟩ | ⟨g, off, c', cs, e, h1, h2, hb, hg, hc⟩
  · simp at hk
    subst hk
    refine .inl ⟨rfl, ?_⟩
    rcases h with e | ⟨b, off, c', e, h⟩
    · injection e with e1 e2 e3
      subst e1 e3
      exact .inl rfl
    · injection e with e1 e2 e3
      subst e1 e3
      exact .inr ⟨_, _, _, rfl, h⟩
  · injection e with e1 e2 e3
    subst e1 e3
    refine .inr ⟨g, off, c, cs, by rw [hl], by omega, h2, hb, hg, fun j hj => ?_⟩
    rw [hl] at hj
    rw [hc j (by omega)]
    simp
section
variable {base b o : Nat} {w0 w w' : World} {cs0 cs : Array Value} {lv0 rv0 lv rv u : Value} {t : TapeD}
end
end Go.Proofs.YtapjofbjedpmgaaGreat
end
