/- Contracts of the program's reversed and joined lists, and of the library's Grow of nil and Concat. Lists are short.
Contracts of the library's Concat and of the program's joined lists. Lists are short.
Contract of the program's joined lists, of two lists. -/
import Derived.Test.YtnflhpgkffiloaaDoorF08
import Derived.Lib.OwnBridge
import Derived.Lib.AppendZerosOnto
import Derived.Laws.AppendOwnNone
import Derived.Maps.AppendAt
section
set_option linter.unusedSimpArgs false
set_option linter.unusedVariables false
namespace Go.Proofs.YtnflhpgkffiloaaDoor
open Go Go.RowKit Go.Proofs
set_option maxHeartbeats 400000
/-- A slice that is nil, or whose address is one of a plain cell. -/
def Flat (v : Value) : Prop := v = .slice none 0 0 ∨ ∃ b off n c, v = .slice (some ⟨b, off, none⟩) n c
theorem OwnInts.flat {base : Nat} {w : World} {v : Value} {zs : List Int} (h : OwnInts base w v zs) : Flat v := by
  rcases h.2 with ⟨rfl, _⟩ | ⟨g, cap, cur, rfl, _⟩
  · exact .inl rfl
  · exact .inr ⟨g, 0, _, cap, rfl⟩
theorem grownBy_refl (w : World) (r : Option Nat) : w.grownBy w r := ⟨rfl, rfl, rfl, Nat.le_refl _, fun _ _ _ => rfl⟩
theorem CloneF_c (v : Value) (zs : List Int) (w : World) (h : Ints w v zs) (hf : Flat v) (h1 : zs.length ≤ 1048576) :
    Calls Tryd.prog 45 #[v] w fun e w' => ∃ u, e = .returned u ∧ OwnInts w.heap.size w' u zs ∧ (u = .slice none 0 0 → zs = []) ∧ Ext w w' := by
  obtain ⟨i0, hi, hz0, hz1, hz2⟩ := info_parts intInfo
  have hm : zs.length ≤ maxLen := by unfold maxLen; omega
  obtain ⟨A, c, rfl, _, _⟩ := id h.form
  rcases hf with hf | ⟨b, off, n, c', hf⟩
  · injection hf with e1 e2 e3
    subst e1 e3
    have hz : zs = [] := List.length_eq_zero_iff.1 e2
    subst hz
    refine (Tryd.slices_Clone_nil _ _ w).mono ?_
    rintro e w' ⟨rfl, rfl⟩
    exact ⟨_, rfl, ⟨by simp, .inl ⟨rfl, rfl⟩⟩, fun _ => rfl, Ext.refl _⟩
  · injection hf with e1 e2 e3
    subst e1 e3
    have hc : ∀ j u, (ivs zs)[j]? = some u → w.cell? ⟨b, off + j, none⟩ = some u := by
      intro j u hj
      obtain ⟨hl, _⟩ := List.getElem?_eq_some_iff.1 hj
      rw [ivs_length] at hl
      obtain ⟨b', off', e', hc⟩ := h.at hl
      cases e'
      exact ints_cells hc j u hj
    refine (Tryd.slices_Clone i0 _ 1 8 hi hz0 hz1 hz2 rfl (by omega) intSize b off zs.length c (ivs zs) w (by simp) hm (by omega) hc (ivs_one zs)).mono ?_
    rintro e w' ⟨u, rfl, ho, hne, hb⟩
    exact ⟨u, rfl, ho, fun e => absurd e hne, hb⟩
theorem reversed_c (v : Value) (zs : List Int) (w : World) (h : Ints w v zs) (hf : Flat v) (h1 : zs.length ≤ 1048576) :
    Calls Tryd.prog 49 #[v] w fun e w' => ∃ u, e = .returned u ∧ OwnInts w.heap.size w' u zs.reverse ∧ Ext w w' := by
  obtain ⟨A, c, rfl, _, _⟩ := id h.form
  go_enter Tryd.func49, Tryd.ntmps49
  go_wp2_with fail
  refine (CloneF_c _ zs w h hf h1).mono ?_
  rintro e w1 ⟨u, rfl, ho, hne, hx⟩
  by_cases hu : u = .slice none 0 0
  · have hz := hne hu
    subst hu
    subst hz
    go_wp2_with fail
    refine (Tryd.slices_Reverse_empty (α := Int) none 0 w1).mono ?_
    rintro e w2 ⟨rfl, rfl⟩
    go_wp2
    go_ret
    exact ⟨_, rfl, by simpa using ho, hx⟩
  · obtain ⟨g, cap, rfl, hg, hgl, _, _, _, hH⟩ := Lib.holds_of_ownsRow (enc := Value.int .i64) (zs := zs) ho hu
    go_wp2_with fail
    refine (Tryd.slices_Reverse (Value.int .i64) (fun _ => rfl) g 0 cap zs w1 hH (by omega)).mono ?_
    rintro e w2 ⟨rfl, q, rfl⟩
    go_wp2
    go_ret
    refine ⟨_, rfl, ?_, Lib.below_putRow hx hg⟩
    have := Lib.ownsRow_putRow (enc := Value.int .i64) (q := q) (ys := zs.reverse) (zs := zs) ho (by simp) (Nat.le_refl _)
    rw [List.take_of_length_le (by simp)] at this
    unfold OwnInts
    rw [List.length_reverse]
    exact this
set_option maxRecDepth 20000 in
theorem Grow0_c (n : Nat) (w : World) (hn : n ≤ 1048576) :
    Calls Tryd.prog 83 #[.slice none 0 0, .int .i64 n] w fun e w' => ∃ u, e = .returned u ∧ OwnInts w.heap.size w' u [] ∧ Ext w w' := by
  obtain ⟨i0, hi, hz0, hz1, hz2⟩ := info_parts intInfo
  by_cases h0 : n = 0
  · subst h0
    go_enter Tryd.func83, Tryd.ntmps83
    go_wp2
    go_ret
    exact ⟨_, rfl, ⟨by simp, .inl ⟨rfl, rfl⟩⟩, Ext.refl _⟩
  · have hbg : 0 < n := by omega
    have h4 : (n : Int) > 0 := by omega
    have hrz : ∀ ty, (Builtin.append_ #[29, 3] ty #[.slice none 0 0, .int .i64 n]).run Tryd.prog w =
        .ok (.slice (some ⟨w.heap.size, 0, none⟩) n (grownCap w n 0 2)) (w.drew.alloc (.cells (#[] ++ Builtin.zeroCells (Value.int .i64 0).cells n ++ Builtin.zeroCells (Value.int .i64 0).cells (grownCap w n 0 2 - n)) 2)) := fun ty => by
      have h := Lib.run_append_grow_zeros w 29 3 ty 2 i0 _ .i64 .i64 Tryd.underlying29 Tryd.underlying3 hi hz0 none 0 0 [] (run_firstCells_none w.drew i0.size 0 0 0) n hbg (by omega) (by omega) (by omega) (by rw [hz2]; omega)
        (growslice_fits (by omega) (by rw [hz2]; omega))
      simpa only [Nat.zero_add] using h
    have hGn : n ≤ grownCap w n 0 2 := grownCap_ge w _ _ _
    have hGm := grownCap_le_maxLen w n 0 2 (by unfold maxLen; omega)
    generalize grownCap w n 0 2 = G at *
    have hG63 : G ≤ 9223372036854775807 := by unfold maxLen at hGm; omega
    have HGm := Lib.hid hGm
    obtain ⟨cs, hcs⟩ : ∃ cs, cs = #[] ++ Builtin.zeroCells (Value.int .i64 0).cells n ++ Builtin.zeroCells (Value.int .i64 0).cells (G - n) := ⟨_, rfl⟩
    rw [← hcs] at hrz
    have HC : Hid (cs.size = G) := by
      unfold Hid
      rw [hcs]
      simp [Builtin.zeroCells, Value.cells]
      omega
    clear hcs hGm hi hz0 hz1 hz2
    go_enter Tryd.func83, Tryd.ntmps83
    go_wp2_with (at_builtin; refine Lib.wpList_append_run _ rfl _ _ _ _ rfl _ _ rfl rfl _ _ (hrz _) ?_)
    all_goals
      go_ret
      refine ⟨_, rfl, ⟨by simp, .inr ⟨w.heap.size, G, cs, rfl, Nat.le_refl _, heap_alloc_new w.drew _, Nat.zero_le _, HGm.out, by rw [HC.out]; omega, rfl⟩⟩, (Ext.drew w).trans (Ext.alloc _ _)⟩
end Go.Proofs.YtnflhpgkffiloaaDoor
end
section
set_option linter.unusedSimpArgs false
set_option linter.unusedVariables false
namespace Go.Proofs.YtnflhpgkffiloaaDoor
open Go Go.RowKit Go.Proofs
set_option maxHeartbeats 400000
/-- An append of a short list of numbers, nil among them. -/
theorem wpList_append_ints {w : World} {ops : Array Oper} {rest : List Oper} {o : Oper} {a : Act} {Q : Exit → Act → World → Prop} (hgd : o.guard = none) (s x : Operand)
    (ho : o.op = .call { callee := .builtin .append, args := #[s, x], argTypes := #[29, 29] }) (base : Nat)
    (v u : Value) (xs news : List Int) (hs : a.eval s = v) (hx : a.eval x = u) (hown : OwnInts base w v xs) (hu : Ints w u news) (hf : Flat u) (hl : xs.length + news.length ≤ 4194304) (hbase : base ≤ w.heap.size)
    (h : ∀ v' w', OwnInts base w' v' (xs ++ news) → w.grownBy w' v.ownBlock → wpList Tryd.prog ops Q rest (a.put o.dst v') w') : wpList Tryd.prog ops Q (o :: rest) a w := by
  obtain ⟨i0, hi, hz0, hz1, hz2⟩ := info_parts intInfo
  obtain ⟨A, c, rfl, _, _⟩ := id hu.form
  rcases hf with hf | ⟨b, off, n, c', hf⟩
  · injection hf with e1 e2 e3
    subst e1 e3
    have hz : news = [] := List.length_eq_zero_iff.1 e2
    subst hz
    refine wpList_append_own_none hgd s x _ ho base 2 i0 1 Tryd.underlying29 hi v xs.length (ivs xs) hs hown hx ?_
    exact h _ _ (by simpa using hown) (grownBy_refl _ _)
  · injection hf with e1 e2 e3
    subst e1 e3
    have hc : ∀ j y, (ivs news)[j]? = some y → w.cell? ((⟨b, off, none⟩ : Addr).add j) = some y := by
      intro j y hj
      obtain ⟨hl, _⟩ := List.getElem?_eq_some_iff.1 hj
      rw [ivs_length] at hl
      obtain ⟨b', off', e', hc⟩ := hu.at hl
      cases e'
      have := ints_cells hc j y hj
      by_cases hj0 : j = 0
      · subst hj0
        simpa [Addr.add] using this
      · simpa [Addr.add, hj0] using this
    refine wpList_append_own_at w hgd s x _ ho base 2 i0 (.int .i64 0) 1 8 Tryd.underlying29 hi hz0 hz1 hz2 rfl (by decide) v xs.length (ivs xs) hs hown ⟨b, off, none⟩ news.length c (ivs news) hx (by simp) hc (ivs_one news) (by unfold maxLen; omega) (by omega) hbase ?_
    intro v' w' h1 h2 _ _
    exact h v' w' (by unfold OwnInts; rw [ivs_append, List.length_append]; exact h1) h2
theorem flatten_take_succ (xss : List (List Int)) (i : Nat) (h : i < xss.length) : (xss.take (i + 1)).flatten = (xss.take i).flatten ++ xss[i] := by
  rw [List.take_succ_eq_append_getElem h, List.flatten_append]
  simp
theorem flatten_len (xss : List (List Int)) : xss.flatten.length = tot xss := by simp [tot, List.length_flatten]
set_option maxRecDepth 20000 in
set_option maxHeartbeats 1000000 in
theorem Concat_c (v : Value) (xss : List (List Int)) (vs : List Value) (w : World) (h : Row w 1 v xss.length vs) (he : ∀ i, (hi : i < xss.length) → ∃ u, vs[i]? = some u ∧ Ints w u xss[i] ∧ Flat u) (hn : xss.length ≤ 1000) (ht : tot xss ≤ 1048576) :
    Calls Tryd.prog 69 #[v] w fun e w' => ∃ u, e = .returned u ∧ OwnInts w.heap.size w' u xss.flatten ∧ Ext w w' := by
  obtain ⟨A, c, rfl, h1, h2, h3⟩ := id h.form
  go_enter Tryd.func69, Tryd.ntmps69
  go_wp2
  go_loop [3, 11] (fun s i => ∃ k : Nat, k ≤ xss.length ∧ i = .int .i64 k ∧ s = .int .i64 (tot (xss.take k))) (fun _ i => xss.length - (intOf i).toNat)
  case atStart => exact ⟨0, Nat.zero_le _, rfl, by simp [tot]⟩
  case round =>
    obtain ⟨k, hk, rfl, rfl⟩ := hrel
    by_cases hlt : k < xss.length
    · obtain ⟨b, off, rfl, hc⟩ := h.at hlt
      obtain ⟨u, hu, hui, _⟩ := he k hlt
      have c0 := hc k (by omega)
      rw [hu] at c0
      have HT := Lib.hid (tot_take_succ xss k hlt)
      have hle := tot_take_le xss (k + 1)
      rw [HT.out] at hle
      obtain ⟨Au, cu, rfl, _, _⟩ := hui.form
      clear hc hu hui he h
      generalize xss[k] = y at *
      generalize tot (xss.take k) = t at *
      go_wp2
      go_round
      case rel => exact ⟨k + 1, by omega, by go_num, by rw [HT.out]; go_num⟩
      case measure => simp [intOf]; omega
    · have hke : k = xss.length := by omega
      subst hke
      rw [List.take_length]
      generalize hT : tot xss = T at *
      have HTT := Lib.hid hT
      clear hT
      go_wp2_with fail
      refine (Grow0_c T w ht).mono ?_
      rintro e w1 ⟨u, rfl, ho, hx⟩
      obtain ⟨Ag, cg, rfl, _, _⟩ := id ho.ints.form
      go_wp2
      go_loopw [6, 27] (fun u i wr => ∃ k : Nat, k ≤ xss.length ∧ i = .int .i64 k ∧ OwnInts w.heap.size wr u (xss.take k).flatten ∧ Ext w wr) (fun _ i _ => xss.length - (intOf i).toNat)
      case atStart => exact ⟨0, Nat.zero_le _, rfl, by simpa using ho, hx⟩
      case round =>
        obtain ⟨k, hk, rfl, hok, hxk⟩ := hrel
        by_cases hlt2 : k < xss.length
        · obtain ⟨b, off, rfl, hc⟩ := h.at hlt2
          obtain ⟨u, hu, hui, huf⟩ := he k hlt2
          have c0 := hc k (by omega)
          rw [hu] at c0
          have c1 := hxk.cell c0
          have HF := Lib.hid (flatten_take_succ xss k hlt2)
          have hle := tot_take_le xss (k + 1)
          rw [← flatten_len, HF.out, HTT.out] at hle
          have hui' := hui.ext hxk
          obtain ⟨Au, cu, rfl, _, _⟩ := id hui'.form
          have hs := hxk.size
          clear hc hu hui
          generalize xss[k] = y at *
          generalize (xss.take k).flatten = ys at *
          simp only [List.length_append] at hle
          obtain ⟨Ay, cy, rfl, _, _⟩ := id hok.ints.form
          go_wp2_with (at_builtin; refine wpList_append_ints rfl _ _ rfl w.heap.size _ _ ys y rfl rfl hok hui' huf (by omega) hs ?_)
          intro v' w4 hown4 hg4
          obtain ⟨A', c', rfl, _, _⟩ := id hown4.ints.form
          have hx4 : Ext w w4 := hxk.grown hg4 (fun k hk => (hok.lt k hk).1)
          go_wp2
          go_roundw
          case rel => exact ⟨k + 1, by omega, by go_num, by rw [HF.out]; exact hown4, hx4⟩
          case measure => simp [intOf]; omega
        · have hke : k = xss.length := by omega
          subst hke
          rw [List.take_length] at hok
          obtain ⟨Ay, cy, rfl, _, _⟩ := id hok.ints.form
          go_wp2
          go_ret
          exact ⟨_, rfl, hok, hxk⟩
theorem joined_c (v : Value) (xss : List (List Int)) (vs : List Value) (w : World) (h : Row w 1 v xss.length vs) (he : ∀ i, (hi : i < xss.length) → ∃ u, vs[i]? = some u ∧ Ints w u xss[i] ∧ Flat u) (hn : xss.length ≤ 1000) (ht : tot xss ≤ 1048576) :
    Calls Tryd.prog 47 #[v] w fun e w' => ∃ u, e = .returned u ∧ OwnInts w.heap.size w' u xss.flatten ∧ Ext w w' := by
  obtain ⟨A, c, rfl, h1, h2, h3⟩ := id h.form
  obtain ⟨ys, hys⟩ : ∃ ys, xss.flatten = ys := ⟨_, rfl⟩
  rw [hys]
  have HYS := Lib.hid hys
  clear hys
  go_enter Tryd.func47, Tryd.ntmps47
  go_wp2_with fail
  refine (Concat_c _ xss vs w h he hn ht).mono ?_
  rintro e w1 ⟨u, rfl, ho, hx⟩
  rw [HYS.out] at ho
  obtain ⟨Ag, cg, rfl, _, _⟩ := id ho.ints.form
  go_wp2
  go_ret
  exact ⟨_, rfl, ho, hx⟩
end Go.Proofs.YtnflhpgkffiloaaDoor
end
section
set_option linter.unusedSimpArgs false
set_option linter.unusedVariables false
namespace Go.Proofs.YtnflhpgkffiloaaDoor
open Go Go.RowKit Go.Proofs
set_option maxHeartbeats 400000
theorem row_blk {w : World} {g n : Nat} {t : TypeId} {cs : List Value} (h : Blk w g t cs.toArray) (hl : cs.length = n) (hn : n ≤ 1000000) : Row w 1 (.slice (some ⟨g, 0, none⟩) n n) n cs := by
  subst hl
  refine ⟨_, _, rfl, Nat.le_refl _, by omega, by simp, fun _ => ⟨g, 0, rfl, fun j hj => ?_⟩⟩
  rw [Nat.zero_add, h.cell j]
  simp
theorem joinedA_c (A B : Option Addr) (ca cb : Nat) (xs ys : List Int) (w : World) (h1 : Ints w (.slice A xs.length ca) xs) (h2 : Ints w (.slice B ys.length cb) ys) (f1 : Flat (.slice A xs.length ca)) (f2 : Flat (.slice B ys.length cb)) (hn : xs.length + ys.length ≤ 1048576) :
    Calls Tryd.prog 47 #[.slice (some ⟨w.heap.size, 0, none⟩) 2 2] (w.alloc (.cells #[.slice A xs.length ca, .slice B ys.length cb] 29)) fun e w' => ∃ u, e = .returned u ∧ OwnInts w.heap.size w' u (xs ++ ys) ∧ Ext (w.alloc (.cells #[.slice A xs.length ca, .slice B ys.length cb] 29)) w' := by
  have hx := Ext.alloc w (.cells #[.slice A xs.length ca, .slice B ys.length cb] 29)
  have hb : Blk (w.alloc (.cells #[.slice A xs.length ca, .slice B ys.length cb] 29)) w.heap.size 29 ([.slice A xs.length ca, .slice B ys.length cb] : List Value).toArray := Blk.new _ _ _ _ rfl
  refine (joined_c _ [xs, ys] [.slice A xs.length ca, .slice B ys.length cb] _ (row_blk hb rfl (by simp)) ?_ (by simp) (by simp [tot]; omega)).mono ?_
  · intro i hi
    match i, hi with
    | 0, _ => exact ⟨_, rfl, h1.ext hx, f1⟩
    | 1, _ => exact ⟨_, rfl, h2.ext hx, f2⟩
  · rintro e w' ⟨u, rfl, ho, he⟩
    have e : [xs, ys].flatten = xs ++ ys := by simp
    rw [e] at ho
    exact ⟨u, rfl, ownsRow_base ho (by simp), he⟩
end Go.Proofs.YtnflhpgkffiloaaDoor
end
