/- Words for the texts of a run by the program's runner: what holds between two rounds, and what is kept.
Contracts of the library's Concat and of the program's joined lists. Lists are short. -/
import Derived.Test.YtjcfmlecfjmcgaaGreatDoorS30
import Derived.Test.YtjcfmlecfjmcgaaGreatDoorS31
import Derived.Test.YtjcfmlecfjmcgaaGreatDoorS33
import Derived.Test.YtjcfmlecfjmcgaaGreatDoorS26
import Derived.Maps.AppendAt
section
set_option linter.unusedSimpArgs false
set_option linter.unusedVariables false
namespace Go.Proofs.YtjcfmlecfjmcgaaGreatDoor
open Go Go.RowKit Go.Proofs Go.Shelf
set_option maxHeartbeats 400000
theorem RunAt.lower {w0 w1 w : World} {b : Nat} {m : MachD} {d : ConfD} {mv lv rv : Value} (h : RunAt w1 w b m d mv lv rv) (he : Ext w0 w1) (hr : Rules w0 mv m.rules) : RunAt w0 w b m d mv lv rv :=
  ⟨h.blk, hr, he.trans h.ext0, ownsRow_base h.l he.size, ownsRow_base h.r he.size, h.ap, Nat.le_trans he.size h.low⟩
/-- One row apart from a runner is written on. -/
theorem RunAt.row {w0 A B : World} {b : Nat} {m : MachD} {d : ConfD} {mv lv rv : Value} (h : RunAt w0 A b m d mv lv rv) {row : Option Nat} (hg : A.grownBy B row) (hr : ∀ r, row = some r → w0.heap.size ≤ r ∧ Apt b r lv rv) : RunAt w0 B b m d mv lv rv := by
  refine ⟨h.blk.kept hg (fun e => (hr b e.symm).2.nb rfl), h.rules0, h.ext0.grown hg (fun k hk => (hr k hk).1), ?_, ?_, h.ap, h.low⟩
  · exact own_same h.l (fun g hgl => hg.block g (h.l.lt g hgl).2 (fun e => (hr g e.symm).2.nl hgl))
  · exact own_same h.r (fun g hgl => hg.block g (h.r.lt g hgl).2 (fun e => (hr g e.symm).2.nr hgl))
/-- The variables of the run: the function, both results, the runner, the texts. -/
structure VarT (W : World) (k h b : Nat) (fv : Value) (x : Int) (tv : Value) : Prop where
  f : Blk W (k + 2) 78 #[fv]
  r : Blk W (k + 3) 30 #[.slice none 0 0]
  e : Blk W (k + 4) 2 #[.int .i64 x]
  p : Blk W (h + 1) 108 #[.pointer (some ⟨b, 0, none⟩)]
  t : Blk W (h + 2) 30 #[tv]
theorem VarT.same {W W' : World} {k h b : Nat} {fv tv : Value} {x : Int} (v : VarT W k h b fv x tv) (hs : ∀ i, (i = k + 2 ∨ i = k + 3 ∨ i = k + 4 ∨ i = h + 1 ∨ i = h + 2) → W'.heap[i]? = W.heap[i]?) : VarT W' k h b fv x tv :=
  ⟨(hs _ (.inl rfl)).trans v.f, (hs _ (.inr (.inl rfl))).trans v.r, (hs _ (.inr (.inr (.inl rfl)))).trans v.e, (hs _ (.inr (.inr (.inr (.inl rfl))))).trans v.p, (hs _ (.inr (.inr (.inr (.inr rfl))))).trans v.t⟩
theorem VarT.kept {W W' : World} {k h b : Nat} {fv tv : Value} {x : Int} (v : VarT W k h b fv x tv) {row : Option Nat} (hg : W.grownBy W' row) (hr : ∀ r, row = some r → (∃ o : Obj, W.heap[r]? = some o ∧ o.isCells = false) ∨ (r ≠ k + 2 ∧ r ≠ k + 3 ∧ r ≠ k + 4 ∧ r ≠ h + 1 ∧ r ≠ h + 2)) : VarT W' k h b fv x tv := by
  have key : ∀ {i : Nat} {t : TypeId} {cs : Array Value}, Blk W i t cs → (i = k + 2 ∨ i = k + 3 ∨ i = k + 4 ∨ i = h + 1 ∨ i = h + 2) → Blk W' i t cs := by
    intro i t cs hb hi
    refine hb.kept hg (fun e => ?_)
    rcases hr i e.symm with h1 | ⟨h1, h2, h3, h4, h5⟩
    · exact not_cells (o := .cells #[] 0) hb h1
    · rcases hi with h' | h' | h' | h' | h'
      · exact h1 h'
      · exact h2 h'
      · exact h3 h'
      · exact h4 h'
      · exact h5 h'
  exact ⟨key v.f (.inl rfl), key v.r (.inr (.inl rfl)), key v.e (.inr (.inr (.inl rfl))), key v.p (.inr (.inr (.inr (.inl rfl)))), key v.t (.inr (.inr (.inr (.inr rfl))))⟩
theorem VarT.ext {W W' : World} {k h b : Nat} {fv tv : Value} {x : Int} (v : VarT W k h b fv x tv) (he : Ext W W') : VarT W' k h b fv x tv := ⟨v.f.ext he, v.r.ext he, v.e.ext he, v.p.ext he, v.t.ext he⟩
theorem VarT.setT {W : World} {k h b : Nat} {fv tv : Value} {x : Int} (v : VarT W k h b fv x tv) (hk : k + 5 ≤ h) (u : Value) : VarT (W.setCell ⟨h + 2, 0, none⟩ u) k h b fv x u :=
  ⟨v.f.far (by show k + 2 ≠ h + 2; omega) u, v.r.far (by show k + 3 ≠ h + 2; omega) u, v.e.far (by show k + 4 ≠ h + 2; omega) u, v.p.far (by show h + 1 ≠ h + 2; omega) u, v.t.set_ 0 u⟩
theorem VarT.setR {W : World} {k h b : Nat} {fv tv : Value} {x : Int} (v : VarT W k h b fv x tv) (hk : k + 5 ≤ h) : VarT (W.setCell ⟨k + 3, 0, none⟩ (.slice none 0 0)) k h b fv x tv :=
  ⟨v.f.far (by show k + 2 ≠ k + 3; omega) _, v.r.set_ 0 _, v.e.far (by show k + 4 ≠ k + 3; omega) _, v.p.far (by show h + 1 ≠ k + 3; omega) _, v.t.far (by show h + 2 ≠ k + 3; omega) _⟩
theorem VarT.setE {W : World} {k h b : Nat} {fv tv : Value} {x : Int} (v : VarT W k h b fv x tv) (hk : k + 5 ≤ h) (y : Int) : VarT (W.setCell ⟨k + 4, 0, none⟩ (.int .i64 y)) k h b fv y tv :=
  ⟨v.f.far (by show k + 2 ≠ k + 4; omega) _, v.r.far (by show k + 3 ≠ k + 4; omega) _, v.e.set_ 0 _, v.p.far (by show h + 1 ≠ k + 4; omega) _, v.t.far (by show h + 2 ≠ k + 4; omega) _⟩
/-- An own row of texts is apart from the variables. -/
theorem VarT.row {W : World} {k h b base n : Nat} {fv tv u : Value} {x : Int} {xs : List Value} (v : VarT W k h b fv x tv) (ho : W.ownsRow base 9 1 u n xs) : ∀ g, u.ownBlock = some g → (g ≠ k + 2 ∧ g ≠ k + 3 ∧ g ≠ k + 4 ∧ g ≠ h + 1 ∧ g ≠ h + 2) := by
  intro g hg
  refine ⟨?_, ?_, ?_, ?_, ?_⟩ <;> rintro rfl
  · exact blk_ne_row v.f ho (by decide) hg.symm
  · exact blk_ne_row v.r ho (by decide) hg.symm
  · exact blk_ne_row v.e ho (by decide) hg.symm
  · exact blk_ne_row v.p ho (by decide) hg.symm
  · exact blk_ne_row v.t ho (by decide) hg.symm
/-- The variables are apart from a runner. -/
def AptV (b k h : Nat) (lv rv : Value) : Prop := ∀ i, (i = k + 2 ∨ i = k + 3 ∨ i = k + 4 ∨ i = h + 1 ∨ i = h + 2) → Apt b i lv rv
/-- The texts of the first n configurations. -/
def firstT (M : MachD) (c : ConfD) (f : ConfD → List UInt8) (n : Nat) : List (List UInt8) := (List.range n).map fun i => f (cfgI M c i)
theorem firstT_length (M : MachD) (c : ConfD) (f : ConfD → List UInt8) (n : Nat) : (firstT M c f n).length = n := by simp [firstT]
theorem firstT_svB (M : MachD) (c : ConfD) (f : ConfD → List UInt8) (n : Nat) : svB (firstT M c f (n + 1)) = svB (firstT M c f n) ++ [.string (bsS (f (cfgI M c n)))] := by simp [firstT, svB, List.range_succ]
/-- The pairs of the first n rounds. -/
def roundsT (n : Nat) : List (Int × Bool) := (List.range n).map fun (i : Nat) => ((i : Int), true)
theorem roundsT_succ (n : Nat) : roundsT (n + 1) = roundsT n ++ [((n : Int), true)] := by simp [roundsT, List.range_succ]
theorem roundsT_length (n : Nat) : (roundsT n).length = n := by simp [roundsT]
theorem roundsT_last {xs pre : List (Int × Bool)} {i : Nat} {s : Bool} (h : xs = roundsT xs.length) (h' : xs = pre ++ [((i : Int), s)]) : xs.length = i + 1 ∧ s = true := by
  have hl : xs.length = pre.length + 1 := by rw [h']; simp
  rw [hl, roundsT_succ] at h
  rw [h] at h'
  have := List.append_inj_right' h' rfl
  simp only [List.cons.injEq, Prod.mk.injEq, and_true] at this
  obtain ⟨h1, h2⟩ := this
  have : (pre.length : Int) = i := h1
  exact ⟨by omega, h2.symm⟩
/-- What holds between two rounds. -/
def IFt (w0 : World) (b : Nat) (M : MachD) (mv : Value) (k h : Nat) (fv : Value) (c : ConfD) (f : ConfD → List UInt8) (pre : List (Int × Bool)) (W : World) : Prop :=
  ∃ d lv rv tv, RunAt w0 W b M d mv lv rv ∧ AptV b k h lv rv ∧ VarT W k h b fv 0 tv ∧ W.ownsRow h 9 1 tv pre.length (svB (firstT M c f pre.length)) ∧ (∀ g, tv.ownBlock = some g → Apt b g lv rv ∧ g ≠ h + 3 ∧ g ≠ h + 4) ∧ pre = roundsT pre.length ∧ h + 5 ≤ W.heap.size
/-- What holds when a round has left the loop. -/
def IxFt (w0 : World) (b k h : Nat) (fv : Value) (cd : Code) (pre : List (Int × Bool)) (W : World) : Prop :=
  cd = .ret ∧ (∃ p x, pre = p ++ [x] ∧ x.2 = false) ∧ (∃ tv, VarT W k h b fv 5 tv) ∧ Ext w0 W
section
variable {w0 : World} {b k h B : Nat} {M : MachD} {c : ConfD} {mv fv : Value} {f : ConfD → List UInt8}
theorem iFt_own (h0 : w0.heap.size ≤ B) : OwnFrom B (IFt w0 b M mv k h fv c f) := by
  rintro s W W' row ⟨d, lv, rv, tv, hR, hA, hV, ho, hT, hp, hz⟩ hg hr
  exact ⟨d, lv, rv, tv, hR.turn hg (fun r e => ⟨Nat.le_trans h0 (hr r e).1, (hr r e).2⟩), hA, hV.kept hg (fun r e => .inl (hr r e).2), own_same ho (fun g hgl => hg.block g (ho.lt g hgl).2 (fun e => own_not_cells ho hgl (hr g e.symm).2)), hT, hp, Nat.le_trans hz hg.size⟩
theorem ixFt_own (h0 : w0.heap.size ≤ B) (cd : Code) : OwnFrom B (IxFt w0 b k h fv cd) := by
  rintro s W W' row ⟨h1, h2, ⟨tv, hV⟩, hE⟩ hg hr
  exact ⟨h1, h2, ⟨tv, hV.kept hg (fun r e => .inl (hr r e).2)⟩, hE.grown hg (fun r e => Nat.le_trans h0 (hr r e).1)⟩
theorem iFt_w (s : List (Int × Bool)) (X Y : World) (hI : IFt w0 b M mv k h fv c f s X) (hw : WrR w0 b M mv X Y) : IFt w0 b M mv k h fv c f s Y := by
  obtain ⟨d, lv, rv, tv, hR, hA, hV, ho, hT, hp, hz⟩ := hI
  obtain ⟨d1, l1, r1, d2, l2, r2, h1, h2, hm⟩ := hw
  obtain ⟨rfl, rfl⟩ := hR.vals h1
  have hsz : ∀ i, (i = k + 2 ∨ i = k + 3 ∨ i = k + 4 ∨ i = h + 1 ∨ i = h + 2) → i < X.heap.size := by
    rintro i (e | e | e | e | e) <;> rw [e]
    · exact hV.f.lt
    · exact hV.r.lt
    · exact hV.e.lt
    · exact hV.p.lt
    · exact hV.t.lt
  exact ⟨d2, l2, r2, tv, h2, fun i hi => ((hA i hi).moved hm (hsz i hi)).1, hV.same (fun i hi => ((hA i hi).moved hm (hsz i hi)).2), own_same ho (fun g hg => ((hT g hg).1.moved hm (ho.lt g hg).2).2), fun g hg => ⟨((hT g hg).1.moved hm (ho.lt g hg).2).1, (hT g hg).2⟩, hp, Nat.le_trans hz hm.size⟩
end
/-- What the texts of a run come to. -/
def TxtOut (w0 : World) (M : MachD) (c : ConfD) (N : Nat) (f : ConfD → List UInt8) (e : Ending) (w' : World) : Prop :=
  ∃ L kk tv, e = .returned (.tuple #[tv, .int .i64 kk]) ∧ w'.ownsRow w0.heap.size 9 1 tv L.length (svB L) ∧ TRun M c N f L kk ∧ Ext w0 w'
/-- A round that keeps the runner. -/
theorem kp_of {w0 W W' : World} {b bq bp : Nat} {m : MachD} {d : ConfD} {mv lv rv : Value} (h : RunAt w0 W b m d mv lv rv) (hK : ∀ d', RunAt w0 W b m d' mv lv rv → RunAt w0 W' b m d' mv lv rv) (hs : W.heap.size ≤ W'.heap.size) (h1 : W'.heap[bq]? = W.heap[bq]?) (h2 : W'.heap[bp]? = W.heap[bp]?) : KpR w0 b bq bp m mv W W' :=
  ⟨hs, fun d' l r hr => by obtain ⟨rfl, rfl⟩ := h.vals hr; exact hK _ hr, h1, h2⟩
end Go.Proofs.YtjcfmlecfjmcgaaGreatDoor
end
section
set_option linter.unusedSimpArgs false
set_option linter.unusedVariables false
namespace Go.Proofs.YtjcfmlecfjmcgaaGreatDoor
open Go Go.RowKit Go.Proofs
set_option maxHeartbeats 400000
/-- An append of a short list of numbers, nil among them. -/
theorem wpList_append_ints {w : World} {ops : Array Oper} {rest : List Oper} {o : Oper} {a : Act} {Q : Exit → Act → World → Prop} (hgd : o.guard = none) (s x : Operand)
    (ho : o.op = .call { callee := .builtin .append, args := #[s, x], argTypes := #[25, 25] }) (base : Nat)
    (v u : Value) (xs news : List Int) (hs : a.eval s = v) (hx : a.eval x = u) (hown : OwnInts base w v xs) (hu : Ints w u news) (hf : Flat u) (hl : xs.length + news.length ≤ 4194304) (hbase : base ≤ w.heap.size)
    (h : ∀ v' w', OwnInts base w' v' (xs ++ news) → w.grownBy w' v.ownBlock → wpList Tryz.prog ops Q rest (a.put o.dst v') w') : wpList Tryz.prog ops Q (o :: rest) a w := by
  obtain ⟨i0, hi, hz0, hz1, hz2⟩ := info_parts intInfo
  obtain ⟨A, c, rfl, _, _⟩ := id hu.form
  rcases hf with hf | ⟨b, off, n, c', hf⟩
  · injection hf with e1 e2 e3
    subst e1 e3
    have hz : news = [] := List.length_eq_zero_iff.1 e2
    subst hz
    refine wpList_append_own_none hgd s x _ ho base 2 i0 1 Tryz.underlying25 hi v xs.length (ivs xs) hs hown hx ?_
    exact h _ _ (by simpa using hown) (grownBy_refl _ _)
  · injection hf with e1 e2 e3
    subst e1 e3
    have hc : ∀ j y, (ivs news)[j]? = some y → w.cell? ((⟨b, off, none⟩ : Addr).add j) = some y := by
      intro j y hj
      obtain ⟨hl, _⟩ := List.getElem?_eq_some_iff.1 hj
      rw [ivs_length] at hl
      obtain ⟨b', off', e', hc⟩ := hu.at hl
      cases e'
      have := ints_cells hc j y hj
      by_cases hj0 : j = 0
      · subst hj0
        simpa [Addr.add] using this
      · simpa [Addr.add, hj0] using this
    refine wpList_append_own_at w hgd s x _ ho base 2 i0 (.int .i64 0) 1 8 Tryz.underlying25 hi hz0 hz1 hz2 rfl (by decide) v xs.length (ivs xs) hs hown ⟨b, off, none⟩ news.length c (ivs news) hx (by simp) hc (ivs_one news) (by unfold maxLen; omega) (by omega) hbase ?_
    intro v' w' h1 h2 _ _
    exact h v' w' (by unfold OwnInts; rw [ivs_append, List.length_append]; exact h1) h2
theorem flatten_take_succ (xss : List (List Int)) (i : Nat) (h : i < xss.length) : (xss.take (i + 1)).flatten = (xss.take i).flatten ++ xss[i] := by
  rw [List.take_succ_eq_append_getElem h, List.flatten_append]
  simp
theorem flatten_len (xss : List (List Int)) : xss.flatten.length = tot xss := by simp [tot, List.length_flatten]
set_option maxRecDepth 20000 in
set_option maxHeartbeats 1000000 in
theorem Concat_c (v : Value) (xss : List (List Int)) (vs : List Value) (w : World) (h : Row w 1 v xss.length vs) (he : ∀ i, (hi : i < xss.length) → ∃ u, vs[i]? = some u ∧ Ints w u xss[i] ∧ Flat u) (hn : xss.length ≤ 1000) (ht : tot xss ≤ 1048576) :
    Calls Tryz.prog 105 #[v] w fun e w' => ∃ u, e = .returned u ∧ OwnInts w.heap.size w' u xss.flatten ∧ Ext w w' := by
  obtain ⟨A, c, rfl, h1, h2, h3⟩ := id h.form
  go_enter Tryz.func105, Tryz.ntmps105
  go_wp2
  go_loop [3, 11] (fun s i => ∃ k : Nat, k ≤ xss.length ∧ i = .int .i64 k ∧ s = .int .i64 (tot (xss.take k))) (fun _ i => xss.length - (intOf i).toNat)
  case atStart => exact ⟨0, Nat.zero_le _, rfl, by simp [tot]⟩
  case round =>
    obtain ⟨k, hk, rfl, rfl⟩ := hrel
    by_cases hlt : k < xss.length
    · obtain ⟨b, off, rfl, hc⟩ := h.at hlt
      obtain ⟨u, hu, hui, _⟩ := he k hlt
      have c0 := hc k (by omega)
      rw [hu] at c0
      have HT := Lib.hid (tot_take_succ xss k hlt)
      have hle := tot_take_le xss (k + 1)
      rw [HT.out] at hle
      obtain ⟨Au, cu, rfl, _, _⟩ := hui.form
      clear hc hu hui he h
      generalize xss[k] = y at *
      generalize tot (xss.take k) = t at *
      go_wp2
      go_round
      case rel => exact ⟨k + 1, by omega, by go_num, by rw [HT.out]; go_num⟩
      case measure => simp [intOf]; omega
    · have hke : k = xss.length := by omega
      subst hke
      rw [List.take_length]
      generalize hT : tot xss = T at *
      have HTT := Lib.hid hT
      clear hT
      go_wp2_with fail
      refine (Grow0_c T w ht).mono ?_
      rintro e w1 ⟨u, rfl, ho, hx⟩
      obtain ⟨Ag, cg, rfl, _, _⟩ := id ho.ints.form
      go_wp2
      go_loopw [6, 27] (fun u i wr => ∃ k : Nat, k ≤ xss.length ∧ i = .int .i64 k ∧ OwnInts w.heap.size wr u (xss.take k).flatten ∧ Ext w wr) (fun _ i _ => xss.length - (intOf i).toNat)
      case atStart => exact ⟨0, Nat.zero_le _, rfl, by simpa using ho, hx⟩
      case round =>
        obtain ⟨k, hk, rfl, hok, hxk⟩ := hrel
        by_cases hlt2 : k < xss.length
        · obtain ⟨b, off, rfl, hc⟩ := h.at hlt2
          obtain ⟨u, hu, hui, huf⟩ := he k hlt2
          have c0 := hc k (by omega)
          rw [hu] at c0
          have c1 := hxk.cell c0
          have HF := Lib.hid (flatten_take_succ xss k hlt2)
          have hle := tot_take_le xss (k + 1)
          rw [← flatten_len, HF.out, HTT.out] at hle
          have hui' := hui.ext hxk
          obtain ⟨Au, cu, rfl, _, _⟩ := id hui'.form
          have hs := hxk.size
          clear hc hu hui
          generalize xss[k] = y at *
          generalize (xss.take k).flatten = ys at *
          simp only [List.length_append] at hle
          obtain ⟨Ay, cy, rfl, _, _⟩ := id hok.ints.form
          go_wp2_with (at_builtin; refine wpList_append_ints rfl _ _ rfl w.heap.size _ _ ys y rfl rfl hok hui' huf (by omega) hs ?_)
          intro v' w4 hown4 hg4
          obtain ⟨A', c', rfl, _, _⟩ := id hown4.ints.form
          have hx4 : Ext w w4 := hxk.grown hg4 (fun k hk => (hok.lt k hk).1)
          go_wp2
          go_roundw
          case rel => exact ⟨k + 1, by omega, by go_num, by rw [HF.out]; exact hown4, hx4⟩
          case measure => simp [intOf]; omega
        · have hke : k = xss.length := by omega
          subst hke
          rw [List.take_length] at hok
          obtain ⟨Ay, cy, rfl, _, _⟩ := id hok.ints.form
          go_wp2
          go_ret
          exact ⟨_, rfl, hok, hxk⟩
theorem joined_c (v : Value) (xss : List (List Int)) (vs : List Value) (w : World) (h : Row w 1 v xss.length vs) (he : ∀ i, (hi : i < xss.length) → ∃ u, vs[i]? = some u ∧ Ints w u xss[i] ∧ Flat u) (hn : xss.length ≤ 1000) (ht : tot xss ≤ 1048576) :
    Calls Tryz.prog 70 #[v] w fun e w' => ∃ u, e = .returned u ∧ OwnInts w.heap.size w' u xss.flatten ∧ Ext w w' := by
  obtain ⟨A, c, rfl, h1, h2, h3⟩ := id h.form
  obtain ⟨ys, hys⟩ : ∃ ys, xss.flatten = ys := ⟨_, rfl⟩
  rw [hys]
  have HYS := Lib.hid hys
  clear hys
  go_enter Tryz.func70, Tryz.ntmps70
  go_wp2_with fail
  refine (Concat_c _ xss vs w h he hn ht).mono ?_
  rintro e w1 ⟨u, rfl, ho, hx⟩
  rw [HYS.out] at ho
  obtain ⟨Ag, cg, rfl, _, _⟩ := id ho.ints.form
  go_wp2
  go_ret
  exact ⟨_, rfl, ho, hx⟩
end Go.Proofs.YtjcfmlecfjmcgaaGreatDoor
end
