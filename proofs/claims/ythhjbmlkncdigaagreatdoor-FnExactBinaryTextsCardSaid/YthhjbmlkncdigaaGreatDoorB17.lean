/- A block that is known whole, as a full row. No condition.
Contract of the reference's copy of a configuration; words for the list of a run's configurations.
Plain words: the texts of a run, and that a run ends in one way. -/
import Derived.Test.YthhjbmlkncdigaaGreatDoorB10
import Derived.Test.YthhjbmlkncdigaaGreatDoorB14
import Derived.Test.YthhjbmlkncdigaaGreatDoorB16
import Derived.Test.YthhjbmlkncdigaaGreatDoorB15
import Derived.Test.YthhjbmlkncdigaaGreatDoorB07
import Derived.Test.YthhjbmlkncdigaaGreatDoorB13
section
namespace Go.Proofs.YthhjbmlkncdigaaGreatDoor
open Go Go.RowKit Go.Proofs
theorem ownsRow_blk {w : World} {base g : Nat} {e : TypeId} {cs : Array Value} (size n : Nat) (hb : Blk w g e cs) (hg : base ≤ g) (hs : cs.size = n * size) (hm : n ≤ 1000000) : w.ownsRow base e size (.slice (some ⟨g, 0, none⟩) n n) n cs.toList :=
  ⟨by simp [hs], .inr ⟨g, n, cs, rfl, hg, hb, Nat.le_refl _, by unfold maxLen; omega, hs, List.take_of_length_le (by simp [hs])⟩⟩
end Go.Proofs.YthhjbmlkncdigaaGreatDoor
end
section
set_option linter.unusedSimpArgs false
set_option linter.unusedVariables false
namespace Go.Proofs.YthhjbmlkncdigaaGreatDoor
open Go Go.RowKit Go.Proofs
set_option maxHeartbeats 400000
theorem run_confM {M : MachD} (hm : machOk M = true) {x : ConfD} (hx : confB M x = true) {i : Nat} (h : RunsTo M x i) : confB M (cfgI M x i) = true := by
  obtain ⟨hg, hf, ht⟩ := conf_good hx
  refine conf_back (cfg_good hm hg i h.no) ?_ (tidy_cfg ht i)
  have := h.fit i (Nat.le_refl _)
  simpa [fitI] using this
set_option maxRecDepth 20000 in
set_option maxHeartbeats 4000000 in
theorem ownConfig_c (bc : Nat) (c : ConfD) (w : World) (h : ConfP w bc c) (hl : c.l.length ≤ 1048576) (hr : c.r.length ≤ 1048576) :
    Calls Tryz.prog 83 #[.pointer (some ⟨bc, 0, none⟩)] w fun e w' => ∃ v, e = .returned v ∧ ConfV w' v (cR c) ∧ Ext w w' := by
  obtain ⟨lv0, rv0, p0, p1, p2, hl0, hr0⟩ := h
  obtain ⟨Al, cl, rfl, _, _⟩ := hl0.form
  obtain ⟨Ar, cr, rfl, _, _⟩ := hr0.form
  obtain ⟨W, hW⟩ : ∃ W, W = w.alloc (.cells #[.int .i64 0, .slice none 0 0, .slice none 0 0] 37) := ⟨_, rfl⟩
  have hX : Ext w W := by rw [hW]; exact Ext.alloc _ _
  have bR : Blk W w.heap.size 37 #[.int .i64 0, .slice none 0 0, .slice none 0 0] := by rw [hW]; exact Blk.new _ _ _ _ rfl
  have hXd := hX.trans (Ext.drew W)
  have c0 := hXd.cell p0
  have c1 := hXd.cell p1
  have c2 := hXd.cell p2
  have hlD := hl0.ext hXd
  have hrD := hr0.ext hXd
  clear p0 p1 p2
  go_enter Tryz.func83, Tryz.ntmps83
  go_wp2_with fail
  rw [← hW]
  clear hW
  refine wp_region_ordT 14 (readsT [0, 1, 2, 3, 4, 5, 6, 7, 9, 10, 11, 12] (.stir 8 (.stir 13 .done))) (by kernel_rfl) (by kernel_rfl) (fun _ _ _ _ _ h => h) ?_
  simp only [readsT]
  iterate 12 (refine wpOrdT_read (v := ?_) (by rfl) (Or.inl ⟨by rfl, fun x hx => ?_⟩) ?_; rotate_left; (· have a1 := hx.cell c0; have a2 := hx.cell c1; have a3 := hx.cell c2; go_simp; try with_reducible rfl); try simp only [Act.put, List.setIfInBounds_toArray, List.set_cons_zero, List.set_cons_succ])
  refine wpOrdT_keep (by rfl) (fun K hK => ?_)
  go_simp
  go_at_call 79
  refine (l00OwnA_c _ c.l W.drew hlD hl).mono ?_
  rintro e w1 ⟨u1, rfl, ho1, hx1⟩
  obtain ⟨A1, k1, rfl, _, _⟩ := ho1.ints.form
  refine hK _ _ hx1 ?_
  clear hK K
  refine wpOrdT_keep (by rfl) (fun K hK => ?_)
  go_simp
  go_at_call 79
  refine (l00OwnA_c _ c.r w1 (hrD.ext hx1) hr).mono ?_
  rintro e w2 ⟨u2, rfl, ho2, hx2⟩
  obtain ⟨A2, k2, rfl, _, _⟩ := ho2.ints.form
  refine hK _ _ (hx1.trans hx2) ?_
  clear hK K
  refine wpOrdT_done ?_
  try simp only [List.drop_succ_cons, List.drop_zero]
  have EX := (Ext.drew W).trans (hx1.trans hx2)
  have bR2 := bR.ext EX
  obtain ⟨D1, D2⟩ := conf_done (n := c.q) (hX.trans EX) (Nat.le_refl _) bR2 (ho1.ext hx2) ho2
  have HD1 := Lib.hid D1
  have HD2 := Lib.hid D2
  clear D1 D2
  have r0 := bR2.cell 0
  have r1 := bR2.cell 1
  have r2 := bR2.cell 2
  have rf0 := bR2.frozen 0
  have rf1 := bR2.frozen 1
  have rf2 := bR2.frozen 2
  simp only [List.getElem?_toArray, List.getElem?_cons_zero, List.getElem?_cons_succ] at r0 r1 r2
  have d := (((bR2.set_ 0 (.int .i64 c.q)).set_ 1 (.slice A1 c.l.length k1)).set_ 2 (.slice A2 c.r.length k2)).cell
  go_wp2
  exact bodyPost_ret (v := .agg #[.int .i64 c.q, .slice A1 c.l.length k1, .slice A2 c.r.length k2]) (by simp [results, Tryz.results83, go_sem, d]) rfl ⟨_, rfl, HD1.out, HD2.out⟩
/-- The cells of a configuration whose sides are values. -/
def triC (q : Int) (u : Value × Value) : List Value := [.int .i64 q, u.1, u.2]
theorem tri_len {α : Type} (f : Nat → List α) (h : ∀ i, (f i).length = 3) (n : Nat) : ((List.range n).flatMap f).length = n * 3 := by
  induction n with
  | zero => rfl
  | succ n ih => rw [List.range_succ, List.flatMap_append, List.length_append, ih]; simp [h]; omega
theorem tri_get {α : Type} (f : Nat → List α) (h : ∀ i, (f i).length = 3) (n i j : Nat) (hi : i < n) (hj : j < 3) : ((List.range n).flatMap f)[i * 3 + j]? = (f i)[j]? := by
  induction n with
  | zero => omega
  | succ n ih =>
    rw [List.range_succ, List.flatMap_append]
    by_cases c : i < n
    · rw [List.getElem?_append_left (by rw [tri_len f h]; omega)]; exact ih c
    · have : i = n := by omega
      subst this
      rw [List.getElem?_append_right (by rw [tri_len f h]; omega), tri_len f h]
      simp
theorem ownrow_ne {w : World} {b1 b2 s1 s2 n1 n2 : Nat} {e1 e2 : TypeId} {v1 v2 : Value} {x1 x2 : List Value} (h1 : w.ownsRow b1 e1 s1 v1 n1 x1) (h2 : w.ownsRow b2 e2 s2 v2 n2 x2) (he : e1 ≠ e2) : ∀ g, v1.ownBlock = some g → v2.ownBlock ≠ some g := by
  intro g hg1 hg2
  rcases h1.2 with ⟨rfl, _⟩ | ⟨g1, c1, cur1, rfl, _, hh1, _⟩
  · simp [Value.ownBlock] at hg1
  · rcases h2.2 with ⟨rfl, _⟩ | ⟨g2, c2, cur2, rfl, _, hh2, _⟩
    · simp [Value.ownBlock] at hg2
    · simp [Value.ownBlock] at hg1 hg2
      subst hg1
      subst hg2
      rw [hh1] at hh2
      cases hh2
      exact he rfl
/-- The list of a run's configurations. -/
structure CfL (base : Nat) (W : World) (M : MachD) (x : ConfD) (vs : Nat → Value × Value) (tv : Value) (n : Nat) : Prop where
  own : W.ownsRow base 37 3 tv n ((List.range n).flatMap fun i => triC (cfgI M x i).q (vs i))
  sides : ∀ i, i < n → ∃ bl br, OwnInts bl W (vs i).1 (cfgI M x i).l ∧ OwnInts br W (vs i).2 (cfgI M x i).r
section
variable {base : Nat} {W W' : World} {M : MachD} {x : ConfD} {vs : Nat → Value × Value} {tv : Value} {n : Nat}
theorem CfL.ext (h : CfL base W M x vs tv n) (he : Ext W W') : CfL base W' M x vs tv n :=
  ⟨ownsRow_ext h.own he, fun i hi => by obtain ⟨bl, br, h1, h2⟩ := h.sides i hi; exact ⟨bl, br, h1.ext he, h2.ext he⟩⟩
theorem CfL.set (h : CfL base W M x vs tv n) {p : Addr} {cs : Array Value} (hb : Blk W p.block 37 cs) (hn : tv.ownBlock ≠ some p.block) (u : Value) : CfL base (W.setCell p u) M x vs tv n :=
  ⟨ownsRow_far h.own (fun k hk e => hn (by rw [← e]; exact hk)) u, fun i hi => by
    obtain ⟨bl, br, h1, h2⟩ := h.sides i hi
    exact ⟨bl, br, ownsRow_far h1 (own_far_blk h1 hb (by decide)) u, ownsRow_far h2 (own_far_blk h2 hb (by decide)) u⟩⟩
theorem tri_same (M : MachD) (x : ConfD) (vs : Nat → Value × Value) (u : Value × Value) (n : Nat) : ∀ m, m ≤ n → (List.range m).flatMap (fun i => triC (cfgI M x i).q (if i = n then u else vs i)) = (List.range m).flatMap (fun i => triC (cfgI M x i).q (vs i)) := by
  intro m
  induction m with
  | zero => intro _; rfl
  | succ m ih =>
    intro hm
    rw [List.range_succ, List.flatMap_append, List.flatMap_append, ih (by omega)]
    have : m ≠ n := by omega
    simp [this]
theorem CfL.push (h : CfL base W M x vs tv n) {v' lv rv : Value} {bl br : Nat} (hg : W.grownBy W' tv.ownBlock) (ho : W'.ownsRow base 37 3 v' (n + 1) (((List.range n).flatMap fun i => triC (cfgI M x i).q (vs i)) ++ triC (cfgI M x n).q (lv, rv)))
    (hl : OwnInts bl W lv (cfgI M x n).l) (hr : OwnInts br W rv (cfgI M x n).r) : CfL base W' M x (fun i => if i = n then (lv, rv) else vs i) v' (n + 1) := by
  have hs : ∀ {b : Nat} {v : Value} {zs : List Int}, OwnInts b W v zs → OwnInts b W' v zs := fun {b v zs} o => own_same o (fun g hgl => hg.block g (o.lt g hgl).2 (fun e => ownrow_ne o h.own (by decide) g hgl e.symm))
  refine ⟨?_, fun i hi => ?_⟩
  · have e : (List.range (n + 1)).flatMap (fun i => triC (cfgI M x i).q (if i = n then (lv, rv) else vs i)) = ((List.range n).flatMap fun i => triC (cfgI M x i).q (vs i)) ++ triC (cfgI M x n).q (lv, rv) := by
      rw [List.range_succ, List.flatMap_append, tri_same M x vs (lv, rv) n n (Nat.le_refl _)]
      simp
    rw [e]
    exact ho
  · by_cases c : i = n
    · subst c
      simp only [if_pos]
      exact ⟨bl, br, hs hl, hs hr⟩
    · simp only [if_neg c]
      obtain ⟨b1, b2, h1, h2⟩ := h.sides i (by omega)
      exact ⟨b1, b2, hs h1, hs h2⟩
/-- The cells of one of them. -/
theorem CfL.at (h : CfL base W M x vs tv n) {i : Nat} (hi : i < n) : ∃ g c, tv = .slice (some ⟨g, 0, none⟩) n c ∧ W.cell? ⟨g, i * 3, none⟩ = some (.int .i64 (cfgI M x i).q) ∧ W.cell? ⟨g, i * 3 + 1, none⟩ = some (vs i).1 ∧ W.cell? ⟨g, i * 3 + 2, none⟩ = some (vs i).2 := by
  have hf : ∀ i, (triC (cfgI M x i).q (vs i)).length = 3 := fun _ => rfl
  have key : ∀ j, j < 3 → i * 3 + j < n * 3 := fun j hj => by omega
  obtain ⟨A, c, rfl, _, _, _⟩ := (ownsRow_row h.own).form
  obtain ⟨g, rfl, _, _⟩ := own_at h.own (by omega)
  refine ⟨g, c, rfl, ?_, ?_, ?_⟩
  · have := tri_get (fun i => triC (cfgI M x i).q (vs i)) hf n i 0 hi (by omega)
    rw [Nat.add_zero] at this
    rw [h.own.cellAt (i * 3) (key 0 (by omega)), this]; rfl
  · rw [h.own.cellAt (i * 3 + 1) (key 1 (by omega)), tri_get (fun i => triC (cfgI M x i).q (vs i)) hf n i 1 hi (by omega)]; rfl
  · rw [h.own.cellAt (i * 3 + 2) (key 2 (by omega)), tri_get (fun i => triC (cfgI M x i).q (vs i)) hf n i 2 hi (by omega)]; rfl
end
end Go.Proofs.YthhjbmlkncdigaaGreatDoor
end
section
set_option linter.unusedSimpArgs false
set_option linter.unusedVariables false
namespace Go.Proofs.YthhjbmlkncdigaaGreatDoor
open Go Go.RowKit Go.Proofs
/-- The texts of a run and the code. -/
def TRun (M : MachD) (x : ConfD) (N : Nat) (f : ConfD → List UInt8) (L : List (List UInt8)) (k : Int) : Prop :=
  (∃ T, EndAt M x N T ∧ L = (List.range (T + 1)).map (fun i => f (cfgI M x i)) ∧ k = 0) ∨ ((∃ T, FullAt M x N T) ∧ L = [] ∧ k = 5)
theorem EndAt.unique {M : MachD} {x : ConfD} {N T T' : Nat} (h : EndAt M x N T) (h' : EndAt M x N T') : T = T' := by
  have key : ∀ {a b : Nat}, EndAt M x N a → EndAt M x N b → ¬ a < b := fun {a b} ha hb hlt => by
    rcases ha.stop with e | e
    · have := hb.le; omega
    · exact hb.runs.no a hlt e
  have := key h h'
  have := key h' h
  omega
theorem EndAt.not_full {M : MachD} {x : ConfD} {N T T' : Nat} (h : EndAt M x N T) (h' : FullAt M x N T') : False := by
  have hp := h'.pos
  have hle := h'.le
  by_cases hlt : T' ≤ T
  · have := h.runs.fit T' hlt
    rw [h'.full] at this
    cases this
  · rcases h.stop with e | e
    · omega
    · by_cases e1 : T = T' - 1
      · rw [e1] at e; exact h'.no e
      · exact h'.runs.no T (by omega) e
theorem TRun.unique {M : MachD} {x : ConfD} {N : Nat} {f : ConfD → List UInt8} {L L' : List (List UInt8)} {k k' : Int} (h : TRun M x N f L k) (h' : TRun M x N f L' k') : L = L' ∧ k = k' := by
  rcases h with ⟨T, h1, rfl, rfl⟩ | ⟨⟨T, h1⟩, rfl, rfl⟩ <;> rcases h' with ⟨T', h1', rfl, rfl⟩ | ⟨⟨T', h1'⟩, rfl, rfl⟩
  · rw [h1.unique h1']; exact ⟨rfl, rfl⟩
  · exact (h1.not_full h1').elim
  · exact (h1'.not_full h1).elim
  · exact ⟨rfl, rfl⟩
end Go.Proofs.YthhjbmlkncdigaaGreatDoor
end
