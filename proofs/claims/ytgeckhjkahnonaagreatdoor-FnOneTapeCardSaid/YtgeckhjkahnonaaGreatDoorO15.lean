/- A made map to numbers, as a function on what its keys stand for: what a look-up answers and what a store leaves. No condition.
The program's table of what the rules of a machine with several tapes read.
Contracts of what the program's machine with one tape does in its places. The machine with several tapes is valid, and its table lies in memory. -/
import Derived.Test.YtgeckhjkahnonaaGreatDoorO01
import Derived.Maps.Own
import Derived.Maps.OwnSet
import Derived.Maps.Keyed
import Derived.Maps.Views
import Derived.DeepKeys4
import Derived.Test.YtgeckhjkahnonaaGreatDoorO14
import Derived.Test.YtgeckhjkahnonaaGreatDoorO05
import Derived.Laws.IdiomCopy
import Derived.Laws.CopyRow
import Derived.Lib.SlBuf
import Derived.Test.YtgeckhjkahnonaaGreatDoorO13
import Derived.Deep.CutBlock
import Derived.Deep.DeepCutAuto
section
namespace Go.Proofs.YtgeckhjkahnonaaGreatDoor
open Go Go.RowKit Go.Proofs Go.Maps
/-- A type of maps to numbers. -/
structure MapTy (P : Program) (t k e : TypeId) : Prop where
  keyed : Keyed P k
  und : P.underlying t = some (.map k e)
  el : P.underlying e = some (.int .i64)
  zero : ∀ w, (zeroValue e).run P w = .ok (.int .i64 0) w
section
variable {P : Program} {t k e : TypeId} {α : Type} {enc : α → Value} {w w' : World} {b n : Nat} {T T' : α → Option Int}
/-- The map in block b has T a at the key of a, in at most n entries. -/
def Tbl (P : Program) (k e : TypeId) (enc : α → Value) (w : World) (b n : Nat) (T : α → Option Int) : Prop :=
  ∃ D : DataW Unit, w.ownsMap P k (plainElem P e) b n D ∧ ∀ a l, keyOf P k (enc a) = some l → Maps.has D l = (T a).isSome ∧ D.atKey l (.lit (.int .i64 0)) = .lit (.int .i64 ((T a).getD 0))
theorem Tbl.made (P : Program) (k e : TypeId) (enc : α → Value) (w : World) : Tbl P k e enc (w.alloc (.map #[] 0)) w.heap.size 0 (fun _ => none) :=
  ⟨_, World.ownsMap_made _ _ _ _, fun _ _ _ => ⟨rfl, rfl⟩⟩
theorem Tbl.kept {row : Option Nat} (h : Tbl P k e enc w b n T) (hg : w.grownBy w' row) (hne : some b ≠ row) : Tbl P k e enc w' b n T := by
  obtain ⟨D, h1, h2⟩ := h
  exact ⟨D, h1.kept hg hne, h2⟩
theorem Tbl.ext (h : Tbl P k e enc w b n T) (he : Ext w w') : Tbl P k e enc w' b n T :=
  h.kept (row := none) ⟨he.os, he.tape, he.output, he.size, fun k hk _ => Below.block he k hk⟩ (by simp)
theorem Tbl.setCell (h : Tbl P k e enc w b n T) {a : Addr} (ha : b ≠ a.block) (u : Value) : Tbl P k e enc (w.setCell a u) b n T := by
  obtain ⟨D, h1, h2⟩ := h
  exact ⟨D, h1.setCell ha u, h2⟩
theorem Tbl.mono {n' : Nat} (h : Tbl P k e enc w b n T) (hn : n ≤ n') : Tbl P k e enc w b n' T := by
  obtain ⟨D, h1, h2⟩ := h
  exact ⟨D, h1.mono hn, h2⟩
theorem Tbl.lt (h : Tbl P k e enc w b n T) : b < w.heap.size := by
  obtain ⟨D, h1, _⟩ := h
  exact h1.lt
theorem Tbl.ne_row (h : Tbl P k e enc w b n T) {base : Nat} {e' : TypeId} {size : Nat} {v : Value} {m : Nat} {xs : List Value} (ho : w.ownsRow base e' size v m xs) : some b ≠ v.ownBlock := by
  obtain ⟨D, ⟨es, clock, hb, _⟩, _⟩ := h
  rcases ho.2 with ⟨rfl, _⟩ | ⟨g, cap, cur, rfl, _, hg, _⟩
  · simp [Value.ownBlock]
  · intro e
    have : b = g := by simpa [Value.ownBlock] using e
    subst this
    rw [hb] at hg
    cases hg
theorem Tbl.ne_blk (h : Tbl P k e enc w b n T) {g : Nat} {t' : TypeId} {cs : Array Value} (hg : Blk w g t' cs) : b ≠ g := by
  obtain ⟨D, ⟨es, clock, hb, _⟩, _⟩ := h
  rintro rfl
  unfold Blk at hg
  rw [hb] at hg
  cases hg
theorem lit_int_inj {a b : Int} (h : (DataW.lit (.int .i64 a) : DataW Unit) = .lit (.int .i64 b)) : a = b := by
  injection h with h
  injection h
theorem Tbl.lookup (h : Tbl P k e enc w b n T) (M : MapTy P t k e) (a : α) (hk : ∃ l, keyOf P k (enc a) = some l) :
    (Instr.lookup t (.map (some b)) (enc a) false).run P w = .ok (.int .i64 ((T a).getD 0)) w := by
  obtain ⟨D, h1, h2⟩ := h
  obtain ⟨l, hl⟩ := hk
  obtain ⟨c, hrun, hat, _⟩ := h1.lookup_int M.keyed M.und M.el (M.zero w) hl
  rw [(h2 a l hl).2] at hat
  rw [lit_int_inj hat]
  exact hrun
theorem Tbl.lookup2 (h : Tbl P k e enc w b n T) (M : MapTy P t k e) (a : α) (hk : ∃ l, keyOf P k (enc a) = some l) :
    (Instr.lookup t (.map (some b)) (enc a) true).run P w = .ok (.tuple #[.int .i64 ((T a).getD 0), .bool (T a).isSome]) w := by
  obtain ⟨D, h1, h2⟩ := h
  obtain ⟨l, hl⟩ := hk
  obtain ⟨v, ps, hrun, hv⟩ := h1.look_ok M.keyed M.und (M.zero w) (plainElem_int M.el (by decide)) hl
  obtain ⟨c, rfl, hc, _⟩ := plainElem_int_inv M.el hv
  have hc1 := congrArg Prod.fst hc
  simp only at hc1
  rw [(h2 a l hl).2] at hc1
  rw [(h2 a l hl).1, ← lit_int_inj hc1] at hrun
  exact hrun
theorem Tbl.update [DecidableEq α] (h : Tbl P k e enc w b n T) (M : MapTy P t k e) (hinj : ∀ x y, enc x = enc y → x = y) (hn : n < maxLen) (a : α) (hk : ∃ l, keyOf P k (enc a) = some l) (c : Int) (hc : (Lit.int .i64 c).wf = true) :
    ∃ w', (Instr.mapUpdate t (.map (some b)) (enc a) (.int .i64 c)).run P w = .ok () w' ∧ Tbl P k e enc w' b (n + 1) (fun x => if x = a then some c else T x) ∧ w.grownBy w' (some b) := by
  obtain ⟨D, h1, h2⟩ := h
  obtain ⟨l, hl⟩ := hk
  obtain ⟨w', hrun, h3, h4⟩ := h1.update M.keyed M.und hn hl (plainElem_int M.el hc)
  refine ⟨w', hrun, ⟨_, h3, fun x lx hx => ?_⟩, h4⟩
  by_cases e : x = a
  · subst e
    rw [hl] at hx
    injection hx with hx
    subst hx
    rw [has_put_same h1.isMap (M.keyed.key hl), atKey_put_same h1.isMap (M.keyed.key hl)]
    simp
  · have hne : lx ≠ l := fun e' => e (hinj _ _ (M.keyed.inj hx (e' ▸ hl)))
    rw [has_put_other hne, atKey_put_other hne]
    simp only [e, if_false]
    exact h2 x lx hx
end
end Go.Proofs.YtgeckhjkahnonaaGreatDoor
end
section
set_option linter.unusedVariables false
set_option linter.unusedSimpArgs false
namespace Go.Proofs.YtgeckhjkahnonaaGreatDoor
open Go Go.RowKit Go.Proofs Go.Maps
set_option maxHeartbeats 400000
theorem laidOutM : laidOutB Tryz.prog = true := by kernel_rfl
theorem rdTy : MapTy Tryz.prog 92 96 2 where
  keyed := Keyed.of_law (deep_law_laid laidOutM (m := 4) (by omega) (by decide +kernel) (by kernel_rfl) (by kernel_rfl))
  und := Tryz.underlying92
  el := Tryz.underlying2
  zero w := by kernel_rfl
/-- What is read, as a value. -/
def rdE (x : KeyM) : Value := .agg #[.int .i64 x.1, .int .i64 x.2.1, .int .i64 x.2.2.1, .int .i64 x.2.2.2]
theorem rdE_inj (x y : KeyM) (h : rdE x = rdE y) : x = y := by
  obtain ⟨a, b, c, d⟩ := x
  obtain ⟨a', b', c', d'⟩ := y
  simp [rdE] at h
  obtain ⟨rfl, rfl, rfl, rfl⟩ := h
  rfl
def smallZ (z : Int) : Prop := -1000000 ≤ z ∧ z ≤ 1000000
theorem smallZ_wf {z : Int} (h : smallZ z) : (Lit.int .i64 z).wf = true := by
  obtain ⟨_, _⟩ := h
  simp [Lit.wf, IntKind.min, IntKind.max, IntKind.signed, IntKind.bits]
  omega
theorem rdKey (x : KeyM) (h1 : smallZ x.1) (h2 : smallZ x.2.1) (h3 : smallZ x.2.2.1) (h4 : smallZ x.2.2.2) : ∃ l, keyOf Tryz.prog 96 (rdE x) = some l := by
  have w1 := smallZ_wf h1
  have w2 := smallZ_wf h2
  have w3 := smallZ_wf h3
  have w4 := smallZ_wf h4
  have c4 : Tryz.prog.cellsOf 96 = 4 := by kernel_rfl
  have c3 : Tryz.prog.cellsOf 71 = 3 := by kernel_rfl
  have c1 : Tryz.prog.cellsOf 2 = 1 := by kernel_rfl
  have kt : Tryz.prog.keyType 96 = true := by kernel_rfl
  obtain ⟨d, hd⟩ : ∃ d, Tryz.prog.types.size = d + 2 := ⟨Tryz.prog.types.size - 2, by decide +kernel⟩
  have hf : (rdE x).formed Tryz.prog 96 = true := by simp [Value.formed, rdE, Tryz.underlying96, c4]
  have hK : Tryz.prog.keyLits (Tryz.prog.types.size + 1) 96 (rdE x).cells.toList = some [.int .i64 x.1, .int .i64 x.2.1, .int .i64 x.2.2.1, .int .i64 x.2.2.2] := by
    rw [hd]
    simp [Program.keyLits, rdE, Value.cells, Tryz.underlying96, Tryz.underlying71, Tryz.underlying2, c4, c3, c1, w1, w2, w3, w4, show List.range 3 = [0, 1, 2] from rfl]
  unfold keyOf
  rw [Tryz.underlying96]
  simp only [kt, hf, Bool.and_self, if_true, hK]
  exact ⟨_, rfl⟩
theorem rd2 {xs : List Int} (h : (xs.length : Int) = 2 ∨ (xs.length : Int) = 3) : (∃ a b, xs = [a, b]) ∨ ∃ a b c, xs = [a, b, c] := by
  match xs, h with
  | [a, b], _ => exact .inl ⟨a, b, rfl⟩
  | [a, b, c], _ => exact .inr ⟨a, b, c, rfl⟩
  | [], h => simp at h
  | [_], h => simp at h
  | _ :: _ :: _ :: _ :: l, h => simp at h; omega
/-- What the copying of a rule's symbols leaves. -/
theorem copy_read {w : World} {b g off c : Nat} {q : Int} {xs : List Int} (hb : Blk w b 96 #[.int .i64 q, .int .i64 0, .int .i64 0, .int .i64 0]) (h : Ints w (.slice (some ⟨g, off, none⟩) xs.length c) xs) (hx : (xs.length : Int) = 2 ∨ (xs.length : Int) = 3) :
    ∃ w' n, (Builtin.copy_ #[34, 34] 3 #[.slice (some ⟨b, 1, none⟩) 3 3, .slice (some ⟨g, off, none⟩) xs.length c]).run Tryz.prog w = .ok n w' ∧
      Blk w' b 96 #[.int .i64 (key3 q xs).1, .int .i64 (key3 q xs).2.1, .int .i64 (key3 q xs).2.2.1, .int .i64 (key3 q xs).2.2.2] ∧ w.grownBy w' (some b) := by
  have hcell : ∀ j v, (ivs xs)[j]? = some v → w.cell? ((⟨g, off, none⟩ : Addr).add j) = some v := by
    intro j y hj
    obtain ⟨hl, _⟩ := List.getElem?_eq_some_iff.1 hj
    rw [ivs_length] at hl
    obtain ⟨b', off', e', hc⟩ := h.at hl
    cases e'
    have e : y = .int .i64 xs[j] := by
      have := ivs_get xs j hl
      rw [hj] at this
      injection this
    have := hc j hl
    rw [e]
    by_cases hj0 : j = 0
    · subst hj0
      first | (simp [Addr.add]; done) | (simpa [Addr.add] using this)
    · first | (simp [Addr.add, hj0]; done) | (simpa [Addr.add, hj0] using this)
  have hone : ∀ v ∈ ivs xs, v.oneCell' = true := by
    intro u hu
    obtain ⟨z, _, rfl⟩ := List.mem_map.1 hu
    rfl
  have hr := run_copy_row (P := Tryz.prog) w 34 34 3 2 b 1 3 3 ⟨g, off, none⟩ xs.length c #[.int .i64 q, .int .i64 0, .int .i64 0, .int .i64 0] 96 (ivs xs) Tryz.underlying34 (by kernel_rfl) hb
    (by rw [ivs_length]; rcases hx with e | e <;> simp [Nat.min_def] <;> omega) hcell (by rw [ivs_length]; rcases hx with e | e <;> simp <;> omega) hone
  refine ⟨_, _, hr, ?_, ?_⟩
  · have hh := setRow_heap w b #[.int .i64 q, .int .i64 0, .int .i64 0, .int .i64 0] ((#[Value.int .i64 q, .int .i64 0, .int .i64 0, .int .i64 0] : Array Value).toList.take 1 ++ ivs xs ++ (#[Value.int .i64 q, .int .i64 0, .int .i64 0, .int .i64 0] : Array Value).toList.drop (1 + (ivs xs).length)).toArray 96 (0, 0) hb
    unfold Blk
    rw [hh]
    rcases rd2 hx with ⟨a, b, rfl⟩ | ⟨a, b, c, rfl⟩ <;> rfl
  · refine ⟨rfl, rfl, rfl, by simp [World.setRow], fun k _ hk => ?_⟩
    have : b ≠ k := fun e => hk (by rw [e])
    simp [World.setRow, Array.getElem?_modify, this]
theorem key3_small {m : MultiD} {r : MRuleD} (h : mruleOk m r = true) (q2 : m.st ≤ 16) (s2 : m.sy ≤ 3) : smallZ (key3 r.st r.rd).1 ∧ smallZ (key3 r.st r.rd).2.1 ∧ smallZ (key3 r.st r.rd).2.2.1 ∧ smallZ (key3 r.st r.rd).2.2.2 := by
  obtain ⟨h1, _, _, _, _, h6, _⟩ := mrule_all h
  have key : ∀ i, smallZ (r.rd.getD i 0) := fun i => by
    by_cases hi : i < r.rd.length
    · have := h6 _ (List.getElem_mem hi)
      rw [List.getD_eq_getElem?_getD, List.getElem?_eq_getElem hi]
      show smallZ r.rd[i]
      unfold smallZ
      omega
    · rw [List.getD_eq_getElem?_getD, List.getElem?_eq_none (by omega)]
      show smallZ 0
      unfold smallZ
      omega
  exact ⟨by show smallZ r.st; unfold smallZ; omega, key 0, key 1, key 2⟩
/-- The table behind the first k rules. -/
def tblM (rs : List MRuleD) (k : Nat) (x : KeyM) : Option Int := Option.map (fun i : Nat => (i : Int)) (findM rs x k)
theorem tblM_succ (rs : List MRuleD) (k : Nat) : (fun x => if x = key3 (rs.getD k mr0).st (rs.getD k mr0).rd then some (k : Int) else tblM rs k x) = tblM rs (k + 1) := by
  funext x
  show _ = Option.map (fun i : Nat => (i : Int)) (if key3 (rs.getD k mr0).st (rs.getD k mr0).rd = x then some k else findM rs x k)
  by_cases e : x = key3 (rs.getD k mr0).st (rs.getD k mr0).rd
  · rw [if_pos e, if_pos e.symm]; rfl
  · rw [if_neg e, if_neg (fun h => e h.symm)]; rfl
set_option maxRecDepth 20000 in
set_option maxHeartbeats 4000000 in
theorem multiRules_c (v : Value) (m : MultiD) (w : World) (h : Mult w v m) (hm : multiOk m = true) :
    Calls Tryz.prog 37 #[v] w fun e w' => ∃ bm, e = .returned (.map (some bm)) ∧ Tbl Tryz.prog 96 2 rdE w' bm m.rules.length (tblM m.rules m.rules.length) ∧ w.heap.size ≤ bm ∧ Ext w w' := by
  obtain ⟨rv, rfl, hr⟩ := h
  obtain ⟨A, c, rfl, hc1, hc2⟩ := hr.form
  obtain ⟨⟨t1, t2⟩, ⟨s1, s2⟩, ⟨q1, q2⟩, hln, _⟩ := multi_all hm
  obtain ⟨W, hW⟩ : ∃ W, W = (w.alloc (.cells #[.int .i64 m.tp, .int .i64 m.sy, .int .i64 m.st, .slice A m.rules.length c] 26)).alloc (.map #[] 0) := ⟨_, rfl⟩
  have hX : Ext w W := by rw [hW]; exact (Ext.alloc _ _).trans (Ext.alloc _ _)
  have bM : Blk W w.heap.size 26 #[.int .i64 m.tp, .int .i64 m.sy, .int .i64 m.st, .slice A m.rules.length c] := by rw [hW]; exact (Blk.new _ _ _ _ rfl).alloc _
  have hT0 : Tbl Tryz.prog 96 2 rdE W (w.heap.size + 1) 0 (tblM m.rules 0) := by
    rw [hW]
    have := Tbl.made Tryz.prog 96 2 rdE (w.alloc (.cells #[.int .i64 m.tp, .int .i64 m.sy, .int .i64 m.st, .slice A m.rules.length c] 26))
    have e : tblM m.rules 0 = fun _ => none := by funext x; rfl
    rw [e]
    simpa using this
  obtain ⟨k0, hk0⟩ : ∃ k, w.heap.size = k := ⟨_, rfl⟩
  rw [hk0] at bM hT0
  have HM := Lib.hid hm
  have m3 := bM.cell 3
  simp only [List.getElem?_toArray, List.getElem?_cons_zero, List.getElem?_cons_succ] at m3
  clear hm
  go_enter Tryz.func37, Tryz.ntmps37
  have hmm := @run_makeMap Tryz.prog
  go_wp2_with fail
  try rw [← hW]
  clear hW hmm m3
  go_loopw [11] (fun i wr => ∃ k : Nat, k ≤ m.rules.length ∧ i = .int .i64 (k : Int) ∧ Ext w wr ∧ Blk wr k0 26 #[.int .i64 m.tp, .int .i64 m.sy, .int .i64 m.st, .slice A m.rules.length c] ∧ Tbl Tryz.prog 96 2 rdE wr (k0 + 1) k (tblM m.rules k)) (fun i _ => m.rules.length - (intOf i).toNat)
  case atStart => exact ⟨0, Nat.zero_le _, rfl, hX, bM, hT0⟩
  case round =>
    clear hT0 bM hX
    obtain ⟨k, hk, rfl, hx, bM, hT⟩ := hrel
    by_cases hlt : k < m.rules.length
    · have hrr := hr.ext hx
      obtain ⟨b, off, vr, vw, vm, rfl, c0, c1, c2, c3, c4, j1, j2, j3⟩ := hrr.at hlt
      have hgd : m.rules.getD k mr0 = m.rules[k] := by rw [List.getD_eq_getElem?_getD, List.getElem?_eq_getElem hlt]; rfl
      have hro := multi_rule HM.out hlt
      have HTS := Lib.hid (tblM_succ m.rules k)
      obtain ⟨r, hrk⟩ : ∃ r, m.rules[k] = r := ⟨_, rfl⟩
      rw [hrk] at c0 c4 j1 j2 j3 hgd hro
      rw [hgd] at HTS
      have hlr : (r.rd.length : Int) = 2 ∨ (r.rd.length : Int) = 3 := by have := (mrule_all hro).2.2.1; omega
      have hks := key3_small hro q2 s2
      obtain ⟨A1, k1, rfl, _, _⟩ := j1.form
      obtain ⟨A2, k2, rfl, _, _⟩ := j2.form
      obtain ⟨A3, k3, rfl, _, _⟩ := j3.form
      obtain ⟨ga, oa, rfl, _⟩ := j1.at (k := 0) (by omega)
      obtain ⟨V, hV⟩ : ∃ V, V = (wr.alloc (.cells #[.int .i64 r.st, .slice (some ⟨ga, oa, none⟩) r.rd.length k1, .slice A2 r.wr.length k2, .slice A3 r.mv.length k3, .int .i64 r.nx] 43)).alloc (.cells #[.int .i64 r.st, .int .i64 0, .int .i64 0, .int .i64 0] 96) := ⟨_, rfl⟩
      have hXV : Ext wr V := by rw [hV]; exact (Ext.alloc _ _).trans (Ext.alloc _ _)
      obtain ⟨g, hg⟩ : ∃ g, wr.heap.size = g := ⟨_, rfl⟩
      have bR : Blk V g 43 #[.int .i64 r.st, .slice (some ⟨ga, oa, none⟩) r.rd.length k1, .slice A2 r.wr.length k2, .slice A3 r.mv.length k3, .int .i64 r.nx] := by rw [hV]; exact (Blk.new _ _ _ _ hg).alloc _
      have bX : Blk V (g + 1) 96 #[.int .i64 r.st, .int .i64 0, .int .i64 0, .int .i64 0] := by rw [hV]; exact Blk.new _ _ _ _ (by simp [hg])
      have hXd := hXV.trans (Ext.drew V)
      have hgl : k0 + 1 < g := by rw [← hg]; exact hT.lt
      have x1 := bR.drew.cell 1
      simp only [List.getElem?_toArray, List.getElem?_cons_zero, List.getElem?_cons_succ] at x1
      clear hrk hro
      go_wp2_with fail
      try rw [← hV]
      clear hV
      refine wp_region_ordT 4 (readsT [0, 1, 2, 3] .done) (by kernel_rfl) (by kernel_rfl) (fun _ _ _ _ _ h => h) ?_
      simp only [readsT]
      iterate 4 (refine wpOrdT_read (v := ?_) (by rfl) (Or.inl ⟨by rfl, fun x hx => ?_⟩) ?_; rotate_left; (· have a1 := hx.cell x1; go_simp; try with_reducible rfl); try simp only [Act.put, List.setIfInBounds_toArray, List.set_cons_zero, List.set_cons_succ])
      refine wpOrdT_done ?_
      try simp only [List.drop_succ_cons, List.drop_zero]
      have bXd := bX.drew
      have jd := j1.ext hXd
      have hTd := hT.ext hXd
      have bMd := bM.ext hXd
      have hxd := hx.trans hXd
      clear bX bR hXV x1 j1 j2 j3 hT bM c0 c1 c2 c3 c4
      generalize V.drew = X at *
      obtain ⟨w3, n3, hcp, bX3, hg3⟩ := copy_read bXd jd hlr
      have hT3 := hTd.kept hg3 (by simp; omega)
      have bM3 := bMd.kept hg3 (by simp; omega)
      have hX3 := hxd.grown hg3 (fun b hb => by injection hb with hb; omega)
      obtain ⟨y, hy⟩ : ∃ y, key3 r.st r.rd = y := ⟨_, rfl⟩
      rw [hy] at bX3 HTS hks
      obtain ⟨w4, hup, hT4, hg4⟩ := hT3.update rdTy rdE_inj (by unfold maxLen; omega) y (rdKey y hks.1 hks.2.1 hks.2.2.1 hks.2.2.2) (k : Int) (smallZ_wf (by unfold smallZ; omega))
      rw [HTS.out] at hT4
      have bM4 := bM3.kept hg4 (by simp)
      have hX4 := hX3.grown hg4 (fun b hb => by injection hb with hb; omega)
      have b0 := bX3.cell 0
      have b1 := bX3.cell 1
      have b2 := bX3.cell 2
      have b3 := bX3.cell 3
      simp only [List.getElem?_toArray, List.getElem?_cons_zero, List.getElem?_cons_succ] at b0 b1 b2 b3
      simp only [rdE] at hup
      clear hy hks jd bXd hTd bMd hT3 bM3 hg3 hg4
      go_wp2_with (at_builtin; refine Lib.wpList_copy_run _ rfl _ _ 34 34 rfl _ _ rfl rfl hcp ?_)
      go_wp2
      go_roundw
      case rel => exact ⟨k + 1, by omega, by go_num, hX4, bM4, hT4⟩
      case measure => simp [intOf]; omega
    · obtain rfl : k = m.rules.length := by omega
      go_wp2
      go_ret
      exact ⟨_, rfl, hT, by omega, hx⟩
end Go.Proofs.YtgeckhjkahnonaaGreatDoor
end
section
set_option linter.unusedSimpArgs false
set_option linter.unusedVariables false
namespace Go.Proofs.YtgeckhjkahnonaaGreatDoor
open Go Go.RowKit Go.Proofs Go.Maps
set_option maxHeartbeats 400000
/-- The weaver, in memory. -/
def Weav (w : World) (b : Nat) (m : MultiD) : Prop := ∃ A cA bm, Blk w b 111 #[.int .i64 m.tp, .int .i64 m.sy, .int .i64 m.st, .slice A m.rules.length cA, .map (some bm)] ∧
  MRules w (.slice A m.rules.length cA) m.rules ∧ Tbl Tryz.prog 96 2 rdE w bm m.rules.length (tblM m.rules m.rules.length)
theorem Weav.ext {w w' : World} {b : Nat} {m : MultiD} (h : Weav w b m) (he : Ext w w') : Weav w' b m := by
  obtain ⟨A, cA, bm, h1, h2, h3⟩ := h
  exact ⟨A, cA, bm, h1.ext he, h2.ext he, h3.ext he⟩
theorem tapes_cases {T t : Int} (h1 : 2 ≤ T) (h2 : T ≤ 3) (t0 : 0 ≤ t) (t1 : t < T) : (T = 2 ∧ t = 0) ∨ (T = 2 ∧ t = 1) ∨ (T = 3 ∧ t = 0) ∨ (T = 3 ∧ t = 1) ∨ (T = 3 ∧ t = 2) := by omega
set_option maxRecDepth 20000 in
theorem look_c (q : Int) (w : World) : Calls Tryz.prog 24 #[.int .i64 q] w fun e w' => e = .returned (lookP q).v ∧ Ext w w' := by
  go_enter Tryz.func24, Tryz.ntmps24
  go_wp2_with fail
  refine bodyPost_ret (v := (lookP q).v) (by simp [results, Tryz.results24, go_sem, lookP, MP.v]) rfl ?_
  exact ⟨rfl, Ext.alloc _ _⟩
set_option maxRecDepth 20000 in
theorem leave_c (q k : Int) (w : World) : Calls Tryz.prog 68 #[.int .i64 q, .int .i64 k] w fun e w' => e = .returned (leaveP q k).v ∧ Ext w w' := by
  obtain ⟨W, hW⟩ : ∃ W, W = w.alloc (.cells #[.int .i64 0, .int .i64 0, .int .i64 0, .int .i64 0, .int .i64 0, .int .i64 0, .int .i64 0, .int .i64 0] 73) := ⟨_, rfl⟩
  have hX : Ext w W := by rw [hW]; exact Ext.alloc _ _
  have bZ : Blk W w.heap.size 73 #[.int .i64 0, .int .i64 0, .int .i64 0, .int .i64 0, .int .i64 0, .int .i64 0, .int .i64 0, .int .i64 0] := by rw [hW]; exact Blk.new _ _ _ _ rfl
  go_enter Tryz.func68, Tryz.ntmps68
  by_cases hk : k = 0
  · have hkb : (k == 0) = true := by simp [hk]
    have HE : Hid (leaveP q k = lookP q) := Lib.hid (if_pos hk)
    clear hk
    go_wp2_with fail
    try rw [← hW]
    clear hW
    refine (look_c q W).mono ?_
    rintro e w1 ⟨rfl, hx1⟩
    have z0 := (bZ.ext hx1).cell
    have z1 := (bZ.ext hx1).frozen
    have hX1 := hX.trans hx1
    have hw : w.heap.size ≤ w.heap.size := Nat.le_refl _
    simp only [lookP, MP.v]
    go_wp2_with fail
    refine bodyPost_ret (v := (lookP q).v) (by simp [results, Tryz.results68, go_sem, z0, lookP, MP.v]) rfl ?_
    exact ⟨by rw [HE.out], by repeat (first | with_reducible exact hX1 | refine Ext.setCell ?_ hw _)⟩
  · have hkb : (k == 0) = false := by simp [hk]
    have HE : Hid (leaveP q k = ⟨4, q, 0, k, 0, 0, 0, 0⟩) := Lib.hid (if_neg hk)
    clear hk
    go_wp2_with fail
    refine bodyPost_ret (v := (MP.mk 4 q 0 k 0 0 0 0).v) (by simp [results, Tryz.results68, go_sem, MP.v]) rfl ?_
    exact ⟨by rw [HE.out], Ext.alloc _ _⟩
set_option maxRecDepth 20000 in
theorem before_c (b : Nat) (m : MultiD) (t : Int) (w : World) (h : Weav w b m) (hm : multiOk m = true) (t0 : 0 ≤ t) (t1 : t < m.tp) :
    Calls Tryz.prog 70 #[.pointer (some ⟨b, 0, none⟩), .int .i64 t] w fun e w' => e = .returned (.int .i64 (befT m.tp t)) ∧ Ext w w' := by
  obtain ⟨⟨tp1, tp2⟩, _⟩ := multi_all hm
  obtain ⟨A, cA, bm, hb, _, _⟩ := h
  have a0 : w.cell? ⟨b, 0, none⟩ = some (.int .i64 m.tp) := hb.cell 0
  have hc := tapes_cases tp1 tp2 t0 t1
  generalize m.tp = T at *
  clear hb t0 t1 tp1 tp2
  rcases hc with ⟨rfl, rfl⟩ | ⟨rfl, rfl⟩ | ⟨rfl, rfl⟩ | ⟨rfl, rfl⟩ | ⟨rfl, rfl⟩
  all_goals
    have d0 := cellR a0
    go_enter Tryz.func70, Tryz.ntmps70
    go_wp2_with fail
    refine wp_region_ext (by kernel_rfl) (by kernel_rfl) ?_
    repeat (go_big_quiet_step (fail))
    refine wpQuiet_nil ?_
    intro w1 hx1
    go_wp2_with fail
    go_ret
    exact ⟨rfl, hx1⟩
set_option maxRecDepth 20000 in
set_option maxHeartbeats 4000000 in
theorem after_c (b : Nat) (m : MultiD) (i t d : Int) (w : World) (h : Weav w b m) (hm : multiOk m = true) (i0 : 0 ≤ i) (i1 : i < m.rules.length) (t0 : 0 ≤ t) (t1 : t < m.tp) :
    Calls Tryz.prog 71 #[.pointer (some ⟨b, 0, none⟩), .int .i64 i, .int .i64 t, .int .i64 d] w fun e w' => e = .returned (aftP m i t d).v ∧ Ext w w' := by
  obtain ⟨⟨tp1, tp2⟩, _⟩ := multi_all hm
  obtain ⟨j, rfl, hj, hme, hr⟩ := mrAt_ok hm i0 i1
  obtain ⟨W, hW⟩ : ∃ W, W = w.alloc (.cells #[.int .i64 0, .int .i64 0, .int .i64 0, .int .i64 0, .int .i64 0, .int .i64 0, .int .i64 0, .int .i64 0] 73) := ⟨_, rfl⟩
  obtain ⟨g, hg⟩ : ∃ g, w.heap.size = g := ⟨_, rfl⟩
  have hX : Ext w W := by rw [hW]; exact Ext.alloc _ _
  have bZ : Blk W g 73 #[.int .i64 0, .int .i64 0, .int .i64 0, .int .i64 0, .int .i64 0, .int .i64 0, .int .i64 0, .int .i64 0] := by rw [hW]; exact Blk.new _ _ _ _ hg
  have hWv := h.ext hX
  have BF := before_c b m t W hWv hm t0 t1
  obtain ⟨A, cA, bm, hb, hR, _⟩ := hWv
  obtain ⟨rb, ro, vr, vw, vm, rfl, c0, c1, c2, c3, c4, i1', i2', i3'⟩ := hR.at hj
  have a0 : W.cell? ⟨b, 0, none⟩ = some (.int .i64 m.tp) := hb.cell 0
  have a3 : W.cell? ⟨b, 3, none⟩ = some (.slice (some ⟨rb, ro, none⟩) m.rules.length cA) := hb.cell 3
  have hji : (j : Int) < (m.rules.length : Int) := by omega
  have HE : Hid (aftP m (j : Int) t d = if d = fullB m.tp then leaveP m.rules[j].nx (t + m.tp - 1) else ⟨3, (j : Int), befT m.tp t, 0, 0, 0, 0, d⟩) := Lib.hid (by unfold aftP; rw [hme])
  clear hme hr
  generalize m.rules[j] = r at *
  go_enter Tryz.func71, Tryz.ntmps71
  go_upto_region 1 with fail
  try rw [← hW]
  try rw [hg]
  clear hW
  have hT : m.tp = 2 ∨ m.tp = 3 := by omega
  rcases hT with hT | hT
  · rw [hT] at a0
    by_cases hd : d = 3
    · have hdb : (d == 3) = true := by simp [hd]
      have HE2 : Hid (aftP m (j : Int) t d = leaveP r.nx (t + 2 - 1)) := Lib.hid (by rw [HE.out, hT, hd]; rfl)
      have hwt : IntKind.i64.wrap (t + 2) = t + 2 := IntWalk.i64_in _ (by omega)
      have hwt1 : IntKind.i64.wrap (t + 2 - 1) = t + 2 - 1 := IntWalk.i64_in _ (by omega)
      clear HE hd
      go_upto_region 2 with fail
      have y0 : W.drew.cell? ⟨b, 0, none⟩ = some (.int .i64 2) := a0
      have y3 : W.drew.cell? ⟨b, 3, none⟩ = some (.slice (some ⟨rb, ro, none⟩) m.rules.length cA) := a3
      have yc : W.drew.cell? ⟨rb, ro + j * 5 + 4, none⟩ = some (.int .i64 r.nx) := c4
      have zD := Ext.drew W
      refine wp_region_ordT 18 (readsT [0, 1, 2, 3, 4, 5, 6, 7, 8, 9, 10, 11, 12, 13, 14, 15, 16] (.stir 17 .done)) (by kernel_rfl) (by kernel_rfl) (fun _ _ _ _ _ h => h) ?_
      simp only [readsT]
      iterate 17 (refine wpOrdT_read (v := ?_) (by rfl) (Or.inl ⟨by rfl, fun x hx => ?_⟩) ?_; rotate_left; (· have uy0 := hx.cell y0; have uy3 := hx.cell y3; have uyc := hx.cell yc; go_simp; try with_reducible rfl); try simp only [Act.put, List.setIfInBounds_toArray, List.set_cons_zero, List.set_cons_succ])
      refine wpOrdT_stir (by rfl) (fun K hK => ?_)
      go_simp
      go_at_call 68
      refine (leave_c r.nx (t + 2 - 1) _).mono ?_
      rintro e w1 ⟨rfl, hx1⟩
      refine hK _ _ hx1 ?_
      clear hK K
      try simp only [Act.put, List.setIfInBounds_toArray, List.set_cons_zero, List.set_cons_succ]
      refine wpOrdT_done ?_
      try simp only [List.drop_succ_cons, List.drop_zero]
      obtain ⟨q, hq⟩ : ∃ q, leaveP r.nx (t + 2 - 1) = q := ⟨_, rfl⟩
      rw [hq] at HE2 ⊢
      clear hq
      have hX1 := hX.trans (zD.trans hx1)
      have z0 := (bZ.ext (zD.trans hx1)).cell
      have z1 := (bZ.ext (zD.trans hx1)).frozen
      have hw : w.heap.size ≤ g := by omega
      simp only [MP.v]
      clear y0 y3 yc c0 c1 c2 c3 c4 a0 a3 zD hx1
      go_wp2_with fail
      refine bodyPost_ret (v := q.v) (by simp [results, Tryz.results71, go_sem, z0, MP.v]) rfl ?_
      exact ⟨by rw [HE2.out], by repeat (first | with_reducible exact hX1 | refine Ext.setCell ?_ hw _)⟩
    · have hdb : (d == 3) = false := by simp [hd]
      have HE2 : Hid (aftP m (j : Int) t d = ⟨3, (j : Int), befT m.tp t, 0, 0, 0, 0, d⟩) := Lib.hid (by rw [HE.out]; exact if_neg (by rw [hT]; exact hd))
      clear HE hd
      obtain ⟨bt, hbt⟩ : ∃ q, befT m.tp t = q := ⟨_, rfl⟩
      rw [hbt] at HE2 BF
      clear hbt
      go_wp2_with fail
      refine BF.mono ?_
      rintro e w1 ⟨rfl, hx1⟩
      have hX1 := hX.trans hx1
      have z0 := (bZ.ext hx1).cell
      have z1 := (bZ.ext hx1).frozen
      have hw : w.heap.size ≤ g := by omega
      clear c0 c1 c2 c3 c4 a0 a3 hx1 BF
      go_wp2_with fail
      refine bodyPost_ret (v := (MP.mk 3 (j : Int) bt 0 0 0 0 d).v) (by simp [results, Tryz.results71, go_sem, z0, MP.v]) rfl ?_
      exact ⟨by rw [HE2.out], by repeat (first | with_reducible exact hX1 | refine Ext.setCell ?_ hw _)⟩
  · rw [hT] at a0
    by_cases hd : d = 7
    · have hdb : (d == 7) = true := by simp [hd]
      have HE2 : Hid (aftP m (j : Int) t d = leaveP r.nx (t + 3 - 1)) := Lib.hid (by rw [HE.out, hT, hd]; rfl)
      have hwt : IntKind.i64.wrap (t + 3) = t + 3 := IntWalk.i64_in _ (by omega)
      have hwt1 : IntKind.i64.wrap (t + 3 - 1) = t + 3 - 1 := IntWalk.i64_in _ (by omega)
      clear HE hd
      go_upto_region 2 with fail
      have y0 : W.drew.cell? ⟨b, 0, none⟩ = some (.int .i64 3) := a0
      have y3 : W.drew.cell? ⟨b, 3, none⟩ = some (.slice (some ⟨rb, ro, none⟩) m.rules.length cA) := a3
      have yc : W.drew.cell? ⟨rb, ro + j * 5 + 4, none⟩ = some (.int .i64 r.nx) := c4
      have zD := Ext.drew W
      refine wp_region_ordT 18 (readsT [0, 1, 2, 3, 4, 5, 6, 7, 8, 9, 10, 11, 12, 13, 14, 15, 16] (.stir 17 .done)) (by kernel_rfl) (by kernel_rfl) (fun _ _ _ _ _ h => h) ?_
      simp only [readsT]
      iterate 17 (refine wpOrdT_read (v := ?_) (by rfl) (Or.inl ⟨by rfl, fun x hx => ?_⟩) ?_; rotate_left; (· have uy0 := hx.cell y0; have uy3 := hx.cell y3; have uyc := hx.cell yc; go_simp; try with_reducible rfl); try simp only [Act.put, List.setIfInBounds_toArray, List.set_cons_zero, List.set_cons_succ])
      refine wpOrdT_stir (by rfl) (fun K hK => ?_)
      go_simp
      go_at_call 68
      refine (leave_c r.nx (t + 3 - 1) _).mono ?_
      rintro e w1 ⟨rfl, hx1⟩
      refine hK _ _ hx1 ?_
      clear hK K
      try simp only [Act.put, List.setIfInBounds_toArray, List.set_cons_zero, List.set_cons_succ]
      refine wpOrdT_done ?_
      try simp only [List.drop_succ_cons, List.drop_zero]
      obtain ⟨q, hq⟩ : ∃ q, leaveP r.nx (t + 3 - 1) = q := ⟨_, rfl⟩
      rw [hq] at HE2 ⊢
      clear hq
      have hX1 := hX.trans (zD.trans hx1)
      have z0 := (bZ.ext (zD.trans hx1)).cell
      have z1 := (bZ.ext (zD.trans hx1)).frozen
      have hw : w.heap.size ≤ g := by omega
      simp only [MP.v]
      clear y0 y3 yc c0 c1 c2 c3 c4 a0 a3 zD hx1
      go_wp2_with fail
      refine bodyPost_ret (v := q.v) (by simp [results, Tryz.results71, go_sem, z0, MP.v]) rfl ?_
      exact ⟨by rw [HE2.out], by repeat (first | with_reducible exact hX1 | refine Ext.setCell ?_ hw _)⟩
    · have hdb : (d == 7) = false := by simp [hd]
      have HE2 : Hid (aftP m (j : Int) t d = ⟨3, (j : Int), befT m.tp t, 0, 0, 0, 0, d⟩) := Lib.hid (by rw [HE.out]; exact if_neg (by rw [hT]; exact hd))
      clear HE hd
      obtain ⟨bt, hbt⟩ : ∃ q, befT m.tp t = q := ⟨_, rfl⟩
      rw [hbt] at HE2 BF
      clear hbt
      go_wp2_with fail
      refine BF.mono ?_
      rintro e w1 ⟨rfl, hx1⟩
      have hX1 := hX.trans hx1
      have z0 := (bZ.ext hx1).cell
      have z1 := (bZ.ext hx1).frozen
      have hw : w.heap.size ≤ g := by omega
      clear c0 c1 c2 c3 c4 a0 a3 hx1 BF
      go_wp2_with fail
      refine bodyPost_ret (v := (MP.mk 3 (j : Int) bt 0 0 0 0 d).v) (by simp [results, Tryz.results71, go_sem, z0, MP.v]) rfl ?_
      exact ⟨by rw [HE2.out], by repeat (first | with_reducible exact hX1 | refine Ext.setCell ?_ hw _)⟩
end Go.Proofs.YtgeckhjkahnonaaGreatDoor
end
