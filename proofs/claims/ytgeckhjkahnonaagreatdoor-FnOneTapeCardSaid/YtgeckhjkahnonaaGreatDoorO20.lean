/- Contract of the program's run of a machine with several tapes, for whatever visitor.
A row whose block is as it was. No condition.
Contract of the program's copy of a configuration with several tapes. -/
import Derived.Test.YtgeckhjkahnonaaGreatDoorO19
import Derived.Test.YtgeckhjkahnonaaGreatDoorO13
import Derived.Test.YtgeckhjkahnonaaGreatDoorO18
import Derived.Test.YtgeckhjkahnonaaGreatDoorO07
import Derived.Maps.AppendAt
section
set_option linter.unusedVariables false
set_option linter.unusedSimpArgs false
namespace Go.Proofs.YtgeckhjkahnonaaGreatDoor
open Go Go.RowKit Go.Proofs Go.Maps
set_option maxHeartbeats 400000
/-- Numbers of a configuration that are small enough for a table's key, on as many tapes as the machine has. -/
structure GoodM (m : MultiD) (c : MConfD) : Prop where
  q : smallZ c.q
  n : (c.tapes.length : Int) = m.tp
  sym : ∀ t ∈ c.tapes, (∀ z ∈ t.l, smallZ z) ∧ ∀ z ∈ t.r, smallZ z
theorem smallZ_zero : smallZ 0 := by unfold smallZ; omega
theorem getD_small {xs : List Int} (h : ∀ z ∈ xs, smallZ z) (i : Nat) : smallZ (xs.getD i 0) := by
  by_cases hi : i < xs.length
  · rw [List.getD_eq_getElem?_getD, List.getElem?_eq_getElem hi]
    exact h _ (List.getElem_mem hi)
  · rw [List.getD_eq_getElem?_getD, List.getElem?_eq_none (by omega)]
    exact smallZ_zero
theorem trim_small {xs : List Int} (h : ∀ z ∈ xs, smallZ z) : ∀ z ∈ trim xs, smallZ z := fun z hz => h z (List.mem_of_mem_take hz)
theorem drop_small {xs : List Int} (h : ∀ z ∈ xs, smallZ z) (k : Nat) : ∀ z ∈ xs.drop k, smallZ z := fun z hz => h z (List.mem_of_mem_drop hz)
theorem cons_small {x : Int} {xs : List Int} (hx : smallZ x) (h : ∀ z ∈ xs, smallZ z) : ∀ z ∈ x :: xs, smallZ z := fun z hz => by
  rcases List.mem_cons.1 hz with e | e
  · rw [e]; exact hx
  · exact h z e
theorem writeT_small {t : TapeD} {s mv : Int} (h : (∀ z ∈ t.l, smallZ z) ∧ ∀ z ∈ t.r, smallZ z) (hs : smallZ s) : (∀ z ∈ (writeT t s mv).l, smallZ z) ∧ ∀ z ∈ (writeT t s mv).r, smallZ z := by
  obtain ⟨hl, hr⟩ := h
  have hw : ∀ z ∈ writeR t s, smallZ z := cons_small hs (drop_small hr 1)
  unfold writeT
  split
  · exact ⟨trim_small (cons_small hs hl), trim_small (drop_small hr 1)⟩
  · split
    · exact ⟨trim_small (drop_small hl 1), trim_small (cons_small (getD_small hl 0) hw)⟩
    · exact ⟨trim_small hl, trim_small hw⟩
theorem GoodM.apply {m : MultiD} {c : MConfD} {r : MRuleD} (h : GoodM m c) (hr : mruleOk m r = true) (hm : multiOk m = true) : GoodM m (applyM c r) := by
  obtain ⟨_, ⟨s1, s2⟩, ⟨q1, q2⟩, _, _⟩ := multi_all hm
  obtain ⟨_, h2, _, _, _, _, h7, _⟩ := mrule_all hr
  refine ⟨by show smallZ r.nx; unfold smallZ; omega, by show ((writeAll c.tapes r.wr r.mv).length : Int) = m.tp; rw [writeAll_length]; exact h.n, fun t ht => ?_⟩
  obtain ⟨k, hk, rfl⟩ := List.getElem_of_mem ht
  have hk' : k < c.tapes.length := by rw [← writeAll_length c.tapes r.wr r.mv]; exact hk
  have e : (applyM c r).tapes[k] = writeT c.tapes[k] (r.wr.getD k 0) (r.mv.getD k 0) := writeAll_get c.tapes r.wr r.mv k hk'
  rw [e]
  exact writeT_small (h.sym _ (List.getElem_mem hk')) (getD_small (fun z hz => by have := h7 z hz; unfold smallZ; omega) k)
theorem GoodM.cfg {m : MultiD} {c : MConfD} (h : GoodM m c) (hm : multiOk m = true) : ∀ i, GoodM m (cfgM m.rules c i)
  | 0 => h
  | i + 1 => by
    have ih := GoodM.cfg h hm i
    unfold cfgM stepM
    split
    · exact ih
    · rename_i j hj
      have hlt : j < m.rules.length := findM_lt hj
      have e : m.rules.getD j mr0 = m.rules[j] := by rw [List.getD_eq_getElem?_getD, List.getElem?_eq_getElem hlt]; rfl
      rw [e]
      exact ih.apply (multi_rule hm hlt) hm
theorem GoodM.key {m : MultiD} {c : MConfD} (h : GoodM m c) : ∃ l, keyOf Tryz.prog 96 (rdE (readM c)) = some l := by
  have hh : ∀ z ∈ c.tapes.map headT, smallZ z := fun z hz => by
    obtain ⟨t, ht, rfl⟩ := List.mem_map.1 hz
    exact getD_small (h.sym t ht).2 0
  exact rdKey _ h.q (getD_small hh 0) (getD_small hh 1) (getD_small hh 2)
/-- What a visitor must do: it may write its own blocks, which are among K or become so; neither the configuration nor the blocks from lo to hi. -/
def VisM (fid : FuncId) (lb : Array Value) (rs : List MRuleD) (c : MConfD) (w0 : World) (bc gT cap lo hi : Nat) (I : Nat → (Nat → Prop) → World → Prop) : Prop :=
  ∀ (i : Nat) (K : Nat → Prop) (wX : World) (cs : Array Value), MRuns rs c i → MAt w0 K wX bc gT cap cs (cfgM rs c i) → I i K wX → hi ≤ wX.heap.size →
    Calls Tryz.prog fid (#[Value.agg #[.int .i64 (cfgM rs c i).q, .slice (some ⟨gT, 0, none⟩) c.tapes.length cap]] ++ lb) wX fun e w' =>
      e = .returned (.tuple #[]) ∧ ∃ K' : Nat → Prop, (∀ k, K k → K' k) ∧ MAt w0 K' w' bc gT cap cs (cfgM rs c i) ∧ I (i + 1) K' w' ∧ ∀ k, lo ≤ k → k < hi → w'.heap[k]? = wX.heap[k]?
/-- What a run leaves. -/
def RunOutM (rs : List MRuleD) (c : MConfD) (N : Nat) (w0 : World) (bc gT cap : Nat) (I : Nat → (Nat → Prop) → World → Prop) (e : Ending) (w' : World) : Prop :=
  (∃ (i : Nat) (K : Nat → Prop) (cs : Array Value), MEnd rs c N i ∧ e = .returned (.tuple #[.int .i64 (i : Int), .bool (lookM rs (cfgM rs c i)).isNone, .int .i64 0]) ∧ MAt w0 K w' bc gT cap cs (cfgM rs c i) ∧ I (i + 1) K w') ∨
  (∃ (i : Nat) (K : Nat → Prop), MFull rs c N i ∧ e = .returned (.tuple #[.int .i64 0, .bool false, .int .i64 5]) ∧ Ext w0 w' ∧ I i K w')
theorem MAt.tapes {w0 w : World} {K : Nat → Prop} {bc gT cap : Nat} {cs : Array Value} {c : MConfD} (h : MAt w0 K w bc gT cap cs c) : Tapes w (.slice (some ⟨gT, 0, none⟩) c.tapes.length cap) c.tapes := by
  refine ⟨_, _, rfl, h.cap1, h.cap2, fun _ => ⟨gT, 0, rfl, fun i hi => ?_⟩⟩
  obtain ⟨lv, rv, e1, e2, s1, s2⟩ := h.side i hi
  exact ⟨lv, rv, by rw [Nat.zero_add]; exact (h.tblk.cell _).trans e1, by rw [Nat.zero_add]; exact (h.tblk.cell _).trans e2, s1.ints, s2.ints⟩
/-- Blocks that have been made since may be kept as well. -/
theorem MAt.more {w0 w w' : World} {K K' : Nat → Prop} {bc gT cap : Nat} {cs : Array Value} {c : MConfD} (h : MAt w0 K w bc gT cap cs c) (he : Ext w w') (hK : ∀ k, K' k → K k ∨ (w.heap.size ≤ k ∧ k < w'.heap.size)) : MAt w0 K' w' bc gT cap cs c := by
  have h1 := h.ext he
  have hb := h.blk.lt
  have ht := h.tblk.lt
  have hs := he.size
  refine ⟨h1.ext0, fun k hk => ?_, h.blo, fun hk => ?_, h.tlo, fun hk => ?_, h.cap1, h.cap2, h1.blk, h1.tblk, h1.side, fun j v g hjn hj hg hk => ?_, h1.lt, h.ap⟩
  · rcases hK k hk with e | e
    · have := h.kb k e; omega
    · exact e.2
  · rcases hK bc hk with e | e
    · exact h.bK e
    · omega
  · rcases hK gT hk with e | e
    · exact h.tK e
    · omega
  · have := (h.lt j v g hjn hj hg).2
    rcases hK g hk with e | e
    · exact h.mid j v g hjn hj hg e
    · omega
/-- How far the program's run of a machine with several tapes has come. -/
structure MuLoop (w0 wA : World) (lo : Nat) (m : MultiD) (c : MConfD) (bc gT cap gB bm : Nat) (A : Option Addr) (cA : Nat) (I : Nat → (Nat → Prop) → World → Prop) (i : Nat) (K : Nat → Prop) (cs : Array Value) (w : World) : Prop where
  at_ : MAt w0 K w bc gT cap cs (cfgM m.rules c i)
  runs : MRuns m.rules c i
  inv : I i K w
  own : ∀ k, lo ≤ k → k < wA.heap.size → K k
  blk : Blk w gB 26 #[.int .i64 m.tp, .int .i64 m.sy, .int .i64 m.st, .slice A m.rules.length cA]
  tbl : Tbl Tryz.prog 96 2 rdE w bm m.rules.length (tblM m.rules m.rules.length)
theorem Tbl.sameB {P : Program} {k e : TypeId} {α : Type} {enc : α → Value} {w w' : World} {b n : Nat} {T : α → Option Int} (h : Tbl P k e enc w b n T) (hs : w'.heap[b]? = w.heap[b]?) : Tbl P k e enc w' b n T := by
  obtain ⟨D, ⟨es, clock, hb, hr⟩, h2⟩ := h
  exact ⟨D, ⟨es, clock, hs.trans hb, hr⟩, h2⟩
end Go.Proofs.YtgeckhjkahnonaaGreatDoor
end
section
namespace Go.Proofs.YtgeckhjkahnonaaGreatDoor
open Go Go.RowKit Go.Proofs
theorem own_same {w w' : World} {base : Nat} {e : TypeId} {size n : Nat} {v : Value} {xs : List Value} (h : w.ownsRow base e size v n xs) (hs : ∀ g, v.ownBlock = some g → w'.heap[g]? = w.heap[g]?) : w'.ownsRow base e size v n xs := by
  obtain ⟨h1, h2⟩ := h
  refine ⟨h1, ?_⟩
  rcases h2 with h2 | ⟨g, cap, cur, rfl, hb, hh, r⟩
  · exact .inl h2
  · exact .inr ⟨g, cap, cur, rfl, hb, (hs g rfl).trans hh, r⟩
end Go.Proofs.YtgeckhjkahnonaaGreatDoor
end
section
set_option linter.unusedVariables false
set_option linter.unusedSimpArgs false
namespace Go.Proofs.YtgeckhjkahnonaaGreatDoor
open Go Go.RowKit Go.Proofs Go.Maps
set_option maxHeartbeats 400000
/-- Copies of the first k tapes, in rows of their own that are apart. -/
structure CpM (w : World) (ts : List TapeD) (k : Nat) (v : Value) (cl : List Value) (wr : World) : Prop where
  own : wr.ownsRow w.heap.size 91 2 v k cl
  len : cl.length = k * 2
  side : ∀ i, (h : i < ts.length) → i < k → ∃ lv rv, cl[i * 2]? = some lv ∧ cl[i * 2 + 1]? = some rv ∧ OwnInts w.heap.size wr lv ts[i].l ∧ OwnInts w.heap.size wr rv ts[i].r
  ap : ∀ (i j : Nat) (u v : Value) (g : Nat), i ≠ j → cl[i]? = some u → cl[j]? = some v → u.ownBlock = some g → v.ownBlock ≠ some g
section
variable {w wr w' : World} {ts : List TapeD} {k : Nat} {v v' : Value} {cl : List Value}
theorem CpM.same (h : CpM w ts k v cl wr) (hs : ∀ g, g < wr.heap.size → (v.ownBlock = some g ∨ ∃ cs, Blk wr g 2 cs) → w'.heap[g]? = wr.heap[g]?) : CpM w ts k v cl w' := by
  have hi : ∀ {u : Value} {zs : List Int}, OwnInts w.heap.size wr u zs → OwnInts w.heap.size w' u zs := fun {u zs} o => own_same o (fun g hg => hs g (o.lt g hg).2 (.inr (by
    rcases o.2 with ⟨rfl, _⟩ | ⟨g', cap, cur, rfl, _, hh, _⟩
    · simp [Value.ownBlock] at hg
    · simp [Value.ownBlock] at hg
      subst hg
      exact ⟨_, hh⟩)))
  refine ⟨own_same h.own (fun g hg => hs g (h.own.lt g hg).2 (.inl hg)), h.len, fun i hi1 hi2 => ?_, h.ap⟩
  obtain ⟨lv, rv, e1, e2, o1, o2⟩ := h.side i hi1 hi2
  exact ⟨lv, rv, e1, e2, hi o1, hi o2⟩
theorem CpM.ext (h : CpM w ts k v cl wr) (he : Ext wr w') : CpM w ts k v cl w' := h.same fun g hg _ => Below.block he g hg
theorem CpM.set (h : CpM w ts k v cl wr) {g : Nat} {cs : Array Value} (hb : Blk wr g 48 cs) (i : Nat) (u : Value) : CpM w ts k v cl (wr.setCell ⟨g, i, none⟩ u) :=
  h.same fun q hq hr => Below.heap_setCell wr _ u q (fun e => by
    have e : q = g := e
    subst e
    rcases hr with e | ⟨cs', e⟩
    · exact blk_ne_row hb h.own (by decide) e.symm
    · exact blk_ne e hb (by decide) rfl)
theorem CpM.lt (h : CpM w ts k v cl wr) (hk : k ≤ ts.length) {j : Nat} {u : Value} {g : Nat} (hj : cl[j]? = some u) (hg : u.ownBlock = some g) : g < wr.heap.size := by
  have hl := h.len
  have hj2 : j < cl.length := (List.getElem?_eq_some_iff.1 hj).1
  obtain ⟨lv, rv, e1, e2, o1, o2⟩ := h.side (j / 2) (by omega) (by omega)
  by_cases hp : j = j / 2 * 2
  · rw [← hp, hj] at e1
    injection e1 with e1
    subst e1
    exact (o1.lt g hg).2
  · have hp2 : j = j / 2 * 2 + 1 := by omega
    rw [← hp2, hj] at e2
    injection e2 with e2
    subst e2
    exact (o2.lt g hg).2
theorem CpM.push (h : CpM w ts k v cl wr) {lv rv : Value} (hk : k < ts.length) (hg : wr.grownBy w' v.ownBlock) (ho : w'.ownsRow w.heap.size 91 2 v' (k + 1) (cl ++ [lv, rv])) (hl : OwnInts w.heap.size wr lv ts[k].l) (hr : OwnInts w.heap.size wr rv ts[k].r)
    (hap : ∀ g, lv.ownBlock = some g → rv.ownBlock ≠ some g) (hfr : ∀ (j : Nat) (u : Value) (g : Nat), cl[j]? = some u → u.ownBlock = some g → lv.ownBlock ≠ some g ∧ rv.ownBlock ≠ some g) : CpM w ts (k + 1) v' (cl ++ [lv, rv]) w' := by
  have hi : ∀ {u : Value} {zs : List Int}, OwnInts w.heap.size wr u zs → OwnInts w.heap.size w' u zs := fun {u zs} o => own_same o (fun g hgu => hg.block g (o.lt g hgu).2 (fun e => by
    rcases own_ne o h.own (by decide) with e' | e'
    · rw [e'] at hgu; cases hgu
    · exact e' (hgu.trans e)))
  have hlen := h.len
  have key : ∀ (j : Nat) (u : Value), (cl ++ [lv, rv])[j]? = some u → (j < k * 2 ∧ cl[j]? = some u) ∨ (j = k * 2 ∧ u = lv) ∨ (j = k * 2 + 1 ∧ u = rv) := by
    intro j u hj
    by_cases h1 : j < cl.length
    · rw [List.getElem?_append_left h1] at hj
      exact .inl ⟨by omega, hj⟩
    · rw [List.getElem?_append_right (by omega)] at hj
      obtain ⟨d, hd⟩ : ∃ d, j - cl.length = d := ⟨_, rfl⟩
      rw [hd] at hj
      match d, hd with
      | 0, hd => simp at hj; exact .inr (.inl ⟨by omega, hj.symm⟩)
      | 1, hd => simp at hj; exact .inr (.inr ⟨by omega, hj.symm⟩)
      | d + 2, hd => simp at hj
  refine ⟨ho, by simp; omega, fun i hi1 hi2 => ?_, fun i j u u' g hij hu hv hgu hgv => ?_⟩
  · by_cases hik : i < k
    · obtain ⟨l1, r1, e1, e2, o1, o2⟩ := h.side i hi1 hik
      exact ⟨l1, r1, by rw [List.getElem?_append_left (by omega)]; exact e1, by rw [List.getElem?_append_left (by omega)]; exact e2, hi o1, hi o2⟩
    · obtain rfl : i = k := by omega
      exact ⟨lv, rv, by rw [List.getElem?_append_right (by omega)]; simp [hlen], by rw [List.getElem?_append_right (by omega)]; simp [hlen], hi hl, hi hr⟩
  · rcases key i u hu with ⟨a1, a2⟩ | ⟨a1, rfl⟩ | ⟨a1, rfl⟩ <;> rcases key j u' hv with ⟨b1, b2⟩ | ⟨b1, rfl⟩ | ⟨b1, rfl⟩
    · exact h.ap i j u u' g hij a2 b2 hgu hgv
    · exact (hfr i u g a2 hgu).1 hgv
    · exact (hfr i u g a2 hgu).2 hgv
    · exact (hfr j u' g b2 hgv).1 hgu
    · omega
    · exact hap g hgu hgv
    · exact (hfr j u' g b2 hgv).2 hgu
    · exact hap g hgv hgu
    · omega
end
theorem tapeInfo : (Tryz.prog.info? 91).map (fun i => (i.zero, i.size, i.bytes)) = some (some (.agg #[.slice none 0 0, .slice none 0 0]), 2, 48) := by kernel_rfl
end Go.Proofs.YtgeckhjkahnonaaGreatDoor
end
