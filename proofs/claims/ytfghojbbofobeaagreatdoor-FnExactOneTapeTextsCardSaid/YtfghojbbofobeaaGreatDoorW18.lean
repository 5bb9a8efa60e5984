/- Contract of the program's step of a configuration with several tapes.
Contract of the program's run of a machine with several tapes, for whatever visitor.
A row whose block is as it was. No condition. -/
import Derived.Test.YtfghojbbofobeaaGreatDoorW17
import Derived.Test.YtfghojbbofobeaaGreatDoorW09
section
set_option linter.unusedVariables false
set_option linter.unusedSimpArgs false
namespace Go.Proofs.YtfghojbbofobeaaGreatDoor
open Go Go.RowKit Go.Proofs Go.Maps
set_option maxHeartbeats 400000
/-- A configuration behind a pointer: its own block, its tapes' block and its sides' blocks lie from w0 on, and none of them is one of the blocks K. -/
structure MAt (w0 : World) (K : Nat → Prop) (w : World) (bc gT cap : Nat) (cs : Array Value) (c : MConfD) : Prop where
  ext0 : Ext w0 w
  kb : ∀ k, K k → k < w.heap.size
  blo : w0.heap.size ≤ bc
  bK : ¬ K bc
  tlo : w0.heap.size ≤ gT
  tK : ¬ K gT
  cap1 : c.tapes.length ≤ cap
  cap2 : cap ≤ 9223372036854775807
  blk : Blk w bc 68 #[.int .i64 c.q, .slice (some ⟨gT, 0, none⟩) c.tapes.length cap]
  tblk : Blk w gT 110 cs
  side : ∀ i, (h : i < c.tapes.length) → ∃ lv rv, cs[i * 2]? = some lv ∧ cs[i * 2 + 1]? = some rv ∧ Side w0.heap.size w lv c.tapes[i].l ∧ Side w0.heap.size w rv c.tapes[i].r
  mid : ∀ (j : Nat) (v : Value) (g : Nat), j < c.tapes.length * 2 → cs[j]? = some v → v.ownS = some g → ¬ K g
  lt : ∀ (j : Nat) (v : Value) (g : Nat), j < c.tapes.length * 2 → cs[j]? = some v → v.ownS = some g → w0.heap.size ≤ g ∧ g < w.heap.size
  ap : ∀ (i j : Nat) (u v : Value) (g : Nat), i < c.tapes.length * 2 → j < c.tapes.length * 2 → i ≠ j → cs[i]? = some u → cs[j]? = some v → u.ownS = some g → v.ownS ≠ some g
/-- The blocks K are as they were. -/
def Kp (K : Nat → Prop) (w w' : World) : Prop := ∀ k, K k → w'.heap[k]? = w.heap[k]?
section
variable {w0 w w' : World} {K : Nat → Prop} {bc gT cap : Nat} {cs cs' : Array Value} {c : MConfD}
theorem MAt.ext (h : MAt w0 K w bc gT cap cs c) (he : Ext w w') : MAt w0 K w' bc gT cap cs c :=
  ⟨h.ext0.trans he, fun k hk => Nat.lt_of_lt_of_le (h.kb k hk) he.size, h.blo, h.bK, h.tlo, h.tK, h.cap1, h.cap2, h.blk.ext he, h.tblk.ext he,
    fun i hi => by obtain ⟨lv, rv, e1, e2, s1, s2⟩ := h.side i hi; exact ⟨lv, rv, e1, e2, s1.ext he, s2.ext he⟩, h.mid, fun j v g hjn hj hg => ⟨(h.lt j v g hjn hj hg).1, by have := (h.lt j v g hjn hj hg).2; have := he.size; omega⟩, h.ap⟩
theorem MAt.tape (h : MAt w0 K w bc gT cap cs c) {i : Nat} (hi : i < c.tapes.length) : ∃ lv rv, TapeAt w0.heap.size w gT (i * 2) cs lv rv c.tapes[i] := by
  obtain ⟨lv, rv, e1, e2, s1, s2⟩ := h.side i hi
  exact ⟨lv, rv, h.tblk, e1, e2, s1, s2, fun g hg => h.ap _ _ _ _ g (by omega) (by omega) (by omega) e1 e2 hg⟩
end
theorem MAt.setQ {w0 w : World} {K : Nat → Prop} {bc gT cap : Nat} {cs : Array Value} {c : MConfD} (h : MAt w0 K w bc gT cap cs c) (q : Int) : MAt w0 K (w.setCell ⟨bc, 0, none⟩ (.int .i64 q)) bc gT cap cs ⟨q, c.tapes⟩ ∧ Kp K w (w.setCell ⟨bc, 0, none⟩ (.int .i64 q)) := by
  have hs : (w.setCell ⟨bc, 0, none⟩ (.int .i64 q)).heap.size = w.heap.size := by simp [World.setCell]
  refine ⟨⟨h.ext0.setCell (p := ⟨bc, 0, none⟩) h.blo _, fun k hk => by rw [hs]; exact h.kb k hk, h.blo, h.bK, h.tlo, h.tK, h.cap1, h.cap2, h.blk.set_ 0 _, h.tblk.far (by exact fun e => blk_ne h.blk h.tblk (by decide) e.symm) _, fun i hi => ?_, h.mid, fun j v g hjn hj hg => by rw [hs]; exact h.lt j v g hjn hj hg, h.ap⟩, fun k hk => Below.heap_setCell w _ _ k (fun e => h.bK (by have e : k = bc := e; rw [← e]; exact hk))⟩
  obtain ⟨lv, rv, e1, e2, s1, s2⟩ := h.side i hi
  exact ⟨lv, rv, e1, e2, s1.far (s1.neT h.blk (by decide)) _, s2.far (s2.neT h.blk (by decide)) _⟩
end Go.Proofs.YtfghojbbofobeaaGreatDoor
end
section
set_option linter.unusedVariables false
set_option linter.unusedSimpArgs false
namespace Go.Proofs.YtfghojbbofobeaaGreatDoor
open Go Go.RowKit Go.Proofs Go.Maps
set_option maxHeartbeats 400000
/-- Numbers of a configuration that are small enough for a table's key, on as many tapes as the machine has. -/
structure GoodM (m : MultiD) (c : MConfD) : Prop where
  q : smallZ c.q
  n : (c.tapes.length : Int) = m.tp
  sym : ∀ t ∈ c.tapes, (∀ z ∈ t.l, smallZ z) ∧ ∀ z ∈ t.r, smallZ z
theorem smallZ_zero : smallZ 0 := by unfold smallZ; omega
theorem getD_small {xs : List Int} (h : ∀ z ∈ xs, smallZ z) (i : Nat) : smallZ (xs.getD i 0) := by
  by_cases hi : i < xs.length
  · rw [List.getD_eq_getElem?_getD, List.getElem?_eq_getElem hi]
    exact h _ (List.getElem_mem hi)
  · rw [List.getD_eq_getElem?_getD, List.getElem?_eq_none (by omega)]
    exact smallZ_zero
theorem trim_small {xs : List Int} (h : ∀ z ∈ xs, smallZ z) : ∀ z ∈ trim xs, smallZ z := fun z hz => h z (List.mem_of_mem_take hz)
theorem drop_small {xs : List Int} (h : ∀ z ∈ xs, smallZ z) (k : Nat) : ∀ z ∈ xs.drop k, smallZ z := fun z hz => h z (List.mem_of_mem_drop hz)
theorem cons_small {x : Int} {xs : List Int} (hx : smallZ x) (h : ∀ z ∈ xs, smallZ z) : ∀ z ∈ x :: xs, smallZ z := fun z hz => by
  rcases List.mem_cons.1 hz with e | e
  · rw [e]; exact hx
  · exact h z e
theorem writeT_small {t : TapeD} {s mv : Int} (h : (∀ z ∈ t.l, smallZ z) ∧ ∀ z ∈ t.r, smallZ z) (hs : smallZ s) : (∀ z ∈ (writeT t s mv).l, smallZ z) ∧ ∀ z ∈ (writeT t s mv).r, smallZ z := by
  obtain ⟨hl, hr⟩ := h
  have hw : ∀ z ∈ writeR t s, smallZ z := cons_small hs (drop_small hr 1)
  unfold writeT
  split
  · exact ⟨trim_small (cons_small hs hl), trim_small (drop_small hr 1)⟩
  · split
    · exact ⟨trim_small (drop_small hl 1), trim_small (cons_small (getD_small hl 0) hw)⟩
    · exact ⟨trim_small hl, trim_small hw⟩
theorem GoodM.apply {m : MultiD} {c : MConfD} {r : MRuleD} (h : GoodM m c) (hr : mruleOk m r = true) (hm : multiOk m = true) : GoodM m (applyM c r) := by
  obtain ⟨_, ⟨s1, s2⟩, ⟨q1, q2⟩, _, _⟩ := multi_all hm
  obtain ⟨_, h2, _, _, _, _, h7, _⟩ := mrule_all hr
  refine ⟨by show smallZ r.nx; unfold smallZ; omega, by show ((writeAll c.tapes r.wr r.mv).length : Int) = m.tp; rw [writeAll_length]; exact h.n, fun t ht => ?_⟩
  obtain ⟨k, hk, rfl⟩ := List.getElem_of_mem ht
  have hk' : k < c.tapes.length := by rw [← writeAll_length c.tapes r.wr r.mv]; exact hk
  have e : (applyM c r).tapes[k] = writeT c.tapes[k] (r.wr.getD k 0) (r.mv.getD k 0) := writeAll_get c.tapes r.wr r.mv k hk'
  rw [e]
  exact writeT_small (h.sym _ (List.getElem_mem hk')) (getD_small (fun z hz => by have := h7 z hz; unfold smallZ; omega) k)
theorem GoodM.key {m : MultiD} {c : MConfD} (h : GoodM m c) : ∃ l, keyOf Tryz.prog 161 (rdE (readM c)) = some l := by
  have hh : ∀ z ∈ c.tapes.map headT, smallZ z := fun z hz => by
    obtain ⟨t, ht, rfl⟩ := List.mem_map.1 hz
    exact getD_small (h.sym t ht).2 0
  exact rdKey _ h.q (getD_small hh 0) (getD_small hh 1) (getD_small hh 2)
theorem MAt.tapes {w0 w : World} {K : Nat → Prop} {bc gT cap : Nat} {cs : Array Value} {c : MConfD} (h : MAt w0 K w bc gT cap cs c) : Tapes w (.slice (some ⟨gT, 0, none⟩) c.tapes.length cap) c.tapes := by
  refine ⟨_, _, rfl, h.cap1, h.cap2, fun _ => ⟨gT, 0, rfl, fun i hi => ?_⟩⟩
  obtain ⟨lv, rv, e1, e2, s1, s2⟩ := h.side i hi
  exact ⟨lv, rv, by rw [Nat.zero_add]; exact (h.tblk.cell _).trans e1, by rw [Nat.zero_add]; exact (h.tblk.cell _).trans e2, s1.ints, s2.ints⟩
end Go.Proofs.YtfghojbbofobeaaGreatDoor
end
section
namespace Go.Proofs.YtfghojbbofobeaaGreatDoor
open Go Go.RowKit Go.Proofs
theorem own_same {w w' : World} {base : Nat} {e : TypeId} {size n : Nat} {v : Value} {xs : List Value} (h : w.ownsRow base e size v n xs) (hs : ∀ g, v.ownBlock = some g → w'.heap[g]? = w.heap[g]?) : w'.ownsRow base e size v n xs := by
  obtain ⟨h1, h2⟩ := h
  refine ⟨h1, ?_⟩
  rcases h2 with h2 | ⟨g, cap, cur, rfl, hb, hh, r⟩
  · exact .inl h2
  · exact .inr ⟨g, cap, cur, rfl, hb, (hs g rfl).trans hh, r⟩
end Go.Proofs.YtfghojbbofobeaaGreatDoor
end
