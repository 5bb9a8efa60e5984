/- Contract of the program's step of a configuration with several tapes.
Contract of the program's run of a machine with several tapes, for whatever visitor.
Contracts of the program's copies of a tape and of a configuration with several tapes. -/
import Derived.Test.YtfghojbbofobeaaGreatQ17
import Derived.Test.YtfghojbbofobeaaGreatQ16
section
set_option linter.unusedVariables false
set_option linter.unusedSimpArgs false
namespace Go.Proofs.YtfghojbbofobeaaGreat
open Go Go.RowKit Go.Proofs Go.Maps
set_option maxHeartbeats 400000
/-- A configuration behind a pointer: its own block, its tapes' block and its sides' blocks lie from w0 on, and none of them is one of the blocks K. -/
structure MAt (w0 : World) (K : Nat → Prop) (w : World) (bc gT cap : Nat) (cs : Array Value) (c : MConfD) : Prop where
  ext0 : Ext w0 w
  kb : ∀ k, K k → k < w.heap.size
  blo : w0.heap.size ≤ bc
  bK : ¬ K bc
  tlo : w0.heap.size ≤ gT
  tK : ¬ K gT
  cap1 : c.tapes.length ≤ cap
  cap2 : cap ≤ 9223372036854775807
  blk : Blk w bc 30 #[.int .i64 c.q, .slice (some ⟨gT, 0, none⟩) c.tapes.length cap]
  tblk : Blk w gT 106 cs
  side : ∀ i, (h : i < c.tapes.length) → ∃ lv rv, cs[i * 2]? = some lv ∧ cs[i * 2 + 1]? = some rv ∧ Side w0.heap.size w lv c.tapes[i].l ∧ Side w0.heap.size w rv c.tapes[i].r
  mid : ∀ (j : Nat) (v : Value) (g : Nat), j < c.tapes.length * 2 → cs[j]? = some v → v.ownS = some g → ¬ K g
  lt : ∀ (j : Nat) (v : Value) (g : Nat), j < c.tapes.length * 2 → cs[j]? = some v → v.ownS = some g → w0.heap.size ≤ g ∧ g < w.heap.size
  ap : ∀ (i j : Nat) (u v : Value) (g : Nat), i < c.tapes.length * 2 → j < c.tapes.length * 2 → i ≠ j → cs[i]? = some u → cs[j]? = some v → u.ownS = some g → v.ownS ≠ some g
/-- The blocks K are as they were. -/
def Kp (K : Nat → Prop) (w w' : World) : Prop := ∀ k, K k → w'.heap[k]? = w.heap[k]?
section
variable {w0 w w' : World} {K : Nat → Prop} {bc gT cap : Nat} {cs cs' : Array Value} {c : MConfD}
theorem MAt.ext (h : MAt w0 K w bc gT cap cs c) (he : Ext w w') : MAt w0 K w' bc gT cap cs c :=
  ⟨h.ext0.trans he, fun k hk => Nat.lt_of_lt_of_le (h.kb k hk) he.size, h.blo, h.bK, h.tlo, h.tK, h.cap1, h.cap2, h.blk.ext he, h.tblk.ext he,
    fun i hi => by obtain ⟨lv, rv, e1, e2, s1, s2⟩ := h.side i hi; exact ⟨lv, rv, e1, e2, s1.ext he, s2.ext he⟩, h.mid, fun j v g hjn hj hg => ⟨(h.lt j v g hjn hj hg).1, by have := (h.lt j v g hjn hj hg).2; have := he.size; omega⟩, h.ap⟩
theorem MAt.tape (h : MAt w0 K w bc gT cap cs c) {i : Nat} (hi : i < c.tapes.length) : ∃ lv rv, TapeAt w0.heap.size w gT (i * 2) cs lv rv c.tapes[i] := by
  obtain ⟨lv, rv, e1, e2, s1, s2⟩ := h.side i hi
  exact ⟨lv, rv, h.tblk, e1, e2, s1, s2, fun g hg => h.ap _ _ _ _ g (by omega) (by omega) (by omega) e1 e2 hg⟩
/-- Where a side's block comes from. -/
theorem Wr.org {base b o : Nat} {lv rv lv' rv' : Value} {t' : TapeD} (k : Wr base b o w cs lv rv w' cs' lv' rv' t') (el : cs[o]? = some lv) (er : cs[o + 1]? = some rv) (j : Nat) (v : Value) (g : Nat) (hj : cs'[j]? = some v) (hg : v.ownS = some g) :
    (∃ u, cs[j]? = some u ∧ u.ownS = some g) ∨ (w.heap.size ≤ g ∧ (j = o ∨ j = o + 1) ∧ g < w'.heap.size) := by
  by_cases h1 : j = o
  · subst h1
    rw [k.at_.el] at hj
    injection hj with hj
    subst hj
    rcases k.mv.newl g hg with e | e
    · exact .inl ⟨_, el, e⟩
    · exact .inr ⟨e, .inl rfl, (k.at_.l.lt g hg).2⟩
  · by_cases h2 : j = o + 1
    · subst h2
      rw [k.at_.er] at hj
      injection hj with hj
      subst hj
      rcases k.mv.newr g hg with e | e
      · exact .inl ⟨_, er, e⟩
      · exact .inr ⟨e, .inr rfl, (k.at_.r.lt g hg).2⟩
    · rw [k.oth j h1 h2] at hj
      exact .inl ⟨v, hj, hg⟩
theorem MAt.wrote (h : MAt w0 K w bc gT cap cs c) {i : Nat} (hi : i < c.tapes.length) {lv rv lv' rv' : Value} {t' : TapeD} (k : Wr w0.heap.size gT (i * 2) w cs lv rv w' cs' lv' rv' t') (el : cs[i * 2]? = some lv) (er : cs[i * 2 + 1]? = some rv) :
    MAt w0 K w' bc gT cap cs' ⟨c.q, c.tapes.set i t'⟩ ∧ Kp K w w' := by
  have hm := k.mv
  have ha := k.at_
  have ho := k.org el er
  have hne : bc ≠ gT := blk_ne h.blk h.tblk (by decide)
  have hrv : ∀ g, rv.ownS = some g → g ≠ bc := by
    obtain ⟨lv0, rv0, e1, e2, s1, s2⟩ := h.side i hi
    rw [er] at e2
    injection e2 with e2
    subst e2
    intro g hg e
    subst e
    exact s2.neT h.blk (by decide) hg
  have hw0 := h.ext0.size
  have hbl := h.blk.lt
  have hs := hm.size
  have hblo := h.blo
  have htlo := h.tlo
  have hK : Kp K w w' := fun q hq => hm.same q (h.kb q hq) (fun e => h.tK (e ▸ hq)) (fun e => h.mid _ _ _ (by omega) er e hq)
  refine ⟨⟨⟨hm.os.trans (Below.os h.ext0), hm.tape.trans (Below.tape h.ext0), hm.output.trans (Below.output h.ext0), by omega, fun q hq => (hm.same q (by omega) (by omega) (fun e => ?_)).trans (Below.block h.ext0 q hq)⟩,
    fun q hq => Nat.lt_of_lt_of_le (h.kb q hq) hs, h.blo, h.bK, h.tlo, h.tK, by simp [h.cap1], h.cap2, ?_, ha.blk, fun j hj => ?_, fun j v g hjn hj hg => ?_, fun j v g hjn hj hg => ?_, fun i1 j1 u v g hin hjn hij hu hv hgu hgv => ?_⟩, hK⟩
  · have := (h.lt _ _ _ (by omega) er e).1
    omega
  · rw [List.length_set]
    exact (hm.same bc hbl hne (fun e => hrv bc e rfl)).trans h.blk
  · rw [List.length_set] at hj
    by_cases hji : j = i
    · subst hji
      refine ⟨lv', rv', ha.el, ha.er, ?_, ?_⟩
      · simpa using ha.l
      · simpa using ha.r
    · obtain ⟨l1, r1, e1, e2, s1, s2⟩ := h.side j hj
      refine ⟨l1, r1, (k.oth _ (by omega) (by omega)).trans e1, (k.oth _ (by omega) (by omega)).trans e2, ?_, ?_⟩
      · rw [List.getElem_set_ne (by omega)]
        exact s1.same fun g hg => hm.same g (s1.lt g hg).2 (fun e => s1.ne h.tblk (by rw [← e]; exact hg)) (h.ap (j * 2) (i * 2 + 1) _ _ g (by omega) (by omega) (by omega) e1 er hg)
      · rw [List.getElem_set_ne (by omega)]
        exact s2.same fun g hg => hm.same g (s2.lt g hg).2 (fun e => s2.ne h.tblk (by rw [← e]; exact hg)) (h.ap (j * 2 + 1) (i * 2 + 1) _ _ g (by omega) (by omega) (by omega) e2 er hg)
  · rw [List.length_set] at hjn
    rcases ho j v g hj hg with ⟨u, hu, hg'⟩ | ⟨e, _, _⟩
    · exact h.mid j u g hjn hu hg'
    · exact fun hk => by have := h.kb g hk; omega
  · rw [List.length_set] at hjn
    rcases ho j v g hj hg with ⟨u, hu, hg'⟩ | ⟨e, _, e2⟩
    · have := h.lt j u g hjn hu hg'
      omega
    · omega
  · rw [List.length_set] at hin hjn
    rcases ho i1 u g hu hgu with ⟨u', hu', hgu'⟩ | ⟨e, he, _⟩
    · rcases ho j1 v g hv hgv with ⟨v', hv', hgv'⟩ | ⟨e, _, _⟩
      · exact h.ap i1 j1 u' v' g hin hjn hij hu' hv' hgu' hgv'
      · have := (h.lt _ _ _ hin hu' hgu').2
        omega
    · rcases ho j1 v g hv hgv with ⟨v', hv', hgv'⟩ | ⟨e', he', _⟩
      · have := (h.lt _ _ _ hjn hv' hgv').2
        omega
      · have a1 := ha.el
        have a2 := ha.er
        rcases he with rfl | rfl <;> rcases he' with rfl | rfl
        · exact hij rfl
        · rw [hu] at a1
          rw [hv] at a2
          injection a1 with a1
          injection a2 with a2
          subst a1 a2
          exact ha.ap g hgu hgv
        · rw [hv] at a1
          rw [hu] at a2
          injection a1 with a1
          injection a2 with a2
          subst a1 a2
          exact ha.ap g hgv hgu
        · exact hij rfl
end
/-- The first k tapes are written. -/
def tkM (ts : List TapeD) (ws ms : List Int) (k : Nat) : List TapeD := (writeAll ts ws ms).take k ++ ts.drop k
theorem tkM_len (ts : List TapeD) (ws ms : List Int) (k : Nat) (h : k ≤ ts.length) : (tkM ts ws ms k).length = ts.length := by
  simp [tkM, writeAll_length]; omega
theorem tkM_get (ts : List TapeD) (ws ms : List Int) (k : Nat) (h : k < ts.length) : (tkM ts ws ms k)[k]'(by rw [tkM_len _ _ _ _ (by omega)]; exact h) = ts[k] := by
  have e : ((writeAll ts ws ms).take k).length = k := by simp [writeAll_length]; omega
  simp only [tkM]
  rw [List.getElem_append_right (by omega)]
  simp [e]
theorem tkM_set (ts : List TapeD) (ws ms : List Int) (k : Nat) (h : k < ts.length) : (tkM ts ws ms k).set k (writeT ts[k] (ws.getD k 0) (ms.getD k 0)) = tkM ts ws ms (k + 1) := by
  have e : ((writeAll ts ws ms).take k).length = k := by simp [writeAll_length]; omega
  have e2 : (writeAll ts ws ms).take (k + 1) = (writeAll ts ws ms).take k ++ [writeT ts[k] (ws.getD k 0) (ms.getD k 0)] := by
    rw [List.take_succ_eq_append_getElem (by rw [writeAll_length]; exact h), writeAll_get ts ws ms k h]
  have e3 : ts.drop k = ts[k] :: ts.drop (k + 1) := List.drop_eq_getElem_cons h
  simp only [tkM]
  rw [List.set_append_right _ _ (by omega), e, Nat.sub_self, e3, e2, List.set_cons_zero, List.append_assoc]
  rfl
theorem tkM_all (ts : List TapeD) (ws ms : List Int) : tkM ts ws ms ts.length = writeAll ts ws ms := by
  simp only [tkM]
  rw [List.drop_length, List.append_nil, List.take_of_length_le (by rw [writeAll_length]; exact Nat.le_refl _)]
def okM (ts : List TapeD) (ws ms : List Int) (k : Nat) : Bool := ((writeAll ts ws ms).take k).all roomT
theorem okM_succ (ts : List TapeD) (ws ms : List Int) (k : Nat) (h : k < ts.length) : okM ts ws ms (k + 1) = (okM ts ws ms k && roomT (writeT ts[k] (ws.getD k 0) (ms.getD k 0))) := by
  unfold okM
  rw [List.take_succ_eq_append_getElem (by rw [writeAll_length]; exact h), writeAll_get ts ws ms k h, List.all_append]
  simp
theorem okM_all (ts : List TapeD) (ws ms : List Int) : okM ts ws ms ts.length = (writeAll ts ws ms).all roomT := by
  unfold okM
  rw [List.take_of_length_le (by rw [writeAll_length]; exact Nat.le_refl _)]
theorem Wr.blkT {base b o g : Nat} {w w' : World} {cs cs' cg : Array Value} {lv rv lv' rv' : Value} {t t' : TapeD} {ty : TypeId} (k : Wr base b o w cs lv rv w' cs' lv' rv' t') (h : Blk w g ty cg) (hb : Blk w b 106 cs) (hr : Side base w rv t.r) (h1 : ty ≠ 106) (h2 : 2 ≠ ty) : Blk w' g ty cg :=
  (k.mv.same g h.lt (blk_ne h hb h1) (hr.neT h h2)).trans h
theorem MAt.setQ {w0 w : World} {K : Nat → Prop} {bc gT cap : Nat} {cs : Array Value} {c : MConfD} (h : MAt w0 K w bc gT cap cs c) (q : Int) : MAt w0 K (w.setCell ⟨bc, 0, none⟩ (.int .i64 q)) bc gT cap cs ⟨q, c.tapes⟩ ∧ Kp K w (w.setCell ⟨bc, 0, none⟩ (.int .i64 q)) := by
  have hs : (w.setCell ⟨bc, 0, none⟩ (.int .i64 q)).heap.size = w.heap.size := by simp [World.setCell]
  refine ⟨⟨h.ext0.setCell (p := ⟨bc, 0, none⟩) h.blo _, fun k hk => by rw [hs]; exact h.kb k hk, h.blo, h.bK, h.tlo, h.tK, h.cap1, h.cap2, h.blk.set_ 0 _, h.tblk.far (by exact fun e => blk_ne h.blk h.tblk (by decide) e.symm) _, fun i hi => ?_, h.mid, fun j v g hjn hj hg => by rw [hs]; exact h.lt j v g hjn hj hg, h.ap⟩, fun k hk => Below.heap_setCell w _ _ k (fun e => h.bK (by have e : k = bc := e; rw [← e]; exact hk))⟩
  obtain ⟨lv, rv, e1, e2, s1, s2⟩ := h.side i hi
  exact ⟨lv, rv, e1, e2, s1.far (s1.neT h.blk (by decide)) _, s2.far (s2.neT h.blk (by decide)) _⟩
end Go.Proofs.YtfghojbbofobeaaGreat
end
section
set_option linter.unusedVariables false
set_option linter.unusedSimpArgs false
namespace Go.Proofs.YtfghojbbofobeaaGreat
open Go Go.RowKit Go.Proofs Go.Maps
set_option maxHeartbeats 400000
/-- Numbers of a configuration that are small enough for a table's key, on as many tapes as the machine has. -/
structure GoodM (m : MultiD) (c : MConfD) : Prop where
  q : smallZ c.q
  n : (c.tapes.length : Int) = m.tp
  sym : ∀ t ∈ c.tapes, (∀ z ∈ t.l, smallZ z) ∧ ∀ z ∈ t.r, smallZ z
theorem smallZ_zero : smallZ 0 := by unfold smallZ; omega
theorem getD_small {xs : List Int} (h : ∀ z ∈ xs, smallZ z) (i : Nat) : smallZ (xs.getD i 0) := by
  by_cases hi : i < xs.length
  · rw [List.getD_eq_getElem?_getD, List.getElem?_eq_getElem hi]
    exact h _ (List.getElem_mem hi)
  · rw [List.getD_eq_getElem?_getD, List.getElem?_eq_none (by omega)]
    exact smallZ_zero
theorem trim_small {xs : List Int} (h : ∀ z ∈ xs, smallZ z) : ∀ z ∈ trim xs, smallZ z := fun z hz => h z (List.mem_of_mem_take hz)
theorem drop_small {xs : List Int} (h : ∀ z ∈ xs, smallZ z) (k : Nat) : ∀ z ∈ xs.drop k, smallZ z := fun z hz => h z (List.mem_of_mem_drop hz)
theorem cons_small {x : Int} {xs : List Int} (hx : smallZ x) (h : ∀ z ∈ xs, smallZ z) : ∀ z ∈ x :: xs, smallZ z := fun z hz => by
  rcases List.mem_cons.1 hz with e | e
  · rw [e]; exact hx
  · exact h z e
theorem writeT_small {t : TapeD} {s mv : Int} (h : (∀ z ∈ t.l, smallZ z) ∧ ∀ z ∈ t.r, smallZ z) (hs : smallZ s) : (∀ z ∈ (writeT t s mv).l, smallZ z) ∧ ∀ z ∈ (writeT t s mv).r, smallZ z := by
  obtain ⟨hl, hr⟩ := h
  have hw : ∀ z ∈ writeR t s, smallZ z := cons_small hs (drop_small hr 1)
  unfold writeT
  split
  · exact ⟨trim_small (cons_small hs hl), trim_small (drop_small hr 1)⟩
  · split
    · exact ⟨trim_small (drop_small hl 1), trim_small (cons_small (getD_small hl 0) hw)⟩
    · exact ⟨trim_small hl, trim_small hw⟩
theorem GoodM.apply {m : MultiD} {c : MConfD} {r : MRuleD} (h : GoodM m c) (hr : mruleOk m r = true) (hm : multiOk m = true) : GoodM m (applyM c r) := by
  obtain ⟨_, ⟨s1, s2⟩, ⟨q1, q2⟩, _, _⟩ := multi_all hm
  obtain ⟨_, h2, _, _, _, _, h7, _⟩ := mrule_all hr
  refine ⟨by show smallZ r.nx; unfold smallZ; omega, by show ((writeAll c.tapes r.wr r.mv).length : Int) = m.tp; rw [writeAll_length]; exact h.n, fun t ht => ?_⟩
  obtain ⟨k, hk, rfl⟩ := List.getElem_of_mem ht
  have hk' : k < c.tapes.length := by rw [← writeAll_length c.tapes r.wr r.mv]; exact hk
  have e : (applyM c r).tapes[k] = writeT c.tapes[k] (r.wr.getD k 0) (r.mv.getD k 0) := writeAll_get c.tapes r.wr r.mv k hk'
  rw [e]
  exact writeT_small (h.sym _ (List.getElem_mem hk')) (getD_small (fun z hz => by have := h7 z hz; unfold smallZ; omega) k)
theorem GoodM.cfg {m : MultiD} {c : MConfD} (h : GoodM m c) (hm : multiOk m = true) : ∀ i, GoodM m (cfgM m.rules c i)
  | 0 => h
  | i + 1 => by
    have ih := GoodM.cfg h hm i
    unfold cfgM stepM
    split
    · exact ih
    · rename_i j hj
      have hlt : j < m.rules.length := findM_lt hj
      have e : m.rules.getD j mr0 = m.rules[j] := by rw [List.getD_eq_getElem?_getD, List.getElem?_eq_getElem hlt]; rfl
      rw [e]
      exact ih.apply (multi_rule hm hlt) hm
theorem GoodM.key {m : MultiD} {c : MConfD} (h : GoodM m c) : ∃ l, keyOf Tryz.prog 151 (rdE (readM c)) = some l := by
  have hh : ∀ z ∈ c.tapes.map headT, smallZ z := fun z hz => by
    obtain ⟨t, ht, rfl⟩ := List.mem_map.1 hz
    exact getD_small (h.sym t ht).2 0
  exact rdKey _ h.q (getD_small hh 0) (getD_small hh 1) (getD_small hh 2)
/-- What a visitor must do: it may write its own blocks, which are among K or become so; neither the configuration nor the blocks from lo to hi. -/
def VisM (fid : FuncId) (lb : Array Value) (rs : List MRuleD) (c : MConfD) (w0 : World) (bc gT cap lo hi : Nat) (I : Nat → (Nat → Prop) → World → Prop) : Prop :=
  ∀ (i : Nat) (K : Nat → Prop) (wX : World) (cs : Array Value), MRuns rs c i → MAt w0 K wX bc gT cap cs (cfgM rs c i) → I i K wX → hi ≤ wX.heap.size →
    Calls Tryz.prog fid (#[Value.agg #[.int .i64 (cfgM rs c i).q, .slice (some ⟨gT, 0, none⟩) c.tapes.length cap]] ++ lb) wX fun e w' =>
      e = .returned (.tuple #[]) ∧ ∃ K' : Nat → Prop, (∀ k, K k → K' k) ∧ MAt w0 K' w' bc gT cap cs (cfgM rs c i) ∧ I (i + 1) K' w' ∧ ∀ k, lo ≤ k → k < hi → w'.heap[k]? = wX.heap[k]?
/-- What a run leaves. -/
def RunOutM (rs : List MRuleD) (c : MConfD) (N : Nat) (w0 : World) (bc gT cap : Nat) (I : Nat → (Nat → Prop) → World → Prop) (e : Ending) (w' : World) : Prop :=
  (∃ (i : Nat) (K : Nat → Prop) (cs : Array Value), MEnd rs c N i ∧ e = .returned (.tuple #[.int .i64 (i : Int), .bool (lookM rs (cfgM rs c i)).isNone, .int .i64 0]) ∧ MAt w0 K w' bc gT cap cs (cfgM rs c i) ∧ I (i + 1) K w') ∨
  (∃ (i : Nat) (K : Nat → Prop), MFull rs c N i ∧ e = .returned (.tuple #[.int .i64 0, .bool false, .int .i64 5]) ∧ Ext w0 w' ∧ I i K w')
theorem MAt.tapes {w0 w : World} {K : Nat → Prop} {bc gT cap : Nat} {cs : Array Value} {c : MConfD} (h : MAt w0 K w bc gT cap cs c) : Tapes w (.slice (some ⟨gT, 0, none⟩) c.tapes.length cap) c.tapes := by
  refine ⟨_, _, rfl, h.cap1, h.cap2, fun _ => ⟨gT, 0, rfl, fun i hi => ?_⟩⟩
  obtain ⟨lv, rv, e1, e2, s1, s2⟩ := h.side i hi
  exact ⟨lv, rv, by rw [Nat.zero_add]; exact (h.tblk.cell _).trans e1, by rw [Nat.zero_add]; exact (h.tblk.cell _).trans e2, s1.ints, s2.ints⟩
/-- Blocks that have been made since may be kept as well. -/
theorem MAt.more {w0 w w' : World} {K K' : Nat → Prop} {bc gT cap : Nat} {cs : Array Value} {c : MConfD} (h : MAt w0 K w bc gT cap cs c) (he : Ext w w') (hK : ∀ k, K' k → K k ∨ (w.heap.size ≤ k ∧ k < w'.heap.size)) : MAt w0 K' w' bc gT cap cs c := by
  have h1 := h.ext he
  have hb := h.blk.lt
  have ht := h.tblk.lt
  have hs := he.size
  refine ⟨h1.ext0, fun k hk => ?_, h.blo, fun hk => ?_, h.tlo, fun hk => ?_, h.cap1, h.cap2, h1.blk, h1.tblk, h1.side, fun j v g hjn hj hg hk => ?_, h1.lt, h.ap⟩
  · rcases hK k hk with e | e
    · have := h.kb k e; omega
    · exact e.2
  · rcases hK bc hk with e | e
    · exact h.bK e
    · omega
  · rcases hK gT hk with e | e
    · exact h.tK e
    · omega
  · have := (h.lt j v g hjn hj hg).2
    rcases hK g hk with e | e
    · exact h.mid j v g hjn hj hg e
    · omega
/-- How far the program's run of a machine with several tapes has come. -/
structure MuLoop (w0 wA : World) (lo : Nat) (m : MultiD) (c : MConfD) (bc gT cap gB bm : Nat) (A : Option Addr) (cA : Nat) (I : Nat → (Nat → Prop) → World → Prop) (i : Nat) (K : Nat → Prop) (cs : Array Value) (w : World) : Prop where
  at_ : MAt w0 K w bc gT cap cs (cfgM m.rules c i)
  runs : MRuns m.rules c i
  inv : I i K w
  own : ∀ k, lo ≤ k → k < wA.heap.size → K k
  blk : Blk w gB 35 #[.int .i64 m.tp, .int .i64 m.sy, .int .i64 m.st, .slice A m.rules.length cA]
  tbl : Tbl Tryz.prog 151 2 rdE w bm m.rules.length (tblM m.rules m.rules.length)
theorem Tbl.sameB {P : Program} {k e : TypeId} {α : Type} {enc : α → Value} {w w' : World} {b n : Nat} {T : α → Option Int} (h : Tbl P k e enc w b n T) (hs : w'.heap[b]? = w.heap[b]?) : Tbl P k e enc w' b n T := by
  obtain ⟨D, ⟨es, clock, hb, hr⟩, h2⟩ := h
  exact ⟨D, ⟨es, clock, hs.trans hb, hr⟩, h2⟩
end Go.Proofs.YtfghojbbofobeaaGreat
end
section
set_option linter.unusedVariables false
set_option linter.unusedSimpArgs false
namespace Go.Proofs.YtfghojbbofobeaaGreat
open Go Go.RowKit Go.Proofs Go.Maps
set_option maxHeartbeats 400000
end Go.Proofs.YtfghojbbofobeaaGreat
end
