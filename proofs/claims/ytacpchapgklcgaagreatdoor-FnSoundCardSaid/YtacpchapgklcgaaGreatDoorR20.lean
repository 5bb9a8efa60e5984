/- Plain words on backward search: partial configurations, those that lead to one, the levels; where a machine halts after more steps, no level is empty. No program stands here.
Contracts of the library's maker of strings in a block of the call's own: an ASCII rune is laid behind what it holds.
Contract of the program's text of digits. The letters are from 0 to 9. -/
import Derived.Test.YtacpchapgklcgaaGreatDoorR18
import Derived.Test.YtacpchapgklcgaaGreatDoorR01
import Derived.Test.YtacpchapgklcgaaGreatDoorShelf
import Derived.Lib.Builder
import Derived.Shelf.Strings.Builder1
import Derived.Maps.AppendAt
section
set_option linter.unusedSimpArgs false
set_option linter.unusedVariables false
namespace Go.Proofs.YtacpchapgklcgaaGreatDoor
open Go Go.RowKit Go.Proofs
/-- A state with a segment of the tape. -/
structure PartD where
  q : Int
  p : Nat
  cs : List Int
deriving DecidableEq
/-- The one from which a rule of a state and a symbol leads. -/
def predP (x : PartD) (q a : Int) (r : RuleD) : Option PartD :=
  if ¬ r.n = x.q then none
  else if (x.p : Int) - r.m < 0 then some ⟨q, 0, a :: x.cs⟩
  else if (x.p : Int) - r.m = x.cs.length then some ⟨q, x.cs.length, x.cs ++ [a]⟩
  else if ¬ x.cs.getD ((x.p : Int) - r.m).toNat 0 = r.w then none
  else some ⟨q, ((x.p : Int) - r.m).toNat, x.cs.set ((x.p : Int) - r.m).toNat a⟩
def predAt (m : MachD) (x : PartD) (k : Nat) : Option PartD :=
  if m.rules.getD k noR = noR then none else predP x ((k : Int) / m.sy) ((k : Int) % m.sy) (m.rules.getD k noR)
/-- All of them, by the first k rules. -/
def predsUp (m : MachD) (x : PartD) (k : Nat) : List PartD := (List.range k).filterMap (predAt m x)
def predsP (m : MachD) (x : PartD) : List PartD := predsUp m x m.rules.length
theorem predsUp_next (m : MachD) (x : PartD) (k : Nat) : predsUp m x (k + 1) = predsUp m x k ++ (predAt m x k).toList := by
  unfold predsUp
  rw [List.range_succ, List.filterMap_append]
  cases h : predAt m x k <;> simp [h]
def addB (l : List PartD) (y : PartD) : List PartD := if y ∈ l then l else l ++ [y]
theorem addB_mem {l : List PartD} {y z : PartD} : z ∈ addB l y ↔ z ∈ l ∨ z = y := by
  unfold addB
  split
  · rename_i h
    exact ⟨.inl, fun h' => h'.elim id (fun e => e ▸ h)⟩
  · simp
theorem foldP_mem : ∀ {ys l : List PartD} {z : PartD}, z ∈ ys.foldl addB l ↔ z ∈ l ∨ z ∈ ys := by
  intro ys
  induction ys with
  | nil => intro l z; simp
  | cons a ys ih => intro l z; rw [List.foldl_cons, ih, addB_mem, List.mem_cons, or_assoc]
/-- A predecessor is too long. -/
def longP (m : MachD) (x : PartD) : Bool := (predsP m x).any fun y => decide (60 < y.cs.length)
/-- The next level, and the number of steps that are left. -/
def nextGo (m : MachD) : List PartD → List PartD → Int → Option (List PartD × Int)
  | [], acc, s => some (acc, s)
  | x :: xs, acc, s =>
    if longP m x = true ∨ s - 1 < 0 then none
    else if 300 < ((predsP m x).foldl addB acc).length then none
    else nextGo m xs ((predsP m x).foldl addB acc) (s - 1)
def nextP (m : MachD) (l : List PartD) (s : Int) : Option (List PartD × Int) := nextGo m l [] s
theorem nextGo_mem {m : MachD} : ∀ {xs acc : List PartD} {s : Int} {r : List PartD × Int}, nextGo m xs acc s = some r → ∀ z, (z ∈ acc ∨ ∃ x ∈ xs, z ∈ predsP m x) → z ∈ r.1 := by
  intro xs
  induction xs with
  | nil =>
    intro acc s r h z hz
    injection h with h
    subst h
    rcases hz with hz | ⟨x, hx, _⟩
    · exact hz
    · cases hx
  | cons a xs ih =>
    intro acc s r h z hz
    unfold nextGo at h
    split at h
    · cases h
    · split at h
      · cases h
      · refine ih h z ?_
        rcases hz with hz | ⟨x, hx, hxz⟩
        · exact .inl (foldP_mem.2 (.inl hz))
        · rcases List.mem_cons.1 hx with rfl | hx
          · exact .inl (foldP_mem.2 (.inr hxz))
          · exact .inr ⟨x, hx, hxz⟩
/-- The halting partial configurations. -/
def haltP (m : MachD) : List PartD := (freeTo m.rules m.rules.length).map fun z => ⟨z / m.sy, 0, [z % m.sy]⟩
/-- The levels from a list on: a chain. -/
inductive Chain (m : MachD) : List PartD → Int → Nat → List PartD → Int → Prop
  | zero (l s) : Chain m l s 0 l s
  | next {l s n l' s' l'' s''} : Chain m l s n l' s' → nextP m l' s' = some (l'', s'') → Chain m l s (n + 1) l'' s''
/-- A partial configuration and a tape with a head and a state. -/
structure Fitted (A : Int → Int) (p q : Int) (x : PartD) : Prop where
  q : x.q = q
  low : x.p < x.cs.length
  cells : ∀ i : Nat, i < x.cs.length → x.cs.getD i 0 = A (p - x.p + i)
theorem fitted_back {A A' : Int → Int} {p q a : Int} {r : RuleD} {x : PartD} (hm : r.m = 1 ∨ r.m = -1) (hA : ∀ z, A' z = if z = p then r.w else A z) (ha : A p = a) (h : Fitted A' (p + r.m) r.n x) :
    ∃ y, predP x q a r = some y ∧ Fitted A p q y := by
  obtain ⟨h1, h2, h3⟩ := h
  have same : ∀ z, z ≠ p → A' z = A z := fun z hz => by rw [hA, if_neg hz]
  unfold predP
  rw [if_neg (fun hn => hn h1.symm)]
  by_cases c1 : (x.p : Int) - r.m < 0
  · rw [if_pos c1]
    have e1 : r.m = 1 := by omega
    have e0 : x.p = 0 := by omega
    refine ⟨_, rfl, rfl, by simp, fun i hi => ?_⟩
    cases i with
    | zero => simp only [List.getD_eq_getElem?_getD, List.getElem?_cons_zero, Option.getD_some]; rw [← ha]; congr 1; simp
    | succ i =>
      simp only [List.length_cons] at hi
      have := h3 i (by omega)
      have e2 : (a :: x.cs).getD (i + 1) 0 = x.cs.getD i 0 := rfl
      simp only at e2 ⊢
      rw [e2, this, same _ (by omega)]
      congr 1
      omega
  · rw [if_neg c1]
    by_cases c2 : (x.p : Int) - r.m = x.cs.length
    · rw [if_pos c2]
      refine ⟨_, rfl, rfl, by simp, fun i hi => ?_⟩
      simp only [List.length_append, List.length_cons, List.length_nil] at hi
      simp only [List.getD_eq_getElem?_getD]
      by_cases hil : i < x.cs.length
      · rw [List.getElem?_append_left hil]
        have := h3 i hil
        rw [List.getD_eq_getElem?_getD] at this
        rw [this, same _ (by omega)]
        congr 1
        omega
      · have : i = x.cs.length := by omega
        subst this
        rw [List.getElem?_append_right (Nat.le_refl _)]
        simp only [Nat.sub_self, List.getElem?_cons_zero, Option.getD_some]
        rw [← ha]
        congr 1
        omega
    · rw [if_neg c2]
      have hc : ((x.p : Int) - r.m).toNat < x.cs.length := by omega
      have ec := h3 _ hc
      have ep : p + r.m - (x.p : Int) + (((x.p : Int) - r.m).toNat : Int) = p := by omega
      rw [ep, hA, if_pos rfl] at ec
      rw [if_neg (fun hn => hn ec)]
      refine ⟨_, rfl, rfl, by simp; omega, fun i hi => ?_⟩
      simp only [List.length_set] at hi
      simp only [List.getD_eq_getElem?_getD]
      by_cases hic : i = ((x.p : Int) - r.m).toNat
      · rw [← hic, List.getElem?_set_self hi]
        simp only [Option.getD_some]
        rw [← ha]
        congr 1
        omega
      · rw [List.getElem?_set_ne (by omega)]
        have := h3 i hi
        rw [List.getD_eq_getElem?_getD] at this
        rw [this, same _ (by omega)]
        congr 1
        omega
theorem mem_predsP {m : MachD} {x y : PartD} {k : Nat} (hk : k < m.rules.length) (hr : ¬ m.rules[k] = noR) (h : predP x ((k : Int) / m.sy) ((k : Int) % m.sy) m.rules[k] = some y) : y ∈ predsP m x := by
  unfold predsP predsUp
  rw [List.mem_filterMap]
  refine ⟨k, List.mem_range.2 hk, ?_⟩
  have e : m.rules.getD k noR = m.rules[k] := by rw [List.getD_eq_getElem?_getD, List.getElem?_eq_getElem hk]; rfl
  unfold predAt
  rw [e, if_neg hr]
  exact h
theorem mem_haltP {m : MachD} {k : Nat} (hk : k < m.rules.length) (h : m.rules[k] = noR) : (⟨(k : Int) / m.sy, 0, [(k : Int) % m.sy]⟩ : PartD) ∈ haltP m := by
  unfold haltP freeTo
  refine List.mem_map.2 ⟨(k : Int), ?_, rfl⟩
  rw [List.mem_filterMap]
  exact ⟨k, List.mem_range.2 hk, by rw [List.getElem?_eq_getElem hk, h]; simp⟩
/-- Each level bears one that fits the configuration so many steps before the end. -/
theorem chain_fitted {m : MachD} (hm : machOk m = true) {T : Nat} {A : Nat → Int → Int} {p q : Nat → Int} (h : HaltRun m T A p q) {s s' : Int} {n : Nat} {l' : List PartD} (hc : Chain m (haltP m) s n l' s') (hn : n ≤ T) :
    ∃ x ∈ l', Fitted (A (T - n)) (p (T - n)) (q (T - n)) x := by
  induction hc with
  | zero =>
    obtain ⟨k, hk, e, hr⟩ := h.halt
    obtain ⟨s1, s2⟩ := h.sym T (Nat.le_refl _)
    obtain ⟨d1, d2⟩ := idx_parts s1 s2 e
    refine ⟨_, mem_haltP hk hr, d1, by simp, fun i hi => ?_⟩
    simp only [List.length_cons, List.length_nil] at hi
    have : i = 0 := by omega
    subst this
    simp only [List.getD_eq_getElem?_getD, List.getElem?_cons_zero, Option.getD_some]
    rw [d2]
    simp
  | next hc hs ih =>
    rename_i n l1 s1 l2 s2
    obtain ⟨x, hx, hf⟩ := ih (by omega)
    obtain ⟨k, hk, e, hr, h1, h2, h3⟩ := h.step (T - (n + 1)) (by omega)
    have et : T - (n + 1) + 1 = T - n := by omega
    rw [et] at h1 h2 h3
    obtain ⟨s1', s2'⟩ := h.sym (T - (n + 1)) (by omega)
    obtain ⟨d1, d2⟩ := idx_parts s1' s2' e
    rw [h1, h2] at hf
    obtain ⟨y, hy, hfy⟩ := fitted_back (q := q (T - (n + 1))) (mv1 hm _ (List.getElem_mem hk) hr) h3 rfl hf
    refine ⟨y, nextGo_mem hs y (.inr ⟨x, hx, mem_predsP hk hr ?_⟩), hfy⟩
    rw [d1, d2]
    exact hy
/-- Where a level is empty the machine does not halt after so many steps or more. -/
theorem chain_empty {m : MachD} (hm : machOk m = true) {T : Nat} {A : Nat → Int → Int} {p q : Nat → Int} (h : HaltRun m T A p q) {s s' : Int} {n : Nat} (hc : Chain m (haltP m) s n [] s') : T < n := by
  rcases Nat.lt_or_ge T n with c | c
  · exact c
  · obtain ⟨x, hx, _⟩ := chain_fitted hm h hc c
    cases hx
end Go.Proofs.YtacpchapgklcgaaGreatDoor
end
section
set_option linter.unusedSimpArgs false
set_option linter.unusedVariables false
namespace Go.Proofs.YtacpchapgklcgaaGreatDoor
open Go Go.RowKit Go.Proofs
set_option maxHeartbeats 400000
abbrev BdAt (B b : Nat) (p : Value) (l : List UInt8) (w : World) : Prop := Lib.BuilderAt 176 5 B b p (Lib.byteCells l) w
/-- A builder of the call's own, that may have been written. -/
def Bldr (B b : Nat) (l : List UInt8) (w : World) : Prop := Lib.IsBuilder 176 5 B b (Lib.byteCells l) w
theorem bldSize : (Tryz.prog.info? 176).map (·.size) = some 2 := by kernel_rfl
theorem bldLies : liesAt Tryz.prog Tryz.prog.depth 176 (2 / Tryz.prog.cellsOf 176) 0 176 1 = true := by kernel_rfl
theorem byteInfo : (Tryz.prog.info? 5).map (fun i => (i.zero, i.size, i.bytes)) = some (some (.int .u8 0), 1, 1) := by kernel_rfl
set_option maxRecDepth 20000 in
theorem copyFresh_c (b : Nat) (w : World) (h0 : w.cell? ⟨b, 0, none⟩ = some (.pointer none)) (hsh : w.shape? b = some (176, 2)) (hfz : w.frozen? ⟨b, 0, none⟩ = false) :
    Calls Tryz.prog 144 #[.pointer (some ⟨b, 0, none⟩)] w fun e w' => e = .returned (.tuple #[]) ∧ w' = w.setCell ⟨b, 0, none⟩ (.pointer (some ⟨b, 0, none⟩)) := by
  obtain ⟨j, hj, hjs⟩ := Option.map_eq_some_iff.1 bldSize
  go_enter Tryz.func144, Tryz.ntmps144
  go_wp2
  rw [Lib.run_to_unsafe w ⟨b, 0, none⟩ Tryz.underlying174 Tryz.underlying205 hj (by rw [hjs]; decide) hsh (Nat.zero_lt_succ 1)]
  simp only [Result.andThen]
  rw [Oper.upon_value]
  go_wp2
  rw [run_callFunc_extern Tryz.func154 (by kernel_rfl) (by kernel_rfl) (by kernel_rfl) (e := Extern.AbiNoEscape.same) (by kernel_rfl)]
  rw [Lib.run_noEscape]
  simp only [Result.andThen]
  rw [Oper.upon_value]
  go_wp2
  rw [Lib.run_from_unsafe w ⟨b, 0, none⟩ Tryz.underlying205 Tryz.underlying174 hj hsh bldLies]
  simp only [Result.andThen]
  rw [Oper.upon_value]
  go_wp2
  go_end0
  exact ⟨rfl, rfl⟩
set_option maxRecDepth 20000 in
theorem copyUsed_c (b : Nat) (w : World) (h0 : w.cell? ⟨b, 0, none⟩ = some (.pointer (some ⟨b, 0, none⟩))) :
    Calls Tryz.prog 144 #[.pointer (some ⟨b, 0, none⟩)] w fun e w' => e = .returned (.tuple #[]) ∧ w' = w := by
  obtain ⟨j, hj, _⟩ := Option.map_eq_some_iff.1 bldSize
  go_enter Tryz.func144, Tryz.ntmps144
  go_wp2
  rw [Lib.run_neq_ptr_same w _ Tryz.underlying174 hj]
  go_wp2
  go_end0
  exact ⟨rfl, rfl⟩
theorem copyCheck_c (B b : Nat) (l : List UInt8) (w : World) (h : Bldr B b l w) :
    Calls Tryz.prog 144 #[.pointer (some ⟨b, 0, none⟩)] w fun e w' => e = .returned (.tuple #[]) ∧ BdAt B b (.pointer (some ⟨b, 0, none⟩)) l w' ∧ Below B w w' := by
  rcases h with h | h
  · refine (copyFresh_c b w h.cell0 h.shape h.frozen0).mono ?_
    rintro e w' ⟨rfl, rfl⟩
    exact ⟨rfl, h.used _, (Below.refl B w).setCell (p := ⟨b, 0, none⟩) h.1 _⟩
  · refine (copyUsed_c b w h.cell0).mono ?_
    rintro e w' ⟨rfl, rfl⟩
    exact ⟨rfl, h, Below.refl B _⟩
set_option maxRecDepth 20000 in
set_option maxHeartbeats 4000000 in
/-- An ASCII rune behind a row of bytes of the call's own. -/
theorem appendRuneA_c (B : Nat) (v : Value) (n : Nat) (xs : List Value) (r : Int) (h0 : 0 ≤ r) (h1 : r ≤ 127) (w : World) (hown : w.ownsRow B 5 1 v n xs) (hlen : n + 4 ≤ 140737488355328) (hBw : B ≤ w.heap.size) :
    Calls Tryz.prog 148 #[v, .int .i32 r] w fun e w' => ∃ v', e = .returned v' ∧ w'.ownsRow B 5 1 v' (n + 1) (xs ++ [.int .u8 r]) ∧ ∃ o, (w.alloc o).grownBy w' v.ownBlock := by
  obtain ⟨i0, hi, hz0, hz1, hz2⟩ := info_parts byteInfo
  go_enter Tryz.func148, Tryz.ntmps148
  go_wp2_with (at_builtin; refine wpList_append_own_at _ rfl _ _ 22 rfl B 5 i0 (.int .u8 0) 1 1 Tryz.underlying22 hi hz0 hz1 hz2 rfl (by decide) _ _ _ rfl (hown.alloc _) ⟨w.heap.size, 0, none⟩ 1 1 [.int .u8 r] rfl rfl (cell_one_new _ _ _) ?c2 ?c3 ?c4 ?c5 ?_)
  case c2 => intro u hu; simp at hu; subst hu; rfl
  case c3 => unfold maxLen; omega
  case c4 => omega
  case c5 => simp; omega
  intro v' w2 hown' hgrow _ _
  go_wp2
  go_ret
  exact ⟨_, rfl, hown', _, hgrow⟩
set_option maxRecDepth 20000 in
set_option maxHeartbeats 4000000 in
theorem writeRuneA_c (B b : Nat) (l : List UInt8) (c : UInt8) (hc : c.toNat ≤ 127) (w : World) (h : Bldr B b l w) (hlen : l.length + 4 ≤ 140737488355328) (hBw : B ≤ w.heap.size) :
    Calls Tryz.prog 134 #[.pointer (some ⟨b, 0, none⟩), .int .i32 c.toNat] w fun e w' => e = .returned (.tuple #[.int .i64 1, .nilIface]) ∧ BdAt B b (.pointer (some ⟨b, 0, none⟩)) (l ++ [c]) w' ∧ Below B w w' := by
  have e240 : ∀ args w, (callFunc 144 args).run Tryz.prog w = .ok (.enter 144 args) w := enters_of Tryz.func144 (by kernel_rfl) rfl
  have hbl : (Lib.byteCells l).length = l.length := by simp [Lib.byteCells]
  go_enter Tryz.func134, Tryz.ntmps134
  go_wp2_with fail
  refine (copyCheck_c B b l w h).mono ?_
  rintro e w1 ⟨rfl, h1, hb1⟩
  obtain ⟨hB, v, hbk, hown, hne⟩ := h1
  rw [hbl] at hown
  obtain ⟨ao, cap, rfl⟩ : ∃ ao cap, v = .slice ao l.length cap := by
    rcases hown.2 with ⟨hv, h0⟩ | ⟨g, cap, cur, hv, _⟩
    · exact ⟨none, 0, by rw [hv, h0]⟩
    · exact ⟨_, _, hv⟩
  have c0 : w1.cell? ⟨b, 0, none⟩ = some (.pointer (some ⟨b, 0, none⟩)) := by rw [Lib.cell_of_heap hbk]; rfl
  have c1 : w1.cell? ⟨b, 1, none⟩ = some (.slice ao l.length cap) := by rw [Lib.cell_of_heap hbk]; rfl
  have hbs := hb1.size
  have hlt : b < w1.heap.size := by
    rcases Nat.lt_or_ge b w1.heap.size with h' | h'
    · exact h'
    · simp [Array.getElem?_eq_none h'] at hbk
  go_wp2_with fail
  refine (appendRuneA_c B _ l.length _ (c.toNat : Int) (by omega) (by omega) w1 hown hlen (by omega)).mono ?_
  rintro e w2 ⟨v', rfl, hown', o, hgrow⟩
  have hb2 : w2.heap[b]? = some (.cells #[.pointer (some ⟨b, 0, none⟩), .slice ao l.length cap] 176 (0, 0)) := by
    rw [hgrow.block b (by simp; omega) (fun e => hne e.symm), Lib.alloc_old w1 _ b hlt]
    exact hbk
  have d0 : w2.cell? ⟨b, 0, none⟩ = some (.pointer (some ⟨b, 0, none⟩)) := by rw [Lib.cell_of_heap hb2]; rfl
  have d1 : w2.cell? ⟨b, 1, none⟩ = some (.slice ao l.length cap) := by rw [Lib.cell_of_heap hb2]; rfl
  have f1 : w2.frozen? ⟨b, 1, none⟩ = false := Lib.frozen_of_heap hb2 1
  obtain ⟨g, cap', rfl⟩ : ∃ g cap', v' = .slice (some ⟨g, 0, none⟩) (l.length + 1) cap' := by
    rcases hown'.2 with ⟨_, h0⟩ | ⟨g, cap', cur, hv, _⟩
    · omega
    · exact ⟨g, cap', hv⟩
  have e1 : (l.length : Int) + 1 - (l.length : Int) = 1 := by omega
  go_wp2
  go_ret2
  refine ⟨by simp, ?_, ?_⟩
  · refine Lib.BuilderAt.put (T := 176) (e := 5) hB hb2 (bs' := Lib.byteCells (l ++ [c])) ?_ (by decide)
    have : Lib.byteCells (l ++ [c]) = Lib.byteCells l ++ [.int .u8 c.toNat] := by simp [Lib.byteCells]
    rw [this]
    simpa [hbl] using hown'
  · exact ((hb1.alloc (by have := hb1.size; omega) _).grown hgrow (by have := hb1.size; simp; omega) (fun k hk => (hown.lt k hk).1)).setCell (p := ⟨b, 1, none⟩) hB _
end Go.Proofs.YtacpchapgklcgaaGreatDoor
end
section
set_option linter.unusedSimpArgs false
set_option linter.unusedVariables false
namespace Go.Proofs.YtacpchapgklcgaaGreatDoor
open Go Go.RowKit Go.Proofs
set_option maxHeartbeats 400000
def digU (z : Int) : UInt8 := UInt8.ofNat (48 + z.toNat)
def digB (zs : List Int) : List UInt8 := zs.map digU
theorem digU_nat {z : Int} (h0 : 0 ≤ z) (h1 : z ≤ 9) : ((digU z).toNat : Int) = 48 + z := by
  unfold digU
  rw [UInt8.toNat_ofNat', Nat.mod_eq_of_lt (by omega)]
  omega
theorem ext_below {w a b : World} {g : Nat} (h : Ext w a) (hg : w.heap.size = g) (k : Below g a b) : Ext w b := by
  subst hg
  exact Below.trans h k
theorem Bldr.lt {B b : Nat} {l : List UInt8} {w : World} (h : Bldr B b l w) : b < w.heap.size := h.elim (fun x => x.lt) (fun x => x.lt)
set_option maxRecDepth 20000 in
set_option maxHeartbeats 4000000 in
theorem digitsText_c (v : Value) (zs : List Int) (w : World) (h : Ints w v zs) (hz : ∀ z ∈ zs, 0 ≤ z ∧ z ≤ 9) (hl : zs.length ≤ 1048576) :
    Calls Tryz.prog 114 #[v] w fun e w' => e = .returned (.string ⟨(digB zs).toArray⟩) ∧ Ext w w' := by
  obtain ⟨A, c, rfl, h1, h2⟩ := h.form
  obtain ⟨W, hW⟩ : ∃ W, w.alloc (.cells #[.pointer none, .slice none 0 0] 176) = W := ⟨_, rfl⟩
  have hX : Ext w W := by rw [← hW]; exact Ext.alloc _ _
  have hB : Bldr w.heap.size w.heap.size [] W := by rw [← hW]; exact Lib.fresh_isBuilder _ _ w
  have HZ := Lib.hid hz
  generalize hg0 : w.heap.size = g at *
  go_enter Tryz.func114, Tryz.ntmps114
  go_wp2_with fail
  try rw [hW]
  clear hW
  go_loopw [8] (fun i wr => ∃ k : Nat, k ≤ zs.length ∧ i = .int .i64 (k : Int) ∧ Bldr g g (digB (zs.take k)) wr ∧ Ext w wr) (fun i _ => zs.length - (intOf i).toNat)
  case atStart => exact ⟨0, Nat.zero_le _, rfl, hB, hX⟩
  case round =>
    clear hB hX
    obtain ⟨k, hk, rfl, hB, hX⟩ := hrel
    by_cases hlt : k < zs.length
    · obtain ⟨b', off, rfl, hc⟩ := (h.ext hX).at hlt
      have c0 := hc k hlt
      have hnx : Hid (digB (zs.take (k + 1)) = digB (zs.take k) ++ [digU zs[k]]) := Lib.hid (by unfold digB; rw [List.take_succ_eq_append_getElem hlt, List.map_append]; rfl)
      have hz0 := HZ.out _ (List.getElem_mem hlt)
      have hll : (digB (zs.take k)).length ≤ 1048576 := by simp [digB]; omega
      generalize zs[k] = z at *
      have hd := digU_nat hz0.1 hz0.2
      have hn : (digU z).toNat ≤ 127 := by omega
      have hwz : IntKind.i32.wrap z = z := by
        rcases (show z = 0 ∨ z = 1 ∨ z = 2 ∨ z = 3 ∨ z = 4 ∨ z = 5 ∨ z = 6 ∨ z = 7 ∨ z = 8 ∨ z = 9 by omega) with e | e | e | e | e | e | e | e | e | e <;> rw [e] <;> rfl
      have hwr := writeRuneA_c g g _ (digU z) hn wr hB (by omega) (by have := hX.size; omega)
      rw [hd] at hwr
      clear hc
      go_wp2_with fail
      refine hwr.mono ?_
      rintro e w2 ⟨rfl, hB2, hX2⟩
      go_wp2
      go_roundw
      case rel => exact ⟨k + 1, by omega, by go_num, by rw [hnx.out]; exact .inr hB2, ext_below hX hg0 hX2⟩
      case measure => simp [intOf]; omega
    · have hke : zs.take k = zs := List.take_of_length_le (by omega)
      rw [hke] at hB
      clear hke
      have hst := Tryz.Builder_String_any g g (digB zs) wr hB (by have := hX.size; omega)
      go_wp2_with fail
      refine hst.mono ?_
      rintro e w2 ⟨rfl, hX2⟩
      go_wp2
      go_ret
      exact ⟨rfl, ext_below hX hg0 hX2⟩
end Go.Proofs.YtacpchapgklcgaaGreatDoor
end
