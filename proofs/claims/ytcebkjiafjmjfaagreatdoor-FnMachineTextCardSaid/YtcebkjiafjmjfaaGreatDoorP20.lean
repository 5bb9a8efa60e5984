/- Contract of the text of a machine. The machine is valid; the library's table is as its text lays it.
Contracts of the reference's source of choices: bytes first, then a sequence of its own. Fewer than 2 to the power of 60 choices are made.
Contracts of the laws' small helpers on bytes, lists and rows. -/
import Derived.Test.YtcebkjiafjmjfaaGreatDoorP09
import Derived.Test.YtcebkjiafjmjfaaGreatDoorP12
import Derived.Test.YtcebkjiafjmjfaaGreatDoorP19
import Derived.Test.YtcebkjiafjmjfaaGreatDoorP04
import Derived.Test.YtcebkjiafjmjfaaGreatDoorP03
section
set_option linter.unusedSimpArgs false
set_option linter.unusedVariables false
namespace Go.Proofs.YtcebkjiafjmjfaaGreatDoor
open Go Go.RowKit Go.Proofs Go.Shelf
attribute [local go_sem] Oper.semAt_some
set_option maxHeartbeats 400000
def svB (xs : List (List UInt8)) : List Value := xs.map fun l => Value.string (bsS l)
theorem svB_length (xs : List (List UInt8)) : (svB xs).length = xs.length := by simp [svB]
theorem svB_take {α : Type} (f : α → List UInt8) (xs : List α) (k : Nat) (h : k < xs.length) : svB ((xs.take (k + 1)).map f) = svB ((xs.take k).map f) ++ [.string (bsS (f xs[k]))] := by
  unfold svB; rw [List.take_succ_eq_append_getElem h, List.map_append, List.map_append]; rfl
theorem lens_bound {l : List (List UInt8)} {B : Nat} (h : ∀ x ∈ l, x.length ≤ B) : Lib.lens l ≤ l.length * B := by
  induction l with
  | nil => simp [Lib.lens]
  | cons a l ih =>
    have h1 := h a List.mem_cons_self
    have h2 := ih fun x hx => h x (List.mem_cons_of_mem _ hx)
    simp only [Lib.lens, List.map_cons, List.sum_cons, List.length_cons, Nat.succ_mul] at *
    omega
theorem join_bound {l : List (List UInt8)} {B : Nat} (c : UInt8) (h : ∀ x ∈ l, x.length ≤ B) : (Lib.join l [c]).length ≤ l.length * (B + 1) := by
  cases l with
  | nil => simp [Lib.join_nil]
  | cons a l =>
    have h1 := lens_bound h
    rw [Lib.join_length]
    simp only [List.length_cons, List.length_nil, Nat.mul_add, Nat.mul_one] at *
    omega
theorem ruleT_len {sy st : Int} {r : RuleD} (h : ruleOk sy st r = true) (hs : sy ≤ 6) (ht : st ≤ 1000) : (ruleT r).length ≤ 40 := by
  unfold ruleT
  by_cases hr : r = noR
  · rw [if_pos hr]; decide
  · rw [if_neg hr]
    have hq := h
    simp only [ruleOk, decide_eq_false hr, Bool.false_or, Bool.and_eq_true] at hq
    have h1 := inB_iff.1 hq.1.1
    have h2 := inB_iff.1 hq.2
    have l1 : (Lib.itoa r.w).length ≤ 18 := by
      have := itoaS_size (n := r.w) (by omega) (by omega)
      have e : (itoaS r.w).size = (Lib.itoa r.w).length := by show (Lib.itoa r.w).toArray.size = _; simp
      omega
    have l2 : (Lib.itoa r.n).length ≤ 18 := by
      have := itoaS_size (n := r.n) (by omega) (by omega)
      have e : (itoaS r.n).size = (Lib.itoa r.n).length := by show (Lib.itoa r.n).toArray.size = _; simp
      omega
    simp
    omega
/-- A valid machine's parts. -/
theorem mach_parts {m : MachD} (hm : machOk m = true) : ∃ S T : Nat, m.sy = (S : Int) ∧ m.st = (T : Int) ∧ 2 ≤ S ∧ S ≤ 6 ∧ 1 ≤ T ∧ T ≤ 1000 ∧ m.rules.length = T * S ∧ ∀ r ∈ m.rules, ruleOk m.sy m.st r = true := by
  simp only [machOk, Bool.and_eq_true, decide_eq_true_eq, List.all_eq_true] at hm
  obtain ⟨⟨⟨h1, h2⟩, h3⟩, h4⟩ := hm
  have h1 := inB_iff.1 h1
  have h2 := inB_iff.1 h2
  refine ⟨m.sy.toNat, m.st.toNat, by omega, by omega, by omega, by omega, by omega, by omega, ?_, h4⟩
  have e : ((m.st.toNat * m.sy.toNat : Nat) : Int) = m.sy * m.st := by
    rw [Int.natCast_mul, Int.toNat_of_nonneg (by omega), Int.toNat_of_nonneg (by omega), Int.mul_comm]
  omega
theorem rowsM_len (m : MachD) : (rowsM m).length = m.st.toNat := by simp [rowsM]
theorem rowsM_get {m : MachD} {S T : Nat} (h1 : m.sy = (S : Int)) (h2 : m.st = (T : Int)) (hl : m.rules.length = T * S) {x : Nat} (hx : x < T) : ∃ hx' : x < (rowsM m).length, (rowsM m)[x] = (m.rules.drop (x * S)).take S ∧ ((rowsM m)[x]).length = S := by
  have hx' : x < (rowsM m).length := by rw [rowsM_len, h2]; simpa using hx
  have e : (rowsM m)[x] = (m.rules.drop (x * S)).take S := by simp [rowsM, h1]
  refine ⟨hx', e, ?_⟩
  rw [e, List.length_take, List.length_drop, hl]
  have := Nat.mul_le_mul_right S (show x + 1 ≤ T by omega)
  rw [Nat.succ_mul] at this
  omega
theorem rowsM_ok {m : MachD} (hm : machOk m = true) {rs : List RuleD} (h : rs ∈ rowsM m) : rs.length = m.sy.toNat ∧ ∀ r ∈ rs, ruleOk m.sy m.st r = true := by
  obtain ⟨S, T, hS, hT, s1, s2, t1, t2, hlen, hok⟩ := mach_parts hm
  obtain ⟨x, hx, rfl⟩ := List.getElem_of_mem h
  have hxT : x < T := by rw [rowsM_len, hT] at hx; simpa using hx
  obtain ⟨_, e1, e2⟩ := rowsM_get hS hT hlen hxT
  refine ⟨by rw [e2, hS]; simp, fun r hr => hok r ?_⟩
  rw [e1] at hr
  exact List.mem_of_mem_drop (List.mem_of_mem_take hr)
theorem rowT_len {m : MachD} (hm : machOk m = true) {rs : List RuleD} (h : rs ∈ rowsM m) : (rowT rs).length ≤ 246 := by
  obtain ⟨S, T, hS, hT, s1, s2, t1, t2, hlen, hok⟩ := mach_parts hm
  obtain ⟨h1, h2⟩ := rowsM_ok hm h
  have := join_bound (B := 40) 44 (l := rs.map ruleT) (fun y hy => by obtain ⟨r, hr, rfl⟩ := List.mem_map.1 hy; exact ruleT_len (h2 r hr) (by omega) (by omega))
  rw [List.length_map, h1, hS, Int.toNat_natCast] at this
  show (Lib.join (rs.map ruleT) [44]).length ≤ 246
  omega
theorem machT_len {m : MachD} (hm : machOk m = true) : (machT m).length ≤ 247000 := by
  obtain ⟨S, T, hS, hT, s1, s2, t1, t2, hlen, hok⟩ := mach_parts hm
  have := join_bound (B := 246) 59 (l := (rowsM m).map rowT) (fun y hy => by obtain ⟨r, hr, rfl⟩ := List.mem_map.1 hy; exact rowT_len hm hr)
  rw [List.length_map, rowsM_len, hT, Int.toNat_natCast] at this
  show (Lib.join ((rowsM m).map rowT) [59]).length ≤ 247000
  omega
structure IMs (w1 : World) (h : Nat) (m : MachD) (s : List Nat) (W : World) : Prop where
  rng : s = List.range s.length
  own : ∃ sv, Blk W (h + 1) 50 #[sv] ∧ W.ownsRow h 9 1 sv s.length (svB (((rowsM m).take s.length).map rowT))
  bx : ∃ cs, Blk W (h + 1 + 1) 24 cs
  bn : ∃ cs, Blk W (h + 1 + 1 + 1) 3 cs
  ext : Ext w1 W
theorem IMs.turn {w1 : World} {h : Nat} {m : MachD} {s : List Nat} {W W' : World} (k : IMs w1 h m s W) {row : Option Nat} (hg : W.grownBy W' row) (hr : ∀ r, row = some r → w1.heap.size ≤ r ∧ ∃ o : Obj, W.heap[r]? = some o ∧ o.isCells = false) : IMs w1 h m s W' := by
  obtain ⟨sv, hb, ho⟩ := k.own
  obtain ⟨c1, b1⟩ := k.bx
  obtain ⟨c2, b2⟩ := k.bn
  refine ⟨k.rng, ⟨sv, hb.kept hg (fun e => not_cells (o := .cells #[] 0) hb (hr _ e.symm).2), own_same ho (fun g hgl => hg.block g (ho.lt g hgl).2 (fun e => own_not_cells ho hgl (hr g e.symm).2))⟩, ⟨c1, b1.kept hg (fun e => not_cells (o := .cells #[] 0) b1 (hr _ e.symm).2)⟩, ⟨c2, b2.kept hg (fun e => not_cells (o := .cells #[] 0) b2 (hr _ e.symm).2)⟩, k.ext.grown hg (fun r e => (hr r e).1)⟩
theorem IMs.ext' {w1 : World} {h : Nat} {m : MachD} {s : List Nat} {W W' : World} (k : IMs w1 h m s W) (he : Ext W W') : IMs w1 h m s W' := by
  obtain ⟨sv, hb, ho⟩ := k.own
  obtain ⟨c1, b1⟩ := k.bx
  obtain ⟨c2, b2⟩ := k.bn
  exact ⟨k.rng, ⟨sv, hb.ext he, ownsRow_ext ho he⟩, ⟨c1, b1.ext he⟩, ⟨c2, b2.ext he⟩, k.ext.trans he⟩
theorem kpC_turn {bs : Nat} (W : World) (l : Nat) (o o' : Obj) (hl : bs + 1 < l) (h : W.heap[l]? = some o) : KpC bs W (W.putObj l o') := by
  have hg := grownBy_putObj' W l o'
  have hlt := (Array.getElem?_eq_some_iff.1 h).1
  exact ⟨hg.block bs (by omega) (fun e => by injection e with e; omega), hg.block (bs + 1) (by omega) (fun e => by injection e with e; omega)⟩
theorem KpC.trans {bs : Nat} {A B C : World} (h : KpC bs A B) (k : KpC bs B C) : KpC bs A C := ⟨k.1.trans h.1, k.2.trans h.2⟩
theorem KpC.of_ext {bs : Nat} {A B : World} (h : Ext A B) (hl : bs + 1 < A.heap.size) : KpC bs A B := ⟨Below.block h _ (by omega), Below.block h _ hl⟩
set_option maxRecDepth 100000 in
set_option maxHeartbeats 4000000 in
theorem MachineText_c (v : Value) (m : MachD) (w : World) (hM : Mach w v m) (hm : machOk m = true) (hT : Tab w) :
    Calls Tryz.prog 7 #[v] w fun e w' => e = .returned (.string (bsS (machT m))) ∧ Ext w w' := by
  obtain ⟨rv, rfl, hr⟩ := hM
  obtain ⟨S, T, hS, hTT, s1, s2, t1, t2, hlen, hok⟩ := mach_parts hm
  obtain ⟨Ar, cr, rfl, hc1, hc2⟩ := hr.form
  have hTS : 0 < T * S := Nat.mul_pos (by omega) (by omega)
  obtain ⟨b, off, rfl, hcell⟩ := hr.at (k := 0) (by omega)
  have HS := Lib.hid hS
  have HTT := Lib.hid hTT
  obtain ⟨L, hL⟩ : ∃ L, T * S = L := ⟨_, rfl⟩
  have hMv : ∀ X, Ext w X → Mach X (.agg #[.int .i64 (S : Int), .int .i64 (T : Int), .slice (some ⟨b, off, none⟩) L cr]) m := fun X hX => ⟨.slice (some ⟨b, off, none⟩) m.rules.length cr, by rw [hS, hTT, hlen, hL], hr.ext hX⟩
  rw [hL] at hlen hTS
  rw [hlen] at hc1
  have HL := Lib.hid hlen
  have HLL := Lib.hid hL
  rw [hS, hTT, hlen]
  clear hS hTT hlen hL
  obtain ⟨W, hW⟩ : ∃ W, w.alloc (.cells #[.int .i64 (S : Int), .int .i64 (T : Int), .slice (some ⟨b, off, none⟩) L cr] 26) = W := ⟨_, rfl⟩
  have hX : Ext w W := by rw [← hW]; exact Ext.alloc _ _
  have bM : Blk W w.heap.size 26 #[.int .i64 (S : Int), .int .i64 (T : Int), .slice (some ⟨b, off, none⟩) L cr] := by rw [← hW]; exact Blk.new _ _ _ _ rfl
  have hV := ValidMachine_c _ m W (hMv W hX)
  rw [hm] at hV
  have c0 := bM.cell 0
  have c1 := bM.cell 1
  have c2 := bM.cell 2
  simp only [List.getElem?_toArray, List.getElem?_cons_zero, List.getElem?_cons_succ] at c0 c1 c2
  refine (callsIn_wide (n := 8)).1 ?_
  refine callsIn_of_wp_marks Tryz.func7 rfl trivial ?_ rfl
  simp only [Tryz.ntmps7, List.size_toArray, List.length_cons, List.length_nil, Nat.reduceAdd, Nat.reduceSub, Array.replicate_succ, Array.replicate_zero, List.push_toArray, List.append_toArray, List.nil_append, List.cons_append]
  gi_wp2_with fail
  refine ⟨trivial, (callsIn_wide.2 hV).mono ?_⟩
  rintro e w1 ⟨rfl, hx1⟩
  have hX1 := hX.trans hx1
  have bM1 := bM.ext hx1
  clear c0 c1 c2
  have c0 := bM1.cell 0
  have c2 := bM1.cell 2
  simp only [List.getElem?_toArray, List.getElem?_cons_zero, List.getElem?_cons_succ] at c0 c2
  obtain ⟨h, hh⟩ : ∃ h, w1.heap.size = h := ⟨_, rfl⟩
  obtain ⟨W2, hW2⟩ : ∃ W2, (w1.alloc (.cells #[] 9)).alloc (.cells #[.slice (some ⟨h, 0, none⟩) 0 0] 50) = W2 := ⟨_, rfl⟩
  have hX2 : Ext w1 W2 := by rw [← hW2]; exact (Ext.alloc _ _).trans (Ext.alloc _ _)
  have hz2 : W2.heap.size = h + 1 + 1 := by rw [← hW2]; simp [hh]
  have bS2 : Blk W2 (h + 1) 50 #[.slice (some ⟨h, 0, none⟩) 0 0] := by rw [← hW2]; exact Blk.new _ _ _ _ (by simp [hh])
  have ho2 : W2.ownsRow h 9 1 (.slice (some ⟨h, 0, none⟩) 0 0) 0 [] := by
    rw [← hW2, ← hh]
    exact ownsRow_ext (World.ownsRow_made (base := w1.heap.size) (e := 9) (size := 1) w1 #[] 0 (by simp) (by unfold maxLen; omega) (by simp)) (Ext.alloc _ _)
  have c0 := hX2.cell c0
  have c2 := hX2.cell c2
  have hCh := Chunk_c (some ⟨b, off, none⟩) L cr S (by omega) W2
  rw [hz2] at hCh
  gi_wp2_with fail
  refine ⟨trivial, (callsIn_wide.2 hCh).mono ?_⟩
  rintro e W3 ⟨rfl, hW3⟩
  have hX3 : Ext W2 W3 := by rw [hW3]; exact (Ext.alloc _ _).trans (Ext.alloc _ _)
  have hz3 : W3.heap.size = h + 1 + 1 + 1 + 1 := by rw [hW3]; simp [hz2]
  have bB3 : Blk W3 (h + 1 + 1) 24 #[.slice (some ⟨b, off, none⟩) L cr] := by rw [hW3]; exact (Blk.new _ _ _ _ hz2).ext (Ext.alloc _ _)
  have bN3 : Blk W3 (h + 1 + 1 + 1) 3 #[.int .i64 (S : Int)] := by rw [hW3]; exact Blk.new _ _ _ _ (by simp [hz2])
  have hI0 : IMs w1 h m [] W3 := ⟨rfl, ⟨_, bS2.ext hX3, by simpa [svB] using ownsRow_ext ho2 hX3⟩, ⟨_, bB3⟩, ⟨_, bN3⟩, hX2.trans hX3⟩
  clear hCh hW3 hW2 c0 c2
  gi_wp2_with fail
  have h8 : 1 ≤ 8 := by omega
  refine wpIn_rangeFunc_W rfl h8 (gf := 49) (lb := #[.pointer (some ⟨h + 1 + 1, 0, none⟩), .pointer (some ⟨h + 1 + 1 + 1, 0, none⟩)]) rfl trivial (enters_of Tryz.func49 (by kernel_rfl) rfl)
    (chunk1_w (8 - 1) (by omega) W3 (h + 1 + 1) b off cr S T (by omega) s2 t2 (by rw [HLL.out]; exact hc1) hc2 (by rw [HLL.out]; exact bB3) bN3) (fun h k => KpC.trans h k) (fun W l o o' hl h1 h2 _ => kpC_turn W l o o' (by omega) h1) (Below.refl _ _) (fun _ => rfl)
    (fun A B h => ⟨Ext.size h, fun k o hk ho => (Below.block h k (Array.getElem?_eq_some_iff.1 hk).1).trans hk⟩) (IMs w1 h m) (fun _ _ _ => False) (fun s W W' row k hg hr => k.turn hg (fun r e => ⟨by have := (hr r e).1; omega, (hr r e).2⟩)) (fun _ _ _ _ _ k _ _ => k) (fun s A B k hw => k.ext' hw)
    (fun _ _ _ _ _ _ k _ _ => k) (fun _ _ _ _ k _ _ => k) (fun _ _ _ _ k _ _ => k) hI0
    (fun x => { tmps := #[.agg #[.int .i64 (S : Int), .int .i64 (T : Int), .slice (some ⟨b, off, none⟩) L cr], .pointer (some ⟨w.heap.size, 0, none⟩), .string ⟨#[]⟩, .pointer (some ⟨h + 1, 0, none⟩), rowV b off S x, undef, undef, undef, .agg #[.int .i64 (S : Int), .int .i64 (T : Int), .slice (some ⟨b, off, none⟩) L cr], .bool true, .bool false, .slice (some ⟨h, 0, none⟩) 0 0, .pointer (some ⟨w.heap.size, 2, none⟩), .slice (some ⟨b, off, none⟩) L cr, .pointer (some ⟨w.heap.size, 0, none⟩), .int .i64 (S : Int), .func (.func 49) #[] #[.pointer (some ⟨h + 1 + 1, 0, none⟩), .pointer (some ⟨h + 1 + 1 + 1, 0, none⟩)], rowV b off S x, undef, undef, undef, undef, undef, undef, undef, undef, undef, undef, undef, undef, undef, undef, undef, undef, undef, undef, undef, undef], defers := [] })
    ?assign ?body ?done ?stop
  case assign =>
    intro l x W K hK
    gi_wp2
    exact hK
  case body =>
    obtain ⟨i0, hi, hz0, hz1, hz2⟩ := info_parts strInfo
    rintro l pre x W' hI ⟨hpre, hx⟩ _
    obtain ⟨sv, bS, hoS⟩ := hI.own
    obtain ⟨cx, bX⟩ := hI.bx
    obtain ⟨cn, bN⟩ := hI.bn
    obtain ⟨As, cs, rfl, hcs, hcs2, _⟩ := (ownsRow_row hoS).form
    have hXw := hX1.trans hI.ext
    obtain ⟨hxl, hrow, hrl⟩ := rowsM_get HS.out HTT.out (HL.out.trans HLL.out.symm) hx
    have hplen : pre.length = x := by rw [hpre]; simp
    obtain ⟨V, hV⟩ : ∃ V, W'.alloc (.cells #[] 9) = V := ⟨_, rfl⟩
    have hXV : Ext W' V := by rw [← hV]; exact Ext.alloc _ _
    have ho0 : V.ownsRow W'.heap.size 9 1 (.slice (some ⟨W'.heap.size, 0, none⟩) 0 0) 0 (svB (((rowsM m)[x].take 0).map ruleT)) := by
      rw [← hV]
      exact World.ownsRow_made (base := W'.heap.size) (e := 9) (size := 1) W' #[] 0 (by simp) (by unfold maxLen; omega) (by simp [svB])
    gi_wp2_with fail
    gi_loopw [5, 21] (fun tv i wr => ∃ k : Nat, k ≤ S ∧ i = .int .i64 (k : Int) ∧ Ext W' wr ∧ wr.ownsRow W'.heap.size 9 1 tv k (svB (((rowsM m)[x].take k).map ruleT))) (fun _ i _ => S - (intOf i).toNat)
    case atStart => exact ⟨0, Nat.zero_le _, rfl, hXV, ho0⟩
    case round =>
      obtain ⟨k, hk, rfl, hXr, ho⟩ := hrel
      obtain ⟨At, ct, rfl, hct, hct2, _⟩ := (ownsRow_row ho).form
      by_cases hlt : k < S
      · have hkI : (k : Int) < (S : Int) := by omega
        have hTS1 : x * S + S ≤ T * S := by
          have := Nat.mul_le_mul_right S (show x + 1 ≤ T by omega)
          rw [Nat.succ_mul] at this
          exact this
        have hidx : x * S + k < m.rules.length := by rw [HL.out, ← HLL.out]; omega
        obtain ⟨d0, d1, d2⟩ := hcell (x * S + k) hidx
        have hkr : k < ((rowsM m)[x]).length := by omega
        have hre : (rowsM m)[x][k] = m.rules[x * S + k] := by
          simp only [hrow]
          rw [List.getElem_take, List.getElem_drop]
        have HSV := Lib.hid (svB_take ruleT (rowsM m)[x] k hkr)
        rw [hre] at HSV
        have hok1 := hok _ (List.getElem_mem hidx)
        have ea : off + (x * S + k) * 3 = off + x * S * 3 + k * 3 := by rw [Nat.add_mul, Nat.add_assoc]
        rw [ea] at d0 d1 d2
        obtain ⟨r, hrr⟩ : ∃ r, m.rules[x * S + k] = r := ⟨_, rfl⟩
        rw [hrr] at d0 d1 d2 hok1 HSV
        have hXt := hXw.trans hXr
        have d0 := hXt.cell d0
        have d1 := hXt.cell d1
        have d2 := hXt.cell d2
        obtain ⟨V1, hV1⟩ : ∃ V1, wr.alloc (.cells #[.int .i64 r.w, .int .i64 r.m, .int .i64 r.n] 54) = V1 := ⟨_, rfl⟩
        have hXV1 : Ext wr V1 := by rw [← hV1]; exact Ext.alloc _ _
        have bR : Blk V1 wr.heap.size 54 #[.int .i64 r.w, .int .i64 r.m, .int .i64 r.n] := by rw [← hV1]; exact Blk.new _ _ _ _ rfl
        have e0 := bR.cell 0
        have e1 := bR.cell 1
        have e2 := bR.cell 2
        simp only [List.getElem?_toArray, List.getElem?_cons_zero, List.getElem?_cons_succ] at e0 e1 e2
        have hsy : m.sy ≤ 6 := by have := HS.out; omega
        have hst : m.st ≤ 1000 := by have := HTT.out; omega
        have hrt := ruleText_c r m.sy m.st V1 hok1 hsy hst (hT.ext (hXt.trans hXV1))
        clear ho0 hrow hrl hre hrr
        gi_wp2_with fail
        refine ⟨trivial, (CallsIn.inRound l (callsIn_wide.2 hrt)).mono ?_⟩
        rintro e w2 ⟨rfl, hx2⟩
        have hX2 := hXr.trans (hXV1.trans hx2)
        have ho2 := ownsRow_ext ho (hXV1.trans hx2)
        have hsz := hX2.size
        clear d0 d1 d2 e0 e1 e2
        gi_wp2_with (gi_at_builtin; refine wpListIn_append_own _ rfl _ _ 50 rfl W'.heap.size 9 i0 (.string ⟨#[]⟩) 1 16 Tryz.underlying50 hi hz0 hz1 hz2 rfl (by decide) _ _ _ rfl (ho2.alloc _) ⟨w2.heap.size, 0, none⟩ 1 1 [.string (bsS (ruleT r))] rfl rfl ?c1 ?c2 ?c3 ?c4 ?c5 ?_)
        case c1 =>
          intro j u hj
          match j, hj with
          | 0, hj => simp at hj; subst hj; simp [Addr.add]
        case c2 => intro u hu; simp at hu; subst hu; rfl
        case c3 => unfold maxLen; omega
        case c4 => omega
        case c5 => simp; omega
        intro v' w3 hown' hgrow _
        have hX3' : Ext W' w3 := hX2.grown (grownBy_trans (World.grownBy_alloc _ _ _) hgrow) (fun b hb => (ho2.lt b hb).1)
        have R : w3.ownsRow W'.heap.size 9 1 v' (k + 1) (svB (((rowsM m)[x].take (k + 1)).map ruleT)) := by rw [HSV.out, List.map_take]; exact hown'
        clear hown' hgrow ho2 ho
        gi_wp2
        go_roundw
        case rel => exact ⟨k + 1, by omega, by go_num, hX3', R⟩
        case measure => simp [intOf]; omega
      · obtain rfl : k = S := by omega
        have hge : ¬ (k : Int) < (k : Int) := by omega
        have hrowk : (rowsM m)[x].take k = (rowsM m)[x] := List.take_of_length_le (by omega)
        rw [hrowk] at ho
        obtain ⟨g, rfl, hbg, hgl⟩ := own_at ho (by omega)
        have hcells : ∀ (j : Nat) s, ((rowsM m)[x].map fun r => bsS (ruleT r))[j]? = some s → wr.drew.cell? ⟨g, 0 + j, none⟩ = some (.string s) := by
          intro j s hj
          have hjl : j < (rowsM m)[x].length := by have := (List.getElem?_eq_some_iff.1 hj).1; simpa using this
          rw [Nat.zero_add]
          show wr.cell? _ = _
          rw [ho.cellAt j (by omega)]
          simp only [svB, List.getElem?_map] at hj ⊢
          rw [List.getElem?_eq_getElem hjl] at hj ⊢
          simp only [Option.map_some, Option.some.injEq] at hj ⊢
          rw [hj]
        have ej : ((rowsM m)[x].map fun r => bsS (ruleT r)).map (·.data.toList) = (rowsM m)[x].map ruleT := by simp [bsS]
        have hrok : ∀ r ∈ (rowsM m)[x], ruleOk m.sy m.st r = true := fun r hr => hok r (by rw [hrow] at hr; exact List.mem_of_mem_drop (List.mem_of_mem_take hr))
        have hsy : m.sy ≤ 6 := by have := HS.out; omega
        have hst : m.st ≤ 1000 := by have := HTT.out; omega
        have hjl := join_bound (B := 40) 44 (l := (rowsM m)[x].map ruleT) (fun y hy => by obtain ⟨r, hr, rfl⟩ := List.mem_map.1 hy; exact ruleT_len (hrok r hr) hsy hst)
        rw [List.length_map, hrl] at hjl
        have hj := Tryz.strings_Join g 0 ct ((rowsM m)[x].map fun r => bsS (ruleT r)) ⟨#[44]⟩ wr.drew hcells hgl (by simp; omega) (by simp; omega) (by rw [ej]; show (Lib.join ((rowsM m)[x].map ruleT) [44]).length ≤ _; omega)
        rw [ej, List.length_map, hrl] at hj
        have HJ : Hid (Calls Tryz.prog 25 #[.slice (some ⟨g, 0, none⟩) k ct, .string ⟨#[44]⟩] wr.drew fun e w' => e = .returned (.string (bsS (rowT (rowsM m)[x]))) ∧ Below wr.drew.heap.size wr.drew w') := Lib.hid hj
        have HSV := Lib.hid (svB_take rowT (rowsM m) x hxl)
        have HRNG : Hid (pre ++ [x] = List.range (x + 1)) := by unfold Hid; rw [List.range_succ, hpre]
        have b0 := bS.cell 0
        have f0 := bS.frozen 0
        simp only [List.getElem?_toArray, List.getElem?_cons_zero] at b0
        have b0 := ((Ext.drew wr).cell (hXr.cell b0))
        clear hcells ej hjl hj ho0 ho hrow hrl
        gi_wp2_with fail
        refine wpIn_region_ordT 4 (readsT [0, 1] (.stir 2 (.stir 3 .done))) (by kernel_rfl) (by kernel_rfl) (by kernel_rfl) (by rintro ⟨_, _, hh⟩; exact hh) (fun _ _ _ _ _ h => h) ?_
        simp only [readsT]
        iterate 2 (refine wpOrdT_read (v := ?_) (by rfl) (Or.inl ⟨by rfl, fun x hx => ?_⟩) ?_; rotate_left; (· have a1 := hx.cell b0; go_simp; try with_reducible rfl); try simp only [Act.put, List.setIfInBounds_toArray, List.set_cons_zero, List.set_cons_succ])
        refine wpOrdT_keep (by rfl) (fun K hK => ?_)
        go_simp
        go_at_call 25
        refine HJ.out.mono ?_
        rintro e w2 ⟨rfl, hx2⟩
        have hx2 : Ext wr.drew w2 := hx2
        refine hK _ _ hx2 ?_
        clear hK K
        refine wpOrdT_keep (by rfl) (fun K hK => ?_)
        go_simp
        refine hK _ _ (hx2.trans (Ext.alloc _ _)) ?_
        clear hK K
        refine wpOrdT_done ?_
        try simp only [List.drop_succ_cons, List.drop_zero]
        have hXr2 : Ext W' w2 := (hXr.trans (Ext.drew wr)).trans hx2
        have hoS2 := ownsRow_ext hoS hXr2
        have hsz := hXr2.size
        have hhw : h ≤ W'.heap.size := by have := Ext.size hI.ext; omega
        rw [hplen] at hoS2
        have HSVx := HSV
        go_wp2_with (at_builtin; refine wpList_append_own _ rfl _ _ 50 rfl h 9 i0 (.string ⟨#[]⟩) 1 16 Tryz.underlying50 hi hz0 hz1 hz2 rfl (by decide) _ _ _ rfl (hoS2.alloc _) ⟨w2.heap.size, 0, none⟩ 1 1 [.string (bsS (rowT (rowsM m)[x]))] rfl rfl ?c1 ?c2 ?c3 ?c4 ?c5 ?_)
        case c1 =>
          intro j u hj
          match j, hj with
          | 0, hj => simp at hj; subst hj; simp [Addr.add]
        case c2 => intro u hu; simp at hu; subst hu; rfl
        case c3 => unfold maxLen; omega
        case c4 => omega
        case c5 => simp; omega
        intro v' w4 hown' hgrow _
        obtain ⟨Av, cv, rfl, _, _, _⟩ := (ownsRow_row hown').form
        have hXa : Ext W' (w2.alloc (.cells #[.string (bsS (rowT (rowsM m)[x]))] 9)) := hXr2.trans (Ext.alloc _ _)
        have hoSa := ownsRow_ext hoS2 (Ext.alloc w2 (.cells #[.string (bsS (rowT (rowsM m)[x]))] 9))
        have bS4 := (bS.ext hXa).kept hgrow (blk_ne_row (bS.ext hXa) hoSa (by decide))
        have bX4 := (bX.ext hXa).kept hgrow (blk_ne_row (bX.ext hXa) hoSa (by decide))
        have bN4 := (bN.ext hXa).kept hgrow (blk_ne_row (bN.ext hXa) hoSa (by decide))
        have hE4 : Ext w1 w4 := (hI.ext.trans hXa).grown hgrow (fun b hb => by have := (hoSa.lt b hb).1; omega)
        have hK4 : KeepsOthers W' w4 := (show KeepsOthers W' _ from ⟨Ext.size hXa, fun k o hk ho => (Below.block hXa k (Array.getElem?_eq_some_iff.1 hk).1).trans hk⟩).trans (KeepsOthers.of_grownBy hgrow (fun j o hj hl => by
          rcases hoSa.2 with ⟨e, _⟩ | ⟨g', cap, cur, e, _, hg', _⟩
          · rw [e] at hj; simp [Value.ownBlock] at hj
          · rw [e] at hj
            simp [Value.ownBlock] at hj
            subst hj
            rw [hg'] at hl
            cases hl
            rfl))
        have g0 := bS4.cell 0
        have gf := bS4.frozen 0
        simp only [List.getElem?_toArray, List.getElem?_cons_zero] at g0
        have hn1 : h + 1 + 1 ≠ h + 1 := by omega
        have hn2 : h + 1 + 1 + 1 ≠ h + 1 := by omega
        have HF : Hid (KeepsFrom W3.heap.size W' (w4.setCell ⟨h + 1, 0, none⟩ (.slice Av (x + 1) cv)) ∧ KpC (h + 1 + 1) W' (w4.setCell ⟨h + 1, 0, none⟩ (.slice Av (x + 1) cv)) ∧ IMs w1 h m (pre ++ [x]) (w4.setCell ⟨h + 1, 0, none⟩ (.slice Av (x + 1) cv))) := by
          refine ⟨(hK4.trans (KeepsOthers.setCell _ _ _)).from _, ⟨(bX4.far (p := ⟨h + 1, 0, none⟩) hn1 (.slice Av (x + 1) cv)).trans bX.symm, (bN4.far (p := ⟨h + 1, 0, none⟩) hn2 (.slice Av (x + 1) cv)).trans bN.symm⟩, ?_⟩
          have hlen : (pre ++ [x]).length = x + 1 := by rw [List.length_append, hplen]; rfl
          refine ⟨by rw [hlen]; exact HRNG.out, ⟨(.slice Av (x + 1) cv), bS4.set_ 0 (.slice Av (x + 1) cv), ?_⟩, ⟨_, bX4.far (p := ⟨h + 1, 0, none⟩) hn1 (.slice Av (x + 1) cv)⟩, ⟨_, bN4.far (p := ⟨h + 1, 0, none⟩) hn2 (.slice Av (x + 1) cv)⟩, hE4.setCell (p := ⟨h + 1, 0, none⟩) (by show w1.heap.size ≤ h + 1; omega) (.slice Av (x + 1) cv)⟩
          rw [hlen, HSV.out, List.map_take]
          rw [hplen] at hoS
          exact ownsRow_far (p := ⟨h + 1, 0, none⟩) hown' (fun q hq e => blk_ne_row bS4 hown' (by decide) (by rw [hq, e])) (.slice Av (x + 1) cv)
        clear hown' hgrow hoSa hoS2 hoS bS4 bX4 bN4 hE4 hK4 HSV HSVx
        go_wp2
        exact HF.out
  case done =>
    rintro D xs W' hD hxs hI hK
    obtain ⟨sv, bS, hoS⟩ := hI.own
    have hxs : xs = List.range T := hxs
    have hxl : xs.length = T := by rw [hxs]; simp
    have htk : (rowsM m).take T = rowsM m := List.take_of_length_le (by rw [rowsM_len, HTT.out]; simp)
    rw [hxl, htk] at hoS
    obtain ⟨As, cs, rfl, hcs, _, _⟩ := (ownsRow_row hoS).form
    obtain ⟨g, rfl, hbg, hgl⟩ := own_at hoS (by omega)
    have hrl : (rowsM m).length = T := by rw [rowsM_len, HTT.out]; simp
    have hcells : ∀ (j : Nat) s, ((rowsM m).map fun r => bsS (rowT r))[j]? = some s → W'.cell? ⟨g, 0 + j, none⟩ = some (.string s) := by
      intro j s hj
      have hjl : j < (rowsM m).length := by have := (List.getElem?_eq_some_iff.1 hj).1; simpa using this
      rw [Nat.zero_add, hoS.cellAt j (by omega)]
      simp only [svB, List.getElem?_map] at hj ⊢
      rw [List.getElem?_eq_getElem hjl] at hj ⊢
      simp only [Option.map_some, Option.some.injEq] at hj ⊢
      rw [hj]
    have ej : ((rowsM m).map fun r => bsS (rowT r)).map (·.data.toList) = (rowsM m).map rowT := by simp [bsS]
    have hml := machT_len hm
    have hj := Tryz.strings_Join g 0 cs ((rowsM m).map fun r => bsS (rowT r)) ⟨#[59]⟩ W' hcells hgl (by simp; omega) (by simp; omega) (by rw [ej]; show (machT m).length ≤ _; omega)
    rw [ej, List.length_map, hrl] at hj
    have HJ : Hid (Calls Tryz.prog 25 #[.slice (some ⟨g, 0, none⟩) T cs, .string ⟨#[59]⟩] W' fun e w' => e = .returned (.string (bsS (machT m))) ∧ Below W'.heap.size W' w') := Lib.hid hj
    have b0 := bS.cell 0
    simp only [List.getElem?_toArray, List.getElem?_cons_zero] at b0
    clear hcells ej hj hoS
    gi_wp2_with fail
    refine ⟨trivial, (callsIn_wide.2 HJ.out).mono ?_⟩
    rintro e w4 ⟨rfl, hx4⟩
    have hx4 : Ext W' w4 := hx4
    have hK4 : w4.heap[D]? = some (.deferred (some [])) := hx4.block hK
    have hE4 := hX1.trans (hI.ext.trans hx4)
    clear b0
    gi_wp2
    refine ⟨by simp, .inl ⟨_, _, rfl, run_takeDeferred hK4, ?_⟩⟩
    have hgr := grownBy_putObj' w4 D (.deferred none)
    have hwD : w.heap.size ≤ D := by have := hX1.size; omega
    refine ⟨.string (bsS (machT m)), by simp [results, Tryz.f7], rfl, hE4.grown hgr (fun r e => by cases e; exact hwD)⟩
  case stop =>
    rintro D cd pre W' hD _ k hK
    exact k.elim
end Go.Proofs.YtcebkjiafjmjfaaGreatDoor
end
section
namespace Go.Proofs.YtcebkjiafjmjfaaGreatDoor
open Go Go.RowKit Go.Proofs
set_option maxHeartbeats 400000
def bvs (bs : List Int) : List Value := bs.map (Value.int .u8)
/-- A slice of bytes. -/
def Bytes (w : World) (v : Value) (bs : List Int) : Prop := Row w 1 v bs.length (bvs bs) ∧ ∀ z ∈ bs, 0 ≤ z ∧ z ≤ 255
theorem Bytes.ext {w w' : World} {v : Value} {bs : List Int} (h : Bytes w v bs) (he : Ext w w') : Bytes w' v bs := ⟨Row.ext h.1 he, h.2⟩
theorem bvs_get (bs : List Int) (k : Nat) (h : k < bs.length) : (bvs bs)[k]? = some (.int .u8 bs[k]) := by simp [bvs, h]
/-- A source of choices: at most n have been made; its bytes lie below block B. -/
def Src (B : Nat) (w : World) (b n : Nat) : Prop := ∃ (A : Option Addr) (c : Nat) (bs : List Int) (k : Nat) (s : Int), Blk w b 78 #[.slice A bs.length c, .int .i64 k, .int .u64 s] ∧ Bytes w (.slice A bs.length c) bs ∧ k ≤ n ∧ (∀ a, A = some a → 0 < bs.length → a.block < B)
theorem Src.mono {B : Nat} {w : World} {b n n' : Nat} (h : Src B w b n) (hn : n ≤ n') : Src B w b n' := by
  obtain ⟨A, c, bs, k, s, h1, h2, h3, h4⟩ := h
  exact ⟨A, c, bs, k, s, h1, h2, by omega, h4⟩
theorem Src.ext {B : Nat} {w w' : World} {b n : Nat} (h : Src B w b n) (he : Ext w w') : Src B w' b n := by
  obtain ⟨A, c, bs, k, s, h1, h2, h3⟩ := h
  exact ⟨A, c, bs, k, s, h1.ext he, h2.ext he, h3⟩
theorem Src.lt {B : Nat} {w : World} {b n : Nat} (h : Src B w b n) : b < w.heap.size := by
  obtain ⟨A, c, bs, k, s, h1, _, _⟩ := h
  exact h1.lt
/-- A store of a number into a cell that holds no byte leaves bytes as they are. -/
theorem Bytes.store {w : World} {v : Value} {bs : List Int} (h : Bytes w v bs) {p : Addr} {u : Value} (hp : w.cell? p = some u) (hu : ∀ z, u ≠ .int .u8 z) (x : Value) : Bytes (w.setCell p x) v bs := by
  obtain ⟨⟨A, c, rfl, h1, h1', h2, h3⟩, h4⟩ := h
  refine ⟨⟨A, c, rfl, h1, h1', h2, fun hn => ?_⟩, h4⟩
  obtain ⟨b, off, rfl, hc⟩ := h3 hn
  refine ⟨b, off, rfl, fun j hj => ?_⟩
  have hj' : j < bs.length := by simpa [bvs] using hj
  have := hc j hj
  rw [bvs_get bs j hj'] at this ⊢
  refine (World.cell?_setCell_other w p _ x (fun e => ?_)).trans this
  have e2 : w.cell? p = some (.int .u8 bs[j]) := by first | (rw [← e]; exact this) | (rw [e]; exact this)
  rw [hp] at e2
  injection e2 with e2
  exact hu _ e2
theorem grownBy_drewN (w : World) (n : Nat) (row : Option Nat) : w.grownBy (w.drewN n) row := ⟨rfl, rfl, rfl, Nat.le_refl _, fun _ _ _ => rfl⟩
theorem Src.after {w : World} {b n k : Nat} {A : Option Addr} {c : Nat} {bs : List Int} {s : Int} (hb : Blk w b 78 #[.slice A bs.length c, .int .i64 k, .int .u64 s]) (hby : Bytes w (.slice A bs.length c) bs) (hk : k ≤ n) {B : Nat} (hB : ∀ a, A = some a → 0 < bs.length → a.block < B) (a a' : Nat) (s' : Int) :
    Src B ((((w.drewN a).setCell ⟨b, 1, none⟩ (.int .i64 (k + 1))).setCell ⟨b, 2, none⟩ (.int .u64 s')).drewN a') b (n + 1) ∧ w.grownBy ((((w.drewN a).setCell ⟨b, 1, none⟩ (.int .i64 (k + 1))).setCell ⟨b, 2, none⟩ (.int .u64 s')).drewN a') (some b) := by
  have q1 := hb.cell 1
  simp only [List.getElem?_toArray, List.getElem?_cons_zero, List.getElem?_cons_succ] at q1
  have h1 : Blk (w.drewN a) b 78 #[.slice A bs.length c, .int .i64 k, .int .u64 s] := hb
  have h2 := h1.set_ 1 (.int .i64 (k + 1))
  have h3 := h2.set_ 2 (.int .u64 s')
  have q2 := h2.cell 2
  have b1 : Bytes (w.drewN a) (.slice A bs.length c) bs := hby.ext (Ext.drewN _ _)
  have b2 := b1.store (p := ⟨b, 1, none⟩) q1 (fun z h => by cases h) (.int .i64 (k + 1))
  have b3 := b2.store (p := ⟨b, 2, none⟩) (u := .int .u64 s) q2 (fun z h => by cases h) (.int .u64 s')
  refine ⟨⟨A, c, bs, k + 1, s', h3, b3.ext (Ext.drewN _ _), by omega, hB⟩, ?_⟩
  exact ⟨rfl, rfl, rfl, by simp [World.setCell, World.drewN], fun i hi hne => by
    have hne' : i ≠ b := fun e => hne (by rw [e])
    show ((((w.drewN a).setCell ⟨b, 1, none⟩ _).setCell ⟨b, 2, none⟩ _)).heap[i]? = w.heap[i]?
    rw [Below.heap_setCell _ _ _ _ hne', Below.heap_setCell _ _ _ _ hne']
    rfl⟩
theorem and255 (x : Int) : 0 ≤ wrap64 (bits .and .u64 x 255) ∧ wrap64 (bits .and .u64 x 255) ≤ 255 := by
  have h : ∃ n : Nat, n ≤ 255 ∧ bits .and .u64 x 255 = IntKind.u64.wrap (n : Int) := by
    refine ⟨(BitVec.ofInt 64 x &&& BitVec.ofInt 64 255).toNat, ?_, rfl⟩
    rw [BitVec.toNat_and]
    have e : (BitVec.ofInt 64 255).toNat = 255 := by decide
    rw [e]
    exact Nat.and_le_right
  obtain ⟨n, hn, e⟩ := h
  have e2 : IntKind.u64.wrap (n : Int) = n := by rw [IntKind.wrap_u64]; omega
  rw [e, e2]
  have e3 : wrap64 (n : Int) = n := by unfold wrap64; omega
  rw [e3]
  omega
def NextRes (B : Nat) (w : World) (b n : Nat) (e : Ending) (w' : World) : Prop := (∃ x : Int, e = .returned (.int .i64 x) ∧ 0 ≤ x ∧ x ≤ 255) ∧ Src B w' b (n + 1) ∧ w.grownBy w' (some b)
set_option maxHeartbeats 1000000 in
theorem next_c (B b n : Nat) (w : World) (h : Src B w b n) (hn : n ≤ 1152921504606846976) :
    Calls Tryz.prog 39 #[.pointer (some ⟨b, 0, none⟩)] w (NextRes B w b n) := by
  obtain ⟨A, c, bs, k, s, hb, hby, hk, hB⟩ := h
  have q0 := hb.cell 0
  have q1 := hb.cell 1
  have q2 := hb.cell 2
  have f1 := hb.frozen 1
  have f2 := hb.frozen 2
  simp only [List.getElem?_toArray, List.getElem?_cons_zero, List.getElem?_cons_succ] at q0 q1 q2
  obtain ⟨A', c', hv, g1, g2, g3⟩ := hby.1.form
  injection hv with hA _ hc
  subst hA
  subst hc
  by_cases hlt : k < bs.length
  · have hlt' : (k : Int) < (bs.length : Int) := by omega
    obtain ⟨b', off, rfl, hcc⟩ := Row.at hby.1 hlt
    have d0 := hcc k (by omega)
    rw [bvs_get bs k hlt] at d0
    have hz := hby.2 bs[k] (List.getElem_mem hlt)
    generalize bs[k] = z at *
    clear hcc
    go_enter Tryz.func39, Tryz.ntmps39
    go_wp2
    go_quiet (fail)
    go_wp2
    go_quiet (fail)
    go_wp2
    go_quiet (fail)
    go_wp2
    go_ret
    obtain ⟨h1, h2⟩ := Src.after hb hby hk hB _ _ _
    exact ⟨⟨z, rfl, hz.1, hz.2⟩, h1, h2⟩
  · have hlt' : decide ((k : Int) < (bs.length : Int)) = false := by simp; omega
    have hlt2 : decide ((k : Int) + 1 ≤ (bs.length : Int)) = false := by simp; omega
    have hlt3 : decide (k < bs.length) = false := by simp; omega
    have hlt4 : decide (k + 1 ≤ bs.length) = false := by simp; omega
    go_enter Tryz.func39, Tryz.ntmps39
    go_wp2
    go_quiet (fail)
    go_wp2
    go_quiet (fail)
    go_wp2
    go_ret
    obtain ⟨h1, h2⟩ := Src.after hb hby hk hB _ _ _
    exact ⟨⟨_, rfl, (and255 _).1, (and255 _).2⟩, h1, h2⟩
def PickRes (B : Nat) (w : World) (b n : Nat) (k : Int) (e : Ending) (w' : World) : Prop := (∃ x : Int, e = .returned (.int .i64 x) ∧ 0 ≤ x ∧ (k ≤ 1 → x = 0) ∧ (1 < k → x < k)) ∧ Src B w' b (n + 2) ∧ w.grownBy w' (some b)
theorem pick_c (B b n : Nat) (k : Int) (w : World) (h : Src B w b n) (hn : n ≤ 1000000000000) :
    Calls Tryz.prog 15 #[.pointer (some ⟨b, 0, none⟩), .int .i64 k] w (PickRes B w b n k) := by
  by_cases h1 : k ≤ 1
  · go_enter Tryz.func15, Tryz.ntmps15
    go_wp2
    go_ret
    exact ⟨⟨0, rfl, by omega, fun _ => rfl, fun h => by omega⟩, h.mono (by omega), World.grownBy.refl _ _⟩
  · have hd1 : decide (k ≤ 1) = false := by simp; omega
    go_enter Tryz.func15, Tryz.ntmps15
    go_wp2_with fail
    refine (next_c B b n w h (by omega)).mono ?_
    rintro e w1 ⟨⟨x, rfl, x0, x1⟩, hs1, hg1⟩
    by_cases h2 : 200 < k
    · go_wp2_with fail
      refine (next_c B b (n + 1) w1 hs1 (by omega)).mono ?_
      rintro e w2 ⟨⟨y, rfl, y0, y1⟩, hs2, hg2⟩
      have hp : 0 ≤ x * 256 + y := by omega
      have hr := fun W => rem_run (P := Tryz.prog) 2 (x * 256 + y) k hp (by omega) W
      go_wp2
      go_ret
      exact ⟨⟨_, rfl, Int.emod_nonneg _ (by omega), fun h => by omega, fun _ => Int.emod_lt_of_pos _ (by omega)⟩, hs2, grownBy_trans hg1 hg2⟩
    · have hd2 : decide (200 < k) = false := by simp; omega
      have hr := fun W => rem_run (P := Tryz.prog) 2 x k x0 (by omega) W
      go_wp2
      go_ret
      exact ⟨⟨_, rfl, Int.emod_nonneg _ (by omega), fun h => by omega, fun _ => Int.emod_lt_of_pos _ (by omega)⟩, hs1.mono (by omega), hg1⟩
def OneRes (B : Nat) (w : World) (b n : Nat) (e : Ending) (w' : World) : Prop := (∃ x : Bool, e = .returned (.bool x)) ∧ Src B w' b (n + 2) ∧ w.grownBy w' (some b)
theorem one_c (B b n : Nat) (k : Int) (w : World) (h : Src B w b n) (hn : n ≤ 1000000000000) :
    Calls Tryz.prog 17 #[.pointer (some ⟨b, 0, none⟩), .int .i64 k] w (OneRes B w b n) := by
  go_enter Tryz.func17, Tryz.ntmps17
  go_wp2_with fail
  refine (pick_c B b n k w h hn).mono ?_
  rintro e w1 ⟨⟨x, rfl, _, _, _⟩, hs1, hg1⟩
  go_wp2
  go_ret
  exact ⟨⟨_, rfl⟩, hs1, hg1⟩
theorem own_src {B : Nat} {w w' : World} {b n : Nat} (h : Src B w b n) (hg : w.grownBy w' (some b)) {base : Nat} {e : TypeId} {size : Nat} {v : Value} {m : Nat} {xs : List Value} (ho : w.ownsRow base e size v m xs) (hne : 78 ≠ e) : w'.ownsRow base e size v m xs := by
  obtain ⟨A, c, bs, k, s, h1, _, _⟩ := h
  refine ho.kept hg (.inr fun he => ?_)
  rcases ho.2 with ⟨rfl, _⟩ | ⟨g', cap, cur, rfl, _, hh, _⟩
  · simp [Value.ownBlock] at he
  · have : b = g' := by simpa [Value.ownBlock] using he.symm
    subst this
    unfold Blk at h1
    rw [h1] at hh
    injection hh with hh
    injection hh with _ ht
    exact hne ht
theorem blk_src {B : Nat} {w w' : World} {b n : Nat} (h : Src B w b n) (hg : w.grownBy w' (some b)) {g : Nat} {t : TypeId} {cs : Array Value} (hb : Blk w g t cs) (hne : 78 ≠ t) : Blk w' g t cs := by
  obtain ⟨A, c, bs, k, s, h1, _, _⟩ := h
  refine (hg.block g hb.lt (fun e => ?_)).trans hb
  injection e with e
  subst e
  unfold Blk at h1 hb
  rw [h1] at hb
  injection hb with hb
  injection hb with _ ht
  exact hne ht
def AmongRes (B : Nat) (w : World) (b n : Nat) (zs : List Int) (e : Ending) (w' : World) : Prop := (∃ z, e = .returned (.int .i64 z) ∧ z ∈ zs) ∧ Src B w' b (n + 2) ∧ w.grownBy w' (some b)
theorem from_c (v : Value) (bs : List Int) (w : World) (h : Bytes w v bs) :
    Calls Tryz.prog 13 #[v] w fun e w' => (∃ b, e = .returned (.pointer (some ⟨b, 0, none⟩)) ∧ w.heap.size ≤ b ∧ Src w.heap.size w' b 0) ∧ Ext w w' := by
  obtain ⟨A, c, rfl, h1, h2, _⟩ := h.1.form
  have HA : Hid (∀ a, A = some a → 0 < bs.length → a.block < w.heap.size) := by
    intro a ha hn
    obtain ⟨b', off, hA, hc⟩ := Row.at h.1 hn
    rw [ha] at hA
    injection hA with hA
    subst hA
    have := hc 0 (by omega)
    rw [bvs_get bs 0 hn] at this
    exact World.block_lt_of_cell? w _ this
  go_enter Tryz.func13, Tryz.ntmps13
  go_wp2
  go_ret
  exact ⟨⟨_, rfl, Nat.le_refl _, A, c, bs, 0, 0, Blk.new _ _ _ _ rfl, h.ext (Ext.alloc _ _), Nat.le_refl _, fun a ha hn => HA.out a ha hn⟩, Ext.alloc _ _⟩
theorem Src.kept {B : Nat} {w w' : World} {b n : Nat} (h : Src B w b n) {row : Option Nat} (hg : w.grownBy w' row) (hr : ∀ k, row = some k → B ≤ k ∧ k ≠ b) : Src B w' b n := by
  obtain ⟨A, c, bs, k, s, h1, h2, h3, h4⟩ := h
  refine ⟨A, c, bs, k, s, (hg.block b h1.lt (fun e => (hr b e.symm).2 rfl)).trans h1, ⟨?_, h2.2⟩, h3, h4⟩
  obtain ⟨A', c', hv, g1, g2, g3, g4⟩ := h2.1
  injection hv with hA _ hc'
  subst hA
  subst hc'
  refine ⟨A, c, rfl, g1, g2, g3, fun hn => ?_⟩
  obtain ⟨b', off, rfl, hcc⟩ := g4 hn
  refine ⟨b', off, rfl, fun j hj => ?_⟩
  have := hcc j hj
  rw [List.getElem?_eq_getElem hj] at this ⊢
  have hlt := World.block_lt_of_cell? w _ this
  refine (World.cell?_of_block (hg.block b' hlt (fun e => ?_))).trans this
  have e1 := (hr b' e.symm).1
  have e2 := h4 _ rfl hn
  simp only at e2
  omega
end Go.Proofs.YtcebkjiafjmjfaaGreatDoor
namespace Go.Proofs.YtcebkjiafjmjfaaGreatDoor
open Go Go.RowKit Go.Proofs
set_option maxHeartbeats 400000
end Go.Proofs.YtcebkjiafjmjfaaGreatDoor
end
