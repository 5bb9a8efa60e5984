/- Contracts of the reference's automata: the one that knows the last symbols, and one that is drawn.
Contract of the program's automaton of a rank.
Contract of the program's walk over all pairs of automata of up to three states: a function is called with each, as long as it says so. -/
import Derived.Test.YtacpchapgklcgaaGreatDoorR14
import Derived.Test.YtacpchapgklcgaaGreatDoorR24
import Derived.Deep.RegionLaw
import Derived.Deep.AppendLies
import Derived.Test.YtacpchapgklcgaaGreatDoorR15
import Derived.Test.YtacpchapgklcgaaGreatDoorR16
section
set_option linter.unusedSimpArgs false
set_option linter.unusedVariables false
set_option linter.unusedSectionVars false
set_option maxHeartbeats 4000000
namespace Go.Proofs.YtacpchapgklcgaaGreatDoor
open Go Go.RowKit Go.Proofs
/-- An automaton that is being made, in block go. -/
structure RecSt (w : World) (g go : Nat) (st : Int) (rv : Value) (nx : List Int) (W : World) : Prop where
  res : Blk W g 40 #[.int .i64 0, .slice none 0 0]
  out : Blk W go 40 #[.int .i64 st, rv]
  own : OwnInts w.heap.size W rv nx
  ext : Ext w W
theorem RecSt.ext' {w : World} {g go : Nat} {st : Int} {rv : Value} {nx : List Int} {W W' : World} (h : RecSt w g go st rv nx W) (he : Ext W W') : RecSt w g go st rv nx W' :=
  ⟨h.res.ext he, h.out.ext he, ownsRow_ext h.own he, h.ext.trans he⟩
theorem RecSt.setSt {w : World} {g go : Nat} {st : Int} {rv : Value} {nx : List Int} {W : World} (h : RecSt w g go st rv nx W) (hne : g ≠ go) (hgo : w.heap.size ≤ go) (z : Int) : RecSt w g go z rv nx (W.setCell ⟨go, 0, none⟩ (.int .i64 z)) :=
  ⟨h.res.far (p := ⟨go, 0, none⟩) hne _, h.out.set_ 0 _, ownsRow_far h.own (own_far_blk h.own h.out (by decide)) _, h.ext.setCell (p := ⟨go, 0, none⟩) hgo _⟩
theorem RecSt.snoc {w : World} {g go : Nat} {st : Int} {rv v' : Value} {nx ys : List Int} {W W' : World} (h : RecSt w g go st rv nx W) (hne : g ≠ go) (hgo : w.heap.size ≤ go) (ho : OwnInts w.heap.size W' v' ys) (hg : W.grownBy W' rv.ownBlock) :
    RecSt w g go st v' ys (W'.setCell ⟨go, 1, none⟩ v') := by
  have r2 := Blk.apart h.res h.own (by decide) hg
  have o2 := Blk.apart h.out h.own (by decide) hg
  have e2 : Ext w W' := h.ext.grown hg (fun k hk => (h.own.lt k hk).1)
  exact ⟨r2.far (p := ⟨go, 1, none⟩) hne _, o2.set_ 1 _, ownsRow_far ho (own_far_blk ho o2 (by decide)) _, e2.setCell (p := ⟨go, 1, none⟩) hgo _⟩
/-- What is given: an automaton, which may not be valid, and a code. -/
def RecRes (w : World) (few : Prop) (e : Ending) (w' : World) : Prop :=
  Ext w w' ∧ ∃ (d : DfaD) (rv : Value) (code : Int), e = .returned (.tuple #[.agg #[.int .i64 d.st, rv], .int .i64 code]) ∧ OwnInts w.heap.size w' rv d.nx ∧ 0 ≤ d.st ∧ d.st ≤ 20 ∧ d.nx.length ≤ 120 ∧ (few → code = 0)
set_option maxRecDepth 20000 in
theorem RecentDfa_c (sy : Int) (K : Nat) (w : World) (s1 : 2 ≤ sy) (s2 : sy ≤ 6) (hK : K ≤ 20) : Calls Tryz.prog 61 #[.int .i64 sy, .int .i64 K] w (RecRes w (sy ≤ 3 ∧ K ≤ 2)) := by
  obtain ⟨i0, hi0, hz0, hz1, hz2⟩ := info_parts intInfoW
  have hsy : inB sy 2 6 = true := inB_iff.2 ⟨s1, s2⟩
  have hk20 : inB (K : Int) 0 20 = true := inB_iff.2 ⟨by omega, by omega⟩
  obtain ⟨S, rfl⟩ : ∃ S : Nat, sy = (S : Int) := ⟨sy.toNat, by omega⟩
  obtain ⟨W, hW⟩ : ∃ W, W = (w.alloc (.cells #[.int .i64 0, .slice none 0 0] 40)).alloc (.cells #[.int .i64 1, .slice none 0 0] 40) := ⟨_, rfl⟩
  have st0 : RecSt w w.heap.size (w.heap.size + 1) 1 (.slice none 0 0) [] W := by
    rw [hW]
    exact ⟨(Blk.new _ _ _ _ rfl).ext (Ext.alloc _ _), Blk.new _ _ _ _ (by simp), ⟨by simp [ivs], .inl ⟨rfl, rfl⟩⟩, (Ext.alloc _ _).trans (Ext.alloc _ _)⟩
  have hgo : Hid (w.heap.size ≤ w.heap.size + 1) := Lib.hid (by omega)
  have hne : Hid (w.heap.size ≠ w.heap.size + 1) := Lib.hid (by omega)
  generalize hg : w.heap.size = g at *
  go_enter Tryz.func61, Tryz.ntmps61
  go_wp2_with (go_at_call 44; refine (l00In_c _ _ _ _).mono ?_; rintro e w' ⟨rfl, rfl⟩; simp only [hsy, hk20])
  rw [← hW]
  clear hW
  go_loopw [1] (fun i wr => ∃ (k : Nat) (st : Int), k ≤ K ∧ i = .int .i64 (k : Int) ∧ 1 ≤ st ∧ st ≤ 20 ∧ RecSt w g (g + 1) st (.slice none 0 0) [] wr ∧ Hid ((S : Int) ≤ 3 ∧ K ≤ 2 → st ≤ 1 ∨ (k + 1 ≤ K ∧ st ≤ 3) ∨ k + 2 ≤ K)) (fun i _ => (intOf i).toNat)
  case atStart => exact ⟨K, 1, Nat.le_refl _, rfl, by omega, by omega, st0, Lib.hid (fun _ => .inl (by omega))⟩
  case round =>
    obtain ⟨k, st, hk, rfl, t1, t2, stk, HF⟩ := hrel
    have q0 := stk.out.cell 0
    have f0 := stk.out.frozen 0
    have r0 := stk.res.cell 0
    have r1 := stk.res.cell 1
    have rf0 := stk.res.frozen 0
    have rf1 := stk.res.frozen 1
    simp only [List.getElem?_toArray, List.getElem?_cons_zero, List.getElem?_cons_succ] at q0 r0 r1
    have hmul : 2 ≤ st * (S : Int) ∧ st * (S : Int) ≤ 120 := by
      have e1 : 1 * 2 ≤ st * (S : Int) := Int.mul_le_mul t1 s1 (by omega) (by omega)
      have e2 : st * (S : Int) ≤ 20 * 6 := Int.mul_le_mul t2 s2 (by omega) (by omega)
      omega
    by_cases hk0 : 0 < k
    · have hd : decide ((0 : Int) < (k : Int)) = true := by simp; omega
      have st2 := stk.setSt hne.out (by omega) (st * (S : Int))
      by_cases h20 : 20 < st * (S : Int)
      · go_wp2
        refine bodyPost_ret (v := .tuple #[.agg #[.int .i64 0, .slice none 0 0], .int .i64 5]) (by simp [results, Tryz.results61, go_sem, r0, r1]) rfl ⟨?_, ⟨0, []⟩, .slice none 0 0, 5, rfl, ⟨by simp [ivs], .inl ⟨rfl, rfl⟩⟩, by simp, by simp, by simp, fun hf => absurd h20 (by
          have h3 : st ≤ 3 := by have := HF.out hf; omega
          have := Int.mul_le_mul h3 hf.1 (by omega) (by omega)
          omega)⟩
        · exact (st2.ext.setCell (p := ⟨g, 0, none⟩) (by simp; omega) _).setCell (p := ⟨g, 1, none⟩) (by simp; omega) _
      · go_wp2
        go_roundw
        case rel => exact ⟨k - 1, st * (S : Int), by omega, by go_num, by omega, by omega, st2, Lib.hid (fun hf => by
          have hS := HF.out hf
          by_cases h1 : st ≤ 1
          · have e1 : st = 1 := by omega
            rw [e1]
            omega
          · omega)⟩
        case measure => simp [intOf]; omega
    · have hd : decide ((0 : Int) < (k : Int)) = false := by simp; omega
      obtain ⟨T, rfl⟩ : ∃ T : Nat, st = (T : Int) := ⟨st.toNat, by omega⟩
      clear hmul
      go_wp2
      clear q0 f0 r0 r1 rf0 rf1
      go_loopw [7] (fun i wr => ∃ (n : Nat) (nx : List Int) (rv : Value), n ≤ T ∧ i = .int .i64 (n : Int) ∧ nx.length ≤ 6 * n ∧ RecSt w g (g + 1) (T : Int) rv nx wr) (fun i _ => T - (intOf i).toNat)
      case atStart => exact ⟨0, [], _, Nat.zero_le _, rfl, by simp, stk⟩
      case round =>
        clear stk
        obtain ⟨n, nx, rv, hn, rfl, hl, stn⟩ := hrel
        have q0 := stn.out.cell 0
        have q1 := stn.out.cell 1
        have r0 := stn.res.cell 0
        have r1 := stn.res.cell 1
        have rf0 := stn.res.frozen 0
        have rf1 := stn.res.frozen 1
        simp only [List.getElem?_toArray, List.getElem?_cons_zero, List.getElem?_cons_succ] at q0 q1 r0 r1
        obtain ⟨Ar, cr, rfl, _, _⟩ := stn.own.ints.form
        by_cases hnT : n < T
        · have hi1 : (n : Int) < (T : Int) := by omega
          clear r0 r1 rf0 rf1
          go_wp2
          go_loopw [8] (fun i wr => ∃ (s : Nat) (nx : List Int) (rv : Value), s ≤ S ∧ i = .int .i64 (s : Int) ∧ nx.length ≤ 6 * n + s ∧ RecSt w g (g + 1) (T : Int) rv nx wr) (fun i _ => S - (intOf i).toNat)
          case atStart => exact ⟨0, nx, _, Nat.zero_le _, rfl, by omega, stn⟩
          case round =>
            clear stn q0 q1 hl
            obtain ⟨s, nx, rv, hs, rfl, hl, stn⟩ := hrel
            by_cases hsS : s < S
            · have hi2 : (s : Int) < (S : Int) := by omega
              obtain ⟨Ar, cr, rfl, _, _⟩ := stn.own.ints.form
              have hnS : 0 ≤ (n : Int) * (S : Int) ∧ (n : Int) * (S : Int) ≤ 120 := by
                have e1 : 0 ≤ (n : Int) * (S : Int) := Int.mul_nonneg (by omega) (by omega)
                have e2 : (n : Int) * (S : Int) ≤ 20 * 6 := Int.mul_le_mul (by omega) s2 (by omega) (by omega)
                omega
              have hw1 : IntKind.i64.wrap ((n : Int) * (S : Int)) = (n : Int) * (S : Int) := IntWalk.i64_in _ (by omega)
              have hw2 : IntKind.i64.wrap ((n : Int) * (S : Int) + (s : Int)) = (n : Int) * (S : Int) + (s : Int) := IntWalk.i64_in _ (by omega)
              have hT0 : ¬ T = 0 := by omega
              obtain ⟨z, hz⟩ : ∃ z, ((n : Int) * (S : Int) + (s : Int)).tmod (T : Int) = z := ⟨_, rfl⟩
              have eA := (Ext.alloc wr (.cells #[.int .i64 z] 2)).trans (Ext.drew _)
              have st5 := stn.ext' eA
              have P5 : (wr.alloc (.cells #[.int .i64 z] 2)).drew.ownsRow w.heap.size 2 1 (.slice Ar nx.length cr) nx.length (ivs nx) := st5.own
              have c0 := (stn.out.alloc (.cells #[.int .i64 z] 2)).cell 0
              have c1 := (stn.out.alloc (.cells #[.int .i64 z] 2)).cell 1
              have q0 := stn.out.cell 0
              have q1 := stn.out.cell 1
              simp only [List.getElem?_toArray, List.getElem?_cons_zero, List.getElem?_cons_succ] at q0 q1 c0 c1
              have hwr := stn.ext.size
              go_wp2_with fail
              go_region_law ((refine step_append_lies _ (by rfl) _ _ _ (by rfl) w.heap.size 2 i0 _ 1 8 Tryz.underlying28 hi0 hz0 hz1 hz2 rfl (by omega) _ _ (ivs nx) (by rfl) P5 ⟨wr.heap.size, 0, none⟩ 1 1 [.int .i64 z] (by rfl) rfl (World.news_of_block (w := (wr.alloc (.cells #[.int .i64 z] 2)).drew) (heap_alloc_new wr _)) (by simp [Value.oneCell']) (by omega) (by unfold maxLen; omega) (by omega) (by simp; omega) (wr.heap.size + 1) (by simp) ?_; intro g' cap w5 hown5 hg5 hat5 hlt5; have B6 := Blk.apart st5.out P5 (by decide) hg5; have q3 := B6.cell 1; have f3 := B6.frozen 1; simp only [List.getElem?_toArray, List.getElem?_cons_zero, List.getElem?_cons_succ] at q3))
              all_goals
                have st6 := st5.snoc (v' := .slice (some ⟨g', 0, none⟩) (nx.length + 1) cap) (ys := nx ++ [z]) hne.out (by omega) (by simpa [OwnInts, ivs_append, ivs] using hown5) hg5
                try go_wp2
                go_roundw
                case rel => exact ⟨s + 1, nx ++ [z], _, by omega, by go_num, by simp; omega, st6⟩
                case measure => simp [intOf]; omega
            · have hi2 : ¬ (s : Int) < (S : Int) := by omega
              have hq : s = S := by omega
              go_wp2
              go_roundw
              case rel => exact ⟨n + 1, nx, rv, by omega, by go_num, by omega, stn⟩
              case measure => simp [intOf]; omega
        · have hi1 : ¬ (n : Int) < (T : Int) := by omega
          have hq : n = T := by omega
          have hD := stn
          go_wp2
          refine bodyPost_ret (v := .tuple #[.agg #[.int .i64 (T : Int), .slice Ar nx.length cr], .int .i64 0]) (by simp [results, Tryz.results61, go_sem, r0, r1]) rfl ⟨?_, ⟨(T : Int), nx⟩, .slice Ar nx.length cr, 0, rfl, ?_, by simp, by simpa using t2, by show nx.length ≤ 120; omega, fun _ => rfl⟩
          · exact (hD.ext.setCell (p := ⟨g, 0, none⟩) (by simp; omega) _).setCell (p := ⟨g, 1, none⟩) (by simp; omega) _
          · exact ownsRow_far (ownsRow_far hD.own (own_far_blk hD.own hD.res (by decide)) _) (own_far_blk hD.own hD.res (by decide)) _
/-- What the drawing of an automaton gives. -/
def DfaRes (B : Nat) (w : World) (b n c : Nat) (e : Ending) (w' : World) : Prop :=
  (∃ (d : DfaD) (rv : Value), e = .returned (.agg #[.int .i64 d.st, rv]) ∧ OwnInts w.heap.size w' rv d.nx ∧ 0 ≤ d.st ∧ d.st ≤ 20 ∧ d.nx.length ≤ 120) ∧ Src B w' b (n + c) ∧ w.grownBy w' (some b)
/-- An automaton that is being drawn, in block go. -/
structure DrdSt (B b n k : Nat) (w : World) (g go : Nat) (st : Int) (rv : Value) (nx : List Int) (W : World) : Prop where
  res : Blk W g 40 #[.int .i64 0, .slice none 0 0]
  out : Blk W go 40 #[.int .i64 st, rv]
  own : OwnInts w.heap.size W rv nx
  src : Src B W b (n + k)
  grown : w.grownBy W (some b)
theorem DrdSt.ext' {B b n k : Nat} {w : World} {g go : Nat} {st : Int} {rv : Value} {nx : List Int} {W W' : World} (h : DrdSt B b n k w g go st rv nx W) (he : Ext W W') : DrdSt B b n k w g go st rv nx W' :=
  ⟨h.res.ext he, h.out.ext he, ownsRow_ext h.own he, h.src.ext he, grownBy_trans h.grown (ext_grownBy he _)⟩
theorem DrdSt.src' {B b n k k' : Nat} {w : World} {g go : Nat} {st : Int} {rv : Value} {nx : List Int} {W W' : World} (h : DrdSt B b n k w g go st rv nx W) (hs : Src B W' b (n + k')) (hg : W.grownBy W' (some b)) : DrdSt B b n k' w g go st rv nx W' :=
  ⟨blk_src h.src hg h.res (by decide), blk_src h.src hg h.out (by decide), own_src h.src hg h.own (by decide), hs, grownBy_trans h.grown hg⟩
theorem DrdSt.snoc {B b n k : Nat} {w : World} {g go : Nat} {st : Int} {rv v' : Value} {nx ys : List Int} {W W' : World} (h : DrdSt B b n k w g go st rv nx W) (hB : B ≤ w.heap.size) (hb : b < w.heap.size) (hne : g ≠ go) (hgo : w.heap.size ≤ go) (ho : OwnInts w.heap.size W' v' ys) (hg : W.grownBy W' rv.ownBlock) :
    DrdSt B b n k w g go st v' ys (W'.setCell ⟨go, 1, none⟩ v') := by
  have r2 := Blk.apart h.res h.own (by decide) hg
  have o2 := Blk.apart h.out h.own (by decide) hg
  have hlow : ∀ k, rv.ownBlock = some k → w.heap.size ≤ k := fun k hk => (h.own.lt k hk).1
  have s2 : Src B W' b (n + k) := h.src.kept hg (fun j hj => by have := hlow j hj; exact ⟨by omega, by omega⟩)
  have g2 : w.grownBy W' (some b) := grownBy_step h.grown hg (fun j hj => .inl (hlow j hj))
  have hs := set_grownBy W' ⟨go, 1, none⟩ v'
  exact ⟨r2.far (p := ⟨go, 1, none⟩) hne _, o2.set_ 1 _, ownsRow_far ho (own_far_blk ho o2 (by decide)) _, s2.kept hs (fun j hj => by injection hj with hj; subst hj; simp only; exact ⟨by omega, by omega⟩), grownBy_step g2 hs (fun j hj => by injection hj with hj; subst hj; exact .inl hgo)⟩
/-- How many elements the slice in a cell has. -/
def lenAt (w : World) (p : Addr) : Nat := match w.cell? p with
  | some (.slice _ n _) => n
  | _ => 0
theorem lenAt_of {w : World} {p : Addr} {A : Option Addr} {n c : Nat} (h : w.cell? p = some (.slice A n c)) : lenAt w p = n := by
  unfold lenAt
  rw [h]
theorem own_oneD {w : World} (x : Int) (base : Nat) (hb : base ≤ w.heap.size) : OwnInts base (w.alloc (.cells #[.int .i64 x] 2)) (.slice (some ⟨w.heap.size, 0, none⟩) 1 1) [x] :=
  ⟨by simp [ivs], .inr ⟨w.heap.size, 1, #[.int .i64 x], rfl, hb, heap_alloc_new w _, by simp, by unfold maxLen; omega, rfl, by simp [ivs]⟩⟩
set_option maxRecDepth 20000 in
theorem l28DrawOk_c (B b n : Nat) (sy : Int) (w : World) (h : Src B w b n) (hB : B ≤ w.heap.size) (s1 : 2 ≤ sy) (s2 : sy ≤ 3) (hn : n ≤ 100000000000) :
    Calls Tryz.prog 31 #[.pointer (some ⟨b, 0, none⟩), .int .i64 sy] w (DfaRes B w b n 100 ) := by
  obtain ⟨i0, hi0, hz0, hz1, hz2⟩ := info_parts intInfoW
  have hbl := h.lt
  obtain ⟨W, hW⟩ : ∃ W, W = w.alloc (.cells #[.int .i64 0, .slice none 0 0] 40) := ⟨_, rfl⟩
  have hX : Ext w W := by rw [hW]; exact Ext.alloc _ _
  have bR : Blk W w.heap.size 40 #[.int .i64 0, .slice none 0 0] := by rw [hW]; exact Blk.new _ _ _ _ rfl
  have hs0 := h.ext hX
  generalize hg0 : w.heap.size = g at *
  go_enter Tryz.func31, Tryz.ntmps31
  go_wp2_with fail
  rw [← hW]
  clear hW
  refine (one_c B b n 3 W hs0 (by omega)).mono ?_
  rintro e w1 ⟨⟨q, rfl⟩, hs1, hg1⟩
  have bR1 := blk_src hs0 hg1 bR (by decide)
  have gr1 := grownBy_trans (ext_grownBy hX (some b)) hg1
  have hz1' : w.heap.size ≤ w1.heap.size := gr1.size
  cases q with
  | true =>
    go_wp2_with fail
    refine (pick_c B b _ 2 w1 hs1 (by omega)).mono ?_
    rintro e w2 ⟨⟨x, rfl, x0, _, x2⟩, hs2, hg2⟩
    have x3 := x2 (by omega)
    clear x2
    obtain ⟨K, hK⟩ : ∃ K : Nat, 1 + x = (K : Int) := ⟨(1 + x).toNat, by omega⟩
    have bR2 := blk_src hs1 hg2 bR1 (by decide)
    have gr2 := grownBy_trans gr1 hg2
    go_wp2_with fail
    refine (RecentDfa_c sy K w2 s1 (by omega) (by omega)).mono ?_
    rintro e w3 ⟨hx3, d, rv, code, rfl, ho, d0, d1, d2, d3⟩
    obtain rfl := d3 ⟨by omega, by omega⟩
    obtain ⟨Ar, cr, rfl, _, _⟩ := ho.ints.form
    have bR3 := bR2.ext hx3
    have gr3 := grownBy_trans gr2 (ext_grownBy hx3 (some b))
    have eA := Ext.alloc w3 (.cells #[.int .i64 d.st, .slice Ar d.nx.length cr] 40)
    have r0 := (bR3.ext eA).cell 0
    have r1 := (bR3.ext eA).cell 1
    have f0 := (bR3.ext eA).frozen 0
    have f1 := (bR3.ext eA).frozen 1
    simp only [List.getElem?_toArray, List.getElem?_cons_zero, List.getElem?_cons_succ] at r0 r1
    have bR4 := bR3.ext eA
    have gr4 := grownBy_trans gr3 (ext_grownBy eA (some b))
    have ho4 := ownsRow_ext ho eA
    have hs4 := (hs2.ext hx3).ext eA
    have hz2 := gr2.size
    go_wp2
    refine bodyPost_ret (v := .agg #[.int .i64 d.st, .slice Ar d.nx.length cr]) (by simp [results, Tryz.results31, go_sem, r0, r1]) rfl ⟨⟨d, _, rfl, ?_, d0, d1, d2⟩, ?_, ?_⟩
    · have e1 := ownsRow_far (ownsRow_far ho4 (own_far_blk ho4 bR4 (by decide)) (p := ⟨g, 0, none⟩) (.int .i64 d.st)) (own_far_blk ho4 bR4 (by decide)) (p := ⟨g, 1, none⟩) (.slice Ar d.nx.length cr)
      exact ownsRow_base e1 gr2.size
    · have k1 := hs4.kept (set_grownBy _ ⟨g, 0, none⟩ (.int .i64 d.st)) (fun j hj => by injection hj with hj; subst hj; simp only; exact ⟨by omega, by omega⟩)
      have k2 := k1.kept (set_grownBy _ ⟨g, 1, none⟩ (.slice Ar d.nx.length cr)) (fun j hj => by injection hj with hj; subst hj; simp only; exact ⟨by omega, by omega⟩)
      exact k2.mono (by omega)
    · have k1 := grownBy_step gr4 (set_grownBy _ ⟨g, 0, none⟩ (.int .i64 d.st)) (fun j hj => by injection hj with hj; subst hj; left; simp only; omega)
      exact grownBy_step k1 (set_grownBy _ ⟨g, 1, none⟩ (.slice Ar d.nx.length cr)) (fun j hj => by injection hj with hj; subst hj; left; simp only; omega)
  | false =>
    go_wp2_with fail
    refine (pick_c B b _ 3 w1 hs1 (by omega)).mono ?_
    rintro e w2 ⟨⟨x, rfl, x0, _, x2⟩, hs2, hg2⟩
    have x3 := x2 (by omega)
    clear x2
    obtain ⟨T, hT⟩ : ∃ T : Nat, 1 + x = (T : Int) := ⟨(1 + x).toNat, by omega⟩
    have hT3 : 1 ≤ T ∧ T ≤ 3 := by omega
    obtain ⟨S, rfl⟩ : ∃ S : Nat, sy = (S : Int) := ⟨sy.toNat, by omega⟩
    obtain ⟨W2, hW2⟩ : ∃ W2, W2 = (w2.alloc (.cells #[.int .i64 0] 2)).alloc (.cells #[.int .i64 (T : Int), .slice (some ⟨w2.heap.size, 0, none⟩) 1 1] 40) := ⟨_, rfl⟩
    have hX2 : Ext w2 W2 := by rw [hW2]; exact (Ext.alloc _ _).trans (Ext.alloc _ _)
    have hzw2 : w.heap.size ≤ w2.heap.size := (grownBy_trans gr1 hg2).size
    have st0 : DrdSt B b n 6 w g (w2.heap.size + 1) (T : Int) (.slice (some ⟨w2.heap.size, 0, none⟩) 1 1) [0] W2 :=
      ⟨(blk_src hs1 hg2 bR1 (by decide)).ext hX2, by rw [hW2]; exact Blk.new _ _ _ _ (by simp), by rw [hW2]; exact ownsRow_ext (own_oneD 0 _ hzw2) (Ext.alloc _ _), (hs2.ext hX2).mono (by omega), grownBy_trans (grownBy_trans gr1 hg2) (ext_grownBy hX2 _)⟩
    have hTS : 0 ≤ (T : Int) * (S : Int) ∧ (T : Int) * (S : Int) ≤ 9 := by
      have e1 : 0 ≤ (T : Int) * (S : Int) := Int.mul_nonneg (by omega) (by omega)
      have e2 : (T : Int) * (S : Int) ≤ 3 * 3 := Int.mul_le_mul (by omega) s2 (by omega) (by omega)
      omega
    have hw1 : IntKind.i64.wrap ((T : Int) * (S : Int)) = (T : Int) * (S : Int) := IntWalk.i64_in _ (by omega)
    obtain ⟨M, hM⟩ : ∃ M : Nat, (T : Int) * (S : Int) = (M : Int) := ⟨((T : Int) * (S : Int)).toNat, by omega⟩
    have hgo : w.heap.size ≤ w2.heap.size + 1 := by omega
    have hne : g ≠ w2.heap.size + 1 := by
      have := hX.size
      have hlt := bR.lt
      have := hg1.size
      have := hg2.size
      omega
    rw [hM] at hw1 hTS
    go_wp2_with fail
    rw [← hW2]
    clear hW2
    generalize w2.heap.size + 1 = go at *
    clear bR bR1 hs0 hs1 hs2 hg1 hg2 gr1 hX hX2
    go_loopw [] (fun wr => ∃ (nx : List Int) (rv : Value), 1 ≤ nx.length ∧ nx.length ≤ 10 ∧ DrdSt B b n (4 + 2 * nx.length) w g go (T : Int) rv nx wr) (fun wr => 10 - lenAt wr ⟨go, 1, none⟩)
    case atStart => exact ⟨[0], _, by simp, by simp, st0⟩
    case round =>
      clear st0
      obtain ⟨nx, rv, hl1, hl2, stn⟩ := hrel
      obtain ⟨Ar, cr, rfl, _, _⟩ := stn.own.ints.form
      have q0 := stn.out.cell 0
      have q1 := stn.out.cell 1
      simp only [List.getElem?_toArray, List.getElem?_cons_zero, List.getElem?_cons_succ] at q0 q1
      by_cases hlt : nx.length < M
      · have hi1 : (nx.length : Int) < (M : Int) := by omega
        have st1 := stn.ext' (Ext.drew _)
        have c0 := st1.out.cell 0
        have c1 := st1.out.cell 1
        simp only [List.getElem?_toArray, List.getElem?_cons_zero, List.getElem?_cons_succ] at c0 c1
        have hpk := pick_c B b _ (T : Int) _ st1.src (by omega)
        go_wp2_with fail
        go_region_law (first
          | (go_simp; go_at_call 30; ((with_reducible refine hpk.mono ?_)); rintro e w3 ⟨⟨z, rfl, z0, z1, z2⟩, hs3, hg3⟩; have st3 := st1.src' (k' := 4 + 2 * nx.length + 2) hs3 hg3; have d0 := st3.out.cell 0; have d1 := st3.out.cell 1; simp only [List.getElem?_toArray, List.getElem?_cons_zero, List.getElem?_cons_succ] at d0 d1; have eA := Ext.alloc w3 (.cells #[.int .i64 z] 2); have st5 := st3.ext' eA; have P5 : (w3.alloc (.cells #[.int .i64 z] 2)).ownsRow w.heap.size 2 1 (.slice Ar nx.length cr) nx.length (ivs nx) := st5.own; have g0' := st5.out.cell 0; have g1' := st5.out.cell 1; simp only [List.getElem?_toArray, List.getElem?_cons_zero, List.getElem?_cons_succ] at g0' g1'; have hz3 := st3.grown.size)
          | (refine step_append_lies _ (by rfl) _ _ _ (by rfl) w.heap.size 2 i0 _ 1 8 Tryz.underlying28 hi0 hz0 hz1 hz2 rfl (by omega) _ _ (ivs nx) (by first | rfl | simp [Act.eval, Act.put]) P5 ⟨w3.heap.size, 0, none⟩ 1 1 [.int .i64 z] (by first | rfl | simp [Act.eval, Act.put]) rfl (World.news_of_block (heap_alloc_new w3 _)) (by simp [Value.oneCell']) (by omega) (by unfold maxLen; omega) (by omega) (by simp; omega) (w3.heap.size + 1) (by simp) ?_; intro g' cap w5 hown5 hg5 hat5 hlt5; have B6 := Blk.apart st5.out P5 (by decide) hg5; have q3 := B6.cell 1; have f3 := B6.frozen 1; simp only [List.getElem?_toArray, List.getElem?_cons_zero, List.getElem?_cons_succ] at q3))
        all_goals
          have st6 := st5.snoc (v' := .slice (some ⟨g', 0, none⟩) (nx.length + 1) cap) (ys := nx ++ [z]) (by omega) (by omega) hne (by omega) (by simpa [OwnInts, ivs_append, ivs] using hown5) hg5
          have e1 := lenAt_of (st6.out.cell 1)
          have e2 := lenAt_of (stn.out.cell 1)
          have HE1 := Lib.hid e1
          have HE2 := Lib.hid e2
          have HS := Lib.hid st6
          clear e1 e2 st6
          try go_wp2
          go_roundw
          case rel => exact ⟨nx ++ [z], _, by simp, by simp; omega, by simpa [Nat.mul_add, Nat.add_assoc, Nat.add_comm, Nat.add_left_comm] using HS.out⟩
          case measure => rw [HE1.out, HE2.out]; omega
      · have hi1 : ¬ (nx.length : Int) < (M : Int) := by omega
        have r0 := stn.res.cell 0
        have r1 := stn.res.cell 1
        have rf0 := stn.res.frozen 0
        have rf1 := stn.res.frozen 1
        simp only [List.getElem?_toArray, List.getElem?_cons_zero, List.getElem?_cons_succ] at r0 r1
        have hD := Lib.hid stn
        clear stn
        go_wp2
        have hD := hD.out
        refine bodyPost_ret (v := .agg #[.int .i64 (T : Int), .slice Ar nx.length cr]) (by simp [results, Tryz.results31, go_sem, r0, r1]) rfl ⟨⟨⟨(T : Int), nx⟩, _, rfl, ?_, by simp, by show (T : Int) ≤ 20; omega, by show nx.length ≤ 120; omega⟩, ?_, ?_⟩
        · exact ownsRow_far (ownsRow_far hD.own (own_far_blk hD.own hD.res (by decide)) _) (own_far_blk hD.own hD.res (by decide)) _
        · have k1 := hD.src.kept (set_grownBy _ ⟨g, 0, none⟩ (.int .i64 (T : Int))) (fun j hj => by injection hj with hj; subst hj; simp only; exact ⟨by omega, by omega⟩)
          have k2 := k1.kept (set_grownBy _ ⟨g, 1, none⟩ (.slice Ar nx.length cr)) (fun j hj => by injection hj with hj; subst hj; simp only; exact ⟨by omega, by omega⟩)
          exact k2.mono (by omega)
        · have k1 := grownBy_step hD.grown (set_grownBy _ ⟨g, 0, none⟩ (.int .i64 (T : Int))) (fun j hj => by injection hj with hj; subst hj; left; simp only; omega)
          exact grownBy_step k1 (set_grownBy _ ⟨g, 1, none⟩ (.slice Ar nx.length cr)) (fun j hj => by injection hj with hj; subst hj; left; simp only; omega)
theorem B10Dfa_c (v : Value) (bs : List Int) (w : World) (h : Bytes w v bs) :
    Calls Tryz.prog 11 #[v] w fun e w' => (∃ (d : DfaD) (rv : Value) (sy : Int), e = .returned (.tuple #[.agg #[.int .i64 d.st, rv], .int .i64 sy]) ∧ OwnInts w.heap.size w' rv d.nx ∧ 0 ≤ d.st ∧ d.st ≤ 20 ∧ d.nx.length ≤ 120) ∧ Ext w w' := by
  obtain ⟨W, hW⟩ : ∃ W, W = w.alloc (.cells #[.int .i64 0, .slice none 0 0] 40) := ⟨_, rfl⟩
  have hX : Ext w W := by rw [hW]; exact Ext.alloc _ _
  have bR : Blk W w.heap.size 40 #[.int .i64 0, .slice none 0 0] := by rw [hW]; exact Blk.new _ _ _ _ rfl
  generalize hg0 : w.heap.size = g at *
  go_enter Tryz.func11, Tryz.ntmps11
  go_wp2_with fail
  rw [← hW]
  clear hW
  refine (from_c v bs W (h.ext hX)).mono ?_
  rintro e w1 ⟨⟨b, rfl, hb, hs⟩, hx1⟩
  have bR1 := bR.ext hx1
  go_wp2_with fail
  refine (pick_c W.heap.size b 0 2 w1 hs (by omega)).mono ?_
  rintro e w2 ⟨⟨x, rfl, x0, _, x2⟩, hs2, hg2⟩
  have x3 := x2 (by omega)
  clear x2
  have bR2 := blk_src hs hg2 bR1 (by decide)
  have e2 : Ext w w2 := (hX.trans hx1).grown hg2 (fun k hk => by injection hk with hk; have := hX.size; omega)
  have hsz2 : W.heap.size ≤ w2.heap.size := Nat.le_trans hx1.size hg2.size
  obtain ⟨sy, hsy⟩ : ∃ sy, 2 + x = sy := ⟨_, rfl⟩
  go_wp2_with fail
  refine (l28DrawOk_c W.heap.size b (0 + 2) sy w2 hs2 hsz2 (by omega) (by omega) (by omega)).mono ?_
  rintro e w3 ⟨⟨d, rv, rfl, ho, d0, d1, d2⟩, hs3, hg3⟩
  obtain ⟨Ar, cr, rfl, _, _⟩ := ho.ints.form
  have bR3 := blk_src hs2 hg3 bR2 (by decide)
  have hb2 : w.heap.size ≤ b := by have := hX.size; omega
  have e3 : Ext w w3 := e2.grown hg3 (fun k hk => by injection hk with hk; omega)
  have r0 := bR3.cell 0
  have r1 := bR3.cell 1
  have f0 := bR3.frozen 0
  have f1 := bR3.frozen 1
  simp only [List.getElem?_toArray, List.getElem?_cons_zero, List.getElem?_cons_succ] at r0 r1
  go_wp2
  refine bodyPost_ret (v := .tuple #[.agg #[.int .i64 d.st, .slice Ar d.nx.length cr], .int .i64 sy]) (by simp [results, Tryz.results11, go_sem, r0, r1]) rfl ⟨⟨d, _, sy, rfl, ?_, d0, d1, d2⟩, ?_⟩
  · exact ownsRow_base (ownsRow_far (ownsRow_far ho (own_far_blk ho bR3 (by decide)) _) (own_far_blk ho bR3 (by decide)) _) (by have := hX.size; omega)
  · exact (e3.setCell (p := ⟨g, 0, none⟩) (by simp; omega) _).setCell (p := ⟨g, 1, none⟩) (by simp; omega) _
end Go.Proofs.YtacpchapgklcgaaGreatDoor
end
section
set_option linter.unusedSimpArgs false
set_option linter.unusedVariables false
namespace Go.Proofs.YtacpchapgklcgaaGreatDoor
open Go Go.RowKit Go.Proofs
set_option maxHeartbeats 400000
/-- What is given: a valid automaton for two symbols, and whether the rank is used up. -/
def DaRes (w : World) (st rank : Nat) (e : Ending) (w' : World) : Prop :=
  Ext w w' ∧ ∃ (d : DfaD) (rv : Value) (q : Bool), d.st = (st : Int) ∧ e = .returned (.tuple #[.agg #[.int .i64 st, rv], .bool q]) ∧ OwnInts w.heap.size w' rv d.nx ∧ dfaOk d 2 = true ∧ (q = true → rank < 243)
theorem da_ok {st : Nat} {xs : List Int} (h1 : 1 ≤ st) (h2 : st ≤ 3) (hl : xs.length = 2 * st) (ha : ∀ z ∈ xs, 0 ≤ z ∧ z < (st : Int)) (h0 : xs.getD 0 0 = 0) : dfaOk ⟨(st : Int), xs⟩ 2 = true := by
  have a1 : inB (st : Int) 1 20 = true := inB_iff.2 ⟨by omega, by omega⟩
  have a2 : (xs.all fun z => inB z 0 ((st : Int) - 1)) = true := by
    rw [List.all_eq_true]
    intro z hz
    have := ha z hz
    exact inB_iff.2 ⟨by omega, by omega⟩
  have a3 : (xs.length : Int) = (st : Int) * 2 := by omega
  rw [dfa_ok_of (by decide) (by decide) a1 a3 a2, h0]
  rfl
theorem da_small {st rank j : Nat} (h1 : 1 ≤ st) (h2 : st ≤ 3) (hj : j ≤ 5) (h : rank / st ^ j = 0) : rank < 243 := by
  have hp : st ^ j ≤ 3 ^ 5 := Nat.le_trans (Nat.pow_le_pow_left h2 j) (Nat.pow_le_pow_right (by decide) hj)
  have hp0 : 0 < st ^ j := Nat.pow_pos (by omega)
  have := (Nat.div_eq_zero_iff_lt hp0).1 h
  omega
set_option maxRecDepth 20000 in
set_option maxHeartbeats 4000000 in
theorem dfaAt_c (st rank : Nat) (w : World) (h1 : 1 ≤ st) (h2 : st ≤ 3) (hk : rank ≤ 1000000) :
    Calls Tryz.prog 72 #[.int .i64 st, .int .i64 2, .int .i64 rank] w (DaRes w st rank) := by
  obtain ⟨i0, hi, hz0, hz1, hz2⟩ := info_parts intInfo
  have hw1 : IntKind.i64.wrap ((st : Int) * 2) = (st : Int) * 2 := IntWalk.i64_in _ (by omega)
  obtain ⟨W0, hW0⟩ : ∃ W, w.alloc (.cells #[.int .i64 0, .slice none 0 0] 40) = W := ⟨_, rfl⟩
  have hX0 : Ext w W0 := by rw [← hW0]; exact Ext.alloc _ _
  have bR0 : Blk W0 w.heap.size 40 #[.int .i64 0, .slice none 0 0] := by rw [← hW0]; exact Blk.new _ _ _ _ rfl
  go_enter Tryz.func72, Tryz.ntmps72
  go_wp2_with (at_make; (try rw [hW0]); refine wpList_make_full _ rfl _ _ 28 rfl W0.heap.size 2 i0 _ 1 Tryz.underlying28 hi hz0 hz1 .i64 .i64 _ _ (2 * st) rfl rfl ?d1 ?d2 ?c1 ?c2 ?c3 ?_)
  case d1 => omega
  case d2 => omega
  case c1 => rw [hz2]; omega
  case c2 => unfold maxLen; omega
  case c3 => exact Nat.le_refl _
  intro w1 hown hgr
  have hrow : w1.ownsRow W0.heap.size 2 1 (.slice (some ⟨W0.heap.size, 0, none⟩) (2 * st) (2 * st)) (2 * st) (ivs (List.replicate (2 * st) 0)) := by
    have e : ivs (List.replicate (2 * st) 0) = (madeCells #[Value.int .i64 0] (2 * st)).toList := by rw [toList_madeCells_one]; simp [ivs]
    rw [e]
    exact hown
  have hx1 : Ext W0 w1 := (Ext.refl _).grown hgr (by simp)
  obtain ⟨W1, hW1⟩ : ∃ W, w1.alloc (.cells #[.int .i64 (st : Int), .slice (some ⟨W0.heap.size, 0, none⟩) (2 * st) (2 * st)] 40) = W := ⟨_, rfl⟩
  have hX1 : Ext w1 W1 := by rw [← hW1]; exact Ext.alloc _ _
  have bD : Blk W1 w1.heap.size 40 #[.int .i64 (st : Int), .slice (some ⟨W0.heap.size, 0, none⟩) (2 * st) (2 * st)] := by rw [← hW1]; exact Blk.new _ _ _ _ rfl
  have hrow1 := ownsRow_ext hrow hX1
  have bR1 := (bR0.ext hx1).ext hX1
  have hXX := hX0.trans (hx1.trans hX1)
  have hD1 : W0.heap.size < w1.heap.size := by have := (hown.lt W0.heap.size rfl).2; omega
  have y1 := bD.cell 1
  simp only [List.getElem?_toArray, List.getElem?_cons_zero, List.getElem?_cons_succ] at y1
  rw [← hW1] at y1
  have HW1 := Lib.hid hW1
  clear hown hgr hrow hi hz0 hz1 hz2 hW0 hW1
  have hg0 : w.heap.size < W0.heap.size := bR0.lt
  go_wp2_with fail
  rw [HW1.out]
  clear HW1 y1
  go_loopw [2, 9] (fun rv iv wr => ∃ (k r j : Nat) (xs : List Int), k + j + 1 = 2 * st ∧ iv = .int .i64 (k : Int) ∧ rv = .int .i64 (r : Int) ∧ r = rank / st ^ j ∧ xs.length = 2 * st ∧ (∀ z ∈ xs, 0 ≤ z ∧ z < (st : Int)) ∧ xs.getD 0 0 = 0 ∧
    wr.ownsRow W0.heap.size 2 1 (.slice (some ⟨W0.heap.size, 0, none⟩) (2 * st) (2 * st)) (2 * st) (ivs xs) ∧ Blk wr w1.heap.size 40 #[.int .i64 (st : Int), .slice (some ⟨W0.heap.size, 0, none⟩) (2 * st) (2 * st)] ∧ Blk wr w.heap.size 40 #[.int .i64 0, .slice none 0 0] ∧ Ext w wr) (fun _ iv _ => (intOf iv).toNat)
  case atStart =>
    refine ⟨2 * st - 1, rank, 0, List.replicate (2 * st) 0, by omega, ?_, rfl, by simp, by simp, ?_, ?_, hrow1, bD, bR1, hXX⟩
    · congr 1; omega
    · intro z hz
      have := List.eq_of_mem_replicate hz
      omega
    · rw [List.getD_eq_getElem?_getD, List.getElem?_replicate]
      split <;> rfl
  case round =>
    clear hrow1 bD bR1 hXX
    obtain ⟨k, r, j, xs, hkj, rfl, rfl, hr, hl, ha, h0, hrow, bD, bR, hX⟩ := hrel
    have y1 := bD.cell 1
    have yd := bD.cell 0
    simp only [List.getElem?_toArray, List.getElem?_cons_zero, List.getElem?_cons_succ] at y1 yd
    by_cases hk0 : 0 < k
    · have hk1 : (0 : Int) < (k : Int) := by omega
      have hst : 0 ≤ (r : Int) := by omega
      have hz0 : ¬ (st : Int) = 0 := by omega
      have hrk : r ≤ rank := by rw [hr]; exact Nat.div_le_self _ _
      obtain ⟨rq, hq⟩ : ∃ x : Nat, r / st = x := ⟨_, rfl⟩
      obtain ⟨rm, hm⟩ : ∃ x : Nat, r % st = x := ⟨_, rfl⟩
      have hw2 : (r : Int).tmod (st : Int) = (rm : Int) := by rw [Int.tmod_eq_emod_of_nonneg (by omega), ← hm]; rfl
      have hw3 : (r : Int).tdiv (st : Int) = (rq : Int) := by rw [Int.tdiv_eq_ediv_of_nonneg (by omega), ← hq]; rfl
      have hm1 : rm < st := by rw [← hm]; exact Nat.mod_lt _ (by omega)
      have hd1 : rq ≤ r := by rw [← hq]; exact Nat.div_le_self _ _
      have hw4 : IntKind.i64.wrap (rq : Int) = (rq : Int) := IntWalk.i64_in _ (by omega)
      have hw5 : IntKind.i64.wrap (rm : Int) = (rm : Int) := IntWalk.i64_in _ (by omega)
      have hkl : (k : Int) < 2 * (st : Int) := by omega
      have hkl2 : (k : Int) < ((2 * st : Nat) : Int) := by omega
      have HNEXT : Hid (rq = rank / st ^ (j + 1)) := by unfold Hid; rw [← hq, hr, Nat.div_div_eq_div_mul, Nat.pow_succ]
      have hk3 : (k : Int) - 1 = ((k - 1 : Nat) : Int) := by omega
      have hrowD := ownsRow_ext hrow (Ext.drew wr)
      have bDD := bD.ext (Ext.drew wr)
      have bRD := bR.ext (Ext.drew wr)
      have hXD := hX.trans (Ext.drew wr)
      have hz1 : ¬ st = 0 := by omega
      have oS := (hrowD.stored k (.int .i64 (rm : Int))).1
      rw [← ivs_set] at oS
      have bD2 := bDD.far (p := ⟨W0.heap.size, k, none⟩) (by show w1.heap.size ≠ W0.heap.size; omega) (.int .i64 (rm : Int))
      have bR2 := bRD.far (p := ⟨W0.heap.size, k, none⟩) (by show w.heap.size ≠ W0.heap.size; omega) (.int .i64 (rm : Int))
      have hX2 := hXD.setCell (p := ⟨W0.heap.size, k, none⟩) (by show w.heap.size ≤ W0.heap.size; omega) (.int .i64 (rm : Int))
      have p0 := hrowD.cellAt k (by omega)
      rw [ivs_get xs k (by omega)] at p0
      have z0 := hrowD.frozenAt k
      have HREL : Hid (∃ (k' r' j' : Nat) (xs' : List Int), k' + j' + 1 = 2 * st ∧ (k : Int) - 1 = (k' : Int) ∧ (rq : Int) = (r' : Int) ∧ r' = rank / st ^ j' ∧ xs'.length = 2 * st ∧ (∀ z ∈ xs', 0 ≤ z ∧ z < (st : Int)) ∧ xs'.getD 0 0 = 0 ∧
          (wr.drew.setCell ⟨W0.heap.size, k, none⟩ (.int .i64 (rm : Int))).ownsRow W0.heap.size 2 1 (.slice (some ⟨W0.heap.size, 0, none⟩) (2 * st) (2 * st)) (2 * st) (ivs xs') ∧ Blk (wr.drew.setCell ⟨W0.heap.size, k, none⟩ (.int .i64 (rm : Int))) w1.heap.size 40 #[.int .i64 (st : Int), .slice (some ⟨W0.heap.size, 0, none⟩) (2 * st) (2 * st)] ∧ Blk (wr.drew.setCell ⟨W0.heap.size, k, none⟩ (.int .i64 (rm : Int))) w.heap.size 40 #[.int .i64 0, .slice none 0 0] ∧ Ext w (wr.drew.setCell ⟨W0.heap.size, k, none⟩ (.int .i64 (rm : Int)))) := by
        refine ⟨k - 1, rq, j + 1, xs.set k (rm : Int), by omega, by omega, rfl, HNEXT.out, by simpa using hl, ?_, ?_, oS, bD2, bR2, hX2⟩
        · intro z hz
          rcases List.mem_or_eq_of_mem_set hz with h | h
          · exact ha z h
          · subst h; omega
        · rw [List.getD_eq_getElem?_getD, List.getElem?_set_ne (by omega), ← List.getD_eq_getElem?_getD]
          exact h0
      clear oS bD2 bR2 hX2 hr ha h0 HNEXT
      go_wp2_with fail
      refine wp_region_ordT 6 (readsT [0, 1, 2, 3, 4, 5] .done) (by kernel_rfl) (by kernel_rfl) (fun _ _ _ _ _ h => h) ?_
      simp only [readsT]
      iterate 5 (refine wpOrdT_read (v := ?_) (by rfl) (Or.inl ⟨by rfl, fun x hx => ?_⟩) ?_; rotate_left; (· have a1 := hx.cell ((Ext.drew wr).cell y1); go_simp; try with_reducible rfl); try simp only [Act.put, List.setIfInBounds_toArray, List.set_cons_zero, List.set_cons_succ])
      refine wpOrdT_read (v := .int .i64 (rm : Int)) (by rfl) (Or.inl ⟨by rfl, fun x hx => ?_⟩) ?_
      · go_simp; try simp only [hw2, hw5]; try with_reducible rfl
      try simp only [Act.put, List.setIfInBounds_toArray, List.set_cons_zero, List.set_cons_succ]
      refine wpOrdT_done ?_
      try simp only [List.drop_succ_cons, List.drop_zero]
      change wpList _ _ _ _ _ wr.drew
      clear hrowD bDD bRD hXD
      go_wp2
      go_roundw
      case rel =>
        obtain ⟨k', r', j', xs', g1, g2, g3, g4⟩ := HREL.out
        exact ⟨k', r', j', xs', g1, by first | (rw [← g2]; done) | (rw [← g2]; congr 1; omega), by rw [← g3], g4⟩
      case measure => simp [intOf]; omega
    · obtain rfl : k = 0 := by omega
      have HOK := Lib.hid (da_ok h1 h2 hl ha h0)
      have hsm := da_small (rank := rank) (j := j) h1 h2 (by omega)
      rw [← hr] at hsm
      have HOWN : Hid (OwnInts w.heap.size wr (.slice (some ⟨W0.heap.size, 0, none⟩) (2 * st) (2 * st)) xs) := by
        unfold Hid OwnInts
        rw [hl]
        exact ownsRow_base hrow (by omega)
      have d := ((bR.set_ 0 (.int .i64 (st : Int))).set_ 1 (.slice (some ⟨W0.heap.size, 0, none⟩) (2 * st) (2 * st))).cell
      have k0 := bR.cell 0
      have k1 := bR.cell 1
      have fk := bR.frozen
      simp only [List.getElem?_toArray, List.getElem?_cons_zero, List.getElem?_cons_succ] at k0 k1
      have hfar := own_far_blk HOWN.out bR (by decide)
      have HO2 := Lib.hid (ownsRow_far (ownsRow_far HOWN.out hfar (.int .i64 (st : Int)) (p := ⟨w.heap.size, 0, none⟩)) hfar (.slice (some ⟨W0.heap.size, 0, none⟩) (2 * st) (2 * st)) (p := ⟨w.heap.size, 1, none⟩))
      have HXF := Lib.hid ((hX.setCell (p := ⟨w.heap.size, 0, none⟩) (Nat.le_refl _) (.int .i64 (st : Int))).setCell (p := ⟨w.heap.size, 1, none⟩) (Nat.le_refl _) (.slice (some ⟨W0.heap.size, 0, none⟩) (2 * st) (2 * st)))
      by_cases hr0 : r = 0
      · subst hr0
        have HS := Lib.hid (hsm rfl)
        clear hsm hr hfar hrow ha h0
        go_wp2_with fail
        exact bodyPost_ret (v := .tuple #[.agg #[.int .i64 (st : Int), .slice (some ⟨W0.heap.size, 0, none⟩) (2 * st) (2 * st)], .bool true]) (by simp [results, Tryz.results72, go_sem, d]) rfl ⟨HXF.out, ⟨(st : Int), xs⟩, _, true, rfl, rfl, HO2.out, HOK.out, fun _ => HS.out⟩
      · have hb : ((r : Int) == 0) = false := beq_eq_false_iff_ne.2 (by omega)
        clear hsm hr hfar hrow ha h0
        go_wp2_with fail
        exact bodyPost_ret (v := .tuple #[.agg #[.int .i64 (st : Int), .slice (some ⟨W0.heap.size, 0, none⟩) (2 * st) (2 * st)], .bool false]) (by simp [results, Tryz.results72, go_sem, d]) rfl ⟨HXF.out, ⟨(st : Int), xs⟩, _, false, rfl, rfl, HO2.out, HOK.out, fun h => (by cases h)⟩
end Go.Proofs.YtacpchapgklcgaaGreatDoor
end
section
set_option linter.unusedSimpArgs false
set_option linter.unusedVariables false
namespace Go.Proofs.YtacpchapgklcgaaGreatDoor
open Go Go.RowKit Go.Proofs
set_option maxHeartbeats 400000
theorem Blk.keepB {base : Nat} {w W : World} {g : Nat} {t : TypeId} {cs : Array Value} (h : Blk w g t cs) (hk : KeepB base w W) (hb : base ≤ g) : Blk W g t cs := by
  have hl := h.lt
  unfold Blk at h ⊢
  rw [hk.2 g hb hl]
  exact h
def DpRes (base : Nat) (I J : World → Prop) (w : World) (e : Ending) (w' : World) : Prop :=
  KeepB base w w' ∧ ((e = .returned (.bool true) ∧ I w') ∨ (e = .returned (.bool false) ∧ J w'))
set_option maxRecDepth 20000 in
set_option maxHeartbeats 4000000 in
theorem dfaPairs_c (lb : Array Value) (base : Nat) (I J : World → Prop) (w : World) (hb : base ≤ w.heap.size) (h0 : I w) (hE : ∀ a b, I a → Ext a b → I b)
    (hv : ∀ (L R : DfaD) (lv tv : Value) (w' : World), I w' → OwnInts base w' lv L.nx → OwnInts base w' tv R.nx → dfaOk L 2 = true → dfaOk R 2 = true →
      Calls Tryz.prog 38 (#[.agg #[.int .i64 L.st, lv], .agg #[.int .i64 R.st, tv]] ++ lb) w' (DpRes base I J w')) :
    Calls Tryz.prog 37 #[.int .i64 2, .func (.func 38) #[] lb] w (DpRes base I J w) := by
  go_enter Tryz.func37, Tryz.ntmps37
  go_wp2_with fail
  go_loopw [5] (fun i wr => ∃ s : Nat, 1 ≤ s ∧ s ≤ 4 ∧ i = .int .i64 (s : Int) ∧ I wr ∧ KeepB base w wr) (fun i _ => 4 - (intOf i).toNat)
  case atStart => exact ⟨1, Nat.le_refl _, by omega, rfl, h0, KeepB.refl _ _⟩
  case round =>
    clear h0
    obtain ⟨s, s1, s4, rfl, hI, hK⟩ := hrel
    by_cases hs3 : s ≤ 3
    · have hs3' : (s : Int) ≤ 3 := by omega
      go_wp2_with fail
      go_loopw [6] (fun i wr => ∃ k : Nat, k ≤ 243 ∧ i = .int .i64 (k : Int) ∧ I wr ∧ KeepB base w wr) (fun i _ => 244 - (intOf i).toNat)
      case atStart => exact ⟨0, by omega, rfl, hI, hK⟩
      case round =>
        clear hI hK
        obtain ⟨k, hk, rfl, hI, hK⟩ := hrel
        go_wp2_with fail
        refine (dfaAt_c s k wr s1 hs3 (by omega)).mono ?_
        rintro e w1 ⟨hx1, L, lv, q, hst, rfl, ho, hd, hq⟩
        obtain ⟨Al, cl, rfl, _, _⟩ := ho.ints.form
        obtain ⟨W, hW⟩ : ∃ W, w1.alloc (.cells #[.int .i64 (s : Int), .slice Al L.nx.length cl] 40) = W := ⟨_, rfl⟩
        have hXW : Ext w1 W := by rw [← hW]; exact Ext.alloc _ _
        have bL : Blk W w1.heap.size 40 #[.int .i64 (s : Int), .slice Al L.nx.length cl] := by rw [← hW]; exact Blk.new _ _ _ _ rfl
        have hx2 := hx1.trans hXW
        have hIW := hE _ _ hI hx2
        have hKW := hK.trans (KeepB.of_ext hx2)
        have hbl : base ≤ wr.heap.size := Nat.le_trans hb hK.1
        have hb1 : wr.heap.size ≤ w1.heap.size := hx1.size
        have hoW := OwnInts.ext ho hXW
        have hob : OwnInts base W (.slice Al L.nx.length cl) L.nx := ownsRow_base hoW hbl
        clear hI hK ho hoW hXW hx2 hx1
        cases q
        · clear hq
          go_wp2
          go_roundw
          case rel => exact ⟨s + 1, by omega, by omega, by go_num, hIW, hKW⟩
          case measure => simp [intOf]; omega
        have hk3 := hq rfl
        clear hq
        go_wp2_with fail
        go_loopw [9] (fun i wr => ∃ k : Nat, k ≤ 243 ∧ i = .int .i64 (k : Int) ∧ I wr ∧ KeepB base w wr ∧ Blk wr w1.heap.size 40 #[.int .i64 (s : Int), .slice Al L.nx.length cl] ∧ OwnInts base wr (.slice Al L.nx.length cl) L.nx) (fun i _ => 244 - (intOf i).toNat)
        case atStart => exact ⟨0, by omega, rfl, hIW, hKW, bL, hob⟩
        case round =>
          clear hIW hKW hW bL hob
          obtain ⟨j, hj, rfl, hI, hK, bL, hob⟩ := hrel
          go_wp2_with fail
          refine (dfaAt_c s j wr s1 hs3 (by omega)).mono ?_
          rintro e w2 ⟨hx1, R, tv, q, hst', rfl, ho, hd', hq⟩
          obtain ⟨At, ct, rfl, _, _⟩ := ho.ints.form
          obtain ⟨W, hW⟩ : ∃ W, w2.alloc (.cells #[.int .i64 (s : Int), .slice At R.nx.length ct] 40) = W := ⟨_, rfl⟩
          have hXW : Ext w2 W := by rw [← hW]; exact Ext.alloc _ _
          have bR : Blk W w2.heap.size 40 #[.int .i64 (s : Int), .slice At R.nx.length ct] := by rw [← hW]; exact Blk.new _ _ _ _ rfl
          have hx2 := hx1.trans hXW
          have hIW := hE _ _ hI hx2
          have hKW := hK.trans (KeepB.of_ext hx2)
          have bLW := bL.ext hx2
          have hobW := OwnInts.ext hob hx2
          have hbr : base ≤ wr.heap.size := Nat.le_trans hb hK.1
          have hob' : OwnInts base W (.slice At R.nx.length ct) R.nx := ownsRow_base (OwnInts.ext ho hXW) hbr
          clear hI hK ho hXW hx2 hx1
          cases q
          · clear hq
            go_wp2
            go_roundw
            case rel => exact ⟨k + 1, by omega, by go_num, hIW, hKW⟩
            case measure => simp [intOf]; omega
          have hj3 := hq rfl
          clear hq
          have d0 := bLW.cell 0
          have d1 := bLW.cell 1
          have f0 := bR.cell 0
          have f1 := bR.cell 1
          simp only [List.getElem?_toArray, List.getElem?_cons_zero, List.getElem?_cons_succ] at d0 d1 f0 f1
          have hcall := hv L R _ _ W hIW hobW hob' hd hd'
          rw [hst, hst'] at hcall
          go_wp2_with fail
          go_at_call 38
          refine hcall.mono ?_
          rintro e w3 ⟨hk3', ⟨rfl, hI3⟩ | ⟨rfl, hJ3⟩⟩
          · have bL3 := bLW.keepB hk3' (Nat.le_trans hbl hb1)
            have hob3 := ownsRow_keepB hobW hk3'
            have hK3 := hKW.trans hk3'
            clear hcall d0 d1 f0 f1
            go_wp2
            go_roundw
            case rel => exact ⟨j + 1, by omega, by go_num, hI3, hK3, bL3, hob3⟩
            case measure => simp [intOf]; omega
          · have hK3 := hKW.trans hk3'
            clear hcall d0 d1 f0 f1
            go_wp2
            go_ret
            exact ⟨hK3, .inr ⟨rfl, hJ3⟩⟩
    · have hs3' : ¬ (s : Int) ≤ 3 := by omega
      go_wp2
      go_ret
      exact ⟨hK, .inl ⟨rfl, hI⟩⟩
end Go.Proofs.YtacpchapgklcgaaGreatDoor
end
