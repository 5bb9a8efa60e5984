/- Contracts on automata: a function is called with each state from which a symbol leads to a state (twice: for each of the two functions that are handed in), and these two functions. -/
import Derived.Test.YtkdigfgodjjiaaaGreatAbE
import Derived.StillTailTactics
set_option linter.unusedSimpArgs false
set_option linter.unusedVariables false
set_option linter.unusedSectionVars false
set_option maxHeartbeats 4000000
namespace Go.Proofs.YtkdigfgodjjiaaaGreat
open Go Go.RowKit Go.Proofs Go.Maps
/-- The origins among the first k. -/
def orgK (d : DfaD) (t sy : Int) (k : Nat) : List (Int × Int) := (List.range k).filterMap fun k => if d.nx.getD k 0 = t then some ((k : Int) / sy, (k : Int) % sy) else none
theorem orgK_yes {d : DfaD} {t sy : Int} {k : Nat} (h : d.nx.getD k 0 = t) : orgK d t sy (k + 1) = orgK d t sy k ++ [((k : Int) / sy, (k : Int) % sy)] := by
  unfold orgK
  rw [List.range_succ, List.filterMap_append]
  simp only [List.filterMap_cons, List.filterMap_nil, h, if_true]
theorem orgK_no {d : DfaD} {t sy : Int} {k : Nat} (h : ¬ d.nx.getD k 0 = t) : orgK d t sy (k + 1) = orgK d t sy k := by
  unfold orgK
  rw [List.range_succ, List.filterMap_append]
  simp only [List.filterMap_cons, List.filterMap_nil, h, if_false, List.append_nil]
set_option maxRecDepth 20000 in
theorem succ1_c (base : Nat) (w : World) (bs bl bf bi br : Nat) (l : List Outl) (lv : Value) (bm : Nat) (x u t : Int) (r : RuleD) (h : FSt base w bs bl l lv bm) (hb : base ≤ w.heap.size) (hn : l.length ≤ 100000)
    (hf : Blk w bf 95 #[.func (.func 46) #[] #[.pointer (some ⟨bs, 0, none⟩), .pointer (some ⟨bl, 0, none⟩)]]) (hi : Blk w bi 2 #[.int .i64 x]) (hr : Blk w br 87 #[.int .i64 r.w, .int .i64 r.m, .int .i64 r.n])
    (ha : smallO (x, r.n, t, u)) :
    Calls Tryz.prog 70 #[.int .i64 u, .int .i64 t, .pointer (some ⟨bf, 0, none⟩), .pointer (some ⟨bi, 0, none⟩), .pointer (some ⟨br, 0, none⟩)] w fun e w' => e = .returned (.tuple #[]) ∧ FRes base w bs bl (addA l (x, r.n, t, u)) bm w' := by
  have c0 := hf.cell 0
  have c1 := hi.cell 0
  have c2 := hr.cell 2
  simp only [List.getElem?_toArray, List.getElem?_cons_zero, List.getElem?_cons_succ] at c0 c1 c2
  go_enter Tryz.func70, Tryz.ntmps70
  go_wp2_with (go_at_call 46; refine (find_c base w bs bl l (x, r.n, t, u) lv bm h hb hn ha).mono ?_; rintro e w' ⟨rfl, hF⟩)
  go_end0
  exact ⟨rfl, hF⟩
/-- A function is called with each origin. -/
theorem origins1_c (lb : Array Value) (rv : Value) (d : DfaD) (t sy : Int) (w : World) (I : List (Int × Int) → World → Prop) (hr : Ints w rv d.nx) (hd : dfaOk d sy = true)
    (h0 : I [] w) (hE : ∀ ps w' w'', I ps w' → Ext w' w'' → I ps w'') (hI : ∀ ps w', I ps w' → Ints w' rv d.nx)
    (hs : ∀ k w', I (orgK d t sy k) w' → (hk : k < d.nx.length) → d.nx.getD k 0 = t → Calls Tryz.prog 70 (#[.int .i64 ((k : Int) / sy), .int .i64 ((k : Int) % sy)] ++ lb) w' fun e w'' => e = .returned (.tuple #[]) ∧ I (orgK d t sy (k + 1)) w'') :
    Calls Tryz.prog 69 #[.agg #[.int .i64 d.st, rv], .int .i64 t, .int .i64 sy, .func (.func 70) #[] lb] w fun e w' => e = .returned (.tuple #[]) ∧ I (orgD d t sy) w' := by
  obtain ⟨⟨h1, h1'⟩, ⟨h2, h2'⟩, hlen, hall, _⟩ := dfaOk_parts hd
  have hl120 : (d.nx.length : Int) ≤ 120 := by
    have := Int.mul_le_mul h2' h1' (by omega) (by omega)
    omega
  clear hlen hall
  obtain ⟨A, c, rfl, g1, g2⟩ := hr.form
  obtain ⟨w1, bk, e1, e2, hx, p0, p1, bB, hsz⟩ := box2 w (.int .i64 d.st) (.slice A d.nx.length c) 30
  have E1 := Lib.hid e1
  have E2 := Lib.hid e2
  clear e1 e2
  go_enter Tryz.func69, Tryz.ntmps69
  go_wp2_with fail
  rw [E1.out, E2.out]
  go_loopw [13, 8, 9] (fun i a2 a3 wr => ∃ k : Nat, k ≤ d.nx.length ∧ i = .int .i64 k ∧ I (orgK d t sy k) wr) (fun i _ _ _ => d.nx.length - (intOf i).toNat)
  case atStart => exact ⟨0, Nat.zero_le _, rfl, hE _ _ _ h0 hx⟩
  case round =>
    obtain ⟨k, hk, rfl, hX⟩ := hrel
    by_cases hlt : k < d.nx.length
    · obtain ⟨b, off, rfl, hc⟩ := (hI _ _ hX).at hlt
      have c0 := hc k hlt
      clear hc
      obtain ⟨z, hz⟩ : ∃ z, z = d.nx[k] := ⟨_, rfl⟩
      have hg : Hid (d.nx.getD k 0 = z) := Lib.hid (by rw [hz, List.getD_eq_getElem?_getD, List.getElem?_eq_getElem hlt, Option.getD_some])
      rw [← hz] at c0
      clear hz
      by_cases he : z = t
      · have hcall := hs k wr.drew (hE _ _ _ hX (Ext.drew _)) hlt (hg.out.trans he)
        go_wp2_with fail
        have hz0 : ¬ sy = 0 := by omega
        have hw1 : IntKind.i64.wrap ((k : Int) / sy) = (k : Int) / sy := IntWalk.i64_in _ (by
          have e1 : 0 ≤ (k : Int) / sy := Int.ediv_nonneg (by omega) (by omega)
          have e2 : (k : Int) / sy ≤ k := Int.ediv_le_self _ (by omega)
          omega)
        have hw2 : (k : Int).tmod sy = (k : Int) % sy := Int.tmod_eq_emod_of_nonneg (by omega)
        have hw3 : (k : Int).tdiv sy = (k : Int) / sy := Int.tdiv_eq_ediv_of_nonneg (by omega)
        go_still_tail 7, (by kernel_rfl)
        change wpList _ _ _ _ _ wr.drew
        go_wp2_with (go_at_call 70; refine hcall.mono ?_; rintro e w2 ⟨rfl, hX2⟩)
        go_roundw
        case rel => exact ⟨k + 1, by omega, by go_num, hX2⟩
        case measure => simp [intOf]; omega
      · have ho : orgK d t sy (k + 1) = orgK d t sy k := orgK_no (by rw [hg.out]; exact he)
        go_wp2
        go_roundw
        case rel => exact ⟨k + 1, by omega, by go_num, by rw [ho]; exact hX⟩
        case measure => simp [intOf]; omega
    · have hk' : k = d.nx.length := by omega
      subst hk'
      go_wp2
      go_end0
      exact ⟨rfl, hX⟩
set_option maxRecDepth 20000 in
theorem succ2_c (base : Nat) (w : World) (bs bl bf bi br : Nat) (l : List Outl) (lv : Value) (bm : Nat) (x u t : Int) (r : RuleD) (h : FSt base w bs bl l lv bm) (hb : base ≤ w.heap.size) (hn : l.length ≤ 100000)
    (hf : Blk w bf 95 #[.func (.func 46) #[] #[.pointer (some ⟨bs, 0, none⟩), .pointer (some ⟨bl, 0, none⟩)]]) (hi : Blk w bi 2 #[.int .i64 x]) (hr : Blk w br 87 #[.int .i64 r.w, .int .i64 r.m, .int .i64 r.n])
    (ha : smallO (u, r.n, t, x)) :
    Calls Tryz.prog 71 #[.int .i64 u, .int .i64 t, .pointer (some ⟨bf, 0, none⟩), .pointer (some ⟨br, 0, none⟩), .pointer (some ⟨bi, 0, none⟩)] w fun e w' => e = .returned (.tuple #[]) ∧ FRes base w bs bl (addA l (u, r.n, t, x)) bm w' := by
  have c0 := hf.cell 0
  have c1 := hi.cell 0
  have c2 := hr.cell 2
  simp only [List.getElem?_toArray, List.getElem?_cons_zero, List.getElem?_cons_succ] at c0 c1 c2
  go_enter Tryz.func71, Tryz.ntmps71
  go_wp2_with (go_at_call 46; refine (find_c base w bs bl l (u, r.n, t, x) lv bm h hb hn ha).mono ?_; rintro e w' ⟨rfl, hF⟩)
  go_end0
  exact ⟨rfl, hF⟩
/-- A function is called with each origin. -/
theorem origins2_c (lb : Array Value) (rv : Value) (d : DfaD) (t sy : Int) (w : World) (I : List (Int × Int) → World → Prop) (hr : Ints w rv d.nx) (hd : dfaOk d sy = true)
    (h0 : I [] w) (hE : ∀ ps w' w'', I ps w' → Ext w' w'' → I ps w'') (hI : ∀ ps w', I ps w' → Ints w' rv d.nx)
    (hs : ∀ k w', I (orgK d t sy k) w' → (hk : k < d.nx.length) → d.nx.getD k 0 = t → Calls Tryz.prog 71 (#[.int .i64 ((k : Int) / sy), .int .i64 ((k : Int) % sy)] ++ lb) w' fun e w'' => e = .returned (.tuple #[]) ∧ I (orgK d t sy (k + 1)) w'') :
    Calls Tryz.prog 69 #[.agg #[.int .i64 d.st, rv], .int .i64 t, .int .i64 sy, .func (.func 71) #[] lb] w fun e w' => e = .returned (.tuple #[]) ∧ I (orgD d t sy) w' := by
  obtain ⟨⟨h1, h1'⟩, ⟨h2, h2'⟩, hlen, hall, _⟩ := dfaOk_parts hd
  have hl120 : (d.nx.length : Int) ≤ 120 := by
    have := Int.mul_le_mul h2' h1' (by omega) (by omega)
    omega
  clear hlen hall
  obtain ⟨A, c, rfl, g1, g2⟩ := hr.form
  obtain ⟨w1, bk, e1, e2, hx, p0, p1, bB, hsz⟩ := box2 w (.int .i64 d.st) (.slice A d.nx.length c) 30
  have E1 := Lib.hid e1
  have E2 := Lib.hid e2
  clear e1 e2
  go_enter Tryz.func69, Tryz.ntmps69
  go_wp2_with fail
  rw [E1.out, E2.out]
  go_loopw [13, 8, 9] (fun i a2 a3 wr => ∃ k : Nat, k ≤ d.nx.length ∧ i = .int .i64 k ∧ I (orgK d t sy k) wr) (fun i _ _ _ => d.nx.length - (intOf i).toNat)
  case atStart => exact ⟨0, Nat.zero_le _, rfl, hE _ _ _ h0 hx⟩
  case round =>
    obtain ⟨k, hk, rfl, hX⟩ := hrel
    by_cases hlt : k < d.nx.length
    · obtain ⟨b, off, rfl, hc⟩ := (hI _ _ hX).at hlt
      have c0 := hc k hlt
      clear hc
      obtain ⟨z, hz⟩ : ∃ z, z = d.nx[k] := ⟨_, rfl⟩
      have hg : Hid (d.nx.getD k 0 = z) := Lib.hid (by rw [hz, List.getD_eq_getElem?_getD, List.getElem?_eq_getElem hlt, Option.getD_some])
      rw [← hz] at c0
      clear hz
      by_cases he : z = t
      · have hcall := hs k wr.drew (hE _ _ _ hX (Ext.drew _)) hlt (hg.out.trans he)
        go_wp2_with fail
        have hz0 : ¬ sy = 0 := by omega
        have hw1 : IntKind.i64.wrap ((k : Int) / sy) = (k : Int) / sy := IntWalk.i64_in _ (by
          have e1 : 0 ≤ (k : Int) / sy := Int.ediv_nonneg (by omega) (by omega)
          have e2 : (k : Int) / sy ≤ k := Int.ediv_le_self _ (by omega)
          omega)
        have hw2 : (k : Int).tmod sy = (k : Int) % sy := Int.tmod_eq_emod_of_nonneg (by omega)
        have hw3 : (k : Int).tdiv sy = (k : Int) / sy := Int.tdiv_eq_ediv_of_nonneg (by omega)
        go_still_tail 7, (by kernel_rfl)
        change wpList _ _ _ _ _ wr.drew
        go_wp2_with (go_at_call 71; refine hcall.mono ?_; rintro e w2 ⟨rfl, hX2⟩)
        go_roundw
        case rel => exact ⟨k + 1, by omega, by go_num, hX2⟩
        case measure => simp [intOf]; omega
      · have ho : orgK d t sy (k + 1) = orgK d t sy k := orgK_no (by rw [hg.out]; exact he)
        go_wp2
        go_roundw
        case rel => exact ⟨k + 1, by omega, by go_num, by rw [ho]; exact hX⟩
        case measure => simp [intOf]; omega
    · have hk' : k = d.nx.length := by omega
      subst hk'
      go_wp2
      go_end0
      exact ⟨rfl, hX⟩
end Go.Proofs.YtkdigfgodjjiaaaGreat
