/- Contracts of the reference's small parts of a run of a machine: copies, sides of the tape, the index of the rule.
Contracts of the reference's small parts of a run of a machine, continued.
Contracts of the reference's reading of machines, as far as the known machines want it: cells of three signs, numbers of one digit.
Contract of the reference's reading of a machine from a text that stands for one.
Contracts of the reference's draws of machines. The sizes are small.
Contracts of the reference's draws of machines, continued: the known machines, a machine that is valid.
Contracts of the reference's draws of machines, continued: a machine that is valid, one that may be bent.
Contracts of the reference's draws of machines, continued: a machine is bent.
Contracts of the reference's draws of machines, continued: any machine, a small machine, a machine that is decided.
Contract of the reference's draw of a machine that is decided. -/
import Derived.Test.YtapjofbjedpmgaaGreatC04
import Derived.Test.YtapjofbjedpmgaaGreatC03
import Derived.Test.YtapjofbjedpmgaaGreatC02
import Derived.Maps.AppendAt
import Derived.Deep.AppendLies
import Derived.Deep.RegionLaw
import Derived.Deep.RegionHeld3
section
namespace Go.Proofs.YtapjofbjedpmgaaGreat
open Go Go.RowKit Go.Proofs
set_option maxHeartbeats 400000
theorem l00Own0_c (A : Option Addr) (c : Nat) (w : World) :
    Calls Tryz.prog 95 #[.slice A 0 c] w fun e w' => ∃ u, e = .returned u ∧ OwnInts w.heap.size w' u [] ∧ Ext w w' := by
  have hown0 : (w.alloc (.cells #[] 2)).ownsRow w.heap.size 2 1 (.slice (some ⟨w.heap.size, 0, none⟩) 0 0) 0 [] :=
    World.ownsRow_made (base := w.heap.size) (e := 2) (size := 1) w #[] 0 (by simp) (by unfold maxLen; omega) (by simp)
  have HO := Lib.hid hown0
  clear hown0
  cases A with
  | none =>
    go_enter Tryz.func95, Tryz.ntmps95
    go_wp2
    go_ret
    exact ⟨_, rfl, HO.out, Ext.alloc _ _⟩
  | some a =>
    go_enter Tryz.func95, Tryz.ntmps95
    go_wp2
    go_ret
    exact ⟨_, rfl, HO.out, Ext.alloc _ _⟩
theorem l00OwnA_c (v : Value) (zs : List Int) (w : World) (h : Ints w v zs) (h1 : zs.length ≤ 1048576) :
    Calls Tryz.prog 95 #[v] w fun e w' => ∃ u, e = .returned u ∧ OwnInts w.heap.size w' u zs ∧ Ext w w' := by
  by_cases h0 : 0 < zs.length
  · exact l00Own_c v zs w h h0 h1
  · have hz : zs = [] := by simpa using h0
    subst hz
    obtain ⟨A, c, rfl, _, _⟩ := h.form
    exact l00Own0_c A c w
theorem Ints.take {w : World} {A : Option Addr} {c : Nat} {zs : List Int} (h : Ints w (.slice A zs.length c) zs) (k : Nat) (hk : k ≤ zs.length) : Ints w (.slice A k c) (zs.take k) := by
  obtain ⟨A', c', hv, g1, g2, g3, g4⟩ := h
  injection hv with hA _ hc
  subst hA
  subst hc
  have hl : (zs.take k).length = k := by simp; omega
  refine ⟨A, c, by rw [hl], by omega, g2, by simp [ivs], fun hn => ?_⟩
  rw [hl] at hn
  obtain ⟨b, off, hA, hcc⟩ := g4 (by omega)
  refine ⟨b, off, hA, fun j hj => ?_⟩
  have hj' : j < k := by rw [ivs_length, hl] at hj; exact hj
  rw [hcc j (by rw [ivs_length]; omega), ivs_get zs j (by omega), ivs_get (zs.take k) j (by omega)]
  simp
/-- How many cells a side keeps when the blanks at its end go. -/
def trimN (xs : List Int) : Nat → Nat
  | 0 => 0
  | n + 1 => if xs.getD n 0 = 0 then trimN xs n else n + 1
def trim (xs : List Int) : List Int := xs.take (trimN xs xs.length)
theorem trimN_le (xs : List Int) (n : Nat) : trimN xs n ≤ n := by
  induction n with
  | zero => exact Nat.le_refl _
  | succ n ih => unfold trimN; split <;> omega
theorem trim_len (xs : List Int) : (trim xs).length ≤ xs.length := by have := trimN_le xs xs.length; simp [trim]; omega
theorem trim_mem {xs : List Int} {z : Int} (h : z ∈ trim xs) : z ∈ xs := List.mem_of_mem_take h
theorem l05Trim_c (v : Value) (xs : List Int) (w : World) (h : Ints w v xs) (h1 : xs.length ≤ 1048576) :
    Calls Tryz.prog 55 #[v] w fun e w' => ∃ u, e = .returned u ∧ OwnInts w.heap.size w' u (trim xs) ∧ Ext w w' := by
  have hI := h
  obtain ⟨A, c, rfl, h2, h2'⟩ := h.form
  go_enter Tryz.func55, Tryz.ntmps55
  go_wp2
  go_loopw [3] (fun i wr => ∃ n : Nat, n ≤ xs.length ∧ i = .int .i64 n ∧ wr = w ∧ trimN xs xs.length = trimN xs n) (fun i _ => (intOf i).toNat)
  case atStart => exact ⟨_, Nat.le_refl _, rfl, rfl, rfl⟩
  case round =>
    obtain ⟨n, hn, rfl, rfl, ht⟩ := hrel
    have HT := Lib.hid ht
    clear ht
    have done : trimN xs n = n → Ints wr (.slice A n c) (trim xs) := fun e => by
      have := hI.take n hn
      unfold trim
      rw [HT.out, e]
      exact this
    have DONE := Lib.hid done
    clear done
    by_cases h0 : n = 0
    · subst h0
      have hD := DONE.out rfl
      have hl : (trim xs).length ≤ 1048576 := by have := trim_len xs; omega
      have i1 : (0 : Int) ≤ (c : Int) := by omega
      go_wp2_with fail
      refine (l00OwnA_c _ _ _ hD hl).mono ?_
      rintro e w2 ⟨u, rfl, ho, hx⟩
      go_wp2
      go_ret
      exact ⟨_, rfl, ho, hx⟩
    · obtain ⟨k, rfl⟩ : ∃ k, n = k + 1 := ⟨n - 1, by omega⟩
      obtain ⟨b, off, rfl, hc⟩ := h.at (k := k) (by omega)
      have c0 := hc k (by omega)
      have eg : xs.getD k 0 = xs[k] := by rw [List.getD_eq_getElem?_getD, List.getElem?_eq_getElem (by omega)]; rfl
      have HEG := Lib.hid eg
      have hk0 : (0 : Int) < (k : Int) + 1 := by omega
      have hk1 : (k : Int) + 1 - 1 = (k : Int) := by omega
      clear hc eg
      by_cases hz : xs[k] = 0
      · have HZ := Lib.hid hz
        rw [hz] at c0
        clear hz
        go_wp2
        go_roundw
        case rel => exact ⟨k, by omega, by go_num, by first | rfl | trivial, by rw [HT.out]; show (if xs.getD k 0 = 0 then _ else _) = _; rw [if_pos (by rw [HEG.out, HZ.out])]⟩
        case measure => simp [intOf]
      · have hD := DONE.out (by show (if xs.getD k 0 = 0 then _ else _) = _; rw [if_neg (by rw [HEG.out]; exact hz)])
        have hl : (trim xs).length ≤ 1048576 := by have := trim_len xs; omega
        have Z : (xs[k] == 0) = false := beq_eq_false_iff_ne.2 hz
        have i1 : (k : Int) + 1 ≤ (c : Int) := by omega
        have i2 : (0 : Int) ≤ (k : Int) + 1 := by omega
        go_wp2_with fail
        refine (l00OwnA_c _ _ _ hD hl).mono ?_
        rintro e w2 ⟨u, rfl, ho, hx⟩
        go_wp2
        go_ret
        exact ⟨_, rfl, ho, hx⟩
end Go.Proofs.YtapjofbjedpmgaaGreat
namespace Go.Proofs.YtapjofbjedpmgaaGreat
open Go Go.RowKit Go.Proofs
set_option maxHeartbeats 400000
structure ConfR where
  q : Int
  l : List Int
  r : List Int
/-- A configuration in memory. -/
def ConfAt (w : World) (b : Nat) (c : ConfR) : Prop := ∃ lv rv, w.cell? ⟨b, 0, none⟩ = some (.int .i64 c.q) ∧ w.cell? ⟨b, 1, none⟩ = some lv ∧ w.cell? ⟨b, 2, none⟩ = some rv ∧ Ints w lv c.l ∧ Ints w rv c.r
theorem ConfAt.ext {w w' : World} {b : Nat} {c : ConfR} (h : ConfAt w b c) (he : Ext w w') : ConfAt w' b c := by
  obtain ⟨lv, rv, h1, h2, h3, h4, h5⟩ := h
  exact ⟨lv, rv, he.cell h1, he.cell h2, he.cell h3, h4.ext he, h5.ext he⟩
end Go.Proofs.YtapjofbjedpmgaaGreat
end
section
namespace Go.Proofs.YtapjofbjedpmgaaGreat
open Go Go.RowKit Go.Proofs
set_option maxHeartbeats 400000
theorem l01Digit_c (c : Int) (w : World) : Calls Tryz.prog 132 #[.int .u8 c] w fun e w' => e = .returned (.bool (decide (48 ≤ c) && decide (c ≤ 57))) ∧ w = w' := by
  by_cases h : 48 ≤ c
  · have hd : decide (48 ≤ c) = true := by simp [h]
    go_enter Tryz.func132, Tryz.ntmps132
    go_wp2
    go_ret
    exact ⟨by simp [h], rfl⟩
  · have hd : decide (48 ≤ c) = false := by simp [h]
    go_enter Tryz.func132, Tryz.ntmps132
    go_wp2
    go_ret
    exact ⟨by simp, rfl⟩
theorem num1_c (s : ByteArray) (w : World) (s1 : 1 ≤ s.size) (s2 : s.size ≤ 1) (d : Nat) (hd : (s[0]'(by omega)).toNat = d) (h1 : 48 ≤ d) (h2 : d ≤ 57) :
    Calls Tryz.prog 133 #[.string s] w fun e w' => e = .returned (.tuple #[.int .i64 ((d : Int) - 48), .bool true]) ∧ w = w' := by
  have z0 : ((s.size : Int) == 0) = false := by rw [beq_eq_false_iff_ne]; omega
  have hne : ((d : Int) == 45) = false := by rw [beq_eq_false_iff_ne]; omega
  have hpos : decide (0 < s.size) = true := by simp; omega
  have hbig : decide (18 < s.size) = false := by simp; omega
  have hone : decide (1 < s.size) = false := by simp; omega
  cases h48 : ((d : Int) == 48)
  all_goals
    go_enter Tryz.func133, Tryz.ntmps133
    go_wp2
    go_loop [5, 6] (fun n i => ∃ k : Nat, k ≤ 1 ∧ i = .int .i64 k ∧ n = .int .i64 (if k = 0 then 0 else (d : Int) - 48)) (fun _ i => 1 - (intOf i).toNat)
    case atStart => exact ⟨0, by omega, rfl, rfl⟩
    case round =>
      obtain ⟨k, hk, rfl, rfl⟩ := hrel
      by_cases hk0 : k = 0
      · subst hk0
        rw [if_pos rfl]
        have hdig : (decide (48 ≤ (d : Int)) && decide ((d : Int) ≤ 57)) = true := by simp; omega
        have hlt0 : decide (0 < s.size) = true := hpos
        go_wp2_with fail
        refine (l01Digit_c _ _).mono ?_
        rintro e w' ⟨rfl, rfl⟩
        rw [hdig]
        go_wp2
        go_round
        case rel => exact ⟨1, by omega, rfl, by rw [if_neg (by omega)]⟩
        case measure => simp [intOf]
      · have hk1 : k = 1 := by omega
        subst hk1
        rw [if_neg (by omega)]
        go_wp2
        go_ret2
        exact ⟨rfl, rfl⟩
/-- A cell of a known machine. -/
def ruleOfB (s : ByteArray) : Option RuleD :=
  match s.data.toList with
  | [a, b, c] => if a = 45 ∧ b = 45 ∧ c = 45 then some noR else if 48 ≤ a.toNat ∧ a.toNat ≤ 57 ∧ (b = 76 ∨ b = 82) ∧ 48 ≤ c.toNat ∧ c.toNat ≤ 57 then some ⟨(a.toNat : Int) - 48, if b = 76 then -1 else 1, (c.toNat : Int) - 48⟩ else none
  | _ => none
theorem toList3 (a b c : UInt8) : (⟨#[a, b, c]⟩ : ByteArray).toList = [a, b, c] := by
  unfold ByteArray.toList
  unfold ByteArray.toList.loop
  unfold ByteArray.toList.loop
  unfold ByteArray.toList.loop
  unfold ByteArray.toList.loop
  rfl
theorem ruleOfB_ways {s : ByteArray} {r : RuleD} (h : ruleOfB s = some r) : (s = ⟨#[45, 45, 45]⟩ ∧ r = noR) ∨
    (∃ (g1 : 3 ≤ s.size) (d0 d1 d2 : Nat), (s.toList == [45, 45, 45]) = false ∧ s.size ≤ 3 ∧ (s[0]'(by omega)).toNat = d0 ∧ (s[1]'(by omega)).toNat = d1 ∧ (s[2]'(by omega)).toNat = d2 ∧ 48 ≤ d0 ∧ d0 ≤ 57 ∧ 48 ≤ d2 ∧ d2 ≤ 57 ∧
      ((d1 = 76 ∧ r = ⟨(d0 : Int) - 48, -1, (d2 : Int) - 48⟩) ∨ (d1 = 82 ∧ r = ⟨(d0 : Int) - 48, 1, (d2 : Int) - 48⟩))) := by
  obtain ⟨⟨l⟩⟩ := s
  unfold ruleOfB at h
  match l, h with
  | [a, b, c], h =>
    simp only at h
    split at h
    · rename_i hh
      obtain ⟨rfl, rfl, rfl⟩ := hh
      injection h with h
      exact .inl ⟨rfl, h.symm⟩
    · rename_i hno
      split at h
      · rename_i hh
        obtain ⟨k1, k2, k3, k4, k5⟩ := hh
        injection h with h
        refine .inr ⟨Nat.le_refl 3, a.toNat, b.toNat, c.toNat, by rw [toList3, beq_eq_false_iff_ne]; intro e; injection e with e1 e; injection e with e2 e; injection e with e3 _; exact hno ⟨e1, e2, e3⟩, Nat.le_refl 3, rfl, rfl, rfl, k1, k2, k4, k5, ?_⟩
        rcases k3 with rfl | rfl
        · exact .inl ⟨rfl, by rw [← h, if_pos rfl]⟩
        · exact .inr ⟨rfl, by rw [← h, if_neg (by decide)]⟩
      · cases h
set_option maxHeartbeats 1000000 in
theorem l05ReadRule_c (s : ByteArray) (r : RuleD) (w : World) (h : ruleOfB s = some r) :
    Calls Tryz.prog 115 #[.string s] w fun e w' => e = .returned (.tuple #[.agg #[.int .i64 r.w, .int .i64 r.m, .int .i64 r.n], .bool true]) ∧ Ext w w' := by
  have hx0 := Ext.alloc w (.cells #[.int .i64 0, .int .i64 0, .int .i64 0] 65)
  have b0 := Blk.new w w.heap.size 65 #[.int .i64 0, .int .i64 0, .int .i64 0] rfl
  rcases ruleOfB_ways h with ⟨rfl, rfl⟩ | ⟨g1, d0, d1, d2, hns, g2, hd0, hd1, hd2, k1, k2, k4, k5, hr⟩
  · clear h
    go_enter Tryz.func115, Tryz.ntmps115
    go_wp2_with fail
    refine (l05None_c _).mono ?_
    rintro e w1 ⟨rfl, hx1⟩
    have d := (b0.ext hx1).cell
    have f := (b0.ext hx1).frozen
    go_wp2
    refine bodyPost_ret (v := .tuple #[.agg #[.int .i64 0, .int .i64 0, .int .i64 (-1)], .bool true]) (by simp [results, Tryz.results115, go_sem, d]) rfl ⟨rfl, ?_⟩
    exact ((((hx0.trans hx1).setCell (Nat.le_refl _) _).setCell (Nat.le_refl _) _).setCell (Nat.le_refl _) _)
  · have hd3 : decide (s.size < 3) = false := by simp; omega
    have hd3' : decide ((s.size : Int) < 3) = false := by simp; omega
    have hdig : (decide (48 ≤ (d0 : Int)) && decide ((d0 : Int) ≤ 57)) = true := by simp; omega
    have i0 : (0 : Int) < (s.size : Int) := by omega
    have i1 : (1 : Int) < (s.size : Int) := by omega
    have i2 : (2 : Int) ≤ (s.size : Int) := by omega
    obtain ⟨sub, hsub⟩ : ∃ t, t = s.extract 2 s.size := ⟨_, rfl⟩
    have u1 : 1 ≤ sub.size := by rw [hsub]; simp; omega
    have u2 : sub.size ≤ 1 := by rw [hsub]; simp; omega
    have u3 : (sub[0]'(by omega)).toNat = d2 := by
      subst hsub
      rw [← hd2]
      congr 1
      rw [ByteArray.getElem_extract]
    have hpos : decide (0 ≤ (d2 : Int) - 48) = true := by simp; omega
    have e1 : IntKind.u8.wrap ((d0 : Int) - 48) = (d0 : Int) - 48 := by rw [IntKind.wrap_u8]; omega
    clear h
    rcases hr with ⟨rfl, rfl⟩ | ⟨rfl, rfl⟩
    all_goals
      go_enter Tryz.func115, Tryz.ntmps115
      go_wp2_with fail
      refine (l01Digit_c _ _).mono ?_
      rintro e w' ⟨rfl, rfl⟩
      rw [hdig]
      go_wp2_with fail
      (try rw [← hsub])
      refine (num1_c sub _ u1 u2 d2 u3 k4 k5).mono ?_
      rintro e w' ⟨rfl, rfl⟩
      have hk48 : decide (48 ≤ (d2 : Int)) = true := by simp; omega
      go_wp2
      first
        | refine bodyPost_ret (v := .tuple #[.agg #[.int .i64 ((d0 : Int) - 48), .int .i64 (-1), .int .i64 ((d2 : Int) - 48)], .bool true]) (by simp [results, Tryz.results115, go_sem] <;> omega) rfl ⟨rfl, (Ext.alloc _ _).trans (Ext.alloc _ _)⟩
        | refine bodyPost_ret (v := .tuple #[.agg #[.int .i64 ((d0 : Int) - 48), .int .i64 1, .int .i64 ((d2 : Int) - 48)], .bool true]) (by simp [results, Tryz.results115, go_sem] <;> omega) rfl ⟨rfl, (Ext.alloc _ _).trans (Ext.alloc _ _)⟩
/-- A slice of texts in memory of the call's own. -/
def OwnStrs (base : Nat) (w : World) (v : Value) (xs : List ByteArray) : Prop := w.ownsRow base 9 1 v xs.length (xs.map Value.string)
theorem OwnStrs.ext {base : Nat} {w w' : World} {v : Value} {xs : List ByteArray} (h : OwnStrs base w v xs) (he : Ext w w') : OwnStrs base w' v xs := ownsRow_ext h he
theorem OwnStrs.cell {base : Nat} {w : World} {A : Option Addr} {c : Nat} {xs : List ByteArray} (h : OwnStrs base w (.slice A xs.length c) xs) {k : Nat} (hk : k < xs.length) : ∃ g, A = some ⟨g, 0, none⟩ ∧ w.cell? ⟨g, k, none⟩ = some (.string xs[k]) := by
  obtain ⟨g, rfl, _, _⟩ := own_at h (by omega)
  refine ⟨g, rfl, ?_⟩
  have := World.ownsRow.cellAt h k (by omega)
  rw [this]
  simp [hk]
theorem strInfoD : (Tryz.prog.info? 9).map (fun i => (i.zero, i.size, i.bytes)) = some (some (.string ⟨#[]⟩), 1, 16) := by kernel_rfl
/-- The pieces of a text between separators, after i bytes, and where the next one begins. -/
def splitTo (s : ByteArray) (d : Nat) : Nat → List ByteArray × Nat
  | 0 => ([], 0)
  | i + 1 => if (s.data.getD i 0).toNat = d then ((splitTo s d i).1 ++ [s.extract (splitTo s d i).2 i], i + 1) else splitTo s d i
def splitS (s : ByteArray) (d : Nat) : List ByteArray := (splitTo s d s.size).1 ++ [s.extract (splitTo s d s.size).2 s.size]
theorem splitTo_le (s : ByteArray) (d i : Nat) : (splitTo s d i).2 ≤ i ∧ (splitTo s d i).1.length ≤ i := by
  induction i with
  | zero => simp [splitTo]
  | succ i ih =>
    unfold splitTo
    split
    · simp; omega
    · omega
set_option maxHeartbeats 1000000 in
theorem l01Split_c (s : ByteArray) (d : Nat) (w : World) (hs : s.size ≤ 1000) :
    Calls Tryz.prog 114 #[.string s, .int .u8 d] w fun e w' => (∃ u, e = .returned u ∧ OwnStrs w.heap.size w' u (splitS s d)) ∧ Ext w w' := by
  obtain ⟨i0, hi, hz0, hz1, hz2⟩ := info_parts strInfoD
  have hown0 : (w.alloc (.cells #[] 9)).ownsRow w.heap.size 9 1 (.slice (some ⟨w.heap.size, 0, none⟩) 0 0) 0 [] :=
    World.ownsRow_made (base := w.heap.size) (e := 9) (size := 1) w #[] 0 (by simp) (by unfold maxLen; omega) (by simp)
  go_enter Tryz.func114, Tryz.ntmps114
  go_wp2
  go_loopw [5, 6, 7] (fun o f i wr => ∃ k : Nat, k ≤ s.size ∧ i = .int .i64 k ∧ f = .int .i64 (splitTo s d k).2 ∧ OwnStrs w.heap.size wr o (splitTo s d k).1 ∧ Ext w wr) (fun _ _ i _ => s.size - (intOf i).toNat)
  case atStart => exact ⟨0, Nat.zero_le _, rfl, rfl, hown0, Ext.alloc _ _⟩
  case round =>
    clear hown0
    obtain ⟨k, hk, rfl, rfl, ho, hX⟩ := hrel
    obtain ⟨q1, q2⟩ := splitTo_le s d k
    by_cases hlt : k < s.size
    · have HN : Hid (splitTo s d (k + 1) = if s[k].toNat = d then ((splitTo s d k).1 ++ [s.extract (splitTo s d k).2 k], k + 1) else splitTo s d k) := by
        unfold Hid
        have e : (s.data.getD k 0) = s[k] := by
          rw [Array.getD_eq_getD_getElem?, Array.getElem?_eq_getElem (by simpa using hlt)]
          rfl
        show (if (s.data.getD k 0).toNat = d then _ else _) = _
        rw [e]
      obtain ⟨p, hp⟩ : ∃ p, splitTo s d k = p := ⟨_, rfl⟩
      rw [hp] at ho q1 q2 HN ⊢
      obtain ⟨A, c, hv, k1, k2, _⟩ := (ownsRow_row ho).form
      subst hv
      clear hp
      by_cases he : s[k].toNat = d
      · have heq : ((s[k].toNat : Int) == (d : Int)) = true := by simp [he]
        have HN2 := Lib.hid (HN.out.trans (if_pos he))
        clear HN he
        have b1 : (p.2 : Int) ≤ (k : Int) := by omega
        have b2 : (k : Int) ≤ (s.size : Int) := by omega
        go_wp2_with (at_builtin; refine wpList_append_own_at _ rfl _ _ 130 rfl w.heap.size 9 i0 _ 1 16 Tryz.underlying130 hi hz0 hz1 hz2 rfl (by decide) _ _ _ rfl (World.ownsRow.alloc ho _) ⟨wr.heap.size, 0, none⟩ 1 1 [.string (s.extract p.2 k)] rfl rfl (cell_one_new _ _ _) ?c2 ?c3 ?c4 ?c5 ?_)
        case c2 => intro u hu; simp at hu; subst hu; rfl
        case c3 => unfold maxLen; omega
        case c4 => omega
        case c5 => have := hX.size; simp; omega
        intro v' w7 hown7 hg7 _ _
        obtain ⟨A', c', rfl, _, _, _⟩ := (ownsRow_row hown7).form
        have hX7 : Ext w w7 := (hX.trans (Ext.alloc _ _)).grown hg7 (fun b hb => (World.ownsRow.lt ho b hb).1)
        go_wp2
        go_roundw
        case rel => exact ⟨k + 1, by omega, by go_num, by rw [HN2.out]; go_num, by rw [HN2.out]; simpa [OwnStrs] using hown7, hX7⟩
        case measure => simp [intOf]; omega
      · have heq : ((s[k].toNat : Int) == (d : Int)) = false := by rw [beq_eq_false_iff_ne]; omega
        have HN2 := Lib.hid (HN.out.trans (if_neg he))
        clear HN he
        go_wp2
        go_roundw
        case rel => exact ⟨k + 1, by omega, by go_num, by rw [HN2.out], by rw [HN2.out]; exact ho, hX⟩
        case measure => simp [intOf]; omega
    · have hke : k = s.size := by omega
      subst hke
      obtain ⟨p, hp⟩ : ∃ p, splitTo s d s.size = p := ⟨_, rfl⟩
      have HP : Hid (splitS s d = p.1 ++ [s.extract p.2 s.size]) := by unfold Hid splitS; rw [hp]
      rw [hp] at ho q1 q2 ⊢
      clear hp
      obtain ⟨A, c, hv, k1, k2, _⟩ := (ownsRow_row ho).form
      subst hv
      have b1 : (p.2 : Int) ≤ (s.size : Int) := by omega
      go_wp2_with (at_builtin; refine wpList_append_own_at _ rfl _ _ 130 rfl w.heap.size 9 i0 _ 1 16 Tryz.underlying130 hi hz0 hz1 hz2 rfl (by decide) _ _ _ rfl (World.ownsRow.alloc ho _) ⟨wr.heap.size, 0, none⟩ 1 1 [.string (s.extract p.2 s.size)] rfl rfl (cell_one_new _ _ _) ?c2 ?c3 ?c4 ?c5 ?_)
      case c2 => intro u hu; simp at hu; subst hu; rfl
      case c3 => unfold maxLen; omega
      case c4 => omega
      case c5 => have := hX.size; simp; omega
      intro v' w7 hown7 hg7 _ _
      have hX7 : Ext w w7 := (hX.trans (Ext.alloc _ _)).grown hg7 (fun b hb => (World.ownsRow.lt ho b hb).1)
      go_wp2
      go_ret
      exact ⟨⟨_, rfl, by rw [HP.out]; simpa [OwnStrs] using hown7⟩, hX7⟩
end Go.Proofs.YtapjofbjedpmgaaGreat
namespace Go.Proofs.YtapjofbjedpmgaaGreat
open Go Go.RowKit Go.Proofs
set_option maxHeartbeats 400000
def cellsR (x : ByteArray) : List RuleD := (splitS x 44).map fun c => (ruleOfB c).getD noR
/-- The machine of a text. -/
def parseM (s : ByteArray) : MachD := ⟨(splitS ((splitS s 59).getD 0 ⟨#[]⟩) 44).length, (splitS s 59).length, (splitS s 59).flatMap cellsR⟩
def parseOk (s : ByteArray) : Bool := decide (s.size ≤ 1000) && decide ((splitS s 59).length ≤ 100) && decide ((splitS ((splitS s 59).getD 0 ⟨#[]⟩) 44).length ≤ 6) &&
  ((splitS s 59).all fun x => decide (x.size ≤ 1000) && decide ((splitS x 44).length = (splitS ((splitS s 59).getD 0 ⟨#[]⟩) 44).length) && (splitS x 44).all fun c => (ruleOfB c).isSome) && machOk (parseM s)
theorem splitS_pos (s : ByteArray) (d : Nat) : 0 < (splitS s d).length := by simp [splitS]
/-- The machine under way, in memory. -/
structure RdSt (g go : Nat) (w0 : World) (sy st : Int) (rs : List RuleD) (rv : Value) (w : World) : Prop where
  res : Blk w g 26 #[.int .i64 0, .int .i64 0, .slice none 0 0]
  mac : Blk w go 26 #[.int .i64 sy, .int .i64 st, rv]
  own : w.ownsRow g 65 3 rv rs.length (rvs rs)
  ex : Ext w0 w
  low : g < go
theorem RdSt.ext {g go : Nat} {w0 : World} {sy st : Int} {rs : List RuleD} {rv : Value} {w w' : World} (h : RdSt g go w0 sy st rs rv w) (he : Ext w w') : RdSt g go w0 sy st rs rv w' :=
  ⟨h.res.ext he, h.mac.ext he, ownsRow_ext h.own he, h.ex.trans he, h.low⟩
theorem RdSt.snoc {g go : Nat} {w0 : World} {sy st : Int} {rs : List RuleD} {rv : Value} {w w2 : World} {v' : Value} {r : RuleD} (h : RdSt g go w0 sy st rs rv w) (hg0 : w0.heap.size = g)
    (hown : w2.ownsRow g 65 3 v' (rs.length + 1) (rvs rs ++ [.int .i64 r.w, .int .i64 r.m, .int .i64 r.n])) (hg : w.grownBy w2 rv.ownBlock) :
    RdSt g go w0 sy st (rs ++ [r]) v' (w2.setCell ⟨go, 2, none⟩ v') := by
  have hro : ∀ k, rv.ownBlock = some k → g ≤ k := fun k hk => (h.own.lt k hk).1
  have m2 := Blk.apart h.mac h.own (by decide) hg
  have r2 := Blk.apart h.res h.own (by decide) hg
  have g2 : Ext w0 w2 := h.ex.grown hg (fun k hk => by have := hro k hk; omega)
  have hlow := h.low
  have far : ∀ k, v'.ownBlock = some k → k ≠ go := by
    intro k hk he
    subst he
    rcases hown.2 with ⟨rfl, _⟩ | ⟨g', cap, cur, rfl, _, hh, _⟩
    · simp [Value.ownBlock] at hk
    · have : g' = k := by simpa [Value.ownBlock] using hk
      subst this
      unfold Blk at m2
      rw [m2] at hh
      injection hh with hh
      injection hh with _ ht
      exact absurd ht (by decide)
  refine ⟨r2.far (by simp; omega) _, m2.set_ 2 _, ?_, g2.setCell (by simp; omega) _, hlow⟩
  have := ownsRow_far (p := ⟨go, 2, none⟩) hown far v'
  rw [List.length_append, List.length_cons, List.length_nil, rvs_append]
  exact this
theorem news3' (w : World) (a b c : Value) (t : TypeId) (g : Nat) (hg : w.heap.size = g) : ∀ j u, [a, b, c][j]? = some u → (w.alloc (.cells #[a, b, c] t)).cell? ((⟨g, 0, none⟩ : Addr).add j) = some u :=
  World.news_of_block (cs := #[a, b, c]) (Blk.new w g t #[a, b, c] hg)
theorem ruleInfo3 : (Tryz.prog.info? 65).map (fun i => (i.zero, i.size, i.bytes)) = some (some (.agg #[.int .i64 0, .int .i64 0, .int .i64 0]), 3, 24) := by kernel_rfl
theorem flat_take {rows : List ByteArray} {i : Nat} (h : i < rows.length) : (rows.take (i + 1)).flatMap cellsR = (rows.take i).flatMap cellsR ++ cellsR rows[i] := by
  rw [List.take_succ_eq_append_getElem h, List.flatMap_append]; simp
theorem cells_take {x : ByteArray} {k : Nat} (h : k < (splitS x 44).length) : (cellsR x).take (k + 1) = (cellsR x).take k ++ [(ruleOfB (splitS x 44)[k]).getD noR] := by
  have hl : k < (cellsR x).length := by simpa [cellsR] using h
  rw [List.take_succ_eq_append_getElem hl]
  simp [cellsR]
theorem flat_len {rows : List ByteArray} {K : Nat} (h : ∀ x ∈ rows, (splitS x 44).length = K) : (rows.flatMap cellsR).length = rows.length * K := by
  induction rows with
  | nil => simp
  | cons a l ih =>
    have h1 := h a List.mem_cons_self
    have h2 := ih fun x hx => h x (List.mem_cons_of_mem _ hx)
    simp only [List.flatMap_cons, List.length_append, List.length_cons, h2, Nat.succ_mul]
    simp [cellsR, h1]; omega
theorem own_far_blk {w : World} {base : Nat} {e : TypeId} {size : Nat} {v : Value} {n : Nat} {xs : List Value} (ho : w.ownsRow base e size v n xs) {g : Nat} {t : TypeId} {cs : Array Value} (hb : Blk w g t cs) (hne : t ≠ e) : ∀ k, v.ownBlock = some k → k ≠ g := by
  intro k hk he
  subst he
  rcases ho.2 with ⟨rfl, _⟩ | ⟨g', cap, cur, rfl, _, hh, _⟩
  · simp [Value.ownBlock] at hk
  · have : g' = k := by simpa [Value.ownBlock] using hk
    subst this
    unfold Blk at hb
    rw [hb] at hh
    injection hh with hh
    injection hh with _ ht
    exact hne ht
theorem OwnStrs.keptR {b b' : Nat} {w w2 : World} {v rv : Value} {xs : List ByteArray} {n : Nat} {ys : List Value} {go : Nat} {cs : Array Value} (h : OwnStrs b w v xs) (ho : w.ownsRow b' 65 3 rv n ys) (hb : Blk w go 26 cs) (hg : w.grownBy w2 rv.ownBlock) (u : Value) : OwnStrs b (w2.setCell ⟨go, 2, none⟩ u) v xs := by
  have h2 : w2.ownsRow b 9 1 v xs.length (xs.map Value.string) := World.ownsRow.kept h hg (own_ne h ho (by decide))
  exact ownsRow_far (p := ⟨go, 2, none⟩) h2 (own_far_blk h2 (Blk.apart hb ho (by decide) hg) (by decide)) u
set_option maxRecDepth 20000 in
set_option maxHeartbeats 4000000 in
theorem l05Read_c (s : ByteArray) (w : World) (h : parseOk s = true) :
    Calls Tryz.prog 92 #[.string s] w fun e w' => (∃ rv, e = .returned (.tuple #[.agg #[.int .i64 (parseM s).sy, .int .i64 (parseM s).st, rv], .bool true]) ∧ OwnRules w.heap.size w' rv (parseM s).rules) ∧ Ext w w' := by
  obtain ⟨i0, hi, hz0, hz1, hz2⟩ := info_parts ruleInfo3
  simp only [parseOk, Bool.and_eq_true, decide_eq_true_eq, List.all_eq_true] at h
  obtain ⟨⟨⟨⟨h1, h2⟩, h3⟩, h4⟩, h5⟩ := h
  have hpos := splitS_pos s 59
  have HM : Hid (parseM s = ⟨(splitS ((splitS s 59).getD 0 ⟨#[]⟩) 44).length, (splitS s 59).length, (splitS s 59).flatMap cellsR⟩) := rfl
  generalize hrows : splitS s 59 = rows at *
  have HR := Lib.hid hrows
  clear hrows
  have h0 : rows.getD 0 ⟨#[]⟩ = rows[0] := by rw [List.getD_eq_getElem?_getD, List.getElem?_eq_getElem hpos]; rfl
  rw [h0] at HM h3 h4
  generalize hK : (splitS rows[0] 44).length = K at *
  have HK := Lib.hid hK
  have HX := Lib.hid h4
  have HFL := Lib.hid (flat_len (rows := rows) (K := K) fun x hx => (h4 x hx).1.2)
  have HOK := Lib.hid h5
  obtain ⟨W, hW⟩ : ∃ W, W = w.alloc (.cells #[.int .i64 0, .int .i64 0, .slice none 0 0] 26) := ⟨_, rfl⟩
  have hX0 : Ext w W := by rw [hW]; exact Ext.alloc _ _
  have bR : Blk W w.heap.size 26 #[.int .i64 0, .int .i64 0, .slice none 0 0] := by rw [hW]; exact Blk.new _ _ _ _ rfl
  have hb0 := bR.lt
  clear hK h4 h5
  go_enter Tryz.func92, Tryz.ntmps92
  go_wp2_with fail
  rw [← hW]
  clear hW
  refine (l01Split_c s 59 W h1).mono ?_
  rintro e w1 ⟨⟨u1, rfl, ho1⟩, hx1⟩
  rw [HR.out] at ho1
  obtain ⟨A1, c1, rfl, k1, k2, _⟩ := (ownsRow_row ho1).form
  obtain ⟨g1, rfl, q0⟩ := ho1.cell hpos
  have hp0 : (0 : Int) < (rows.length : Int) := by omega
  have hle : decide (1000 < rows.length) = false := by simp; omega
  have hle' : decide ((1000 : Int) < (rows.length : Int)) = false := by simp; omega
  have hx0s : rows[0].size ≤ 1000 := (HX.out rows[0] (List.getElem_mem hpos)).1.1
  generalize rows[0] = r0 at *
  go_wp2_with fail
  refine (l01Split_c r0 44 w1 hx0s).mono ?_
  rintro e w2 ⟨⟨u2, rfl, ho2⟩, hx2⟩
  obtain ⟨A2, c2, rfl, _, _, _⟩ := (ownsRow_row ho2).form
  rw [HK.out]
  have hb2 : w.heap.size < w2.heap.size := (bR.ext (hx1.trans hx2)).lt
  obtain ⟨W2, hW2⟩ : ∃ V, V = w2.alloc (.cells #[.int .i64 K, .int .i64 rows.length, .slice none 0 0] 26) := ⟨_, rfl⟩
  have hXW2 : Ext w2 W2 := by rw [hW2]; exact Ext.alloc _ _
  have st0 : RdSt w.heap.size w2.heap.size w K rows.length [] (.slice none 0 0) W2 :=
    ⟨bR.ext ((hx1.trans hx2).trans hXW2), by rw [hW2]; exact Blk.new _ _ _ _ rfl, ⟨by simp [rvs], .inl ⟨rfl, rfl⟩⟩, ((hX0.trans hx1).trans hx2).trans hXW2, hb2⟩
  have os0 : OwnStrs w.heap.size W2 (.slice (some ⟨g1, 0, none⟩) rows.length c1) rows := ((show OwnStrs w.heap.size w1 _ rows from ownsRow_base ho1 hX0.size).ext hx2).ext hXW2
  clear ho1 q0 ho2
  go_wp2
  rw [← hW2]
  clear hW2
  generalize hgo : w2.heap.size = go at *
  generalize hg : w.heap.size = g at *
  have HG := Lib.hid hg
  clear hgo hg
  go_loopw [6] (fun i wr => ∃ (j : Nat) (rv : Value), j ≤ rows.length ∧ i = .int .i64 j ∧ RdSt g go w K rows.length ((rows.take j).flatMap cellsR) rv wr ∧ OwnStrs g wr (.slice (some ⟨g1, 0, none⟩) rows.length c1) rows) (fun i _ => rows.length - (intOf i).toNat)
  case atStart => exact ⟨0, .slice none 0 0, Nat.zero_le _, rfl, by simpa using st0, os0⟩
  case round =>
    clear st0 os0
    obtain ⟨j, rv, hj, rfl, hst, hos⟩ := hrel
    by_cases hlt : j < rows.length
    · obtain ⟨g1', hg1', q0⟩ := hos.cell hlt
      obtain rfl : g1 = g1' := by simpa using hg1'
      obtain ⟨⟨x1, x2⟩, x3⟩ := HX.out rows[j] (List.getElem_mem hlt)
      have HFT := Lib.hid (flat_take hlt)
      have HFL2 : Hid (((rows.take j).flatMap cellsR).length + K ≤ 600) := by
        unfold Hid
        have e : ((rows.take j).flatMap cellsR).length = (rows.take j).length * K := flat_len fun x hx => (HX.out x (List.mem_of_mem_take hx)).1.2
        rw [e]
        have e2 : (rows.take j).length = j := by simp; omega
        rw [e2]
        have : j * K + K ≤ 100 * 6 := by
          rw [← Nat.succ_mul]
          exact Nat.mul_le_mul (by omega) h3
        omega
      generalize rows[j] = row at *
      generalize (rows.take j).flatMap cellsR = pre at *
      have X2 := Lib.hid x2
      have X3 := Lib.hid x3
      clear x2 x3 hg1'
      generalize wr = W3 at *
      go_wp2_with fail
      refine (l01Split_c row 44 W3 x1).mono ?_
      rintro e w4 ⟨⟨u4, rfl, ho4⟩, hx4⟩
      obtain ⟨A4, c4, rfl, _, _, _⟩ := (ownsRow_row ho4).form
      have st4 := hst.ext hx4
      have os4 := hos.ext hx4
      have oc4 : OwnStrs g w4 (.slice A4 (splitS row 44).length c4) (splitS row 44) := ownsRow_base ho4 (by have := hst.ex.size; have := HG.out; omega)
      have HCL : Hid (cellsR row = (splitS row 44).map fun c => (ruleOfB c).getD noR) := rfl
      have HCT := Lib.hid (fun k (h : k < (splitS row 44).length) => cells_take h)
      have HC3 := Lib.hid (fun k (h : k < (splitS row 44).length) => X3.out (splitS row 44)[k] (List.getElem_mem h))
      have X2' : Hid ((splitS row 44).length = K) := X2.out
      clear X3 X2
      obtain ⟨cr, hcr⟩ : ∃ cr, cellsR row = cr := ⟨_, rfl⟩
      have HCR : Hid (cr.length = K) := by unfold Hid; rw [← hcr]; simp [cellsR]; exact X2'.out
      rw [hcr] at HFT HCT
      clear hcr HCL
      generalize splitS row 44 = cs at *
      have hcl : cs.length ≤ 6 := by rw [X2'.out]; exact h3
      have hneq : ((cs.length : Int) != (K : Int)) = false := by rw [X2'.out]; simp
      have hk6 : decide ((6 : Int) < (K : Int)) = false := by simp; omega
      have hk6' : decide (6 < K) = false := by simp; omega
      have m0 := st4.mac.cell 0
      simp only [List.getElem?_toArray, List.getElem?_cons_zero] at m0
      have HPL : Hid (pre.length + cs.length ≤ 600) := by unfold Hid; rw [X2'.out]; exact HFL2.out
      clear HFL2 ho4 hst hos q0
      go_wp2
      clear m0
      go_loopw [8] (fun i wr => ∃ (k : Nat) (rv : Value), k ≤ cs.length ∧ i = .int .i64 k ∧ RdSt g go w K rows.length (pre ++ cr.take k) rv wr ∧ OwnStrs g wr (.slice (some ⟨g1, 0, none⟩) rows.length c1) rows ∧ OwnStrs g wr (.slice A4 cs.length c4) cs) (fun i _ => cs.length - (intOf i).toNat)
      case atStart => exact ⟨0, rv, Nat.zero_le _, rfl, by simpa using st4, os4, oc4⟩
      case round =>
        clear st4 os4 oc4
        obtain ⟨k, rv, hk, rfl, hst, hos, hoc⟩ := hrel
        by_cases hlt2 : k < cs.length
        · obtain ⟨g4, rfl, q4⟩ := hoc.cell hlt2
          have HS := HC3.out k hlt2
          obtain ⟨r, hr⟩ := Option.isSome_iff_exists.1 HS
          have HCK : Hid (cr.take (k + 1) = cr.take k ++ [r]) := by unfold Hid; rw [HCT.out k hlt2, hr]; rfl
          have hlen : (pre ++ cr.take k).length ≤ 600 := by
            have := HPL.out
            simp only [List.length_append, List.length_take]
            omega
          have HR2 := Lib.hid hr
          clear hr HS
          generalize cs[k] = cell at *
          obtain ⟨acc, hacc⟩ : ∃ acc, pre ++ cr.take k = acc := ⟨_, rfl⟩
          have HAC : Hid (pre ++ cr.take (k + 1) = acc ++ [r]) := by unfold Hid; rw [HCK.out, ← hacc, List.append_assoc]
          rw [hacc] at hst hlen
          clear hacc
          go_wp2_with fail
          refine (l05ReadRule_c cell r wr HR2.out).mono ?_
          rintro e w5 ⟨rfl, hx5⟩
          have st5 := hst.ext hx5
          have os5 := hos.ext hx5
          have oc5 := hoc.ext hx5
          obtain ⟨A, c, rfl, k3, k4, _⟩ := (ownsRow_row st5.own).form
          obtain ⟨V, hV⟩ : ∃ V, V = w5.alloc (.cells #[.int .i64 r.w, .int .i64 r.m, .int .i64 r.n] 65) := ⟨_, rfl⟩
          have hXV : Ext w5 V := by rw [hV]; exact Ext.alloc _ _
          have stV := st5.ext hXV
          have c6 := stV.mac.cell 2
          simp only [List.getElem?_toArray, List.getElem?_cons_zero, List.getElem?_cons_succ] at c6
          have bV : Blk V w5.heap.size 65 #[.int .i64 r.w, .int .i64 r.m, .int .i64 r.n] := by rw [hV]; exact Blk.new _ _ _ _ rfl
          have sz6 : g ≤ w5.heap.size := by have := st5.mac.lt; have := st5.low; omega
          rw [hV] at c6
          clear q4
          go_wp2_with (at_builtin; refine wpList_append_own_at _ rfl _ _ 24 rfl g 65 i0 _ 3 24 Tryz.underlying24 hi hz0 hz1 hz2 rfl (by decide) _ _ _ rfl (World.ownsRow.alloc (World.ownsRow.alloc st5.own _) _) ⟨w5.heap.size + 1, 0, none⟩ 1 1 [.int .i64 r.w, .int .i64 r.m, .int .i64 r.n] rfl rfl (news3' _ _ _ _ _ _ (by simp)) ?c2 ?c3 ?c4 ?c5 ?_)
          case c2 => intro u hu; simp at hu; rcases hu with rfl | rfl | rfl <;> rfl
          case c3 => unfold maxLen; omega
          case c4 => omega
          case c5 => simp; omega
          intro v' w7 hown7 hg7 _ _
          have hXa : Ext w5 ((w5.alloc (.cells #[.int .i64 r.w, .int .i64 r.m, .int .i64 r.n] 65)).alloc (.cells #[.int .i64 r.w, .int .i64 r.m, .int .i64 r.n] 65)) := (Ext.alloc _ _).trans (Ext.alloc _ _)
          have st7 := (st5.ext hXa).snoc HG.out hown7 hg7
          have os7 := (os5.ext hXa).keptR (st5.ext hXa).own (st5.ext hXa).mac hg7 v'
          have oc7 := (oc5.ext hXa).keptR (st5.ext hXa).own (st5.ext hXa).mac hg7 v'
          have m7 := Blk.apart (st5.ext hXa).mac (st5.ext hXa).own (by decide) hg7
          obtain ⟨A', c', rfl, _, _, _⟩ := (ownsRow_row hown7).form
          have cz := m7.cell 2
          have fz := m7.frozen 2
          simp only [List.getElem?_toArray, List.getElem?_cons_zero, List.getElem?_cons_succ] at cz
          have ST := Lib.hid st7
          clear st7 st5 stV hst hos hoc os5 oc5 bV c6 hV
          go_wp2
          go_roundw
          case rel => exact ⟨k + 1, _, by omega, by go_num, by rw [HAC.out]; exact ST.out, os7, oc7⟩
          case measure => simp [intOf]; omega
        · have HE : Hid (pre ++ cr.take k = pre ++ cr) := by unfold Hid; rw [List.take_of_length_le (by rw [HCR.out, ← X2'.out]; omega)]
          rw [HE.out] at hst
          go_wp2
          go_roundw
          case rel => exact ⟨j + 1, rv, by omega, by go_num, by rw [HFT.out]; exact hst, hos⟩
          case measure => simp [intOf]; omega
    · have HE : Hid ((rows.take j).flatMap cellsR = rows.flatMap cellsR) := by unfold Hid; rw [List.take_of_length_le (by omega)]
      rw [HE.out] at hst
      obtain ⟨A, c, rfl, k3, k4, _⟩ := (ownsRow_row hst.own).form
      have m0 := hst.mac.cell 0
      have m1 := hst.mac.cell 1
      have m2 := hst.mac.cell 2
      simp only [List.getElem?_toArray, List.getElem?_cons_zero, List.getElem?_cons_succ] at m0 m1 m2
      have HMA := Lib.hid (show MachAt wr go ⟨K, rows.length, rows.flatMap cellsR⟩ from ⟨_, m0, m1, m2, ownsRow_row hst.own⟩)
      clear m0 m1 m2
      go_wp2_with fail
      refine (l05Is_c _ _ _ HMA.out).mono ?_
      rintro e w6 ⟨rfl, hx6⟩
      have hok : machOk ⟨K, rows.length, rows.flatMap cellsR⟩ = true := by rw [← HM.out]; exact HOK.out
      rw [hok]
      have st6 := hst.ext hx6
      have m0 := st6.mac.cell 0
      have m1 := st6.mac.cell 1
      have m2 := st6.mac.cell 2
      simp only [List.getElem?_toArray, List.getElem?_cons_zero, List.getElem?_cons_succ] at m0 m1 m2
      have d := st6.res.cell
      have f := st6.res.frozen
      have hne : g ≠ go := by have := st6.low; omega
      have hgl : w.heap.size ≤ g := Nat.le_of_eq HG.out
      go_wp2
      refine bodyPost_ret (v := .tuple #[.agg #[.int .i64 K, .int .i64 rows.length, .slice A (rows.flatMap cellsR).length c], .bool true]) (by simp [results, Tryz.results92, go_sem, d]) rfl ⟨⟨.slice A (rows.flatMap cellsR).length c, by rw [HM.out], ?_⟩, ?_⟩
      · rw [HM.out, HG.out]
        have hfar := own_far_blk st6.own st6.res (by decide)
        exact ownsRow_far (ownsRow_far (ownsRow_far st6.own hfar _) hfar _) hfar _
      · exact ((st6.ex.setCell hgl _).setCell hgl _).setCell hgl _
end Go.Proofs.YtapjofbjedpmgaaGreat
namespace Go.Proofs.YtapjofbjedpmgaaGreat
open Go Go.RowKit Go.Proofs
set_option maxHeartbeats 400000
theorem grownBy_step {w a c : World} {r r' : Option Nat} (h : w.grownBy a r) (k : a.grownBy c r') (hr : ∀ k, r' = some k → w.heap.size ≤ k ∨ r = some k) : w.grownBy c r :=
  ⟨k.os.trans h.os, k.tape.trans h.tape, k.output.trans h.output, Nat.le_trans h.size k.size, fun i hi hne => (k.block i (Nat.lt_of_lt_of_le hi h.size) (fun e => by
    rcases hr i e.symm with c | c
    · omega
    · exact hne c.symm)).trans (h.block i hi hne)⟩
theorem ext_grownBy {a b : World} (h : Ext a b) (row : Option Nat) : a.grownBy b row := ⟨Below.os h, Below.tape h, Below.output h, Below.size h, fun i hi _ => Below.block h i hi⟩
theorem set_grownBy (w : World) (p : Addr) (u : Value) : w.grownBy (w.setCell p u) (some p.block) :=
  ⟨rfl, rfl, rfl, by simp [World.setCell], fun k _ hk => Below.heap_setCell w p u k (fun e => hk (by rw [e]))⟩
theorem ruleInfo2 : (Tryz.prog.info? 65).map (fun i => (i.zero, i.size, i.bytes)) = some (some (.agg #[.int .i64 0, .int .i64 0, .int .i64 0]), 3, 24) := by kernel_rfl
/-- What a machine that is drawn is, in memory: its rules lie in blocks of the call's own. -/
structure DrawSt (B g b : Nat) (w0 : World) (sy st : Int) (n : Nat) (rs : List RuleD) (rv : Value) (w : World) : Prop where
  res : Blk w g 26 #[.int .i64 0, .int .i64 0, .slice none 0 0]
  mac : Blk w (g + 1) 26 #[.int .i64 sy, .int .i64 st, rv]
  own : w.ownsRow g 65 3 rv rs.length (rvs rs)
  src : Src B w b n
  grown : w0.grownBy w (some b)
theorem DrawSt.src' {B g b : Nat} {w0 : World} {sy st : Int} {n n' : Nat} {rs : List RuleD} {rv : Value} {w w' : World} (h : DrawSt B g b w0 sy st n rs rv w) (hs : Src B w' b n') (hg : w.grownBy w' (some b)) : DrawSt B g b w0 sy st n' rs rv w' :=
  ⟨blk_src h.src hg h.res (by decide), blk_src h.src hg h.mac (by decide), own_src h.src hg h.own (by decide), hs, grownBy_trans h.grown hg⟩
theorem DrawSt.ext {B g b : Nat} {w0 : World} {sy st : Int} {n : Nat} {rs : List RuleD} {rv : Value} {w w' : World} (h : DrawSt B g b w0 sy st n rs rv w) (he : Ext w w') : DrawSt B g b w0 sy st n rs rv w' :=
  ⟨h.res.ext he, h.mac.ext he, ownsRow_ext h.own he, h.src.ext he, grownBy_trans h.grown (ext_grownBy he _)⟩
/-- A further rule is appended. -/
theorem DrawSt.snoc {B g b : Nat} {w0 : World} {sy st : Int} {n : Nat} {rs : List RuleD} {rv : Value} {w w2 : World} {v' : Value} {r : RuleD} (h : DrawSt B g b w0 sy st n rs rv w) (hg0 : w0.heap.size = g) (hB : B ≤ g) (hb : b < g)
    (hown : w2.ownsRow g 65 3 v' (rs.length + 1) (rvs rs ++ [.int .i64 r.w, .int .i64 r.m, .int .i64 r.n])) (hg : w.grownBy w2 rv.ownBlock) :
    DrawSt B g b w0 sy st n (rs ++ [r]) v' (w2.setCell ⟨g + 1, 2, none⟩ v') := by
  have hro : ∀ k, rv.ownBlock = some k → g ≤ k := fun k hk => (h.own.lt k hk).1
  have m2 := Blk.apart h.mac h.own (by decide) hg
  have r2 := Blk.apart h.res h.own (by decide) hg
  have s2 := h.src.kept hg (fun k hk => ⟨by have := hro k hk; omega, by have := hro k hk; omega⟩)
  have g2 := grownBy_step h.grown hg (fun k hk => .inl (by have := hro k hk; omega))
  have far : ∀ k, v'.ownBlock = some k → k ≠ g + 1 := by
    intro k hk he
    subst he
    rcases hown.2 with ⟨rfl, _⟩ | ⟨g', cap, cur, rfl, _, hh, _⟩
    · simp [Value.ownBlock] at hk
    · have : g' = g + 1 := by simpa [Value.ownBlock] using hk
      subst this
      unfold Blk at m2
      rw [m2] at hh
      injection hh with hh
      injection hh with _ ht
      exact absurd ht (by decide)
  refine ⟨r2.far (by simp) _, m2.set_ 2 _, ?_, s2.kept (set_grownBy _ _ _) (fun k hk => ?_), grownBy_step g2 (set_grownBy _ _ _) (fun k hk => ?_)⟩
  · have := ownsRow_far (p := ⟨g + 1, 2, none⟩) hown far v'
    rw [List.length_append, List.length_cons, List.length_nil, rvs_append]
    exact this
  · injection hk with hk
    subst hk
    exact ⟨by simp; omega, by simp; omega⟩
  · injection hk with hk
    subst hk
    exact .inl (by simp; omega)
theorem DrawSt.set {B g b : Nat} {w0 : World} {sy st : Int} {n : Nat} {rs : List RuleD} {rv : Value} {w : World} (h : DrawSt B g b w0 sy st n rs rv w) (hg0 : w0.heap.size = g) (hB : B ≤ g) (hb : b < g) {p : Addr} (hp : g + 1 < p.block) (hr : ∀ k, rv.ownBlock = some k → k ≠ p.block) (u : Value) : DrawSt B g b w0 sy st n rs rv (w.setCell p u) :=
  ⟨h.res.far (by omega) _, h.mac.far (by omega) _, ownsRow_far h.own hr _, h.src.kept (set_grownBy _ _ _) (fun k hk => by injection hk with hk; subst hk; exact ⟨by omega, by omega⟩),
   grownBy_step h.grown (set_grownBy _ _ _) (fun k hk => by injection hk with hk; subst hk; exact .inl (by omega))⟩
theorem news3 (w : World) (a b c : Value) (t : TypeId) (g : Nat) (hg : w.heap.size = g) : ∀ j u, [a, b, c][j]? = some u → (w.alloc (.cells #[a, b, c] t)).cell? ((⟨g, 0, none⟩ : Addr).add j) = some u :=
  World.news_of_block (cs := #[a, b, c]) (Blk.new w g t #[a, b, c] hg)
def DrawRes (B : Nat) (w : World) (b n : Nat) (sy st : Int) (e : Ending) (w' : World) : Prop :=
  (∃ rv rs, e = .returned (.agg #[.int .i64 sy, .int .i64 st, rv]) ∧ OwnRules w.heap.size w' rv rs ∧ (rs.length : Int) = sy * st ∧ ∀ r ∈ rs, ruleOk sy st r = true) ∧ Src B w' b (n + 500) ∧ w.grownBy w' (some b)
theorem mul36 {a b : Int} (h1 : 1 ≤ a) (h2 : a ≤ 6) (h3 : 1 ≤ b) (h4 : b ≤ 6) : 1 ≤ a * b ∧ a * b ≤ 36 := by
  obtain rfl | rfl | rfl | rfl | rfl | rfl : a = 1 ∨ a = 2 ∨ a = 3 ∨ a = 4 ∨ a = 5 ∨ a = 6 := by omega
  all_goals omega
set_option maxRecDepth 20000 in
set_option maxHeartbeats 2000000 in
theorem l05DrawSize_c (B b n : Nat) (sy st : Int) (w : World) (h : Src B w b n) (hB : B ≤ w.heap.size) (hn : n ≤ 100000000000) (h1 : 1 ≤ sy) (h2 : sy ≤ 6) (h3 : 1 ≤ st) (h4 : st ≤ 6) :
    Calls Tryz.prog 53 #[.pointer (some ⟨b, 0, none⟩), .int .i64 sy, .int .i64 st] w (DrawRes B w b n sy st) := by
  obtain ⟨i0, hi, hz0, hz1, hz2⟩ := info_parts ruleInfo2
  obtain ⟨m1, m2⟩ := mul36 h1 h2 h3 h4
  obtain ⟨N, hN⟩ : ∃ N : Nat, sy * st = (N : Int) := ⟨(sy * st).toNat, by omega⟩
  have hN1 : N ≤ 36 := by omega
  have HN := Lib.hid hN
  have hbl := h.lt
  obtain ⟨W, hW⟩ : ∃ W, W = (w.alloc (.cells #[.int .i64 0, .int .i64 0, .slice none 0 0] 26)).alloc (.cells #[.int .i64 sy, .int .i64 st, .slice none 0 0] 26) := ⟨_, rfl⟩
  have hX : Ext w W := by rw [hW]; exact (Ext.alloc _ _).trans (Ext.alloc _ _)
  have st0 : DrawSt B w.heap.size b w sy st n [] (.slice none 0 0) W :=
    ⟨by rw [hW]; exact (Blk.new _ _ _ _ rfl).alloc _, by rw [hW]; exact Blk.new _ _ _ _ (by simp), ⟨by simp [rvs], .inl ⟨rfl, rfl⟩⟩, h.ext hX, ext_grownBy hX _⟩
  generalize hg : w.heap.size = g at *
  have HG := Lib.hid hg
  have hmul : IntKind.i64.wrap (sy * st) = (N : Int) := by rw [IntWalk.i64_in _ (by omega)]; exact hN
  go_enter Tryz.func53, Tryz.ntmps53
  go_wp2
  rw [← hW]
  clear hW hg hmul hN m1 m2
  go_loopw [8] (fun i wr => ∃ (j : Nat) (rs : List RuleD) (rv : Value), j ≤ N ∧ i = .int .i64 ((N : Int) - j) ∧ rs.length = j ∧ DrawSt B g b w sy st (n + 8 * j) rs rv wr ∧ Hid (∀ r ∈ rs, ruleOk sy st r = true)) (fun i _ => (intOf i).toNat)
  case atStart => exact ⟨0, [], .slice none 0 0, Nat.zero_le _, by simp, rfl, st0, Lib.hid (fun r hr => by simp at hr)⟩
  case round =>
    clear st0 h
    obtain ⟨j, rs, rv, hj, rfl, rfl, hst, HOK⟩ := hrel
    by_cases hlt : rs.length < N
    · have hgt : decide ((0 : Int) < (N : Int) - rs.length) = true := by simp; omega
      go_wp2_with fail
      refine (pick_c B b _ sy _ hst.src (by omega)).mono ?_
      rintro e w1 ⟨⟨x0, rfl, p0, p1, p2⟩, hs1, hg1⟩
      have hp : 0 ≤ x0 ∧ x0 ≤ sy - 1 := by
        by_cases hq : sy ≤ 1
        · have := p1 hq; omega
        · have := p2 (by omega); omega
      have HP := Lib.hid hp
      clear p0 p1 p2 hp
      have st1 := hst.src' hs1 hg1
      go_wp2_with fail
      refine (pick_c B b _ 2 _ hs1 (by omega)).mono ?_
      rintro e w2 ⟨⟨x1, rfl, y0, y1, y2⟩, hs2, hg2⟩
      have st2 := st1.src' hs2 hg2
      have y3 := y2 (by omega)
      go_wp2_with fail
      refine (pick_c B b _ st _ hs2 (by omega)).mono ?_
      rintro e w3 ⟨⟨x2, rfl, p0, p1, p2⟩, hs3, hg3⟩
      have hp : 0 ≤ x2 ∧ x2 ≤ st - 1 := by
        by_cases hq : st ≤ 1
        · have := p1 hq; omega
        · have := p2 (by omega); omega
      have HR : Hid (ruleOk sy st ⟨x0, 2 * x1 - 1, x2⟩ = true) := Lib.hid (by
        have := HP.out
        simp only [ruleOk, inB, Bool.or_eq_true, Bool.and_eq_true, decide_eq_true_eq, beq_iff_eq]
        right
        refine ⟨⟨by omega, by omega⟩, by omega⟩)
      clear p0 p1 p2 hp HP
      have st3 := st2.src' hs3 hg3
      obtain ⟨x1', hx1'⟩ : ∃ x, 2 * x1 - 1 = x := ⟨_, rfl⟩
      have e1 : IntKind.i64.wrap (2 * x1) = 2 * x1 := IntWalk.i64_in _ (by omega)
      have e2 : IntKind.i64.wrap (2 * x1 - 1) = 2 * x1 - 1 := IntWalk.i64_in _ (by omega)
      obtain ⟨V, hV⟩ : ∃ V, V = w3.alloc (.cells #[.int .i64 x0, .int .i64 (2 * x1 - 1), .int .i64 x2] 65) := ⟨_, rfl⟩
      have hXV : Ext w3 V := by rw [hV]; exact Ext.alloc _ _
      have bV : Blk V w3.heap.size 65 #[.int .i64 x0, .int .i64 (2 * x1 - 1), .int .i64 x2] := by rw [hV]; exact Blk.new _ _ _ _ rfl
      have stV := st3.ext hXV
      clear hx1'
      go_wp2_with fail
      rw [← hV]
      clear hV e1 e2
      refine (one_c B b _ 7 V stV.src (by omega)).mono ?_
      rintro e w4 ⟨⟨q, rfl⟩, hs4, hg4⟩
      have st4 := stV.src' hs4 hg4
      have b4 := blk_src stV.src hg4 bV (by decide)
      have hbr := b4.lt
      have hbig : g + 1 < w3.heap.size := st3.mac.lt
      have hfar : ∀ k, rv.ownBlock = some k → k ≠ w3.heap.size := fun k hk => by have := (st3.own.lt k hk).2; omega
      have hsz4 : w3.heap.size < w4.heap.size := hbr
      cases q with
      | true =>
        go_wp2_with fail
        refine (l05None_c _).mono ?_
        rintro e w5 ⟨rfl, hx5⟩
        have st5 := ((((st4.ext hx5).set HG.out hB hbl (p := ⟨w3.heap.size, 0, none⟩) hbig hfar (.int .i64 0)).set HG.out hB hbl (p := ⟨w3.heap.size, 1, none⟩) hbig hfar (.int .i64 0)).set HG.out hB hbl (p := ⟨w3.heap.size, 2, none⟩) hbig hfar (.int .i64 (-1)))
        have b5 : Blk (((w5.setCell ⟨w3.heap.size, 0, none⟩ (.int .i64 0)).setCell ⟨w3.heap.size, 1, none⟩ (.int .i64 0)).setCell ⟨w3.heap.size, 2, none⟩ (.int .i64 (-1))) w3.heap.size 65 #[.int .i64 0, .int .i64 0, .int .i64 (-1)] := (((b4.ext hx5).set_ 0 _).set_ 1 _).set_ 2 _
        have c5 := (b4.ext hx5).cell
        have f5 := (b4.ext hx5).frozen
        obtain ⟨A, c, rfl, k1, k2, _⟩ := (ownsRow_row st5.own).form
        have c6 := st5.mac.cell 2
        simp only [List.getElem?_toArray, List.getElem?_cons_zero, List.getElem?_cons_succ] at c6
        have hl5 : rs.length ≤ 36 := by omega
        have z0 := b5.cell 0
        have z1 := b5.cell 1
        have z2 := b5.cell 2
        simp only [List.getElem?_toArray, List.getElem?_cons_zero, List.getElem?_cons_succ] at z0 z1 z2
        have sz6 : g ≤ w5.heap.size := by have := hx5.size; omega
        go_wp2_with (at_builtin; refine wpList_append_own_at _ rfl _ _ 24 rfl g 65 i0 _ 3 24 Tryz.underlying24 hi hz0 hz1 hz2 rfl (by decide) _ _ _ rfl (st5.own.alloc _) ⟨w5.heap.size, 0, none⟩ 1 1 [.int .i64 0, .int .i64 0, .int .i64 (-1)] rfl rfl (news3 _ _ _ _ _ _ (by simp [World.setCell])) ?c2 ?c3 ?c4 ?c5 ?_)
        case c2 => intro u hu; simp at hu; rcases hu with rfl | rfl <;> rfl
        case c3 => unfold maxLen; omega
        case c4 => omega
        case c5 => simp [World.setCell]; omega
        intro v' w7 hown7 hg7 _ _
        obtain ⟨A', c', rfl, _, _, _⟩ := (ownsRow_row hown7).form
        have st7 := (st5.ext (Ext.alloc _ (.cells #[.int .i64 0, .int .i64 0, .int .i64 (-1)] 65))).snoc (r := ⟨0, 0, -1⟩) HG.out hB hbl hown7 hg7
        have m7 := Blk.apart (st5.mac.alloc (.cells #[.int .i64 0, .int .i64 0, .int .i64 (-1)] 65)) (st5.own.alloc (.cells #[.int .i64 0, .int .i64 0, .int .i64 (-1)] 65)) (by decide) hg7
        have cz := m7.cell 2
        have fz := m7.frozen 2
        simp only [List.getElem?_toArray, List.getElem?_cons_zero, List.getElem?_cons_succ] at cz
        have ST := Lib.hid st7
        clear st7 st5 st4 st3 st2 st1 stV hst b5 b4 bV c6 z0 z1 z2 c5 f5
        go_wp2
        go_roundw
        case rel => exact ⟨rs.length + 1, rs ++ [⟨0, 0, -1⟩], _, by omega, by congr 1; omega, by simp, by
          have e : n + 8 * (rs.length + 1) = n + 8 * rs.length + 2 + 2 + 2 + 2 := by omega
          rw [e]; exact ST.out, Lib.hid (fun r hr => by
          rcases List.mem_append.1 hr with hr | hr
          · exact HOK.out r hr
          · rw [List.mem_singleton.1 hr]; simp [ruleOk, noR])⟩
        case measure => simp [intOf]; omega
      | false =>
        have b5 := b4
        have st5 := st4
        obtain ⟨A, c, rfl, k1, k2, _⟩ := (ownsRow_row st5.own).form
        have c6 := st5.mac.cell 2
        simp only [List.getElem?_toArray, List.getElem?_cons_zero, List.getElem?_cons_succ] at c6
        have hl5 : rs.length ≤ 36 := by omega
        have z0 := b5.cell 0
        have z1 := b5.cell 1
        have z2 := b5.cell 2
        simp only [List.getElem?_toArray, List.getElem?_cons_zero, List.getElem?_cons_succ] at z0 z1 z2
        have sz6 : g ≤ w4.heap.size := by have := st5.mac.lt; omega
        go_wp2_with (at_builtin; refine wpList_append_own_at _ rfl _ _ 24 rfl g 65 i0 _ 3 24 Tryz.underlying24 hi hz0 hz1 hz2 rfl (by decide) _ _ _ rfl (st5.own.alloc _) ⟨w4.heap.size, 0, none⟩ 1 1 [.int .i64 x0, .int .i64 (2 * x1 - 1), .int .i64 x2] rfl rfl (news3 _ _ _ _ _ _ rfl) ?c2 ?c3 ?c4 ?c5 ?_)
        case c2 => intro u hu; simp at hu; rcases hu with rfl | rfl | rfl <;> rfl
        case c3 => unfold maxLen; omega
        case c4 => omega
        case c5 => simp; omega
        intro v' w7 hown7 hg7 _ _
        obtain ⟨A', c', rfl, _, _, _⟩ := (ownsRow_row hown7).form
        have st7 := (st5.ext (Ext.alloc w4 (.cells #[.int .i64 x0, .int .i64 (2 * x1 - 1), .int .i64 x2] 65))).snoc (r := ⟨x0, 2 * x1 - 1, x2⟩) HG.out hB hbl hown7 hg7
        have m7 := Blk.apart (st5.mac.alloc (.cells #[.int .i64 x0, .int .i64 (2 * x1 - 1), .int .i64 x2] 65)) (st5.own.alloc (.cells #[.int .i64 x0, .int .i64 (2 * x1 - 1), .int .i64 x2] 65)) (by decide) hg7
        have cz := m7.cell 2
        have fz := m7.frozen 2
        simp only [List.getElem?_toArray, List.getElem?_cons_zero, List.getElem?_cons_succ] at cz
        have ST := Lib.hid st7
        clear st7 st5 st4 st3 st2 st1 stV hst b5 b4 bV c6 z0 z1 z2
        go_wp2
        go_roundw
        case rel => exact ⟨rs.length + 1, rs ++ [⟨x0, 2 * x1 - 1, x2⟩], _, by omega, by congr 1; omega, by simp, by
          have e : n + 8 * (rs.length + 1) = n + 8 * rs.length + 2 + 2 + 2 + 2 := by omega
          rw [e]; exact ST.out, Lib.hid (fun r hr => by
          rcases List.mem_append.1 hr with hr | hr
          · exact HOK.out r hr
          · rw [List.mem_singleton.1 hr]; exact HR.out)⟩
        case measure => simp [intOf]; omega
    · have hje : rs.length = N := by omega
      have hgt : decide ((0 : Int) < (N : Int) - rs.length) = false := by simp; omega
      obtain ⟨A, c, rfl, k1, k2, _⟩ := (ownsRow_row hst.own).form
      have c0 := hst.mac.cell 0
      have c1 := hst.mac.cell 1
      have c2 := hst.mac.cell 2
      simp only [List.getElem?_toArray, List.getElem?_cons_zero, List.getElem?_cons_succ] at c0 c1 c2
      have d := hst.res.cell
      have f := hst.res.frozen
      have hne : g ≠ g + 1 := by omega
      have HJ := Lib.hid hje
      clear hje
      go_wp2
      refine bodyPost_ret (v := .agg #[.int .i64 sy, .int .i64 st, .slice A rs.length c]) (by simp [results, Tryz.results53, go_sem, d]) rfl ⟨⟨_, rs, rfl, ?_, by rw [HN.out, HJ.out], HOK.out⟩, ?_, ?_⟩
      · have hfar : ∀ k, (Value.slice A rs.length c).ownBlock = some k → k ≠ g := by
          intro k hk he
          subst he
          rcases hst.own.2 with ⟨h0, _⟩ | ⟨g', cap, cur, h0, _, hh, _⟩
          · rw [h0] at hk; simp [Value.ownBlock] at hk
          · rw [h0] at hk
            have : g' = k := by simpa [Value.ownBlock] using hk
            subst this
            have := hst.res
            unfold Blk at this
            rw [this] at hh
            injection hh with hh
            injection hh with _ ht
            exact absurd ht (by decide)
        rw [HG.out]
        exact ownsRow_far (ownsRow_far (ownsRow_far hst.own hfar _) hfar _) hfar _
      · have e : ∀ k, some g = some k → B ≤ k ∧ k ≠ b := fun k hk => by injection hk with hk; subst hk; exact ⟨hB, by omega⟩
        exact (((hst.src.kept (set_grownBy _ _ _) e).kept (set_grownBy _ _ _) e).kept (set_grownBy _ _ _) e).mono (by omega)
      · have e : ∀ k, some g = some k → w.heap.size ≤ k ∨ some b = some k := fun k hk => by injection hk with hk; subst hk; exact .inl (by rw [HG.out]; exact Nat.le_refl _)
        exact grownBy_step (grownBy_step (grownBy_step hst.grown (set_grownBy _ _ _) e) (set_grownBy _ _ _) e) (set_grownBy _ _ _) e
end Go.Proofs.YtapjofbjedpmgaaGreat
namespace Go.Proofs.YtapjofbjedpmgaaGreat
open Go Go.RowKit Go.Proofs
set_option maxHeartbeats 400000
theorem text_c (B base b n : Nat) (v : Value) (xs : List ByteArray) (w : World) (h : Src B w b n) (ho : OwnStrs base w v xs) (hz : 0 < xs.length) (hn : n ≤ 1000000000000) :
    Calls Tryz.prog 93 #[.pointer (some ⟨b, 0, none⟩), v] w fun e w' => (∃ x, e = .returned (.string x) ∧ x ∈ xs) ∧ Src B w' b (n + 2) ∧ w.grownBy w' (some b) := by
  obtain ⟨A, c, rfl, h1, h2, _⟩ := (ownsRow_row ho).form
  go_enter Tryz.func93, Tryz.ntmps93
  go_wp2_with fail
  refine (pick_c B b n xs.length w h hn).mono ?_
  rintro e w1 ⟨⟨x, rfl, x0, x1, x2⟩, hs1, hg1⟩
  obtain ⟨xn, rfl⟩ : ∃ xn : Nat, x = (xn : Int) := ⟨x.toNat, by omega⟩
  have hlt : xn < xs.length := by
    by_cases c : (xs.length : Int) ≤ 1
    · have := x1 c; omega
    · have := x2 (by omega); omega
  have ho1 : OwnStrs base w1 (.slice A xs.length c) xs := own_src h hg1 ho (by decide)
  obtain ⟨g, rfl, d0⟩ := ho1.cell hlt
  have HM := Lib.hid (List.getElem_mem hlt)
  generalize xs[xn] = z at *
  clear x1 x2
  go_wp2
  go_ret
  exact ⟨⟨z, rfl, HM.out⟩, hs1, hg1⟩
def knownL : List ByteArray := [⟨#[49, 82, 49, 44, 49, 76, 49, 59, 49, 76, 48, 44, 45, 45, 45]⟩, ⟨#[49, 82, 49, 44, 45, 45, 45, 59, 49, 76, 49, 44, 48, 82, 50, 59, 49, 76, 50, 44, 49, 76, 48]⟩,
  ⟨#[49, 82, 49, 44, 49, 76, 49, 59, 49, 76, 48, 44, 48, 76, 50, 59, 45, 45, 45, 44, 49, 76, 51, 59, 49, 82, 51, 44, 48, 82, 48]⟩, ⟨#[49, 82, 48, 44, 45, 45, 45]⟩, ⟨#[49, 82, 49, 44, 48, 82, 48, 59, 49, 76, 48, 44, 49, 82, 49]⟩,
  ⟨#[49, 82, 49, 44, 50, 76, 49, 44, 45, 45, 45, 59, 50, 76, 48, 44, 50, 82, 49, 44, 49, 76, 49]⟩, ⟨#[49, 76, 48, 44, 49, 82, 49, 59, 49, 82, 48, 44, 48, 76, 49]⟩, ⟨#[49, 82, 49, 44, 49, 82, 48, 59, 49, 76, 48, 44, 49, 76, 49]⟩]
theorem known_ok : (knownL.all fun x => parseOk x && !(parseM x).rules.isEmpty && decide ((parseM x).rules.length ≤ 600) && machOk (parseM x)) = true := by decide +kernel
/-- A result of three cells is stored. -/
theorem done3 {B b n g : Nat} {w w2 : World} (hs : Src B w2 b n) (hg : w.grownBy w2 (some b)) (hB : B ≤ g) (hbl : b < g) (hgw : w.heap.size = g) {base : Nat} {rv : Value} {rs : List RuleD} (ho : OwnRules base w2 rv rs) {cs : Array Value} (hb : Blk w2 g 26 cs) (x y z : Value) :
    Src B (((w2.setCell ⟨g, 0, none⟩ x).setCell ⟨g, 1, none⟩ y).setCell ⟨g, 2, none⟩ z) b n ∧ w.grownBy (((w2.setCell ⟨g, 0, none⟩ x).setCell ⟨g, 1, none⟩ y).setCell ⟨g, 2, none⟩ z) (some b) ∧ OwnRules base (((w2.setCell ⟨g, 0, none⟩ x).setCell ⟨g, 1, none⟩ y).setCell ⟨g, 2, none⟩ z) rv rs := by
  have e : ∀ k, some g = some k → B ≤ k ∧ k ≠ b := fun k hk => by injection hk with hk; subst hk; exact ⟨hB, by omega⟩
  have e' : ∀ k, some g = some k → w.heap.size ≤ k ∨ some b = some k := fun k hk => by injection hk with hk; subst hk; exact .inl (by omega)
  have hfar := own_far_blk ho hb (by decide)
  exact ⟨((hs.kept (set_grownBy _ _ _) e).kept (set_grownBy _ _ _) e).kept (set_grownBy _ _ _) e, grownBy_step (grownBy_step (grownBy_step hg (set_grownBy _ _ _) e') (set_grownBy _ _ _) e') (set_grownBy _ _ _) e', ownsRow_far (ownsRow_far (ownsRow_far ho hfar _) hfar _) hfar _⟩
/-- A machine that is drawn. -/
def MRes (B : Nat) (w : World) (b n c : Nat) (e : Ending) (w' : World) : Prop :=
  (∃ (m : MachD) (rv : Value), e = .returned (.agg #[.int .i64 m.sy, .int .i64 m.st, rv]) ∧ OwnRules w.heap.size w' rv m.rules ∧ 0 < m.rules.length ∧ m.rules.length ≤ 600 ∧ machOk m = true) ∧ Src B w' b (n + c) ∧ w.grownBy w' (some b)
set_option maxRecDepth 20000 in
set_option maxHeartbeats 2000000 in
theorem l05Known_c (B b n : Nat) (w : World) (h : Src B w b n) (hB : B ≤ w.heap.size) (hn : n ≤ 1000000000) :
    Calls Tryz.prog 52 #[.pointer (some ⟨b, 0, none⟩)] w (MRes B w b n 2) := by
  have hbl := h.lt
  obtain ⟨W, hW⟩ : ∃ W, W = (w.alloc (.cells #[.int .i64 0, .int .i64 0, .slice none 0 0] 26)).alloc (.cells (knownL.map Value.string).toArray 9) := ⟨_, rfl⟩
  have hX : Ext w W := by rw [hW]; exact (Ext.alloc _ _).trans (Ext.alloc _ _)
  have bR : Blk W w.heap.size 26 #[.int .i64 0, .int .i64 0, .slice none 0 0] := by rw [hW]; exact (Blk.new _ _ _ _ rfl).alloc _
  have oL : OwnStrs w.heap.size W (.slice (some ⟨w.heap.size + 1, 0, none⟩) 8 8) knownL := by
    refine ⟨rfl, .inr ⟨w.heap.size + 1, 8, (knownL.map Value.string).toArray, rfl, by omega, ?_, Nat.le_refl _, by unfold maxLen; omega, rfl, rfl⟩⟩
    rw [hW]
    exact Blk.new _ _ _ _ (by simp)
  simp only [knownL, List.map_cons, List.map_nil] at hW
  have HK := Lib.hid known_ok
  go_enter Tryz.func52, Tryz.ntmps52
  go_wp2_with fail
  rw [← hW]
  clear hW
  refine (text_c B w.heap.size b n _ knownL W (h.ext hX) oL (by decide) (by omega)).mono ?_
  rintro e w1 ⟨⟨x, rfl, hx⟩, hs1, hg1⟩
  have hk := (List.all_eq_true.1 HK.out) x hx
  simp only [Bool.and_eq_true, Bool.not_eq_true', decide_eq_true_eq] at hk
  obtain ⟨⟨⟨hp, hne⟩, hle⟩, hmo⟩ := hk
  have HMO := Lib.hid hmo
  clear hmo
  have HLE := Lib.hid hle
  clear hle
  have bR1 := blk_src (h.ext hX) hg1 bR (by decide)
  have HP := Lib.hid hp
  have HNE : Hid (0 < (parseM x).rules.length) := by
    unfold Hid
    cases hl : (parseM x).rules with
    | nil => rw [hl] at hne; simp at hne
    | cons _ _ => simp
  clear hp hne hx
  go_wp2_with fail
  refine (l05Read_c x w1 HP.out).mono ?_
  rintro e w2 ⟨⟨rv, rfl, ho2⟩, hx2⟩
  generalize parseM x = m at *
  obtain ⟨A, c, rfl, k1, k2, _⟩ := (ownsRow_row ho2).form
  have hW1 : w.grownBy w1 (some b) := grownBy_trans (ext_grownBy hX _) hg1
  have bR2 := bR1.ext hx2
  have hlt := bR2.lt
  have d := bR2.cell
  have f := bR2.frozen
  generalize hg : w.heap.size = g at *
  have HG := Lib.hid hg
  clear hg
  have hs2 := hs1.ext hx2
  go_wp2
  obtain ⟨r1, r2, r3⟩ := done3 hs2 (grownBy_trans hW1 (ext_grownBy hx2 _)) hB hbl HG.out ho2 bR2 (.int .i64 m.sy) (.int .i64 m.st) (.slice A m.rules.length c)
  refine bodyPost_ret (v := .agg #[.int .i64 m.sy, .int .i64 m.st, .slice A m.rules.length c]) ?_ rfl ⟨⟨m, _, rfl, ?_, HNE.out, HLE.out, HMO.out⟩, r1.ext (Ext.alloc _ _), grownBy_trans r2 (ext_grownBy (Ext.alloc _ _) _)⟩
  · have d' := ((((bR2.set_ 0 (.int .i64 m.sy)).set_ 1 (.int .i64 m.st)).set_ 2 (.slice A m.rules.length c)).alloc (.cells #[.int .i64 m.sy, .int .i64 m.st, .slice A m.rules.length c] 26)).cell
    simp [results, Tryz.results52, go_sem, d']
  · have := r3.ext (Ext.alloc _ (.cells #[.int .i64 m.sy, .int .i64 m.st, .slice A m.rules.length c] 26))
    exact ownsRow_base this (by have := hW1.size; exact this)
theorem l05DrawSize_m (B b n : Nat) (sy st : Int) (w : World) (h : Src B w b n) (hB : B ≤ w.heap.size) (hn : n ≤ 100000000000) (h1 : 2 ≤ sy) (h2 : sy ≤ 6) (h3 : 1 ≤ st) (h4 : st ≤ 6) :
    Calls Tryz.prog 53 #[.pointer (some ⟨b, 0, none⟩), .int .i64 sy, .int .i64 st] w (MRes B w b n 500) := by
  refine (l05DrawSize_c B b n sy st w h hB hn (by omega) h2 h3 h4).mono ?_
  rintro e w' ⟨⟨rv, rs, rfl, ho, hl, hok⟩, hs, hg⟩
  exact ⟨⟨⟨sy, st, rs⟩, rv, rfl, ho, by have := (mul36 (show 1 ≤ sy by omega) h2 h3 h4).1; simp only; omega, by have := (mul36 (show 1 ≤ sy by omega) h2 h3 h4).2; simp only; omega, by
    simp only [machOk, inB, Bool.and_eq_true, decide_eq_true_eq, List.all_eq_true]
    exact ⟨⟨⟨by omega, by omega⟩, hl⟩, hok⟩⟩, hs, hg⟩
end Go.Proofs.YtapjofbjedpmgaaGreat
end
section
namespace Go.Proofs.YtapjofbjedpmgaaGreat
open Go Go.RowKit Go.Proofs
set_option maxHeartbeats 400000
/-- The end of a draw: the machine is stored as the result. -/
theorem MRes.of {B b n n' c g : Nat} {w w2 : World} {m : MachD} {rv : Value} {base : Nat} {cs : Array Value} (hs : Src B w2 b n') (hn : n' ≤ n + c) (hg : w.grownBy w2 (some b)) (hB : B ≤ g) (hbl : b < g) (hgw : w.heap.size = g) (ho : OwnRules base w2 rv m.rules) (hbase : g ≤ base) (hb : Blk w2 g 26 cs) (hl : 0 < m.rules.length ∧ m.rules.length ≤ 600 ∧ machOk m = true) :
    MRes B w b n c (.returned (.agg #[.int .i64 m.sy, .int .i64 m.st, rv])) (((w2.setCell ⟨g, 0, none⟩ (.int .i64 m.sy)).setCell ⟨g, 1, none⟩ (.int .i64 m.st)).setCell ⟨g, 2, none⟩ rv) := by
  obtain ⟨r1, r2, r3⟩ := done3 hs hg hB hbl hgw ho hb (.int .i64 m.sy) (.int .i64 m.st) rv
  exact ⟨⟨m, rv, rfl, ownsRow_base r3 (by omega), hl.1, hl.2.1, hl.2.2⟩, r1.mono hn, r2⟩
set_option maxHeartbeats 2000000 in
theorem l05DrawOk_c (B b n : Nat) (w : World) (h : Src B w b n) (hB : B ≤ w.heap.size) (hn : n ≤ 100000000) :
    Calls Tryz.prog 18 #[.pointer (some ⟨b, 0, none⟩)] w (MRes B w b n 600) := by
  have hbl := h.lt
  obtain ⟨W, hW⟩ : ∃ W, W = w.alloc (.cells #[.int .i64 0, .int .i64 0, .slice none 0 0] 26) := ⟨_, rfl⟩
  have hX : Ext w W := by rw [hW]; exact Ext.alloc _ _
  have bR : Blk W w.heap.size 26 #[.int .i64 0, .int .i64 0, .slice none 0 0] := by rw [hW]; exact Blk.new _ _ _ _ rfl
  have hsW := h.ext hX
  go_enter Tryz.func18, Tryz.ntmps18
  go_wp2_with fail
  rw [← hW]
  clear hW
  refine (one_c B b n 4 W hsW (by omega)).mono ?_
  rintro e w1 ⟨⟨q, rfl⟩, hs1, hg1⟩
  have hW1 : w.grownBy w1 (some b) := grownBy_trans (ext_grownBy hX _) hg1
  have b1 := blk_src hsW hg1 bR (by decide)
  have z1 := hW1.size
  generalize hg : w.heap.size = g at *
  have HG := Lib.hid hg
  clear hg
  cases q with
  | true =>
    go_wp2_with fail
    refine (l05Known_c B b (n + 2) w1 hs1 (by omega) (by omega)).mono ?_
    rintro e w2 ⟨⟨m, rv, rfl, ho, hl⟩, hs2, hg2⟩
    have b2 := blk_src hs1 hg2 b1 (by decide)
    have d := b2.cell
    have f := b2.frozen
    obtain ⟨A, c, rfl, _, _, _⟩ := (ownsRow_row ho).form
    go_wp2
    refine bodyPost_ret (v := .agg #[.int .i64 m.sy, .int .i64 m.st, .slice A m.rules.length c]) ?_ rfl (MRes.of hs2 (by omega) (grownBy_trans hW1 hg2) hB hbl HG.out ho (by omega) b2 hl)
    simp [results, Tryz.results18, go_sem, d]
  | false =>
    go_wp2_with fail
    refine (one_c B b _ 4 w1 hs1 (by omega)).mono ?_
    rintro e w2 ⟨⟨q, rfl⟩, hs2, hg2⟩
    have b2 := blk_src hs1 hg2 b1 (by decide)
    have hW2 := grownBy_trans hW1 hg2
    have z2 := hg2.size
    cases q with
    | true =>
      go_wp2_with fail
      refine (pick_c B b _ 3 w2 hs2 (by omega)).mono ?_
      rintro e w3 ⟨⟨x, rfl, x0, _, x2⟩, hs3, hg3⟩
      have x3 := x2 (by omega)
      have b3 := blk_src hs2 hg3 b2 (by decide)
      have hW3 := grownBy_trans hW2 hg3
      have z3 := hg3.size
      go_wp2_with fail
      refine (pick_c B b _ 4 w3 hs3 (by omega)).mono ?_
      rintro e w4 ⟨⟨y, rfl, y0, _, y2⟩, hs4, hg4⟩
      have y3 := y2 (by omega)
      have b4 := blk_src hs3 hg4 b3 (by decide)
      have hW4 := grownBy_trans hW3 hg4
      have z4 := hg4.size
      go_wp2_with fail
      refine (l05DrawSize_m B b _ (2 + x) (1 + y) w4 hs4 (by omega) (by omega) (by omega) (by omega) (by omega) (by omega)).mono ?_
      rintro e w5 ⟨⟨m, rv, rfl, ho, hl⟩, hs5, hg5⟩
      have b5 := blk_src hs4 hg5 b4 (by decide)
      have d := b5.cell
      have f := b5.frozen
      obtain ⟨A, c, rfl, _, _, _⟩ := (ownsRow_row ho).form
      go_wp2
      refine bodyPost_ret (v := .agg #[.int .i64 m.sy, .int .i64 m.st, .slice A m.rules.length c]) ?_ rfl (MRes.of hs5 (by omega) (grownBy_trans hW4 hg5) hB hbl HG.out ho (by omega) b5 hl)
      simp [results, Tryz.results18, go_sem, d]
    | false =>
      go_wp2_with fail
      refine (pick_c B b _ 4 w2 hs2 (by omega)).mono ?_
      rintro e w4 ⟨⟨y, rfl, y0, _, y2⟩, hs4, hg4⟩
      have y3 := y2 (by omega)
      have b4 := blk_src hs2 hg4 b2 (by decide)
      have hW4 := grownBy_trans hW2 hg4
      have z4 := hg4.size
      go_wp2_with fail
      refine (l05DrawSize_m B b _ 2 (1 + y) w4 hs4 (by omega) (by omega) (by omega) (by omega) (by omega) (by omega)).mono ?_
      rintro e w5 ⟨⟨m, rv, rfl, ho, hl⟩, hs5, hg5⟩
      have b5 := blk_src hs4 hg5 b4 (by decide)
      have d := b5.cell
      have f := b5.frozen
      obtain ⟨A, c, rfl, _, _, _⟩ := (ownsRow_row ho).form
      go_wp2
      refine bodyPost_ret (v := .agg #[.int .i64 m.sy, .int .i64 m.st, .slice A m.rules.length c]) ?_ rfl (MRes.of hs5 (by omega) (grownBy_trans hW4 hg5) hB hbl HG.out ho (by omega) b5 hl)
      simp [results, Tryz.results18, go_sem, d]
end Go.Proofs.YtapjofbjedpmgaaGreat
namespace Go.Proofs.YtapjofbjedpmgaaGreat
open Go Go.RowKit Go.Proofs
set_option maxHeartbeats 400000
/-- A machine that is drawn, of any length. -/
def MRes0 (B : Nat) (w : World) (b n c : Nat) (e : Ending) (w' : World) : Prop :=
  (∃ (m : MachD) (rv : Value), e = .returned (.agg #[.int .i64 m.sy, .int .i64 m.st, rv]) ∧ OwnRules w.heap.size w' rv m.rules) ∧ Src B w' b (n + c) ∧ w.grownBy w' (some b)
theorem MRes.zero {B : Nat} {w : World} {b n c c' : Nat} {e : Ending} {w' : World} (h : MRes B w b n c e w') (hc : c ≤ c') : MRes0 B w b n c' e w' := by
  obtain ⟨⟨m, rv, he, ho, _, _⟩, hs, hg⟩ := h
  exact ⟨⟨m, rv, he, ho⟩, hs.mono (by omega), hg⟩
theorem MRes0.of {B b n n' c g : Nat} {w w2 : World} {sy st : Int} {rs : List RuleD} {rv : Value} {base : Nat} {cs : Array Value} (hs : Src B w2 b n') (hn : n' ≤ n + c) (hg : w.grownBy w2 (some b)) (hB : B ≤ g) (hbl : b < g) (hgw : w.heap.size ≤ g) (ho : OwnRules base w2 rv rs) (hbase : w.heap.size ≤ base) (hb : Blk w2 g 26 cs) :
    MRes0 B w b n c (.returned (.agg #[.int .i64 sy, .int .i64 st, rv])) (((w2.setCell ⟨g, 0, none⟩ (.int .i64 sy)).setCell ⟨g, 1, none⟩ (.int .i64 st)).setCell ⟨g, 2, none⟩ rv) := by
  have e : ∀ k, some g = some k → B ≤ k ∧ k ≠ b := fun k hk => by injection hk with hk; subst hk; exact ⟨hB, by omega⟩
  have e' : ∀ k, some g = some k → w.heap.size ≤ k ∨ some b = some k := fun k hk => by injection hk with hk; subst hk; exact .inl hgw
  have hfar := own_far_blk ho hb (by decide)
  have r1 := ((hs.kept (set_grownBy w2 ⟨g, 0, none⟩ (.int .i64 sy)) e).kept (set_grownBy _ ⟨g, 1, none⟩ (.int .i64 st)) e).kept (set_grownBy _ ⟨g, 2, none⟩ rv) e
  have r2 := grownBy_step (grownBy_step (grownBy_step hg (set_grownBy w2 ⟨g, 0, none⟩ (.int .i64 sy)) e') (set_grownBy _ ⟨g, 1, none⟩ (.int .i64 st)) e') (set_grownBy _ ⟨g, 2, none⟩ rv) e'
  have r3 := ownsRow_far (p := ⟨g, 2, none⟩) (ownsRow_far (p := ⟨g, 1, none⟩) (ownsRow_far (p := ⟨g, 0, none⟩) ho hfar (.int .i64 sy)) hfar (.int .i64 st)) hfar rv
  exact ⟨⟨⟨sy, st, rs⟩, rv, rfl, ownsRow_base r3 hbase⟩, r1.mono hn, r2⟩
/-- What is known while a machine is bent: the result's block, the machine's block, its rules. -/
structure BendSt (B b g go : Nat) (w0 : World) (n : Nat) (sy st : Int) (rs : List RuleD) (rv : Value) (w : World) : Prop where
  res : Blk w g 26 #[.int .i64 0, .int .i64 0, .slice none 0 0]
  mac : Blk w go 26 #[.int .i64 sy, .int .i64 st, rv]
  own : OwnRules w0.heap.size w rv rs
  src : Src B w b n
  grown : w0.grownBy w (some b)
theorem BendSt.src' {B b g go : Nat} {w0 : World} {n n' : Nat} {sy st : Int} {rs : List RuleD} {rv : Value} {w w' : World} (h : BendSt B b g go w0 n sy st rs rv w) (hs : Src B w' b n') (hg : w.grownBy w' (some b)) : BendSt B b g go w0 n' sy st rs rv w' :=
  ⟨blk_src h.src hg h.res (by decide), blk_src h.src hg h.mac (by decide), own_src h.src hg h.own (by decide), hs, grownBy_trans h.grown hg⟩
theorem BendSt.ext {B b g go : Nat} {w0 : World} {n : Nat} {sy st : Int} {rs : List RuleD} {rv : Value} {w w' : World} (h : BendSt B b g go w0 n sy st rs rv w) (he : Ext w w') : BendSt B b g go w0 n sy st rs rv w' :=
  ⟨h.res.ext he, h.mac.ext he, OwnRules.ext h.own he, h.src.ext he, grownBy_trans h.grown (ext_grownBy he _)⟩
theorem rvs_set0 : ∀ (rs : List RuleD) (k : Nat) (z : Int) (h : k < rs.length), (rvs rs).set (k * 3) (.int .i64 z) = rvs (rs.set k ⟨z, rs[k].m, rs[k].n⟩)
  | r :: rs, 0, z, _ => by simp [rvs]
  | r :: rs, k + 1, z, h => by
    have ih := rvs_set0 rs k z (by simpa using h)
    simp only [rvs, List.flatMap_cons, List.set_cons_succ, List.getElem_cons_succ] at ih ⊢
    rw [show (k + 1) * 3 = k * 3 + 1 + 1 + 1 by omega]
    simp only [List.cons_append, List.nil_append, List.set_cons_succ]
    rw [ih]
theorem rvs_set1 : ∀ (rs : List RuleD) (k : Nat) (z : Int) (h : k < rs.length), (rvs rs).set (k * 3 + 1) (.int .i64 z) = rvs (rs.set k ⟨rs[k].w, z, rs[k].n⟩)
  | r :: rs, 0, z, _ => by simp [rvs]
  | r :: rs, k + 1, z, h => by
    have ih := rvs_set1 rs k z (by simpa using h)
    simp only [rvs, List.flatMap_cons, List.set_cons_succ, List.getElem_cons_succ] at ih ⊢
    rw [show (k + 1) * 3 + 1 = k * 3 + 1 + 1 + 1 + 1 by omega]
    simp only [List.cons_append, List.nil_append, List.set_cons_succ]
    rw [ih]
theorem rvs_set2 : ∀ (rs : List RuleD) (k : Nat) (z : Int) (h : k < rs.length), (rvs rs).set (k * 3 + 2) (.int .i64 z) = rvs (rs.set k ⟨rs[k].w, rs[k].m, z⟩)
  | r :: rs, 0, z, _ => by simp [rvs]
  | r :: rs, k + 1, z, h => by
    have ih := rvs_set2 rs k z (by simpa using h)
    simp only [rvs, List.flatMap_cons, List.set_cons_succ, List.getElem_cons_succ] at ih ⊢
    rw [show (k + 1) * 3 + 2 = k * 3 + 2 + 1 + 1 + 1 by omega]
    simp only [List.cons_append, List.nil_append, List.set_cons_succ]
    rw [ih]
section
variable {B b g go : Nat} {w0 : World} {n : Nat} {sy st : Int} {rs : List RuleD} {rv : Value} {w : World}
/-- A field of a rule is written. -/
theorem BendSt.field {gr c : Nat} {qs : List RuleD} (h : BendSt B b g go w0 n sy st rs (.slice (some ⟨gr, 0, none⟩) rs.length c) w) (hbw : b < w0.heap.size) (hB : B ≤ w0.heap.size) (j : Nat) (u : Value) (hq : (rvs rs).set j u = rvs qs) (hl : qs.length = rs.length) :
    BendSt B b g go w0 n sy st qs (.slice (some ⟨gr, 0, none⟩) rs.length c) (w.setCell ⟨gr, j, none⟩ u) := by
  have hlt := h.own.lt gr rfl
  have n1 := own_far_blk h.own h.res (by decide) gr rfl
  have n2 := own_far_blk h.own h.mac (by decide) gr rfl
  refine ⟨h.res.far (by simpa using fun e => n1 e.symm) _, h.mac.far (by simpa using fun e => n2 e.symm) _, ?_, h.src.kept (set_grownBy _ _ _) (fun k hk => by injection hk with hk; subst hk; exact ⟨by simp; omega, by simp; omega⟩), grownBy_step h.grown (set_grownBy _ _ _) (fun k hk => by injection hk with hk; subst hk; exact .inl (by simp; omega))⟩
  have := (World.ownsRow.stored h.own j u).1
  rw [hq] at this
  unfold OwnRules
  rw [hl]
  exact this
end
end Go.Proofs.YtapjofbjedpmgaaGreat
namespace Go.Proofs.YtapjofbjedpmgaaGreat
open Go Go.RowKit Go.Proofs
set_option maxHeartbeats 400000
theorem BendSt.fieldN {B b g go : Nat} {w0 : World} {n : Nat} {sy st : Int} {rs : List RuleD} {w : World} {gr c N : Nat} {qs : List RuleD} (hN : rs.length = N) (h : BendSt B b g go w0 n sy st rs (.slice (some ⟨gr, 0, none⟩) N c) w) (hbw : b < w0.heap.size) (hB : B ≤ w0.heap.size) (j : Nat) (u : Value) (hq : (rvs rs).set j u = rvs qs) (hl : qs.length = N) :
    BendSt B b g go w0 n sy st qs (.slice (some ⟨gr, 0, none⟩) N c) (w.setCell ⟨gr, j, none⟩ u) := by
  subst hN
  exact h.field hbw hB j u hq hl
/-- A rule is written whole. -/
theorem BendSt.rule {B b g go : Nat} {w0 : World} {n : Nat} {sy st : Int} {rs : List RuleD} {w : World} {gr c N : Nat} (hN : rs.length = N) (h : BendSt B b g go w0 n sy st rs (.slice (some ⟨gr, 0, none⟩) N c) w) (hbw : b < w0.heap.size) (hB : B ≤ w0.heap.size) (k : Nat) (hk : k < N) (x y z : Int) :
    BendSt B b g go w0 n sy st (rs.set k ⟨x, y, z⟩) (.slice (some ⟨gr, 0, none⟩) N c) (((w.setCell ⟨gr, k * 3, none⟩ (.int .i64 x)).setCell ⟨gr, k * 3 + 1, none⟩ (.int .i64 y)).setCell ⟨gr, k * 3 + 2, none⟩ (.int .i64 z)) := by
  have s1 := BendSt.fieldN hN h hbw hB (k * 3) (.int .i64 x) (rvs_set0 rs k x (by omega)) (by simpa using hN)
  have l1 : (rs.set k ⟨x, rs[k].m, rs[k].n⟩).length = N := by simpa using hN
  have s2 := BendSt.fieldN l1 s1 hbw hB (k * 3 + 1) (.int .i64 y) (rvs_set1 _ k y (by omega)) (by simpa using hN)
  have l2 : ((rs.set k ⟨x, rs[k].m, rs[k].n⟩).set k ⟨((rs.set k ⟨x, rs[k].m, rs[k].n⟩)[k]'(by omega)).w, y, ((rs.set k ⟨x, rs[k].m, rs[k].n⟩)[k]'(by omega)).n⟩).length = N := by simpa using hN
  have s3 := BendSt.fieldN l2 s2 hbw hB (k * 3 + 2) (.int .i64 z) (rvs_set2 _ k z (by omega)) (by simpa using hN)
  simpa [List.set_set] using s3
end Go.Proofs.YtapjofbjedpmgaaGreat
namespace Go.Proofs.YtapjofbjedpmgaaGreat
open Go Go.RowKit Go.Proofs
set_option maxHeartbeats 400000
structure DecSt (w : World) (b n : Nat) (wr : World) : Prop where
  res : Blk wr w.heap.size 26 #[.int .i64 0, .int .i64 0, .slice none 0 0]
  src : Src (w.heap.size + 1) wr b n
  ext : Ext w wr
theorem DecSt.done {w : World} {b n base : Nat} {wr : World} {m : MachD} {rv : Value} (h : DecSt w b n wr) (ho : OwnRules base wr rv m.rules) (hbase : w.heap.size ≤ base) :
    OwnRules w.heap.size (((wr.setCell ⟨w.heap.size, 0, none⟩ (.int .i64 m.sy)).setCell ⟨w.heap.size, 1, none⟩ (.int .i64 m.st)).setCell ⟨w.heap.size, 2, none⟩ rv) rv m.rules ∧
    Ext w (((wr.setCell ⟨w.heap.size, 0, none⟩ (.int .i64 m.sy)).setCell ⟨w.heap.size, 1, none⟩ (.int .i64 m.st)).setCell ⟨w.heap.size, 2, none⟩ rv) := by
  have hfar := own_far_blk ho h.res (by decide)
  refine ⟨ownsRow_base (ownsRow_far (ownsRow_far (ownsRow_far ho hfar _) hfar _) hfar _) hbase, ?_⟩
  exact ((h.ext.setCell (Nat.le_refl _) _).setCell (Nat.le_refl _) _).setCell (Nat.le_refl _) _
end Go.Proofs.YtapjofbjedpmgaaGreat
end
