/- Contracts of the library's search of a marked cell.
A list without zeros at its end, in the row of the whole one. No condition.
What the program's decoding of a configuration of the machine with one tape gives, in plain words, and in memory. -/
import Derived.Test.YtgeckhjkahnonaaGreatDoorO23
import Derived.Test.YtgeckhjkahnonaaGreatDoorO12
import Derived.Test.YtgeckhjkahnonaaGreatDoorO21
section
set_option linter.unusedSimpArgs false
set_option linter.unusedVariables false
namespace Go.Proofs.YtgeckhjkahnonaaGreatDoor
open Go Go.RowKit Go.Proofs Go.Maps
set_option maxHeartbeats 400000
/-- The index of the first marked cell, or -1. -/
def ixM (sy : Int) (zs : List Int) : Int := match zs.findIdx? (markB sy) with
  | some k => (k : Int)
  | none => -1
theorem ixM_hit {sy : Int} {zs : List Int} {k : Nat} (hk : k < zs.length) (h : markB sy zs[k] = true) (hn : ∀ i, i < k → ∀ h : i < zs.length, markB sy zs[i] = false) : ixM sy zs = (k : Int) := by
  have : zs.findIdx? (markB sy) = some k := List.findIdx?_eq_some_iff_getElem.2 ⟨hk, h, fun j hj => by rw [hn j hj (by omega)]; simp⟩
  unfold ixM
  rw [this]
theorem ixM_miss {sy : Int} {zs : List Int} (hn : ∀ i, ∀ h : i < zs.length, markB sy zs[i] = false) : ixM sy zs = -1 := by
  have : zs.findIdx? (markB sy) = none := List.findIdx?_eq_none_iff.2 fun x hx => by
    obtain ⟨i, hi, rfl⟩ := List.getElem_of_mem hx
    exact hn i hi
  unfold ixM
  rw [this]
set_option maxRecDepth 20000 in
theorem idxM_c (v : Value) (zs : List Int) (b : Nat) (sy : Int) (w : World) (h : Ints w v zs) (hb : w.cell? ⟨b, 1, none⟩ = some (.int .i64 sy)) (hn : zs.length ≤ 1000) :
    Calls Tryz.prog 53 #[v, .func (.func 51) #[] #[.pointer (some ⟨b, 0, none⟩)]] w fun e w' => e = .returned (.int .i64 (ixM sy zs)) ∧ w = w' := by
  obtain ⟨A, c, rfl, _, _⟩ := h.form
  go_enter Tryz.func53, Tryz.ntmps53
  go_wp2_with fail
  go_loopw [5, 8] (fun x i wr => ∃ k : Nat, k ≤ zs.length ∧ i = .int .i64 (k : Int) ∧ w = wr ∧ Hid (∀ i, i < k → ∀ h : i < zs.length, markB sy zs[i] = false)) (fun _ i _ => zs.length - (intOf i).toNat)
  case atStart => exact ⟨0, Nat.zero_le _, rfl, rfl, Lib.hid (fun i hi => by omega)⟩
  case round =>
    obtain ⟨k, hk, rfl, rfl, hno⟩ := hrel
    by_cases hlt : k < zs.length
    · obtain ⟨b', off, rfl, hc⟩ := h.at hlt
      have ck := hc k hlt
      have hki : (k : Int) < (zs.length : Int) := by omega
      have MK := markM_c zs[k] b sy w hb
      have HN : Hid (markB sy zs[k] = false → ∀ i, i < k + 1 → ∀ h : i < zs.length, markB sy zs[i] = false) := Lib.hid (fun hf i hi hl => by
        by_cases e : i = k
        · subst e; exact hf
        · exact hno.out i (by omega) hl)
      have HY : Hid (markB sy zs[k] = true → ixM sy zs = (k : Int)) := Lib.hid (fun ht => ixM_hit hlt ht hno.out)
      obtain ⟨y, hy⟩ : ∃ y, zs[k] = y := ⟨_, rfl⟩
      rw [hy] at ck MK HN HY
      obtain ⟨mb, hmb⟩ : ∃ mb, markB sy y = mb := ⟨_, rfl⟩
      rw [hmb] at MK HN HY
      clear hy hc hmb
      go_wp2_with fail
      refine MK.mono ?_
      rintro e w' ⟨rfl, rfl⟩
      clear MK
      cases mb with
      | true =>
        have HE := Lib.hid (HY.out rfl)
        clear HY HN
        go_wp2_with fail
        go_ret
        exact ⟨by rw [HE.out]; rfl, rfl⟩
      | false =>
        have HE := Lib.hid (HN.out rfl)
        clear HY HN
        go_wp2_with fail
        go_roundw
        case rel => exact ⟨k + 1, by omega, by go_num, by first | trivial | rfl, HE⟩
        case measure => simp [intOf]; omega
    · obtain rfl : k = zs.length := by omega
      have HE : Hid (ixM sy zs = -1) := Lib.hid (ixM_miss fun i hi => hno.out i hi hi)
      clear hno
      go_wp2_with fail
      go_ret
      exact ⟨by rw [HE.out]; rfl, rfl⟩
theorem ixM_any (sy : Int) (zs : List Int) : decide (0 ≤ ixM sy zs) = zs.any (markB sy) := by
  unfold ixM
  cases h : zs.findIdx? (markB sy) with
  | none =>
    have := List.findIdx?_eq_none_iff.1 h
    have e : zs.any (markB sy) = false := by
      rw [List.any_eq_false]
      intro x hx
      rw [this x hx]
      simp
    rw [e]
    rfl
  | some k =>
    obtain ⟨hk, h1, _⟩ := List.findIdx?_eq_some_iff_getElem.1 h
    have e : zs.any (markB sy) = true := List.any_eq_true.2 ⟨_, List.getElem_mem hk, h1⟩
    rw [e]
    simp
set_option maxRecDepth 20000 in
theorem hasM_c (v : Value) (zs : List Int) (b : Nat) (sy : Int) (w : World) (h : Ints w v zs) (hb : w.cell? ⟨b, 1, none⟩ = some (.int .i64 sy)) (hn : zs.length ≤ 1000) :
    Calls Tryz.prog 54 #[v, .func (.func 51) #[] #[.pointer (some ⟨b, 0, none⟩)]] w fun e w' => e = .returned (.bool (zs.any (markB sy))) ∧ w = w' := by
  have IX := idxM_c v zs b sy w h hb hn
  have HE := Lib.hid (ixM_any sy zs)
  obtain ⟨A, c, rfl, _, _⟩ := h.form
  generalize ixM sy zs = z at *
  go_enter Tryz.func54, Tryz.ntmps54
  go_wp2_with fail
  refine IX.mono ?_
  rintro e w' ⟨rfl, rfl⟩
  go_wp2_with fail
  go_ret
  exact ⟨by rw [← HE.out]; rfl, rfl⟩
end Go.Proofs.YtgeckhjkahnonaaGreatDoor
end
section
set_option linter.unusedVariables false
namespace Go.Proofs.YtgeckhjkahnonaaGreatDoor
open Go Go.RowKit Go.Proofs
theorem own_trim {base : Nat} {w : World} {A : Option Addr} {c : Nat} {x : List Int} (h : OwnInts base w (.slice A x.length c) x) : OwnInts base w (.slice A (trimN x x.length) c) (trim x) := by
  have hl := trimN_le x x.length
  by_cases hA : A = none
  · subst hA
    rcases h.2 with ⟨e, h0⟩ | ⟨g, cap, cur, e, _⟩
    · injection e with e1 e2 e3
      have hx : x = [] := List.length_eq_zero_iff.1 (by simpa using h0)
      subst hx
      subst e3
      exact h
    · injection e with e1
      cases e1
  · exact h.take _ hl hA
end Go.Proofs.YtgeckhjkahnonaaGreatDoor
end
section
set_option linter.unusedSimpArgs false
set_option linter.unusedVariables false
namespace Go.Proofs.YtgeckhjkahnonaaGreatDoor
open Go Go.RowKit Go.Proofs Go.Maps
/-- What a configuration in a place stands for, with a code. -/
def decOne (m : MultiD) (p : MP) (c : ConfD) : MConfD × Int :=
  if p.k = 0 then match decTapes m c p.t m.tp.toNat with
    | some ts => (⟨p.a, ts⟩, 0)
    | none => (⟨0, []⟩, 9)
  else (⟨0, []⟩, 6)
theorem decTapes_none {m : MultiD} {c : ConfD} {t0 : Int} {j : Nat} (h : decTapes m c t0 j = none) : ∀ n, decTapes m c t0 (j + n) = none
  | 0 => h
  | n + 1 => by
    have := decTapes_none h n
    show decTapes m c t0 (j + n + 1) = none
    unfold decTapes
    rw [this]
theorem decTapes_fail {m : MultiD} {c : ConfD} {t0 : Int} {j n : Nat} (h : tapeDec m.sy (lineC m c t0 (j : Int)) = none) (hn : j < n) : decTapes m c t0 n = none := by
  have h1 : decTapes m c t0 (j + 1) = none := by
    unfold decTapes
    rw [h]
    cases decTapes m c t0 j <;> rfl
  have := decTapes_none h1 (n - (j + 1))
  rwa [show j + 1 + (n - (j + 1)) = n by omega] at this
theorem decTapes_next {m : MultiD} {c : ConfD} {t0 : Int} {j : Nat} {l : List TapeD} {t : TapeD} (h : decTapes m c t0 j = some l) (ht : tapeDec m.sy (lineC m c t0 (j : Int)) = some t) : decTapes m c t0 (j + 1) = some (l ++ [t]) := by
  unfold decTapes
  rw [h, ht]
theorem decTapes_len {m : MultiD} {c : ConfD} {t0 : Int} : ∀ {j : Nat} {l : List TapeD}, decTapes m c t0 j = some l → l.length = j
  | 0, l, h => by
    simp [decTapes] at h
    simp [← h]
  | j + 1, l, h => by
    unfold decTapes at h
    cases h1 : decTapes m c t0 j with
    | none => rw [h1] at h; cases h
    | some l1 =>
      cases h2 : tapeDec m.sy (lineC m c t0 (j : Int)) with
      | none => rw [h1, h2] at h; cases h
      | some t =>
        rw [h1, h2] at h
        injection h with h
        rw [← h, List.length_append, decTapes_len h1]
        rfl
theorem tapeDec_none {sy : Int} {zs : List Int} (h : zs.findIdx? (markB sy) = none) : tapeDec sy zs = none := by
  unfold tapeDec
  rw [h]
theorem tapeDec_two {sy : Int} {zs : List Int} {k : Nat} (h : zs.findIdx? (markB sy) = some k) (h2 : (zs.drop (k + 1)).any (markB sy) = true) : tapeDec sy zs = none := by
  unfold tapeDec
  rw [h]
  simp only [h2]
  rfl
theorem tapeDec_one {sy : Int} {zs : List Int} {k : Nat} (h : zs.findIdx? (markB sy) = some k) (h2 : (zs.drop (k + 1)).any (markB sy) = false) : tapeDec sy zs = some ⟨trim (zs.take k).reverse, trim ((zs.getD k 0 - sy) :: zs.drop (k + 1))⟩ := by
  unfold tapeDec
  rw [h]
  simp only [h2]
  rfl
theorem set_take (zs : List Int) (k : Nat) (x : Int) : (zs.set k x).take k = zs.take k := by
  apply List.ext_getElem?
  intro i
  rw [List.getElem?_take, List.getElem?_take]
  by_cases h : i < k
  · rw [if_pos h, if_pos h, List.getElem?_set_ne (by omega)]
  · rw [if_neg h, if_neg h]
theorem set_drop (zs : List Int) (k : Nat) (x : Int) (h : k < zs.length) : (zs.set k x).drop k = x :: zs.drop (k + 1) := by
  have h2 : k < (zs.set k x).length := by simpa using h
  rw [List.drop_eq_getElem_cons h2]
  congr 1
  · simp
  · apply List.ext_getElem?
    intro i
    rw [List.getElem?_drop, List.getElem?_drop, List.getElem?_set_ne (by omega)]
theorem lineC_mem {m : MultiD} {c : ConfD} {t0 j : Int} {B : Int} (hB : 0 ≤ B) (hl : ∀ z ∈ c.l, 0 ≤ z ∧ z ≤ B) (hr : ∀ z ∈ c.r, 0 ≤ z ∧ z ≤ B) : ∀ z ∈ lineC m c t0 j, 0 ≤ z ∧ z ≤ B := by
  intro z hz
  unfold lineC lineT at hz
  rw [List.mem_map] at hz
  obtain ⟨i, _, rfl⟩ := hz
  rw [List.getD_eq_getElem?_getD]
  cases h : (cellsC c)[i]? with
  | none => exact ⟨Int.le_refl _, hB⟩
  | some x =>
    have hx := List.mem_of_getElem? h
    unfold cellsC at hx
    rcases List.mem_append.1 hx with h1 | h1
    · exact hl x (List.mem_reverse.1 h1)
    · exact hr x h1
/-- The part behind the first k elements. -/
theorem ints_dropA {w : World} {b off n c : Nat} {zs : List Int} (h : Ints w (.slice (some ⟨b, off, none⟩) n c) zs) (hn : n = zs.length) (k : Nat) (hk : k ≤ n) : Ints w (.slice (some ⟨b, off + k, none⟩) (n - k) (c - k)) (zs.drop k) := by
  subst hn
  obtain ⟨A, c', e, h1, h2, hr⟩ := h
  injection e with e1 e2 e3
  subst e1 e3
  refine ⟨_, _, by rw [List.length_drop], by rw [List.length_drop]; omega, by omega, ?_⟩
  refine ⟨by have := hr.1; simp [ivs], fun h0 => ?_⟩
  rw [List.length_drop] at h0
  obtain ⟨b', off', e, hc⟩ := hr.2 (by omega)
  injection e with e
  injection e with e1 e2
  subst e1 e2
  refine ⟨_, _, rfl, fun i hi => ?_⟩
  have := hc (k + i) (by simp [ivs] at hi ⊢; omega)
  rw [Nat.add_assoc, this]
  simp [ivs]
theorem ints_void {w : World} (A : Option Addr) : Ints w (.slice A 0 0) [] := ⟨A, 0, rfl, by simp, by omega, rfl, fun h => by simp at h⟩
/-- The program's result. -/
def DecRes (w : World) (r : MConfD × Int) (e : Ending) (w' : World) : Prop :=
  ∃ v cl, e = .returned (.tuple #[.agg #[.int .i64 r.1.q, v], .int .i64 r.2]) ∧ CpM w r.1.tapes r.1.tapes.length v cl w' ∧ Ext w w'
theorem CpM.void (w w' : World) : CpM w [] 0 (.slice none 0 0) [] w' := ⟨World.ownsRow_nil .., rfl, fun i _ h => by omega, fun i j u v g _ hu => by simp at hu⟩
theorem CpM.base {w0 w w' : World} {ts : List TapeD} {k : Nat} {v : Value} {cl : List Value} (h : CpM w ts k v cl w') (hb : w0.heap.size ≤ w.heap.size) : CpM w0 ts k v cl w' :=
  ⟨ownsRow_base h.own hb, h.len, fun i hi hk => by
    obtain ⟨lv, rv, e1, e2, o1, o2⟩ := h.side i hi hk
    exact ⟨lv, rv, e1, e2, ownsRow_base o1 hb, ownsRow_base o2 hb⟩, h.ap⟩
theorem CpM.widen {w w' : World} {ts : List TapeD} {v : Value} {cl : List Value} (h : CpM w ts ts.length v cl w') (t : TapeD) : CpM w (ts ++ [t]) ts.length v cl w' :=
  ⟨h.own, h.len, fun i hi hk => by
    obtain ⟨lv, rv, e1, e2, o1, o2⟩ := h.side i hk hk
    exact ⟨lv, rv, e1, e2, by rw [List.getElem_append_left hk]; exact o1, by rw [List.getElem_append_left hk]; exact o2⟩, h.ap⟩
theorem DecRes.fail {w w1 : World} {k : Int} {b : Nat} (hb : w.heap.size ≤ b) (hX : Ext w w1) (x y : Value) :
    DecRes w (⟨0, []⟩, k) (.returned (.tuple #[.agg #[.int .i64 0, .slice none 0 0], .int .i64 k])) ((w1.setCell ⟨b, 0, none⟩ x).setCell ⟨b, 1, none⟩ y) :=
  ⟨_, _, rfl, CpM.void _ _, (hX.setCell hb _).setCell hb _⟩
theorem DecRes.done {w w1 : World} {q k : Int} {ts : List TapeD} {v : Value} {cl : List Value} {b : Nat} {cs : Array Value} (hb : w.heap.size ≤ b) (hX : Ext w w1) (h : CpM w ts ts.length v cl w1) (hB : Blk w1 b 48 cs) (x y : Value) :
    DecRes w (⟨q, ts⟩, k) (.returned (.tuple #[.agg #[.int .i64 q, v], .int .i64 k])) ((w1.setCell ⟨b, 0, none⟩ x).setCell ⟨b, 1, none⟩ y) :=
  ⟨_, _, rfl, (h.set hB 0 x).set (hB.set_ 0 x) 1 y, (hX.setCell hb _).setCell hb _⟩
end Go.Proofs.YtgeckhjkahnonaaGreatDoor
end
