/- Contracts of the reference's source of choices: bytes first, then a sequence of its own. Fewer than 2 to the power of 60 choices are made.
Contracts of the laws' small helpers on bytes, lists and rows.
The arguments of a law on bytes, opened. No condition.
Contract of the library's maker of strings in a block of the call's own: a string is laid behind what it holds. -/
import Derived.Test.YtkbpchdncljlbaaGreatDoorV02
import Derived.Test.YtkbpchdncljlbaaGreatDoorV07
import Derived.Lib.AppendStr
section
namespace Go.Proofs.YtkbpchdncljlbaaGreatDoor
open Go Go.RowKit Go.Proofs
set_option maxHeartbeats 400000
def bvs (bs : List Int) : List Value := bs.map (Value.int .u8)
/-- A slice of bytes. -/
def Bytes (w : World) (v : Value) (bs : List Int) : Prop := Row w 1 v bs.length (bvs bs) ∧ ∀ z ∈ bs, 0 ≤ z ∧ z ≤ 255
theorem Bytes.ext {w w' : World} {v : Value} {bs : List Int} (h : Bytes w v bs) (he : Ext w w') : Bytes w' v bs := ⟨Row.ext h.1 he, h.2⟩
theorem bvs_get (bs : List Int) (k : Nat) (h : k < bs.length) : (bvs bs)[k]? = some (.int .u8 bs[k]) := by simp [bvs, h]
/-- A source of choices: at most n have been made; its bytes lie below block B. -/
def Src (B : Nat) (w : World) (b n : Nat) : Prop := ∃ (A : Option Addr) (c : Nat) (bs : List Int) (k : Nat) (s : Int), Blk w b 87 #[.slice A bs.length c, .int .i64 k, .int .u64 s] ∧ Bytes w (.slice A bs.length c) bs ∧ k ≤ n ∧ (∀ a, A = some a → 0 < bs.length → a.block < B)
theorem Src.mono {B : Nat} {w : World} {b n n' : Nat} (h : Src B w b n) (hn : n ≤ n') : Src B w b n' := by
  obtain ⟨A, c, bs, k, s, h1, h2, h3, h4⟩ := h
  exact ⟨A, c, bs, k, s, h1, h2, by omega, h4⟩
theorem Src.ext {B : Nat} {w w' : World} {b n : Nat} (h : Src B w b n) (he : Ext w w') : Src B w' b n := by
  obtain ⟨A, c, bs, k, s, h1, h2, h3⟩ := h
  exact ⟨A, c, bs, k, s, h1.ext he, h2.ext he, h3⟩
theorem Src.lt {B : Nat} {w : World} {b n : Nat} (h : Src B w b n) : b < w.heap.size := by
  obtain ⟨A, c, bs, k, s, h1, _, _⟩ := h
  exact h1.lt
/-- A store of a number into a cell that holds no byte leaves bytes as they are. -/
theorem Bytes.store {w : World} {v : Value} {bs : List Int} (h : Bytes w v bs) {p : Addr} {u : Value} (hp : w.cell? p = some u) (hu : ∀ z, u ≠ .int .u8 z) (x : Value) : Bytes (w.setCell p x) v bs := by
  obtain ⟨⟨A, c, rfl, h1, h1', h2, h3⟩, h4⟩ := h
  refine ⟨⟨A, c, rfl, h1, h1', h2, fun hn => ?_⟩, h4⟩
  obtain ⟨b, off, rfl, hc⟩ := h3 hn
  refine ⟨b, off, rfl, fun j hj => ?_⟩
  have hj' : j < bs.length := by simpa [bvs] using hj
  have := hc j hj
  rw [bvs_get bs j hj'] at this ⊢
  refine (World.cell?_setCell_other w p _ x (fun e => ?_)).trans this
  have e2 : w.cell? p = some (.int .u8 bs[j]) := by first | (rw [← e]; exact this) | (rw [e]; exact this)
  rw [hp] at e2
  injection e2 with e2
  exact hu _ e2
theorem grownBy_drewN (w : World) (n : Nat) (row : Option Nat) : w.grownBy (w.drewN n) row := ⟨rfl, rfl, rfl, Nat.le_refl _, fun _ _ _ => rfl⟩
theorem Src.after {w : World} {b n k : Nat} {A : Option Addr} {c : Nat} {bs : List Int} {s : Int} (hb : Blk w b 87 #[.slice A bs.length c, .int .i64 k, .int .u64 s]) (hby : Bytes w (.slice A bs.length c) bs) (hk : k ≤ n) {B : Nat} (hB : ∀ a, A = some a → 0 < bs.length → a.block < B) (a a' : Nat) (s' : Int) :
    Src B ((((w.drewN a).setCell ⟨b, 1, none⟩ (.int .i64 (k + 1))).setCell ⟨b, 2, none⟩ (.int .u64 s')).drewN a') b (n + 1) ∧ w.grownBy ((((w.drewN a).setCell ⟨b, 1, none⟩ (.int .i64 (k + 1))).setCell ⟨b, 2, none⟩ (.int .u64 s')).drewN a') (some b) := by
  have q1 := hb.cell 1
  simp only [List.getElem?_toArray, List.getElem?_cons_zero, List.getElem?_cons_succ] at q1
  have h1 : Blk (w.drewN a) b 87 #[.slice A bs.length c, .int .i64 k, .int .u64 s] := hb
  have h2 := h1.set_ 1 (.int .i64 (k + 1))
  have h3 := h2.set_ 2 (.int .u64 s')
  have q2 := h2.cell 2
  have b1 : Bytes (w.drewN a) (.slice A bs.length c) bs := hby.ext (Ext.drewN _ _)
  have b2 := b1.store (p := ⟨b, 1, none⟩) q1 (fun z h => by cases h) (.int .i64 (k + 1))
  have b3 := b2.store (p := ⟨b, 2, none⟩) (u := .int .u64 s) q2 (fun z h => by cases h) (.int .u64 s')
  refine ⟨⟨A, c, bs, k + 1, s', h3, b3.ext (Ext.drewN _ _), by omega, hB⟩, ?_⟩
  exact ⟨rfl, rfl, rfl, by simp [World.setCell, World.drewN], fun i hi hne => by
    have hne' : i ≠ b := fun e => hne (by rw [e])
    show ((((w.drewN a).setCell ⟨b, 1, none⟩ _).setCell ⟨b, 2, none⟩ _)).heap[i]? = w.heap[i]?
    rw [Below.heap_setCell _ _ _ _ hne', Below.heap_setCell _ _ _ _ hne']
    rfl⟩
theorem and255 (x : Int) : 0 ≤ wrap64 (bits .and .u64 x 255) ∧ wrap64 (bits .and .u64 x 255) ≤ 255 := by
  have h : ∃ n : Nat, n ≤ 255 ∧ bits .and .u64 x 255 = IntKind.u64.wrap (n : Int) := by
    refine ⟨(BitVec.ofInt 64 x &&& BitVec.ofInt 64 255).toNat, ?_, rfl⟩
    rw [BitVec.toNat_and]
    have e : (BitVec.ofInt 64 255).toNat = 255 := by decide
    rw [e]
    exact Nat.and_le_right
  obtain ⟨n, hn, e⟩ := h
  have e2 : IntKind.u64.wrap (n : Int) = n := by rw [IntKind.wrap_u64]; omega
  rw [e, e2]
  have e3 : wrap64 (n : Int) = n := by unfold wrap64; omega
  rw [e3]
  omega
def NextRes (B : Nat) (w : World) (b n : Nat) (e : Ending) (w' : World) : Prop := (∃ x : Int, e = .returned (.int .i64 x) ∧ 0 ≤ x ∧ x ≤ 255) ∧ Src B w' b (n + 1) ∧ w.grownBy w' (some b)
set_option maxHeartbeats 1000000 in
theorem next_c (B b n : Nat) (w : World) (h : Src B w b n) (hn : n ≤ 1152921504606846976) :
    Calls Tryz.prog 47 #[.pointer (some ⟨b, 0, none⟩)] w (NextRes B w b n) := by
  obtain ⟨A, c, bs, k, s, hb, hby, hk, hB⟩ := h
  have q0 := hb.cell 0
  have q1 := hb.cell 1
  have q2 := hb.cell 2
  have f1 := hb.frozen 1
  have f2 := hb.frozen 2
  simp only [List.getElem?_toArray, List.getElem?_cons_zero, List.getElem?_cons_succ] at q0 q1 q2
  obtain ⟨A', c', hv, g1, g2, g3⟩ := hby.1.form
  injection hv with hA _ hc
  subst hA
  subst hc
  by_cases hlt : k < bs.length
  · have hlt' : (k : Int) < (bs.length : Int) := by omega
    obtain ⟨b', off, rfl, hcc⟩ := Row.at hby.1 hlt
    have d0 := hcc k (by omega)
    rw [bvs_get bs k hlt] at d0
    have hz := hby.2 bs[k] (List.getElem_mem hlt)
    generalize bs[k] = z at *
    clear hcc
    go_enter Tryz.func47, Tryz.ntmps47
    go_wp2
    go_quiet (fail)
    go_wp2
    go_quiet (fail)
    go_wp2
    go_quiet (fail)
    go_wp2
    go_ret
    obtain ⟨h1, h2⟩ := Src.after hb hby hk hB _ _ _
    exact ⟨⟨z, rfl, hz.1, hz.2⟩, h1, h2⟩
  · have hlt' : decide ((k : Int) < (bs.length : Int)) = false := by simp; omega
    have hlt2 : decide ((k : Int) + 1 ≤ (bs.length : Int)) = false := by simp; omega
    have hlt3 : decide (k < bs.length) = false := by simp; omega
    have hlt4 : decide (k + 1 ≤ bs.length) = false := by simp; omega
    go_enter Tryz.func47, Tryz.ntmps47
    go_wp2
    go_quiet (fail)
    go_wp2
    go_quiet (fail)
    go_wp2
    go_ret
    obtain ⟨h1, h2⟩ := Src.after hb hby hk hB _ _ _
    exact ⟨⟨_, rfl, (and255 _).1, (and255 _).2⟩, h1, h2⟩
def PickRes (B : Nat) (w : World) (b n : Nat) (k : Int) (e : Ending) (w' : World) : Prop := (∃ x : Int, e = .returned (.int .i64 x) ∧ 0 ≤ x ∧ (k ≤ 1 → x = 0) ∧ (1 < k → x < k)) ∧ Src B w' b (n + 2) ∧ w.grownBy w' (some b)
theorem pick_c (B b n : Nat) (k : Int) (w : World) (h : Src B w b n) (hn : n ≤ 1000000000000) :
    Calls Tryz.prog 17 #[.pointer (some ⟨b, 0, none⟩), .int .i64 k] w (PickRes B w b n k) := by
  by_cases h1 : k ≤ 1
  · go_enter Tryz.func17, Tryz.ntmps17
    go_wp2
    go_ret
    exact ⟨⟨0, rfl, by omega, fun _ => rfl, fun h => by omega⟩, h.mono (by omega), World.grownBy.refl _ _⟩
  · have hd1 : decide (k ≤ 1) = false := by simp; omega
    go_enter Tryz.func17, Tryz.ntmps17
    go_wp2_with fail
    refine (next_c B b n w h (by omega)).mono ?_
    rintro e w1 ⟨⟨x, rfl, x0, x1⟩, hs1, hg1⟩
    by_cases h2 : 200 < k
    · go_wp2_with fail
      refine (next_c B b (n + 1) w1 hs1 (by omega)).mono ?_
      rintro e w2 ⟨⟨y, rfl, y0, y1⟩, hs2, hg2⟩
      have hp : 0 ≤ x * 256 + y := by omega
      have hr := fun W => rem_run (P := Tryz.prog) 2 (x * 256 + y) k hp (by omega) W
      go_wp2
      go_ret
      exact ⟨⟨_, rfl, Int.emod_nonneg _ (by omega), fun h => by omega, fun _ => Int.emod_lt_of_pos _ (by omega)⟩, hs2, grownBy_trans hg1 hg2⟩
    · have hd2 : decide (200 < k) = false := by simp; omega
      have hr := fun W => rem_run (P := Tryz.prog) 2 x k x0 (by omega) W
      go_wp2
      go_ret
      exact ⟨⟨_, rfl, Int.emod_nonneg _ (by omega), fun h => by omega, fun _ => Int.emod_lt_of_pos _ (by omega)⟩, hs1.mono (by omega), hg1⟩
def OneRes (B : Nat) (w : World) (b n : Nat) (e : Ending) (w' : World) : Prop := (∃ x : Bool, e = .returned (.bool x)) ∧ Src B w' b (n + 2) ∧ w.grownBy w' (some b)
theorem one_c (B b n : Nat) (k : Int) (w : World) (h : Src B w b n) (hn : n ≤ 1000000000000) :
    Calls Tryz.prog 48 #[.pointer (some ⟨b, 0, none⟩), .int .i64 k] w (OneRes B w b n) := by
  go_enter Tryz.func48, Tryz.ntmps48
  go_wp2_with fail
  refine (pick_c B b n k w h hn).mono ?_
  rintro e w1 ⟨⟨x, rfl, _, _, _⟩, hs1, hg1⟩
  go_wp2
  go_ret
  exact ⟨⟨_, rfl⟩, hs1, hg1⟩
theorem own_src {B : Nat} {w w' : World} {b n : Nat} (h : Src B w b n) (hg : w.grownBy w' (some b)) {base : Nat} {e : TypeId} {size : Nat} {v : Value} {m : Nat} {xs : List Value} (ho : w.ownsRow base e size v m xs) (hne : 87 ≠ e) : w'.ownsRow base e size v m xs := by
  obtain ⟨A, c, bs, k, s, h1, _, _⟩ := h
  refine ho.kept hg (.inr fun he => ?_)
  rcases ho.2 with ⟨rfl, _⟩ | ⟨g', cap, cur, rfl, _, hh, _⟩
  · simp [Value.ownBlock] at he
  · have : b = g' := by simpa [Value.ownBlock] using he.symm
    subst this
    unfold Blk at h1
    rw [h1] at hh
    injection hh with hh
    injection hh with _ ht
    exact hne ht
theorem blk_src {B : Nat} {w w' : World} {b n : Nat} (h : Src B w b n) (hg : w.grownBy w' (some b)) {g : Nat} {t : TypeId} {cs : Array Value} (hb : Blk w g t cs) (hne : 87 ≠ t) : Blk w' g t cs := by
  obtain ⟨A, c, bs, k, s, h1, _, _⟩ := h
  refine (hg.block g hb.lt (fun e => ?_)).trans hb
  injection e with e
  subst e
  unfold Blk at h1 hb
  rw [h1] at hb
  injection hb with hb
  injection hb with _ ht
  exact hne ht
def AmongRes (B : Nat) (w : World) (b n : Nat) (zs : List Int) (e : Ending) (w' : World) : Prop := (∃ z, e = .returned (.int .i64 z) ∧ z ∈ zs) ∧ Src B w' b (n + 2) ∧ w.grownBy w' (some b)
theorem among_c (B base b n : Nat) (v : Value) (zs : List Int) (w : World) (h : Src B w b n) (ho : OwnInts base w v zs) (hz : 0 < zs.length) (hn : n ≤ 1000000000000) :
    Calls Tryz.prog 44 #[.pointer (some ⟨b, 0, none⟩), v] w (AmongRes B w b n zs) := by
  obtain ⟨A, c, rfl, h1, h2⟩ := ho.ints.form
  go_enter Tryz.func44, Tryz.ntmps44
  go_wp2_with fail
  refine (pick_c B b n zs.length w h hn).mono ?_
  rintro e w1 ⟨⟨x, rfl, x0, x1, x2⟩, hs1, hg1⟩
  have hlt : x.toNat < zs.length := by
    by_cases c : (zs.length : Int) ≤ 1
    · have := x1 c; omega
    · have := x2 (by omega); omega
  have ho1 : OwnInts base w1 (.slice A zs.length c) zs := own_src h hg1 ho (by decide)
  obtain ⟨b', off, rfl, hc⟩ := ho1.ints.at hlt
  have d0 := hc x.toNat hlt
  obtain ⟨xn, rfl⟩ : ∃ xn : Nat, x = (xn : Int) := ⟨x.toNat, by omega⟩
  simp only [Int.toNat_natCast] at d0 hlt
  have HM := Lib.hid (List.getElem_mem hlt)
  generalize zs[xn] = z at *
  clear hc x1 x2
  go_wp2
  go_ret
  exact ⟨⟨z, rfl, HM.out⟩, hs1, hg1⟩
theorem from_c (v : Value) (bs : List Int) (w : World) (h : Bytes w v bs) :
    Calls Tryz.prog 15 #[v] w fun e w' => (∃ b, e = .returned (.pointer (some ⟨b, 0, none⟩)) ∧ w.heap.size ≤ b ∧ Src w.heap.size w' b 0) ∧ Ext w w' := by
  obtain ⟨A, c, rfl, h1, h2, _⟩ := h.1.form
  have HA : Hid (∀ a, A = some a → 0 < bs.length → a.block < w.heap.size) := by
    intro a ha hn
    obtain ⟨b', off, hA, hc⟩ := Row.at h.1 hn
    rw [ha] at hA
    injection hA with hA
    subst hA
    have := hc 0 (by omega)
    rw [bvs_get bs 0 hn] at this
    exact World.block_lt_of_cell? w _ this
  go_enter Tryz.func15, Tryz.ntmps15
  go_wp2
  go_ret
  exact ⟨⟨_, rfl, Nat.le_refl _, A, c, bs, 0, 0, Blk.new _ _ _ _ rfl, h.ext (Ext.alloc _ _), Nat.le_refl _, fun a ha hn => HA.out a ha hn⟩, Ext.alloc _ _⟩
theorem Src.kept {B : Nat} {w w' : World} {b n : Nat} (h : Src B w b n) {row : Option Nat} (hg : w.grownBy w' row) (hr : ∀ k, row = some k → B ≤ k ∧ k ≠ b) : Src B w' b n := by
  obtain ⟨A, c, bs, k, s, h1, h2, h3, h4⟩ := h
  refine ⟨A, c, bs, k, s, (hg.block b h1.lt (fun e => (hr b e.symm).2 rfl)).trans h1, ⟨?_, h2.2⟩, h3, h4⟩
  obtain ⟨A', c', hv, g1, g2, g3, g4⟩ := h2.1
  injection hv with hA _ hc'
  subst hA
  subst hc'
  refine ⟨A, c, rfl, g1, g2, g3, fun hn => ?_⟩
  obtain ⟨b', off, rfl, hcc⟩ := g4 hn
  refine ⟨b', off, rfl, fun j hj => ?_⟩
  have := hcc j hj
  rw [List.getElem?_eq_getElem hj] at this ⊢
  have hlt := World.block_lt_of_cell? w _ this
  refine (World.cell?_of_block (hg.block b' hlt (fun e => ?_))).trans this
  have e1 := (hr b' e.symm).1
  have e2 := h4 _ rfl hn
  simp only at e2
  omega
end Go.Proofs.YtkbpchdncljlbaaGreatDoor
namespace Go.Proofs.YtkbpchdncljlbaaGreatDoor
open Go Go.RowKit Go.Proofs
set_option maxHeartbeats 400000
theorem b10Long_c (v : Value) (bs : List Int) (w : World) (h : Bytes w v bs) :
    Calls Tryz.prog 4 #[v] w fun e w' => e = .returned (.bool (decide (1048576 < bs.length))) ∧ w = w' := by
  obtain ⟨A, c, rfl, h1, h2, _⟩ := h.1.form
  by_cases hl : 1048576 < bs.length
  · have H : decide ((1048576 : Int) < (bs.length : Int)) = true := by simp; omega
    have HL := Lib.hid hl
    clear hl
    go_enter Tryz.func4, Tryz.ntmps4
    go_wp2
    go_ret
    exact ⟨by simp [HL.out], rfl⟩
  · have H : decide ((1048576 : Int) < (bs.length : Int)) = false := by simp; omega
    have HL := Lib.hid hl
    clear hl
    go_enter Tryz.func4, Tryz.ntmps4
    go_wp2
    go_ret
    exact ⟨by simp [HL.out], rfl⟩
theorem b10At_c (v : Value) (bs : List Int) (i n : Int) (w : World) (h : Bytes w v bs) (i0 : 0 ≤ i) (i1 : i ≤ 100) :
    Calls Tryz.prog 6 #[v, .int .i64 i, .int .i64 n] w fun e w' => (∃ z : Int, e = .returned (.int .i64 z) ∧ 0 ≤ z ∧ (n ≤ 1 → z = 0) ∧ (1 < n → z < n)) ∧ w = w' := by
  obtain ⟨A, c, rfl, h1, h2, _⟩ := h.1.form
  by_cases hn : n ≤ 1
  · go_enter Tryz.func6, Tryz.ntmps6
    go_wp2
    go_ret
    exact ⟨⟨0, rfl, by omega, fun _ => rfl, fun h => by omega⟩, rfl⟩
  · have hd1 : decide (n ≤ 1) = false := by simp; omega
    obtain ⟨k, rfl⟩ : ∃ k : Nat, i = (k : Int) := ⟨i.toNat, by omega⟩
    by_cases hlt : k < bs.length
    · obtain ⟨b', off, rfl, hcc⟩ := Row.at h.1 hlt
      have d0 := hcc k (by simpa [bvs] using hlt)
      rw [bvs_get bs k hlt] at d0
      have hz := h.2 bs[k] (List.getElem_mem hlt)
      generalize bs[k] = z at *
      have hr := fun W => rem_run (P := Tryz.prog) 2 z n hz.1 (by omega) W
      clear hcc
      go_enter Tryz.func6, Tryz.ntmps6
      go_wp2
      go_ret
      exact ⟨⟨_, rfl, Int.emod_nonneg _ (by omega), by intros; omega, by intros; exact Int.emod_lt_of_pos _ (by omega)⟩, rfl⟩
    · have hlt' : decide (k < bs.length) = false := by simp; omega
      have hr := fun W => rem_run (P := Tryz.prog) 2 ((k : Int) * 37 + 11) n (by omega) (by omega) W
      go_enter Tryz.func6, Tryz.ntmps6
      go_wp2
      go_ret
      exact ⟨⟨_, rfl, Int.emod_nonneg _ (by omega), by intros; omega, by intros; exact Int.emod_lt_of_pos _ (by omega)⟩, rfl⟩
end Go.Proofs.YtkbpchdncljlbaaGreatDoor
end
section
namespace Go.Proofs.YtkbpchdncljlbaaGreatDoor
open Go Go.RowKit Go.ChangeShapes Go.WideShapes Go.Deep Go.Joins
section
variable {H : Type} {enc : TypeId × Value → H} {w : World}
theorem open_bytes {fuel : Nat} {v : Value} {x : DataW H × List MemPlace} (h : DataW.trod enc Tryz.prog w 0 (fun _ => true) true fuel 22 [v] = some x) : ∃ bs, Bytes w v bs := by
  obtain ⟨ls, xs, h1, h2⟩ := open_rows (size := 1) (fun cs (a : Int) => cs = [.int .u8 a] ∧ 0 ≤ a ∧ a ≤ 255) Tryz.underlying22 (by kernel_rfl) (by omega) (fun n cs y hy => by
    obtain ⟨k, e, _, hw⟩ := DataW.trod_int Tryz.underlying5 hy
    exact ⟨k, e, by simpa [Lit.wf, IntKind.min, IntKind.max, IntKind.signed, IntKind.bits] using hw⟩) h
  have e : xs = ls.flatMap fun a => [.int .u8 a] := flat_of_rows (size := 1) (fun a => [.int .u8 a]) (fun _ => rfl) ls xs (by obtain ⟨_, _, _, _, _, q⟩ := h1.form; exact q) (fun i hi => (h2 i hi).1)
  have e2 : xs = bvs ls := by rw [e]; unfold bvs; rw [List.map_eq_flatMap]
  refine ⟨ls, by rw [← e2]; exact h1, fun z hz => ?_⟩
  obtain ⟨i, hi, rfl⟩ := List.getElem_of_mem hz
  exact (h2 i hi).2
set_option maxRecDepth 100000 in
theorem open_bytesT {r : Reach} {b0 : Nat} {v : Value} {d : DataW H} {p : List MemPlace} (hv : Value.okWide Tryz.prog w r b0 22 v) (h : DataW.Trod enc Tryz.prog w 0 (fun _ => true) true 22 v d p) : ∃ bs, Bytes w v bs := by
  obtain ⟨a, l, c, rfl⟩ := okWide_slice Tryz.underlying22 hv
  obtain ⟨n, h⟩ := h
  exact open_bytes h
end
end Go.Proofs.YtkbpchdncljlbaaGreatDoor
end
section
set_option linter.unusedSimpArgs false
set_option linter.unusedVariables false
namespace Go.Proofs.YtkbpchdncljlbaaGreatDoor
open Go Go.RowKit Go.Proofs
set_option maxHeartbeats 400000
set_option maxRecDepth 20000 in
set_option maxHeartbeats 4000000 in
theorem writeStringA_c (B b : Nat) (l : List UInt8) (s : ByteArray) (w : World) (h : Bldr B b l w) (hlen : l.length + s.size ≤ 140737488355328) (hBw : B ≤ w.heap.size) :
    Calls Tryz.prog 64 #[.pointer (some ⟨b, 0, none⟩), .string s] w fun e w' => e = .returned (.tuple #[.int .i64 s.size, .nilIface]) ∧ BdAt B b (.pointer (some ⟨b, 0, none⟩)) (l ++ s.data.toList) w' ∧ Below B w w' := by
  obtain ⟨i0, hi, hz0, hz1, hz2⟩ := info_parts byteInfo
  have hbl : (Lib.byteCells l).length = l.length := by simp [Lib.byteCells]
  go_enter Tryz.func64, Tryz.ntmps64
  go_wp2_with fail
  refine (copyCheck_c B b l w h).mono ?_
  rintro e w1 ⟨rfl, h1, hb1⟩
  obtain ⟨hB, v, hbk, hown, hne⟩ := h1
  rw [hbl] at hown
  obtain ⟨ao, cap, rfl⟩ : ∃ ao cap, v = .slice ao l.length cap := by
    rcases hown.2 with ⟨hv, h0⟩ | ⟨g, cap, cur, hv, _⟩
    · exact ⟨none, 0, by rw [hv, h0]⟩
    · exact ⟨_, _, hv⟩
  have c0 : w1.cell? ⟨b, 0, none⟩ = some (.pointer (some ⟨b, 0, none⟩)) := by rw [Lib.cell_of_heap hbk]; rfl
  have c1 : w1.cell? ⟨b, 1, none⟩ = some (.slice ao l.length cap) := by rw [Lib.cell_of_heap hbk]; rfl
  go_wp2_with (at_builtin; refine Lib.wpList_append_own_string _ rfl _ _ 22 9 rfl B 5 i0 Tryz.underlying22 Tryz.underlying9 hi hz0 hz1 hz2 _ _ _ rfl hown s rfl ?c3 ?c4 ?c5 ?_)
  case c3 => unfold maxLen; omega
  case c4 => omega
  case c5 => have := hb1.size; omega
  intro v' w2 hown' hgrow _
  have hlt : b < w1.heap.size := by
    rcases Nat.lt_or_ge b w1.heap.size with h' | h'
    · exact h'
    · simp [Array.getElem?_eq_none h'] at hbk
  have hb2 : w2.heap[b]? = some (.cells #[.pointer (some ⟨b, 0, none⟩), .slice ao l.length cap] 113 (0, 0)) := by
    rw [hgrow.block b hlt (fun e => hne e.symm)]
    exact hbk
  have d0 : w2.cell? ⟨b, 0, none⟩ = some (.pointer (some ⟨b, 0, none⟩)) := by rw [Lib.cell_of_heap hb2]; rfl
  have d1 : w2.cell? ⟨b, 1, none⟩ = some (.slice ao l.length cap) := by rw [Lib.cell_of_heap hb2]; rfl
  have f1 : w2.frozen? ⟨b, 1, none⟩ = false := Lib.frozen_of_heap hb2 1
  obtain ⟨ao', n', cap', rfl⟩ : ∃ ao n' cap, v' = .slice ao n' cap := by
    rcases hown'.2 with ⟨hv, _⟩ | ⟨g, cap, cur, hv, _⟩
    · exact ⟨_, _, _, hv⟩
    · exact ⟨_, _, _, hv⟩
  go_wp2
  go_ret2
  refine ⟨rfl, ?_, ?_⟩
  · refine Lib.BuilderAt.put (T := 113) (e := 5) hB hb2 (bs' := Lib.byteCells (l ++ s.data.toList)) ?_ (by decide)
    have : Lib.byteCells (l ++ s.data.toList) = Lib.byteCells l ++ Lib.strCells s := by simp [Lib.byteCells, Lib.strCells]
    rw [this]
    have e : (Lib.byteCells l ++ Lib.strCells s).length = l.length + s.size := by simp [hbl, Lib.strCells_length]
    rw [e]
    exact hown'
  · exact (hb1.grown hgrow (by have := hb1.size; omega) (fun k hk => (hown.lt k hk).1)).setCell (p := ⟨b, 1, none⟩) hB _
end Go.Proofs.YtkbpchdncljlbaaGreatDoor
end
