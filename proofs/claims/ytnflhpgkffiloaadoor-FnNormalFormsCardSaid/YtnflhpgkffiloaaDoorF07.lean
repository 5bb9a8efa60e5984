/- Contracts of the reference's source of choices: bytes first, then a sequence of its own. Fewer than 2 to the power of 60 choices are made.
Contracts of the laws' small helpers on bytes, lists and rows.
The arguments of a law on bytes, opened. No condition.
Contracts of the reference's small parts of a run of a machine: copies, sides of the tape, the index of the rule.
Contracts of the reference's small parts of a run of a machine, continued. -/
import Derived.Test.YtnflhpgkffiloaaDoorF02
import Derived.Test.YtnflhpgkffiloaaDoorF04
import Derived.Test.YtnflhpgkffiloaaDoorF03
section
namespace Go.Proofs.YtnflhpgkffiloaaDoor
open Go Go.RowKit Go.Proofs
set_option maxHeartbeats 400000
def bvs (bs : List Int) : List Value := bs.map (Value.int .u8)
/-- A slice of bytes. -/
def Bytes (w : World) (v : Value) (bs : List Int) : Prop := Row w 1 v bs.length (bvs bs) ∧ ∀ z ∈ bs, 0 ≤ z ∧ z ≤ 255
theorem Bytes.ext {w w' : World} {v : Value} {bs : List Int} (h : Bytes w v bs) (he : Ext w w') : Bytes w' v bs := ⟨Row.ext h.1 he, h.2⟩
theorem bvs_get (bs : List Int) (k : Nat) (h : k < bs.length) : (bvs bs)[k]? = some (.int .u8 bs[k]) := by simp [bvs, h]
/-- A source of choices: at most n have been made; its bytes lie below block B. -/
def Src (B : Nat) (w : World) (b n : Nat) : Prop := ∃ (A : Option Addr) (c : Nat) (bs : List Int) (k : Nat) (s : Int), Blk w b 68 #[.slice A bs.length c, .int .i64 k, .int .u64 s] ∧ Bytes w (.slice A bs.length c) bs ∧ k ≤ n ∧ (∀ a, A = some a → 0 < bs.length → a.block < B)
theorem Src.mono {B : Nat} {w : World} {b n n' : Nat} (h : Src B w b n) (hn : n ≤ n') : Src B w b n' := by
  obtain ⟨A, c, bs, k, s, h1, h2, h3, h4⟩ := h
  exact ⟨A, c, bs, k, s, h1, h2, by omega, h4⟩
theorem Src.ext {B : Nat} {w w' : World} {b n : Nat} (h : Src B w b n) (he : Ext w w') : Src B w' b n := by
  obtain ⟨A, c, bs, k, s, h1, h2, h3⟩ := h
  exact ⟨A, c, bs, k, s, h1.ext he, h2.ext he, h3⟩
theorem Src.lt {B : Nat} {w : World} {b n : Nat} (h : Src B w b n) : b < w.heap.size := by
  obtain ⟨A, c, bs, k, s, h1, _, _⟩ := h
  exact h1.lt
/-- A store of a number into a cell that holds no byte leaves bytes as they are. -/
theorem Bytes.store {w : World} {v : Value} {bs : List Int} (h : Bytes w v bs) {p : Addr} {u : Value} (hp : w.cell? p = some u) (hu : ∀ z, u ≠ .int .u8 z) (x : Value) : Bytes (w.setCell p x) v bs := by
  obtain ⟨⟨A, c, rfl, h1, h1', h2, h3⟩, h4⟩ := h
  refine ⟨⟨A, c, rfl, h1, h1', h2, fun hn => ?_⟩, h4⟩
  obtain ⟨b, off, rfl, hc⟩ := h3 hn
  refine ⟨b, off, rfl, fun j hj => ?_⟩
  have hj' : j < bs.length := by simpa [bvs] using hj
  have := hc j hj
  rw [bvs_get bs j hj'] at this ⊢
  refine (World.cell?_setCell_other w p _ x (fun e => ?_)).trans this
  have e2 : w.cell? p = some (.int .u8 bs[j]) := by first | (rw [← e]; exact this) | (rw [e]; exact this)
  rw [hp] at e2
  injection e2 with e2
  exact hu _ e2
theorem Src.after {w : World} {b n k : Nat} {A : Option Addr} {c : Nat} {bs : List Int} {s : Int} (hb : Blk w b 68 #[.slice A bs.length c, .int .i64 k, .int .u64 s]) (hby : Bytes w (.slice A bs.length c) bs) (hk : k ≤ n) {B : Nat} (hB : ∀ a, A = some a → 0 < bs.length → a.block < B) (a a' : Nat) (s' : Int) :
    Src B ((((w.drewN a).setCell ⟨b, 1, none⟩ (.int .i64 (k + 1))).setCell ⟨b, 2, none⟩ (.int .u64 s')).drewN a') b (n + 1) ∧ w.grownBy ((((w.drewN a).setCell ⟨b, 1, none⟩ (.int .i64 (k + 1))).setCell ⟨b, 2, none⟩ (.int .u64 s')).drewN a') (some b) := by
  have q1 := hb.cell 1
  simp only [List.getElem?_toArray, List.getElem?_cons_zero, List.getElem?_cons_succ] at q1
  have h1 : Blk (w.drewN a) b 68 #[.slice A bs.length c, .int .i64 k, .int .u64 s] := hb
  have h2 := h1.set_ 1 (.int .i64 (k + 1))
  have h3 := h2.set_ 2 (.int .u64 s')
  have q2 := h2.cell 2
  have b1 : Bytes (w.drewN a) (.slice A bs.length c) bs := hby.ext (Ext.drewN _ _)
  have b2 := b1.store (p := ⟨b, 1, none⟩) q1 (fun z h => by cases h) (.int .i64 (k + 1))
  have b3 := b2.store (p := ⟨b, 2, none⟩) (u := .int .u64 s) q2 (fun z h => by cases h) (.int .u64 s')
  refine ⟨⟨A, c, bs, k + 1, s', h3, b3.ext (Ext.drewN _ _), by omega, hB⟩, ?_⟩
  exact ⟨rfl, rfl, rfl, by simp [World.setCell, World.drewN], fun i hi hne => by
    have hne' : i ≠ b := fun e => hne (by rw [e])
    show ((((w.drewN a).setCell ⟨b, 1, none⟩ _).setCell ⟨b, 2, none⟩ _)).heap[i]? = w.heap[i]?
    rw [Below.heap_setCell _ _ _ _ hne', Below.heap_setCell _ _ _ _ hne']
    rfl⟩
theorem and255 (x : Int) : 0 ≤ wrap64 (bits .and .u64 x 255) ∧ wrap64 (bits .and .u64 x 255) ≤ 255 := by
  have h : ∃ n : Nat, n ≤ 255 ∧ bits .and .u64 x 255 = IntKind.u64.wrap (n : Int) := by
    refine ⟨(BitVec.ofInt 64 x &&& BitVec.ofInt 64 255).toNat, ?_, rfl⟩
    rw [BitVec.toNat_and]
    have e : (BitVec.ofInt 64 255).toNat = 255 := by decide
    rw [e]
    exact Nat.and_le_right
  obtain ⟨n, hn, e⟩ := h
  have e2 : IntKind.u64.wrap (n : Int) = n := by rw [IntKind.wrap_u64]; omega
  rw [e, e2]
  have e3 : wrap64 (n : Int) = n := by unfold wrap64; omega
  rw [e3]
  omega
def NextRes (B : Nat) (w : World) (b n : Nat) (e : Ending) (w' : World) : Prop := (∃ x : Int, e = .returned (.int .i64 x) ∧ 0 ≤ x ∧ x ≤ 255) ∧ Src B w' b (n + 1) ∧ w.grownBy w' (some b)
set_option maxHeartbeats 1000000 in
theorem next_c (B b n : Nat) (w : World) (h : Src B w b n) (hn : n ≤ 1152921504606846976) :
    Calls Tryd.prog 35 #[.pointer (some ⟨b, 0, none⟩)] w (NextRes B w b n) := by
  obtain ⟨A, c, bs, k, s, hb, hby, hk, hB⟩ := h
  have q0 := hb.cell 0
  have q1 := hb.cell 1
  have q2 := hb.cell 2
  have f1 := hb.frozen 1
  have f2 := hb.frozen 2
  simp only [List.getElem?_toArray, List.getElem?_cons_zero, List.getElem?_cons_succ] at q0 q1 q2
  obtain ⟨A', c', hv, g1, g2, g3⟩ := hby.1.form
  injection hv with hA _ hc
  subst hA
  subst hc
  by_cases hlt : k < bs.length
  · have hlt' : (k : Int) < (bs.length : Int) := by omega
    obtain ⟨b', off, rfl, hcc⟩ := Row.at hby.1 hlt
    have d0 := hcc k (by omega)
    rw [bvs_get bs k hlt] at d0
    have hz := hby.2 bs[k] (List.getElem_mem hlt)
    generalize bs[k] = z at *
    clear hcc
    go_enter Tryd.func35, Tryd.ntmps35
    go_wp2
    go_quiet (fail)
    go_wp2
    go_quiet (fail)
    go_wp2
    go_quiet (fail)
    go_wp2
    go_ret
    obtain ⟨h1, h2⟩ := Src.after hb hby hk hB _ _ _
    exact ⟨⟨z, rfl, hz.1, hz.2⟩, h1, h2⟩
  · have hlt' : decide ((k : Int) < (bs.length : Int)) = false := by simp; omega
    have hlt2 : decide ((k : Int) + 1 ≤ (bs.length : Int)) = false := by simp; omega
    have hlt3 : decide (k < bs.length) = false := by simp; omega
    have hlt4 : decide (k + 1 ≤ bs.length) = false := by simp; omega
    go_enter Tryd.func35, Tryd.ntmps35
    go_wp2
    go_quiet (fail)
    go_wp2
    go_quiet (fail)
    go_wp2
    go_ret
    obtain ⟨h1, h2⟩ := Src.after hb hby hk hB _ _ _
    exact ⟨⟨_, rfl, (and255 _).1, (and255 _).2⟩, h1, h2⟩
def PickRes (B : Nat) (w : World) (b n : Nat) (k : Int) (e : Ending) (w' : World) : Prop := (∃ x : Int, e = .returned (.int .i64 x) ∧ 0 ≤ x ∧ (k ≤ 1 → x = 0) ∧ (1 < k → x < k)) ∧ Src B w' b (n + 2) ∧ w.grownBy w' (some b)
theorem pick_c (B b n : Nat) (k : Int) (w : World) (h : Src B w b n) (hn : n ≤ 1000000000000) :
    Calls Tryd.prog 15 #[.pointer (some ⟨b, 0, none⟩), .int .i64 k] w (PickRes B w b n k) := by
  by_cases h1 : k ≤ 1
  · go_enter Tryd.func15, Tryd.ntmps15
    go_wp2
    go_ret
    exact ⟨⟨0, rfl, by omega, fun _ => rfl, fun h => by omega⟩, h.mono (by omega), World.grownBy.refl _ _⟩
  · have hd1 : decide (k ≤ 1) = false := by simp; omega
    go_enter Tryd.func15, Tryd.ntmps15
    go_wp2_with fail
    refine (next_c B b n w h (by omega)).mono ?_
    rintro e w1 ⟨⟨x, rfl, x0, x1⟩, hs1, hg1⟩
    by_cases h2 : 200 < k
    · go_wp2_with fail
      refine (next_c B b (n + 1) w1 hs1 (by omega)).mono ?_
      rintro e w2 ⟨⟨y, rfl, y0, y1⟩, hs2, hg2⟩
      have hp : 0 ≤ x * 256 + y := by omega
      have hr := fun W => rem_run (P := Tryd.prog) 2 (x * 256 + y) k hp (by omega) W
      go_wp2
      go_ret
      exact ⟨⟨_, rfl, Int.emod_nonneg _ (by omega), fun h => by omega, fun _ => Int.emod_lt_of_pos _ (by omega)⟩, hs2, grownBy_trans hg1 hg2⟩
    · have hd2 : decide (200 < k) = false := by simp; omega
      have hr := fun W => rem_run (P := Tryd.prog) 2 x k x0 (by omega) W
      go_wp2
      go_ret
      exact ⟨⟨_, rfl, Int.emod_nonneg _ (by omega), fun h => by omega, fun _ => Int.emod_lt_of_pos _ (by omega)⟩, hs1.mono (by omega), hg1⟩
def OneRes (B : Nat) (w : World) (b n : Nat) (e : Ending) (w' : World) : Prop := (∃ x : Bool, e = .returned (.bool x)) ∧ Src B w' b (n + 2) ∧ w.grownBy w' (some b)
theorem one_c (B b n : Nat) (k : Int) (w : World) (h : Src B w b n) (hn : n ≤ 1000000000000) :
    Calls Tryd.prog 32 #[.pointer (some ⟨b, 0, none⟩), .int .i64 k] w (OneRes B w b n) := by
  go_enter Tryd.func32, Tryd.ntmps32
  go_wp2_with fail
  refine (pick_c B b n k w h hn).mono ?_
  rintro e w1 ⟨⟨x, rfl, _, _, _⟩, hs1, hg1⟩
  go_wp2
  go_ret
  exact ⟨⟨_, rfl⟩, hs1, hg1⟩
theorem own_src {B : Nat} {w w' : World} {b n : Nat} (h : Src B w b n) (hg : w.grownBy w' (some b)) {base : Nat} {e : TypeId} {size : Nat} {v : Value} {m : Nat} {xs : List Value} (ho : w.ownsRow base e size v m xs) (hne : 68 ≠ e) : w'.ownsRow base e size v m xs := by
  obtain ⟨A, c, bs, k, s, h1, _, _⟩ := h
  refine ho.kept hg (.inr fun he => ?_)
  rcases ho.2 with ⟨rfl, _⟩ | ⟨g', cap, cur, rfl, _, hh, _⟩
  · simp [Value.ownBlock] at he
  · have : b = g' := by simpa [Value.ownBlock] using he.symm
    subst this
    unfold Blk at h1
    rw [h1] at hh
    injection hh with hh
    injection hh with _ ht
    exact hne ht
theorem blk_src {B : Nat} {w w' : World} {b n : Nat} (h : Src B w b n) (hg : w.grownBy w' (some b)) {g : Nat} {t : TypeId} {cs : Array Value} (hb : Blk w g t cs) (hne : 68 ≠ t) : Blk w' g t cs := by
  obtain ⟨A, c, bs, k, s, h1, _, _⟩ := h
  refine (hg.block g hb.lt (fun e => ?_)).trans hb
  injection e with e
  subst e
  unfold Blk at h1 hb
  rw [h1] at hb
  injection hb with hb
  injection hb with _ ht
  exact hne ht
theorem from_c (v : Value) (bs : List Int) (w : World) (h : Bytes w v bs) :
    Calls Tryd.prog 12 #[v] w fun e w' => (∃ b, e = .returned (.pointer (some ⟨b, 0, none⟩)) ∧ w.heap.size ≤ b ∧ Src w.heap.size w' b 0) ∧ Ext w w' := by
  obtain ⟨A, c, rfl, h1, h2, _⟩ := h.1.form
  have HA : Hid (∀ a, A = some a → 0 < bs.length → a.block < w.heap.size) := by
    intro a ha hn
    obtain ⟨b', off, hA, hc⟩ := Row.at h.1 hn
    rw [ha] at hA
    injection hA with hA
    subst hA
    have := hc 0 (by omega)
    rw [bvs_get bs 0 hn] at this
    exact World.block_lt_of_cell? w _ this
  go_enter Tryd.func12, Tryd.ntmps12
  go_wp2
  go_ret
  exact ⟨⟨_, rfl, Nat.le_refl _, A, c, bs, 0, 0, Blk.new _ _ _ _ rfl, h.ext (Ext.alloc _ _), Nat.le_refl _, fun a ha hn => HA.out a ha hn⟩, Ext.alloc _ _⟩
theorem Src.kept {B : Nat} {w w' : World} {b n : Nat} (h : Src B w b n) {row : Option Nat} (hg : w.grownBy w' row) (hr : ∀ k, row = some k → B ≤ k ∧ k ≠ b) : Src B w' b n := by
  obtain ⟨A, c, bs, k, s, h1, h2, h3, h4⟩ := h
  refine ⟨A, c, bs, k, s, (hg.block b h1.lt (fun e => (hr b e.symm).2 rfl)).trans h1, ⟨?_, h2.2⟩, h3, h4⟩
  obtain ⟨A', c', hv, g1, g2, g3, g4⟩ := h2.1
  injection hv with hA _ hc'
  subst hA
  subst hc'
  refine ⟨A, c, rfl, g1, g2, g3, fun hn => ?_⟩
  obtain ⟨b', off, rfl, hcc⟩ := g4 hn
  refine ⟨b', off, rfl, fun j hj => ?_⟩
  have := hcc j hj
  rw [List.getElem?_eq_getElem hj] at this ⊢
  have hlt := World.block_lt_of_cell? w _ this
  refine (World.cell?_of_block (hg.block b' hlt (fun e => ?_))).trans this
  have e1 := (hr b' e.symm).1
  have e2 := h4 _ rfl hn
  simp only at e2
  omega
end Go.Proofs.YtnflhpgkffiloaaDoor
namespace Go.Proofs.YtnflhpgkffiloaaDoor
open Go Go.RowKit Go.Proofs
set_option maxHeartbeats 400000
end Go.Proofs.YtnflhpgkffiloaaDoor
end
section
namespace Go.Proofs.YtnflhpgkffiloaaDoor
open Go Go.RowKit Go.ChangeShapes Go.WideShapes Go.Deep Go.Joins
section
variable {H : Type} {enc : TypeId × Value → H} {w : World}
theorem open_bytes {fuel : Nat} {v : Value} {x : DataW H × List MemPlace} (h : DataW.trod enc Tryd.prog w 0 (fun _ => true) true fuel 22 [v] = some x) : ∃ bs, Bytes w v bs := by
  obtain ⟨ls, xs, h1, h2⟩ := open_rows (size := 1) (fun cs (a : Int) => cs = [.int .u8 a] ∧ 0 ≤ a ∧ a ≤ 255) Tryd.underlying22 (by kernel_rfl) (by omega) (fun n cs y hy => by
    obtain ⟨k, e, _, hw⟩ := DataW.trod_int Tryd.underlying5 hy
    exact ⟨k, e, by simpa [Lit.wf, IntKind.min, IntKind.max, IntKind.signed, IntKind.bits] using hw⟩) h
  have e : xs = ls.flatMap fun a => [.int .u8 a] := flat_of_rows (size := 1) (fun a => [.int .u8 a]) (fun _ => rfl) ls xs (by obtain ⟨_, _, _, _, _, q⟩ := h1.form; exact q) (fun i hi => (h2 i hi).1)
  have e2 : xs = bvs ls := by rw [e]; unfold bvs; rw [List.map_eq_flatMap]
  refine ⟨ls, by rw [← e2]; exact h1, fun z hz => ?_⟩
  obtain ⟨i, hi, rfl⟩ := List.getElem_of_mem hz
  exact (h2 i hi).2
set_option maxRecDepth 100000 in
theorem open_bytesT {r : Reach} {b0 : Nat} {v : Value} {d : DataW H} {p : List MemPlace} (hv : Value.okWide Tryd.prog w r b0 22 v) (h : DataW.Trod enc Tryd.prog w 0 (fun _ => true) true 22 v d p) : ∃ bs, Bytes w v bs := by
  obtain ⟨a, l, c, rfl⟩ := okWide_slice Tryd.underlying22 hv
  obtain ⟨n, h⟩ := h
  exact open_bytes h
end
end Go.Proofs.YtnflhpgkffiloaaDoor
end
section
namespace Go.Proofs.YtnflhpgkffiloaaDoor
open Go Go.RowKit Go.Proofs
set_option maxHeartbeats 400000
theorem Ints.take {w : World} {A : Option Addr} {c : Nat} {zs : List Int} (h : Ints w (.slice A zs.length c) zs) (k : Nat) (hk : k ≤ zs.length) : Ints w (.slice A k c) (zs.take k) := by
  obtain ⟨A', c', hv, g1, g2, g3, g4⟩ := h
  injection hv with hA _ hc
  subst hA
  subst hc
  have hl : (zs.take k).length = k := by simp; omega
  refine ⟨A, c, by rw [hl], by omega, g2, by simp [ivs], fun hn => ?_⟩
  rw [hl] at hn
  obtain ⟨b, off, hA, hcc⟩ := g4 (by omega)
  refine ⟨b, off, hA, fun j hj => ?_⟩
  have hj' : j < k := by rw [ivs_length, hl] at hj; exact hj
  rw [hcc j (by rw [ivs_length]; omega), ivs_get zs j (by omega), ivs_get (zs.take k) j (by omega)]
  simp
/-- How many cells a side keeps when the blanks at its end go. -/
def trimN (xs : List Int) : Nat → Nat
  | 0 => 0
  | n + 1 => if xs.getD n 0 = 0 then trimN xs n else n + 1
def trim (xs : List Int) : List Int := xs.take (trimN xs xs.length)
theorem trimN_le (xs : List Int) (n : Nat) : trimN xs n ≤ n := by
  induction n with
  | zero => exact Nat.le_refl _
  | succ n ih => unfold trimN; split <;> omega
theorem trimN_zero (xs : List Int) : ∀ n i, trimN xs n ≤ i → i < n → xs.getD i 0 = 0 := by
  intro n
  induction n with
  | zero => intro i _ h; omega
  | succ n ih =>
    intro i h1 h2
    unfold trimN at h1
    split at h1
    · rename_i h
      by_cases c : i = n
      · subst c; exact h
      · exact ih i h1 (by omega)
    · omega
theorem trim_get (xs : List Int) (i : Nat) : (trim xs).getD i 0 = xs.getD i 0 := by
  have h1 := trimN_le xs xs.length
  by_cases c : i < trimN xs xs.length
  · simp only [trim, List.getD_eq_getElem?_getD, List.getElem?_take, if_pos c]
  · have e : (trim xs).getD i 0 = 0 := by
      rw [List.getD_eq_getElem?_getD, List.getElem?_eq_none (by simp [trim]; omega)]
      rfl
    rw [e]
    by_cases d : i < xs.length
    · exact (trimN_zero xs xs.length i (by omega) d).symm
    · rw [List.getD_eq_getElem?_getD, List.getElem?_eq_none (by omega)]
      rfl
end Go.Proofs.YtnflhpgkffiloaaDoor
namespace Go.Proofs.YtnflhpgkffiloaaDoor
open Go Go.RowKit Go.Proofs
set_option maxHeartbeats 400000
structure ConfR where
  q : Int
  l : List Int
  r : List Int
/-- A configuration in memory. -/
def ConfAt (w : World) (b : Nat) (c : ConfR) : Prop := ∃ lv rv, w.cell? ⟨b, 0, none⟩ = some (.int .i64 c.q) ∧ w.cell? ⟨b, 1, none⟩ = some lv ∧ w.cell? ⟨b, 2, none⟩ = some rv ∧ Ints w lv c.l ∧ Ints w rv c.r
theorem ConfAt.ext {w w' : World} {b : Nat} {c : ConfR} (h : ConfAt w b c) (he : Ext w w') : ConfAt w' b c := by
  obtain ⟨lv, rv, h1, h2, h3, h4, h5⟩ := h
  exact ⟨lv, rv, he.cell h1, he.cell h2, he.cell h3, h4.ext he, h5.ext he⟩
end Go.Proofs.YtnflhpgkffiloaaDoor
end
