/- Contracts of the reference's source of choices: bytes first, then a sequence of its own. Fewer than 2 to the power of 60 choices are made.
Contracts of the laws' small helpers on bytes, lists and rows.
The arguments of a law on bytes, opened. No condition.
Contracts of the tests whether rules and machines are valid, the program's and the reference's. No condition but that a rule is looked at for valid numbers of symbols and states.
Contracts of the reference's test whether a machine is valid. No condition.
Contracts of the program's test whether a machine is valid. No condition.
Contracts of the program's test whether a machine is valid, continued. No condition. -/
import Derived.Test.YtapjofbjedpmgaaGreatC02
section
namespace Go.Proofs.YtapjofbjedpmgaaGreat
open Go Go.RowKit Go.Proofs
set_option maxHeartbeats 400000
def bvs (bs : List Int) : List Value := bs.map (Value.int .u8)
/-- A slice of bytes. -/
def Bytes (w : World) (v : Value) (bs : List Int) : Prop := Row w 1 v bs.length (bvs bs) ∧ ∀ z ∈ bs, 0 ≤ z ∧ z ≤ 255
theorem Bytes.ext {w w' : World} {v : Value} {bs : List Int} (h : Bytes w v bs) (he : Ext w w') : Bytes w' v bs := ⟨Row.ext h.1 he, h.2⟩
theorem bvs_get (bs : List Int) (k : Nat) (h : k < bs.length) : (bvs bs)[k]? = some (.int .u8 bs[k]) := by simp [bvs, h]
/-- A source of choices: at most n have been made; its bytes lie below block B. -/
def Src (B : Nat) (w : World) (b n : Nat) : Prop := ∃ (A : Option Addr) (c : Nat) (bs : List Int) (k : Nat) (s : Int), Blk w b 89 #[.slice A bs.length c, .int .i64 k, .int .u64 s] ∧ Bytes w (.slice A bs.length c) bs ∧ k ≤ n ∧ (∀ a, A = some a → 0 < bs.length → a.block < B)
theorem Src.mono {B : Nat} {w : World} {b n n' : Nat} (h : Src B w b n) (hn : n ≤ n') : Src B w b n' := by
  obtain ⟨A, c, bs, k, s, h1, h2, h3, h4⟩ := h
  exact ⟨A, c, bs, k, s, h1, h2, by omega, h4⟩
theorem Src.ext {B : Nat} {w w' : World} {b n : Nat} (h : Src B w b n) (he : Ext w w') : Src B w' b n := by
  obtain ⟨A, c, bs, k, s, h1, h2, h3⟩ := h
  exact ⟨A, c, bs, k, s, h1.ext he, h2.ext he, h3⟩
theorem Src.lt {B : Nat} {w : World} {b n : Nat} (h : Src B w b n) : b < w.heap.size := by
  obtain ⟨A, c, bs, k, s, h1, _, _⟩ := h
  exact h1.lt
/-- A store of a number into a cell that holds no byte leaves bytes as they are. -/
theorem Bytes.store {w : World} {v : Value} {bs : List Int} (h : Bytes w v bs) {p : Addr} {u : Value} (hp : w.cell? p = some u) (hu : ∀ z, u ≠ .int .u8 z) (x : Value) : Bytes (w.setCell p x) v bs := by
  obtain ⟨⟨A, c, rfl, h1, h1', h2, h3⟩, h4⟩ := h
  refine ⟨⟨A, c, rfl, h1, h1', h2, fun hn => ?_⟩, h4⟩
  obtain ⟨b, off, rfl, hc⟩ := h3 hn
  refine ⟨b, off, rfl, fun j hj => ?_⟩
  have hj' : j < bs.length := by simpa [bvs] using hj
  have := hc j hj
  rw [bvs_get bs j hj'] at this ⊢
  refine (World.cell?_setCell_other w p _ x (fun e => ?_)).trans this
  have e2 : w.cell? p = some (.int .u8 bs[j]) := by first | (rw [← e]; exact this) | (rw [e]; exact this)
  rw [hp] at e2
  injection e2 with e2
  exact hu _ e2
theorem Src.after {w : World} {b n k : Nat} {A : Option Addr} {c : Nat} {bs : List Int} {s : Int} (hb : Blk w b 89 #[.slice A bs.length c, .int .i64 k, .int .u64 s]) (hby : Bytes w (.slice A bs.length c) bs) (hk : k ≤ n) {B : Nat} (hB : ∀ a, A = some a → 0 < bs.length → a.block < B) (a a' : Nat) (s' : Int) :
    Src B ((((w.drewN a).setCell ⟨b, 1, none⟩ (.int .i64 (k + 1))).setCell ⟨b, 2, none⟩ (.int .u64 s')).drewN a') b (n + 1) ∧ w.grownBy ((((w.drewN a).setCell ⟨b, 1, none⟩ (.int .i64 (k + 1))).setCell ⟨b, 2, none⟩ (.int .u64 s')).drewN a') (some b) := by
  have q1 := hb.cell 1
  simp only [List.getElem?_toArray, List.getElem?_cons_zero, List.getElem?_cons_succ] at q1
  have h1 : Blk (w.drewN a) b 89 #[.slice A bs.length c, .int .i64 k, .int .u64 s] := hb
  have h2 := h1.set_ 1 (.int .i64 (k + 1))
  have h3 := h2.set_ 2 (.int .u64 s')
  have q2 := h2.cell 2
  have b1 : Bytes (w.drewN a) (.slice A bs.length c) bs := hby.ext (Ext.drewN _ _)
  have b2 := b1.store (p := ⟨b, 1, none⟩) q1 (fun z h => by cases h) (.int .i64 (k + 1))
  have b3 := b2.store (p := ⟨b, 2, none⟩) (u := .int .u64 s) q2 (fun z h => by cases h) (.int .u64 s')
  refine ⟨⟨A, c, bs, k + 1, s', h3, b3.ext (Ext.drewN _ _), by omega, hB⟩, ?_⟩
  exact ⟨rfl, rfl, rfl, by simp [World.setCell, World.drewN], fun i hi hne => by
    have hne' : i ≠ b := fun e => hne (by rw [e])
    show ((((w.drewN a).setCell ⟨b, 1, none⟩ _).setCell ⟨b, 2, none⟩ _)).heap[i]? = w.heap[i]?
    rw [Below.heap_setCell _ _ _ _ hne', Below.heap_setCell _ _ _ _ hne']
    rfl⟩
theorem and255 (x : Int) : 0 ≤ wrap64 (bits .and .u64 x 255) ∧ wrap64 (bits .and .u64 x 255) ≤ 255 := by
  have h : ∃ n : Nat, n ≤ 255 ∧ bits .and .u64 x 255 = IntKind.u64.wrap (n : Int) := by
    refine ⟨(BitVec.ofInt 64 x &&& BitVec.ofInt 64 255).toNat, ?_, rfl⟩
    rw [BitVec.toNat_and]
    have e : (BitVec.ofInt 64 255).toNat = 255 := by decide
    rw [e]
    exact Nat.and_le_right
  obtain ⟨n, hn, e⟩ := h
  have e2 : IntKind.u64.wrap (n : Int) = n := by rw [IntKind.wrap_u64]; omega
  rw [e, e2]
  have e3 : wrap64 (n : Int) = n := by unfold wrap64; omega
  rw [e3]
  omega
def NextRes (B : Nat) (w : World) (b n : Nat) (e : Ending) (w' : World) : Prop := (∃ x : Int, e = .returned (.int .i64 x) ∧ 0 ≤ x ∧ x ≤ 255) ∧ Src B w' b (n + 1) ∧ w.grownBy w' (some b)
set_option maxHeartbeats 1000000 in
theorem next_c (B b n : Nat) (w : World) (h : Src B w b n) (hn : n ≤ 1152921504606846976) :
    Calls Tryz.prog 54 #[.pointer (some ⟨b, 0, none⟩)] w (NextRes B w b n) := by
  obtain ⟨A, c, bs, k, s, hb, hby, hk, hB⟩ := h
  have q0 := hb.cell 0
  have q1 := hb.cell 1
  have q2 := hb.cell 2
  have f1 := hb.frozen 1
  have f2 := hb.frozen 2
  simp only [List.getElem?_toArray, List.getElem?_cons_zero, List.getElem?_cons_succ] at q0 q1 q2
  obtain ⟨A', c', hv, g1, g2, g3⟩ := hby.1.form
  injection hv with hA _ hc
  subst hA
  subst hc
  by_cases hlt : k < bs.length
  · have hlt' : (k : Int) < (bs.length : Int) := by omega
    obtain ⟨b', off, rfl, hcc⟩ := Row.at hby.1 hlt
    have d0 := hcc k (by omega)
    rw [bvs_get bs k hlt] at d0
    have hz := hby.2 bs[k] (List.getElem_mem hlt)
    generalize bs[k] = z at *
    clear hcc
    go_enter Tryz.func54, Tryz.ntmps54
    go_wp2
    go_quiet (fail)
    go_wp2
    go_quiet (fail)
    go_wp2
    go_quiet (fail)
    go_wp2
    go_ret
    obtain ⟨h1, h2⟩ := Src.after hb hby hk hB _ _ _
    exact ⟨⟨z, rfl, hz.1, hz.2⟩, h1, h2⟩
  · have hlt' : decide ((k : Int) < (bs.length : Int)) = false := by simp; omega
    have hlt2 : decide ((k : Int) + 1 ≤ (bs.length : Int)) = false := by simp; omega
    have hlt3 : decide (k < bs.length) = false := by simp; omega
    have hlt4 : decide (k + 1 ≤ bs.length) = false := by simp; omega
    go_enter Tryz.func54, Tryz.ntmps54
    go_wp2
    go_quiet (fail)
    go_wp2
    go_quiet (fail)
    go_wp2
    go_ret
    obtain ⟨h1, h2⟩ := Src.after hb hby hk hB _ _ _
    exact ⟨⟨_, rfl, (and255 _).1, (and255 _).2⟩, h1, h2⟩
def PickRes (B : Nat) (w : World) (b n : Nat) (k : Int) (e : Ending) (w' : World) : Prop := (∃ x : Int, e = .returned (.int .i64 x) ∧ 0 ≤ x ∧ (k ≤ 1 → x = 0) ∧ (1 < k → x < k)) ∧ Src B w' b (n + 2) ∧ w.grownBy w' (some b)
theorem pick_c (B b n : Nat) (k : Int) (w : World) (h : Src B w b n) (hn : n ≤ 1000000000000) :
    Calls Tryz.prog 19 #[.pointer (some ⟨b, 0, none⟩), .int .i64 k] w (PickRes B w b n k) := by
  by_cases h1 : k ≤ 1
  · go_enter Tryz.func19, Tryz.ntmps19
    go_wp2
    go_ret
    exact ⟨⟨0, rfl, by omega, fun _ => rfl, fun h => by omega⟩, h.mono (by omega), World.grownBy.refl _ _⟩
  · have hd1 : decide (k ≤ 1) = false := by simp; omega
    go_enter Tryz.func19, Tryz.ntmps19
    go_wp2_with fail
    refine (next_c B b n w h (by omega)).mono ?_
    rintro e w1 ⟨⟨x, rfl, x0, x1⟩, hs1, hg1⟩
    by_cases h2 : 200 < k
    · go_wp2_with fail
      refine (next_c B b (n + 1) w1 hs1 (by omega)).mono ?_
      rintro e w2 ⟨⟨y, rfl, y0, y1⟩, hs2, hg2⟩
      have hp : 0 ≤ x * 256 + y := by omega
      have hr := fun W => rem_run (P := Tryz.prog) 2 (x * 256 + y) k hp (by omega) W
      go_wp2
      go_ret
      exact ⟨⟨_, rfl, Int.emod_nonneg _ (by omega), fun h => by omega, fun _ => Int.emod_lt_of_pos _ (by omega)⟩, hs2, grownBy_trans hg1 hg2⟩
    · have hd2 : decide (200 < k) = false := by simp; omega
      have hr := fun W => rem_run (P := Tryz.prog) 2 x k x0 (by omega) W
      go_wp2
      go_ret
      exact ⟨⟨_, rfl, Int.emod_nonneg _ (by omega), fun h => by omega, fun _ => Int.emod_lt_of_pos _ (by omega)⟩, hs1.mono (by omega), hg1⟩
def OneRes (B : Nat) (w : World) (b n : Nat) (e : Ending) (w' : World) : Prop := (∃ x : Bool, e = .returned (.bool x)) ∧ Src B w' b (n + 2) ∧ w.grownBy w' (some b)
theorem one_c (B b n : Nat) (k : Int) (w : World) (h : Src B w b n) (hn : n ≤ 1000000000000) :
    Calls Tryz.prog 21 #[.pointer (some ⟨b, 0, none⟩), .int .i64 k] w (OneRes B w b n) := by
  go_enter Tryz.func21, Tryz.ntmps21
  go_wp2_with fail
  refine (pick_c B b n k w h hn).mono ?_
  rintro e w1 ⟨⟨x, rfl, _, _, _⟩, hs1, hg1⟩
  go_wp2
  go_ret
  exact ⟨⟨_, rfl⟩, hs1, hg1⟩
theorem own_src {B : Nat} {w w' : World} {b n : Nat} (h : Src B w b n) (hg : w.grownBy w' (some b)) {base : Nat} {e : TypeId} {size : Nat} {v : Value} {m : Nat} {xs : List Value} (ho : w.ownsRow base e size v m xs) (hne : 89 ≠ e) : w'.ownsRow base e size v m xs := by
  obtain ⟨A, c, bs, k, s, h1, _, _⟩ := h
  refine ho.kept hg (.inr fun he => ?_)
  rcases ho.2 with ⟨rfl, _⟩ | ⟨g', cap, cur, rfl, _, hh, _⟩
  · simp [Value.ownBlock] at he
  · have : b = g' := by simpa [Value.ownBlock] using he.symm
    subst this
    unfold Blk at h1
    rw [h1] at hh
    injection hh with hh
    injection hh with _ ht
    exact hne ht
theorem blk_src {B : Nat} {w w' : World} {b n : Nat} (h : Src B w b n) (hg : w.grownBy w' (some b)) {g : Nat} {t : TypeId} {cs : Array Value} (hb : Blk w g t cs) (hne : 89 ≠ t) : Blk w' g t cs := by
  obtain ⟨A, c, bs, k, s, h1, _, _⟩ := h
  refine (hg.block g hb.lt (fun e => ?_)).trans hb
  injection e with e
  subst e
  unfold Blk at h1 hb
  rw [h1] at hb
  injection hb with hb
  injection hb with _ ht
  exact hne ht
theorem from_c (v : Value) (bs : List Int) (w : World) (h : Bytes w v bs) :
    Calls Tryz.prog 17 #[v] w fun e w' => (∃ b, e = .returned (.pointer (some ⟨b, 0, none⟩)) ∧ w.heap.size ≤ b ∧ Src w.heap.size w' b 0) ∧ Ext w w' := by
  obtain ⟨A, c, rfl, h1, h2, _⟩ := h.1.form
  have HA : Hid (∀ a, A = some a → 0 < bs.length → a.block < w.heap.size) := by
    intro a ha hn
    obtain ⟨b', off, hA, hc⟩ := Row.at h.1 hn
    rw [ha] at hA
    injection hA with hA
    subst hA
    have := hc 0 (by omega)
    rw [bvs_get bs 0 hn] at this
    exact World.block_lt_of_cell? w _ this
  go_enter Tryz.func17, Tryz.ntmps17
  go_wp2
  go_ret
  exact ⟨⟨_, rfl, Nat.le_refl _, A, c, bs, 0, 0, Blk.new _ _ _ _ rfl, h.ext (Ext.alloc _ _), Nat.le_refl _, fun a ha hn => HA.out a ha hn⟩, Ext.alloc _ _⟩
theorem Src.kept {B : Nat} {w w' : World} {b n : Nat} (h : Src B w b n) {row : Option Nat} (hg : w.grownBy w' row) (hr : ∀ k, row = some k → B ≤ k ∧ k ≠ b) : Src B w' b n := by
  obtain ⟨A, c, bs, k, s, h1, h2, h3, h4⟩ := h
  refine ⟨A, c, bs, k, s, (hg.block b h1.lt (fun e => (hr b e.symm).2 rfl)).trans h1, ⟨?_, h2.2⟩, h3, h4⟩
  obtain ⟨A', c', hv, g1, g2, g3, g4⟩ := h2.1
  injection hv with hA _ hc'
  subst hA
  subst hc'
  refine ⟨A, c, rfl, g1, g2, g3, fun hn => ?_⟩
  obtain ⟨b', off, rfl, hcc⟩ := g4 hn
  refine ⟨b', off, rfl, fun j hj => ?_⟩
  have := hcc j hj
  rw [List.getElem?_eq_getElem hj] at this ⊢
  have hlt := World.block_lt_of_cell? w _ this
  refine (World.cell?_of_block (hg.block b' hlt (fun e => ?_))).trans this
  have e1 := (hr b' e.symm).1
  have e2 := h4 _ rfl hn
  simp only at e2
  omega
end Go.Proofs.YtapjofbjedpmgaaGreat
namespace Go.Proofs.YtapjofbjedpmgaaGreat
open Go Go.RowKit Go.Proofs
set_option maxHeartbeats 400000
end Go.Proofs.YtapjofbjedpmgaaGreat
end
section
namespace Go.Proofs.YtapjofbjedpmgaaGreat
open Go Go.RowKit Go.ChangeShapes Go.WideShapes Go.Deep Go.Joins
section
variable {H : Type} {enc : TypeId × Value → H} {w : World}
theorem open_bytes {fuel : Nat} {v : Value} {x : DataW H × List MemPlace} (h : DataW.trod enc Tryz.prog w 0 (fun _ => true) true fuel 22 [v] = some x) : ∃ bs, Bytes w v bs := by
  obtain ⟨ls, xs, h1, h2⟩ := open_rows (size := 1) (fun cs (a : Int) => cs = [.int .u8 a] ∧ 0 ≤ a ∧ a ≤ 255) Tryz.underlying22 (by kernel_rfl) (by omega) (fun n cs y hy => by
    obtain ⟨k, e, _, hw⟩ := DataW.trod_int Tryz.underlying5 hy
    exact ⟨k, e, by simpa [Lit.wf, IntKind.min, IntKind.max, IntKind.signed, IntKind.bits] using hw⟩) h
  have e : xs = ls.flatMap fun a => [.int .u8 a] := flat_of_rows (size := 1) (fun a => [.int .u8 a]) (fun _ => rfl) ls xs (by obtain ⟨_, _, _, _, _, q⟩ := h1.form; exact q) (fun i hi => (h2 i hi).1)
  have e2 : xs = bvs ls := by rw [e]; unfold bvs; rw [List.map_eq_flatMap]
  refine ⟨ls, by rw [← e2]; exact h1, fun z hz => ?_⟩
  obtain ⟨i, hi, rfl⟩ := List.getElem_of_mem hz
  exact (h2 i hi).2
set_option maxRecDepth 100000 in
theorem open_bytesT {r : Reach} {b0 : Nat} {v : Value} {d : DataW H} {p : List MemPlace} (hv : Value.okWide Tryz.prog w r b0 22 v) (h : DataW.Trod enc Tryz.prog w 0 (fun _ => true) true 22 v d p) : ∃ bs, Bytes w v bs := by
  obtain ⟨a, l, c, rfl⟩ := okWide_slice Tryz.underlying22 hv
  obtain ⟨n, h⟩ := h
  exact open_bytes h
end
end Go.Proofs.YtapjofbjedpmgaaGreat
end
section
namespace Go.Proofs.YtapjofbjedpmgaaGreat
open Go Go.RowKit Go.Proofs
set_option maxHeartbeats 400000
def ruleOk (sy st : Int) (r : RuleD) : Bool := decide (r = noR) || (inB r.w 0 (sy - 1) && ((r.m == 1) || (r.m == -1)) && inB r.n 0 (st - 1))
theorem ruleWays (sy st a b c : Int) (h : ¬ (⟨a, b, c⟩ : RuleD) = noR) : (inB a 0 (sy - 1) = false ∧ ruleOk sy st ⟨a, b, c⟩ = false) ∨
    (inB a 0 (sy - 1) = true ∧ (b == 1) = true ∧ (b == -1) = false ∧ inB c 0 (st - 1) = false ∧ ruleOk sy st ⟨a, b, c⟩ = false) ∨ (inB a 0 (sy - 1) = true ∧ (b == 1) = true ∧ (b == -1) = false ∧ inB c 0 (st - 1) = true ∧ ruleOk sy st ⟨a, b, c⟩ = true) ∨
    (inB a 0 (sy - 1) = true ∧ (b == 1) = false ∧ (b == -1) = true ∧ inB c 0 (st - 1) = false ∧ ruleOk sy st ⟨a, b, c⟩ = false) ∨ (inB a 0 (sy - 1) = true ∧ (b == 1) = false ∧ (b == -1) = true ∧ inB c 0 (st - 1) = true ∧ ruleOk sy st ⟨a, b, c⟩ = true) ∨
    (inB a 0 (sy - 1) = true ∧ (b == 1) = false ∧ (b == -1) = false ∧ ruleOk sy st ⟨a, b, c⟩ = false) := by
  unfold ruleOk
  have h' : decide ((⟨a, b, c⟩ : RuleD) = noR) = false := by simpa using h
  rw [h']
  by_cases e1 : b = 1
  · subst e1
    cases inB a 0 (sy - 1) <;> cases inB c 0 (st - 1) <;> simp
  · by_cases e2 : b = -1
    · subst e2
      cases inB a 0 (sy - 1) <;> cases inB c 0 (st - 1) <;> simp
    · have e1' : (b == 1) = false := by simp [e1]
      have e2' : (b == -1) = false := by simp [e2]
      cases inB a 0 (sy - 1) <;> cases inB c 0 (st - 1) <;> simp [e1', e2']
theorem l05Rule_c (a b c sy st : Int) (w : World) (h1 : 2 ≤ sy) (h2 : sy ≤ 6) (h3 : 1 ≤ st) (h4 : st ≤ 1000) : Calls Tryz.prog 135 #[.agg #[.int .i64 a, .int .i64 b, .int .i64 c], .int .i64 sy, .int .i64 st] w fun e w' => e = .returned (.bool (ruleOk sy st ⟨a, b, c⟩)) ∧ Ext w w' := by
  have rn := ruleEql_run
  by_cases hn : (⟨a, b, c⟩ : RuleD) = noR
  · have H : ruleOk sy st ⟨a, b, c⟩ = true := by simp [ruleOk, hn]
    simp only [noR, RuleD.mk.injEq] at hn
    obtain ⟨rfl, rfl, rfl⟩ := hn
    have hnb : rEq ⟨0, 0, -1⟩ ⟨0, 0, -1⟩ = true := by simp [rEq]
    go_enter Tryz.func135, Tryz.ntmps135
    go_wp2
    obtain ⟨w1, bk, e1, e2, hx, hB, _, c0, c1, c2⟩ := box3 w (.int .i64 0) (.int .i64 0) (.int .i64 (-1)) 65
    rw [e1, e2]
    clear e1 e2
    have d0 := cellR c0
    have d1 := cellR c1
    have d2 := cellR c2
    refine wp_region_ext (by kernel_rfl) (by kernel_rfl) ?_
    repeat (go_big_quiet_step ((go_at_call 94; exact Calls.extR (l05None_c _))))
    refine wpQuiet_nil ?_
    intro w2 hx2
    go_wp2
    go_ret
    exact ⟨by simp [H], hx.trans hx2⟩
  · have hnb : rEq ⟨a, b, c⟩ ⟨0, 0, -1⟩ = false := by simpa [rEq, noR] using hn
    have hw := ruleWays sy st a b c hn
    clear hn
    go_enter Tryz.func135, Tryz.ntmps135
    go_wp2
    obtain ⟨w1, bk, e1, e2, hx, hB, _, c0, c1, c2⟩ := box3 w (.int .i64 a) (.int .i64 b) (.int .i64 c) 65
    rw [e1, e2]
    clear e1 e2
    have d0 := cellR c0
    have d1 := cellR c1
    have d2 := cellR c2
    refine wp_region_ext (by kernel_rfl) (by kernel_rfl) ?_
    repeat (go_big_quiet_step ((go_at_call 94; exact Calls.extR (l05None_c _))))
    refine wpQuiet_nil ?_
    intro w2 hx2
    have c0 := hx2.cell c0
    have c1 := hx2.cell c1
    have c2 := hx2.cell c2
    clear d0 d1 d2 rn
    rcases hw with ⟨p1, p2⟩ | ⟨p1, p2, p3, p4, p5⟩ | ⟨p1, p2, p3, p4, p5⟩ | ⟨p1, p2, p3, p4, p5⟩ | ⟨p1, p2, p3, p4, p5⟩ | ⟨p1, p2, p3, p4⟩
    all_goals
      go_wp2_with (go_at_call 134; refine (l00In_c _ _ _ _).mono ?_; rintro e w' ⟨rfl, rfl⟩)
      go_ret
      exact ⟨by simp [*], hx.trans hx2⟩
end Go.Proofs.YtapjofbjedpmgaaGreat
namespace Go.Proofs.YtapjofbjedpmgaaGreat
open Go Go.RowKit Go.Proofs
set_option maxHeartbeats 400000
def machOk (m : MachD) : Bool := inB m.sy 2 6 && inB m.st 1 1000 && decide ((m.rules.length : Int) = m.sy * m.st) && m.rules.all (ruleOk m.sy m.st)
/-- A machine behind a pointer to its block's head. -/
def MachAt (w : World) (b : Nat) (m : MachD) : Prop := ∃ rv, w.cell? ⟨b, 0, none⟩ = some (.int .i64 m.sy) ∧ w.cell? ⟨b, 1, none⟩ = some (.int .i64 m.st) ∧ w.cell? ⟨b, 2, none⟩ = some rv ∧ Rules w rv m.rules
theorem MachAt.ext {w w' : World} {b : Nat} {m : MachD} (h : MachAt w b m) (he : Ext w w') : MachAt w' b m := by
  obtain ⟨rv, h0, h1, h2, hr⟩ := h
  exact ⟨rv, he.cell h0, he.cell h1, he.cell h2, hr.ext he⟩
theorem mul_bounds {a b : Int} (h1 : 2 ≤ a) (h2 : a ≤ 6) (h3 : 1 ≤ b) (h4 : b ≤ 1000) : 0 ≤ a * b ∧ a * b ≤ 6000 := by
  have e1 : 0 ≤ a * b := Int.mul_nonneg (by omega) (by omega)
  have e2 : a * b ≤ 6 * 1000 := Int.mul_le_mul h2 h4 (by omega) (by omega)
  omega
/-- The first k rules are valid. -/
def okTo (m : MachD) (k : Nat) : Prop := (m.rules.take k).all (ruleOk m.sy m.st) = true
theorem okTo_step {m : MachD} {k : Nat} (h : okTo m k) (hk : k < m.rules.length) (he : ruleOk m.sy m.st m.rules[k] = true) : okTo m (k + 1) := by
  unfold okTo at *
  rw [List.take_succ_eq_append_getElem hk, List.all_append, h]; simp [he]
theorem okTo_end {m : MachD} {k : Nat} (h : okTo m k) (hk : m.rules.length ≤ k) : m.rules.all (ruleOk m.sy m.st) = true := by
  unfold okTo at h
  rwa [List.take_of_length_le hk] at h
theorem all_false {m : MachD} {k : Nat} (hk : k < m.rules.length) (he : ruleOk m.sy m.st m.rules[k] = false) : m.rules.all (ruleOk m.sy m.st) = false := by
  rw [List.all_eq_false]
  exact ⟨m.rules[k], List.getElem_mem hk, by simp [he]⟩
theorem l05Is_c (b : Nat) (m : MachD) (w : World) (h : MachAt w b m) :
    Calls Tryz.prog 116 #[.pointer (some ⟨b, 0, none⟩)] w fun e w' => e = .returned (.bool (machOk m)) ∧ Ext w w' := by
  obtain ⟨rv, p0, p1, p2, hr⟩ := h
  obtain ⟨A, c, rfl, h2, h2'⟩ := hr.form
  have d0 := cellR p0
  have d1 := cellR p1
  have d2 := cellR p2
  cases hsy : inB m.sy 2 6
  · have H : machOk m = false := by simp [machOk, hsy]
    go_enter Tryz.func116, Tryz.ntmps116
    go_wp2
    refine wp_region_ext (by kernel_rfl) (by kernel_rfl) ?_
    repeat (go_big_quiet_step ((go_at_call 134; exact Calls.sameR (l00In_c _ _ _ _))))
    refine wpQuiet_nil ?_
    intro w2 hx2
    go_wp2
    go_ret
    exact ⟨by simp [H], hx2⟩
  cases hst : inB m.st 1 1000
  · have H : machOk m = false := by simp [machOk, hst]
    go_enter Tryz.func116, Tryz.ntmps116
    go_wp2
    refine wp_region_ext (by kernel_rfl) (by kernel_rfl) ?_
    repeat (go_big_quiet_step ((go_at_call 134; exact Calls.sameR (l00In_c _ _ _ _))))
    refine wpQuiet_nil ?_
    intro w2 hx2
    go_wp2
    go_ret
    exact ⟨by simp [H], hx2⟩
  obtain ⟨s1, s2⟩ := inB_iff.1 hsy
  obtain ⟨s3, s4⟩ := inB_iff.1 hst
  obtain ⟨s5, s6⟩ := mul_bounds s1 s2 s3 s4
  by_cases hl : (m.rules.length : Int) = m.sy * m.st
  · have hl1 : ((m.rules.length : Int) != m.sy * m.st) = false := by simp [hl]
    have HL := Lib.hid hl
    have hn : m.rules.length ≤ 6000 := by omega
    clear hl
    go_enter Tryz.func116, Tryz.ntmps116
    go_wp2
    refine wp_region_ext (by kernel_rfl) (by kernel_rfl) ?_
    repeat (go_big_quiet_step ((go_at_call 134; exact Calls.sameR (l00In_c _ _ _ _))))
    refine wpQuiet_nil ?_
    intro w2 hx2
    clear d0 d1 d2
    go_wp2
    go_loopw [3] (fun i wr => ∃ k : Nat, k ≤ m.rules.length ∧ i = .int .i64 k ∧ Ext w wr ∧ okTo m k) (fun i _ => m.rules.length - (intOf i).toNat)
    case atStart => exact ⟨0, Nat.zero_le _, rfl, hx2, rfl⟩
    case round =>
      obtain ⟨k, hk, rfl, hx, ht⟩ := hrel
      have q0 := hx.cell p0
      have q1 := hx.cell p1
      have q2 := hx.cell p2
      have d0 := cellR q0
      have d1 := cellR q1
      have d2 := cellR q2
      by_cases hlt : k < m.rules.length
      · obtain ⟨b', off, rfl, hc⟩ := hr.at hlt
        obtain ⟨c0, c1, c2⟩ := hc k hlt
        have c0 := cellR (hx.cell c0)
        have c1 := cellR (hx.cell c1)
        have c2 := cellR (hx.cell c2)
        clear hc p0 p1 p2
        have heb : ∀ q, ruleOk m.sy m.st m.rules[k] = q → ruleOk m.sy m.st ⟨m.rules[k].w, m.rules[k].m, m.rules[k].n⟩ = q := fun _ h => h
        cases he : ruleOk m.sy m.st m.rules[k]
        all_goals
          have H := heb _ he
          clear heb
          go_wp2
          refine wp_region_ext (by kernel_rfl) (by kernel_rfl) ?_
          repeat (go_big_quiet_step ((go_at_call 135; exact Calls.extR (l05Rule_c _ _ _ _ _ _ s1 s2 s3 s4))))
          refine wpQuiet_nil ?_
          intro w3 hx3
          go_wp2
        · go_ret
          exact ⟨by simp [machOk, all_false hlt he], hx.trans hx3⟩
        · go_roundw
          case rel => exact ⟨k + 1, by omega, by go_num, hx.trans hx3, okTo_step ht hlt he⟩
          case measure => simp [intOf]; omega
      · go_wp2
        go_ret
        exact ⟨by simp [machOk, hsy, hst, HL.out, okTo_end ht (by omega)], hx⟩
  · have hl1 : ((m.rules.length : Int) != m.sy * m.st) = true := by simp [hl]
    have H : machOk m = false := by simp [machOk, hl]
    clear hl
    go_enter Tryz.func116, Tryz.ntmps116
    go_wp2
    refine wp_region_ext (by kernel_rfl) (by kernel_rfl) ?_
    repeat (go_big_quiet_step ((go_at_call 134; exact Calls.sameR (l00In_c _ _ _ _))))
    refine wpQuiet_nil ?_
    intro w2 hx2
    go_wp2
    go_ret
    exact ⟨by simp [H], hx2⟩
end Go.Proofs.YtapjofbjedpmgaaGreat
namespace Go.Proofs.YtapjofbjedpmgaaGreat
open Go Go.RowKit Go.Proofs
set_option maxHeartbeats 400000
theorem validRule_c (a b c sy st : Int) (rv : Value) (w : World) (h1 : 2 ≤ sy) (h2 : sy ≤ 6) (h3 : 1 ≤ st) (h4 : st ≤ 1000) : Calls Tryz.prog 59 #[.agg #[.int .i64 sy, .int .i64 st, rv], .agg #[.int .i64 a, .int .i64 b, .int .i64 c]] w fun e w' => e = .returned (.bool (ruleOk sy st ⟨a, b, c⟩)) ∧ Ext w w' := by
  have hx0 := (Ext.alloc w (.cells #[.int .i64 sy, .int .i64 st, rv] 26)).trans (Ext.alloc _ (.cells #[.int .i64 a, .int .i64 b, .int .i64 c] 65))
  by_cases hn : (⟨a, b, c⟩ : RuleD) = noR
  · have H : ruleOk sy st ⟨a, b, c⟩ = true := by simp [ruleOk, hn]
    have H2 : isR ⟨a, b, c⟩ = false := by simp [isR, rEq, hn]
    clear hn
    go_enter Tryz.func59, Tryz.ntmps59
    go_wp2_with fail
    refine (isRule_c _ _ _ _).mono ?_
    rintro e w2 ⟨rfl, hx2⟩
    go_wp2
    go_ret
    exact ⟨by simp [H], hx0.trans hx2⟩
  · have H2 : isR ⟨a, b, c⟩ = true := by simp [isR, rEq, hn]
    have hw := ruleWays sy st a b c hn
    clear hn
    go_enter Tryz.func59, Tryz.ntmps59
    go_wp2_with fail
    refine (isRule_c _ _ _ _).mono ?_
    rintro e w2 ⟨rfl, hx2⟩
    have b1 := ((Blk.new w w.heap.size _ _ rfl).alloc (.cells #[.int .i64 a, .int .i64 b, .int .i64 c] 65)).ext hx2
    have b2 := ((Blk.new _ (w.heap.size + 1) _ _ (by simp)).ext hx2)
    have c1 := b1.cell
    have c2 := b2.cell
    have hx := hx0.trans hx2
    clear hx2 b1 b2 hx0
    rcases hw with ⟨p1, p2⟩ | ⟨p1, p2, p3, p4, p5⟩ | ⟨p1, p2, p3, p4, p5⟩ | ⟨p1, p2, p3, p4, p5⟩ | ⟨p1, p2, p3, p4, p5⟩ | ⟨p1, p2, p3, p4⟩
    all_goals
      go_wp2_with (go_at_call 45; refine (within_c _ _ _ _).mono ?_; rintro e w' ⟨rfl, rfl⟩)
      go_ret
      exact ⟨by simp [*], hx⟩
theorem valid1_c (r : RuleD) (b : Nat) (m : MachD) (w : World) (h : MachAt w b m) (h1 : 2 ≤ m.sy) (h2 : m.sy ≤ 6) (h3 : 1 ≤ m.st) (h4 : m.st ≤ 1000) :
    Calls Tryz.prog 58 #[.agg #[.int .i64 r.w, .int .i64 r.m, .int .i64 r.n], .pointer (some ⟨b, 0, none⟩)] w fun e w' => e = .returned (.bool (!ruleOk m.sy m.st r)) ∧ Ext w w' := by
  obtain ⟨rv, p0, p1, p2, hr⟩ := h
  go_enter Tryz.func58, Tryz.ntmps58
  have hx := Ext.alloc w (.cells #[.int .i64 r.w, .int .i64 r.m, .int .i64 r.n] 65)
  have q0 := hx.cell p0
  have q1 := hx.cell p1
  have q2 := hx.cell p2
  clear p0 p1 p2 hr
  go_wp2_with fail
  refine (validRule_c _ _ _ _ _ _ _ h1 h2 h3 h4).mono ?_
  rintro e w2 ⟨rfl, hx2⟩
  go_wp2
  go_ret
  exact ⟨rfl, hx.trans hx2⟩
/-- The first k rules are valid: none of them is found. -/
theorem indexRule_c (b : Nat) (m : MachD) (v : Value) (w : World) (hv : Rules w v m.rules) (h : MachAt w b m) (h1 : 2 ≤ m.sy) (h2 : m.sy ≤ 6) (h3 : 1 ≤ m.st) (h4 : m.st ≤ 1000) :
    Calls Tryz.prog 96 #[v, .func (.func 58) #[] #[.pointer (some ⟨b, 0, none⟩)]] w fun e w' => (∃ k : Int, e = .returned (.int .i64 k) ∧ (decide (0 ≤ k) = !(m.rules.all (ruleOk m.sy m.st)))) ∧ Ext w w' := by
  obtain ⟨A, c, rfl, h5, h5'⟩ := hv.form
  go_enter Tryz.func96, Tryz.ntmps96
  go_wp2
  go_loopw [8] (fun i wr => ∃ k : Nat, k ≤ m.rules.length ∧ i = .int .i64 k ∧ Ext w wr ∧ okTo m k) (fun i _ => m.rules.length - (intOf i).toNat)
  case atStart => exact ⟨0, Nat.zero_le _, rfl, Ext.refl _, rfl⟩
  case round =>
    obtain ⟨k, hk, rfl, hx, ht⟩ := hrel
    by_cases hlt : k < m.rules.length
    · obtain ⟨b', off, rfl, hc⟩ := hv.at hlt
      obtain ⟨c0, c1, c2⟩ := hc k hlt
      have c0 := hx.cell c0
      have c1 := hx.cell c1
      have c2 := hx.cell c2
      clear hc
      go_wp2_with fail
      refine (valid1_c m.rules[k] b m _ (h.ext hx) h1 h2 h3 h4).mono ?_
      rintro e w2 ⟨rfl, hx2⟩
      cases he : ruleOk m.sy m.st m.rules[k]
      · go_wp2
        go_ret
        exact ⟨⟨k, rfl, by simp [all_false hlt he]⟩, hx.trans hx2⟩
      · go_wp2
        go_roundw
        case rel => exact ⟨k + 1, by omega, by go_num, hx.trans hx2, okTo_step ht hlt he⟩
        case measure => simp [intOf]; omega
    · go_wp2
      go_ret
      exact ⟨⟨-1, rfl, by simp [okTo_end ht (by omega)]⟩, hx⟩
end Go.Proofs.YtapjofbjedpmgaaGreat
namespace Go.Proofs.YtapjofbjedpmgaaGreat
open Go Go.RowKit Go.Proofs
set_option maxHeartbeats 400000
theorem sizeRule_c (v : Value) (rs : List RuleD) (w : World) (h : Rules w v rs) : Calls Tryz.prog 56 #[v] w fun e w' => e = .returned (.int .i64 rs.length) ∧ w = w' := by
  obtain ⟨A, c, rfl, h1, h2⟩ := h.form
  go_enter Tryz.func56, Tryz.ntmps56
  go_wp2
  go_ret
  exact ⟨rfl, rfl⟩
theorem sizeInt_c (v : Value) (zs : List Int) (w : World) (h : Ints w v zs) : Calls Tryz.prog 88 #[v] w fun e w' => e = .returned (.int .i64 zs.length) ∧ w = w' := by
  obtain ⟨A, c, rfl, h1, h2⟩ := h.form
  go_enter Tryz.func88, Tryz.ntmps88
  go_wp2
  go_ret
  exact ⟨rfl, rfl⟩
theorem containsRule_c (b : Nat) (m : MachD) (v : Value) (w : World) (hv : Rules w v m.rules) (h : MachAt w b m) (h1 : 2 ≤ m.sy) (h2 : m.sy ≤ 6) (h3 : 1 ≤ m.st) (h4 : m.st ≤ 1000) :
    Calls Tryz.prog 57 #[v, .func (.func 58) #[] #[.pointer (some ⟨b, 0, none⟩)]] w fun e w' => e = .returned (.bool (!(m.rules.all (ruleOk m.sy m.st)))) ∧ Ext w w' := by
  go_enter Tryz.func57, Tryz.ntmps57
  go_wp2_with fail
  refine (indexRule_c b m v _ hv h h1 h2 h3 h4).mono ?_
  rintro e w2 ⟨⟨k, rfl, hk⟩, hx2⟩
  have HK := Lib.hid hk
  clear hk
  go_wp2
  go_ret
  exact ⟨by simp [← HK.out], hx2⟩
theorem ValidMachine_c (v : Value) (m : MachD) (w : World) (h : Mach w v m) :
    Calls Tryz.prog 23 #[v] w fun e w' => e = .returned (.bool (machOk m)) ∧ Ext w w' := by
  obtain ⟨rv, rfl, hr⟩ := h
  obtain ⟨A, c, rfl, h2, h2'⟩ := hr.form
  obtain ⟨w1, bk, e1, e2, hx, hB, _, p0, p1, p2⟩ := box3 w (.int .i64 m.sy) (.int .i64 m.st) (.slice A m.rules.length c) 26
  have hr := hr.ext hx
  have d0 := cellR p0
  have d1 := cellR p1
  have d2 := cellR p2
  have hM : MachAt w1 bk m := ⟨_, p0, p1, p2, hr⟩
  have E1 := Lib.hid e1
  have E2 := Lib.hid e2
  clear e1 e2 hB
  cases hsy : inB m.sy 2 6
  · have H : machOk m = false := by simp [machOk, hsy]
    go_enter Tryz.func23, Tryz.ntmps23
    go_wp2
    rw [E1.out, E2.out]
    refine wp_region_ext (by kernel_rfl) (by kernel_rfl) ?_
    repeat (go_big_quiet_step ((first | (go_at_call 45; exact Calls.sameR (within_c _ _ _ _)) | (go_at_call 56; exact Calls.sameR (sizeRule_c _ _ _ (hr.ext (below_regrown _ _ _)))))))
    refine wpQuiet_nil ?_
    intro w2 hx2
    go_wp2
    go_ret
    exact ⟨by simp [H], hx.trans hx2⟩
  cases hst : inB m.st 1 1000
  · have H : machOk m = false := by simp [machOk, hst]
    go_enter Tryz.func23, Tryz.ntmps23
    go_wp2
    rw [E1.out, E2.out]
    refine wp_region_ext (by kernel_rfl) (by kernel_rfl) ?_
    repeat (go_big_quiet_step ((first | (go_at_call 45; exact Calls.sameR (within_c _ _ _ _)) | (go_at_call 56; exact Calls.sameR (sizeRule_c _ _ _ (hr.ext (below_regrown _ _ _)))))))
    refine wpQuiet_nil ?_
    intro w2 hx2
    go_wp2
    go_ret
    exact ⟨by simp [H], hx.trans hx2⟩
  obtain ⟨s1, s2⟩ := inB_iff.1 hsy
  obtain ⟨s3, s4⟩ := inB_iff.1 hst
  obtain ⟨s5, s6⟩ := mul_bounds s1 s2 s3 s4
  rw [Int.mul_comm] at s5 s6
  by_cases hl : (m.rules.length : Int) = m.sy * m.st
  · have hl1 : ((m.rules.length : Int) != m.st * m.sy) = false := by rw [Int.mul_comm m.st]; simp [hl]
    have HL := Lib.hid hl
    clear hl
    go_enter Tryz.func23, Tryz.ntmps23
    go_wp2
    rw [E1.out, E2.out]
    refine wp_region_ext (by kernel_rfl) (by kernel_rfl) ?_
    repeat (go_big_quiet_step ((first | (go_at_call 45; exact Calls.sameR (within_c _ _ _ _)) | (go_at_call 56; exact Calls.sameR (sizeRule_c _ _ _ (hr.ext (below_regrown _ _ _)))))))
    refine wpQuiet_nil ?_
    intro w2 hx2
    have p2' := hx2.cell p2
    clear d0 d1 d2
    go_wp2_with fail
    refine (containsRule_c bk m _ _ (hr.ext hx2) (hM.ext hx2) s1 s2 s3 s4).mono ?_
    rintro e w3 ⟨rfl, hx3⟩
    go_wp2
    go_ret
    exact ⟨by simp [machOk, hsy, hst, HL.out], (hx.trans hx2).trans hx3⟩
  · have hl1 : ((m.rules.length : Int) != m.st * m.sy) = true := by rw [Int.mul_comm m.st]; simp [hl]
    have H : machOk m = false := by simp [machOk, hl]
    clear hl
    go_enter Tryz.func23, Tryz.ntmps23
    go_wp2
    rw [E1.out, E2.out]
    refine wp_region_ext (by kernel_rfl) (by kernel_rfl) ?_
    repeat (go_big_quiet_step ((first | (go_at_call 45; exact Calls.sameR (within_c _ _ _ _)) | (go_at_call 56; exact Calls.sameR (sizeRule_c _ _ _ (hr.ext (below_regrown _ _ _)))))))
    refine wpQuiet_nil ?_
    intro w2 hx2
    go_wp2
    go_ret
    exact ⟨by simp [H], hx.trans hx2⟩
end Go.Proofs.YtapjofbjedpmgaaGreat
end
