/- Contracts of the laws' own helpers: sizes, copies, comparisons. No condition. -/
import Derived.Test.YtdkdmcaehinkhaaDoorLeaf
namespace Go.Proofs.YtdkdmcaehinkhaaDoor
open Go Go.RowKit Go.Proofs
set_option maxHeartbeats 400000

def rvs (rs : List RuleD) : List Value := rs.flatMap fun r => [.int .i64 r.w, .int .i64 r.m, .int .i64 r.n]
theorem rvs_length (rs : List RuleD) : (rvs rs).length = rs.length * 3 := by
  induction rs with
  | nil => rfl
  | cons r rs ih => simp only [rvs, List.flatMap_cons] at *; simp [ih]; omega
theorem rvs_get (rs : List RuleD) (i : Nat) (h : i < rs.length) : (rvs rs)[i * 3]? = some (.int .i64 rs[i].w) ∧ (rvs rs)[i * 3 + 1]? = some (.int .i64 rs[i].m) ∧ (rvs rs)[i * 3 + 2]? = some (.int .i64 rs[i].n) := by
  induction rs generalizing i with
  | nil => simp at h
  | cons r rs ih =>
    cases i with
    | zero => simp [rvs]
    | succ i =>
      have := ih i (by simpa using h)
      simp only [rvs, List.flatMap_cons, List.getElem_cons_succ] at *
      have e : (i + 1) * 3 = i * 3 + 3 := by omega
      have e1 : i * 3 + 3 + 1 = i * 3 + 1 + 3 := by omega
      have e2 : i * 3 + 3 + 2 = i * 3 + 2 + 3 := by omega
      rw [e, e1, e2]
      simpa using this
/-- A slice of rules. -/
def Rules (w : World) (v : Value) (rs : List RuleD) : Prop := Row w 3 v rs.length (rvs rs)
theorem Rules.ext {w w' : World} {v : Value} {rs : List RuleD} (h : Rules w v rs) (he : Ext w w') : Rules w' v rs := Row.ext h he
theorem Rules.form {w : World} {v : Value} {rs : List RuleD} (h : Rules w v rs) : ∃ A c, v = .slice A rs.length c ∧ rs.length ≤ c ∧ c ≤ 9223372036854775807 := by
  obtain ⟨A, c, hv, h1, h2, _⟩ := Row.form h
  exact ⟨A, c, hv, h1, h2⟩
theorem Rules.at {w : World} {c : Nat} {A : Option Addr} {rs : List RuleD} (h : Rules w (.slice A rs.length c) rs) {k : Nat} (hk : k < rs.length) :
    ∃ b off, A = some ⟨b, off, none⟩ ∧ ∀ j, (hj : j < rs.length) → w.cell? ⟨b, off + j * 3, none⟩ = some (.int .i64 rs[j].w) ∧ w.cell? ⟨b, off + j * 3 + 1, none⟩ = some (.int .i64 rs[j].m) ∧ w.cell? ⟨b, off + j * 3 + 2, none⟩ = some (.int .i64 rs[j].n) := by
  obtain ⟨b, off, hA, hc⟩ := Row.at h hk
  refine ⟨b, off, hA, fun j hj => ?_⟩
  obtain ⟨e0, e1, e2⟩ := rvs_get rs j hj
  refine ⟨by rw [hc (j * 3) (by omega), e0], ?_, ?_⟩
  · rw [Nat.add_assoc, hc (j * 3 + 1) (by omega), e1]
  · rw [Nat.add_assoc, hc (j * 3 + 2) (by omega), e2]

def takeEq {α : Type} (xs ys : List α) (k : Nat) : Prop := xs.take k = ys.take k
theorem takeEq_step {α : Type} {xs ys : List α} {k : Nat} (h : takeEq xs ys k) (hx : k < xs.length) (hy : k < ys.length) (e : xs[k] = ys[k]) : takeEq xs ys (k + 1) := by
  unfold takeEq at *
  rw [List.take_succ_eq_append_getElem hx, List.take_succ_eq_append_getElem hy, h, e]
theorem eq_of_takeEq {α : Type} {xs ys : List α} {k : Nat} (h : takeEq xs ys k) (hx : xs.length ≤ k) (hy : ys.length ≤ k) : xs = ys := by
  unfold takeEq at h
  rwa [List.take_of_length_le hx, List.take_of_length_le hy] at h
theorem ne_of_get {α : Type} {xs ys : List α} {k : Nat} (hx : k < xs.length) (hy : k < ys.length) (e : ¬ xs[k] = ys[k]) : ¬ xs = ys := by
  rintro rfl; exact e rfl

theorem eqRuleS_c (w : World) (u v : Value) (xs ys : List RuleD) (ha : Rules w u xs) (hb : Rules w v ys) :
    Calls Tryd.prog 35 #[u, v] w fun e w' => e = .returned (.bool (decide (xs = ys))) ∧ Ext w w' := by
  obtain ⟨A, ca, rfl, h1, h1'⟩ := ha.form
  obtain ⟨B, cb, rfl, h2, h2'⟩ := hb.form
  by_cases hl : xs.length = ys.length
  · have hl1 : ((xs.length : Int) != (ys.length : Int)) = false := by simp [hl]
    have hlle : xs.length ≤ ys.length := by omega
    have hlge : ys.length ≤ xs.length := by omega
    clear hl
    go_enter Tryd.func35, Tryd.ntmps35
    go_wp2
    go_loopw [5] (fun i wr => ∃ k : Nat, k ≤ xs.length ∧ i = .int .i64 k ∧ Ext w wr ∧ takeEq xs ys k) (fun i _ => xs.length - (intOf i).toNat)
    case atStart => exact ⟨0, Nat.zero_le _, rfl, Ext.refl _, rfl⟩
    case round =>
      obtain ⟨k, hk, rfl, hx, ht⟩ := hrel
      by_cases hlt : k < xs.length
      · obtain ⟨b, off, rfl, hc⟩ := ha.at hlt
        obtain ⟨b', off', rfl, hc'⟩ := hb.at (k := k) (by omega)
        obtain ⟨c0, c1, c2⟩ := hc k hlt
        obtain ⟨c0', c1', c2'⟩ := hc' k (by omega)
        have d0 := cellR (hx.cell c0)
        have d1 := cellR (hx.cell c1)
        have d2 := cellR (hx.cell c2)
        have d0' := cellR (hx.cell c0')
        have d1' := cellR (hx.cell c1')
        have d2' := cellR (hx.cell c2')
        clear c0 c1 c2 c0' c1' c2' hc hc' ha hb
        have heb : ∀ q, rEq xs[k] ys[k] = q → rEq ⟨xs[k].w, xs[k].m, xs[k].n⟩ ⟨ys[k].w, ys[k].m, ys[k].n⟩ = q := fun _ h => h
        by_cases he : xs[k] = ys[k]
        · have H := heb true (by simp [rEq, he])
          have he' := Lib.hid he
          clear heb he
          go_wp2
          refine wp_region_ext (by kernel_rfl) (by kernel_rfl) ?_
          repeat (go_big_quiet_step ((go_at_call 66; exact Calls.extR (eqRule_c _ _ _ _ _ _ _))))
          refine wpQuiet_nil ?_
          intro w2 hx2
          go_wp2
          go_roundw
          case rel => exact ⟨k + 1, by omega, by go_num, hx.trans hx2, takeEq_step ht hlt (by omega) he'.out⟩
          case measure => simp [intOf]; omega
        · have H := heb false (by simp [rEq, he])
          clear heb
          go_wp2
          refine wp_region_ext (by kernel_rfl) (by kernel_rfl) ?_
          repeat (go_big_quiet_step ((go_at_call 66; exact Calls.extR (eqRule_c _ _ _ _ _ _ _))))
          refine wpQuiet_nil ?_
          intro w2 hx2
          go_wp2
          go_ret
          exact ⟨by simp [ne_of_get hlt (by omega) he], hx.trans hx2⟩
      · go_wp2
        go_ret
        exact ⟨by simp [eq_of_takeEq ht (by omega) (by omega)], hx⟩
  · have hl1 : ((xs.length : Int) != (ys.length : Int)) = true := by simp; omega
    go_enter Tryd.func35, Tryd.ntmps35
    go_wp2
    go_ret
    exact ⟨by simp [show ¬ xs = ys from fun h => hl (by rw [h])], Ext.refl _⟩
end Go.Proofs.YtdkdmcaehinkhaaDoor
