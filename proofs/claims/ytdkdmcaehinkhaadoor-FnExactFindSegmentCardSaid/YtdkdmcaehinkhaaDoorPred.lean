/- Contracts of the program's list of the nodes before a node. The machine is valid, the node is valid. -/
import Derived.Test.YtdkdmcaehinkhaaDoorBefore
import Derived.Deep.DeepCutAuto
namespace Go.Proofs.YtdkdmcaehinkhaaDoor
open Go Go.RowKit Go.Proofs
set_option maxHeartbeats 400000
theorem pred1_c (z v : Value) (zs ys : List Int) (b : Nat) (w : World) (hz : Ints w z zs) (hb : Blk w b 38 #[v]) (hv : Ints w v ys) :
    Calls Tryd.prog 64 #[z, .pointer (some ⟨b, 0, none⟩)] w fun e w' => e = .returned (.bool (lEq ys zs)) ∧ Ext w w' := by
  have c0 := hb.cell 0
  simp only [List.getElem?_toArray, List.getElem?_cons_zero] at c0
  go_enter Tryd.func64, Tryd.ntmps64
  go_wp2_with fail
  refine (slicesEqual_c _ _ _ _ _ hv hz).mono ?_
  rintro e w2 ⟨rfl, hx2⟩
  go_wp2
  go_ret
  exact ⟨rfl, hx2⟩
theorem indexRow_c (u v : Value) (xss : List (List Int)) (ys : List Int) (b : Nat) (w : World) (hu : IntRows w u xss) (hb : Blk w b 38 #[v]) (hv : Ints w v ys) :
    Calls Tryd.prog 82 #[u, .func (.func 64) #[] #[.pointer (some ⟨b, 0, none⟩)]] w fun e w' => (∃ k : Int, e = .returned (.int .i64 k) ∧ decide (0 ≤ k) = decide (ys ∈ xss)) ∧ Ext w w' := by
  obtain ⟨A, c, rfl, h5, h5'⟩ := hu.form
  go_enter Tryd.func82, Tryd.ntmps82
  go_wp2
  go_loopw [8] (fun i wr => ∃ k : Nat, k ≤ xss.length ∧ i = .int .i64 k ∧ Ext w wr ∧ notIn ys xss k) (fun i _ => xss.length - (intOf i).toNat)
  case atStart => exact ⟨0, Nat.zero_le _, rfl, Ext.refl _, fun x hx => by simp at hx⟩
  case round =>
    obtain ⟨k, hk, rfl, hx, ht⟩ := hrel
    by_cases hlt : k < xss.length
    · obtain ⟨b', off, rfl, hc⟩ := hu.at hlt
      obtain ⟨A1, d1, c0, r0⟩ := hc k hlt
      have c0 := hx.cell c0
      clear hc
      go_wp2_with fail
      refine (pred1_c _ _ _ _ b _ (r0.ext hx) (hb.ext hx) (hv.ext hx)).mono ?_
      rintro e w2 ⟨rfl, hx2⟩
      by_cases he : xss[k] = ys
      · have H : lEq ys xss[k] = true := lEq_true he.symm
        have hm : ys ∈ xss := he ▸ List.getElem_mem hlt
        have HM := Lib.hid hm
        clear he hm
        go_wp2
        go_ret
        exact ⟨⟨k, rfl, by simp [HM.out]⟩, hx.trans hx2⟩
      · have H : lEq ys xss[k] = false := lEq_false (fun h => he h.symm)
        go_wp2
        go_roundw
        case rel => exact ⟨k + 1, by omega, by go_num, hx.trans hx2, notIn_step ht hlt he⟩
        case measure => simp [intOf]; omega
    · go_wp2
      go_ret
      exact ⟨⟨-1, rfl, by simp [notIn_end ht (by omega)]⟩, hx⟩
theorem containsRow_c (u v : Value) (xss : List (List Int)) (ys : List Int) (b : Nat) (w : World) (hu : IntRows w u xss) (hb : Blk w b 38 #[v]) (hv : Ints w v ys) :
    Calls Tryd.prog 63 #[u, .func (.func 64) #[] #[.pointer (some ⟨b, 0, none⟩)]] w fun e w' => e = .returned (.bool (decide (ys ∈ xss))) ∧ Ext w w' := by
  go_enter Tryd.func63, Tryd.ntmps63
  go_wp2_with fail
  refine (indexRow_c u v xss ys b _ hu hb hv).mono ?_
  rintro e w2 ⟨⟨k, rfl, hk⟩, hx2⟩
  have HK := Lib.hid hk
  clear hk
  go_wp2
  go_ret
  exact ⟨by simp [← HK.out], hx2⟩
/-- A list, and a further row if it is new. -/
def addNew (xss : List (List Int)) (o : Option (List Int)) : List (List Int) :=
  match o with
  | some y => if y ∈ xss then xss else xss ++ [y]
  | none => xss
/-- The nodes before a node, by the first k rules. -/
def predsTo (m : MachD) (x : List Int) : Nat → List (List Int)
  | 0 => []
  | k + 1 => match m.rules[k]? with
    | some r => if r = noR then predsTo m x k else addNew (predsTo m x k) (before x ((k : Int) / m.sy) ((k : Int) % m.sy) r)
    | none => predsTo m x k
theorem predsTo_no {m : MachD} {x : List Int} {k : Nat} (hk : k < m.rules.length) (h : m.rules[k] = noR) : predsTo m x (k + 1) = predsTo m x k := by
  simp [predsTo, hk, h]
theorem predsTo_yes {m : MachD} {x : List Int} {k : Nat} (hk : k < m.rules.length) (h : ¬ m.rules[k] = noR) : predsTo m x (k + 1) = addNew (predsTo m x k) (before x ((k : Int) / m.sy) ((k : Int) % m.sy) m.rules[k]) := by
  simp [predsTo, hk, h]
theorem addNew_length (xss : List (List Int)) (o : Option (List Int)) : (addNew xss o).length ≤ xss.length + 1 := by
  unfold addNew
  split
  · split <;> simp
  · omega
theorem predsTo_length (m : MachD) (x : List Int) (k : Nat) : (predsTo m x k).length ≤ k := by
  induction k with
  | zero => simp [predsTo]
  | succ k ih =>
    unfold predsTo
    split
    · split
      · omega
      · exact Nat.le_trans (addNew_length _ _) (by omega)
    · omega
end Go.Proofs.YtdkdmcaehinkhaaDoor
