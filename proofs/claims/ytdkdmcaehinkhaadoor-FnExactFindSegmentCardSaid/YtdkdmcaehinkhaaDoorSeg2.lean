/- Contract of the library's Repeat, for a list of one number and up to eleven of it. -/
import Derived.Test.YtdkdmcaehinkhaaDoorSeg1
namespace Go.Proofs.YtdkdmcaehinkhaaDoor
open Go Go.RowKit Go.Proofs
set_option maxHeartbeats 400000
theorem intSize' : (Tryd.prog.info? 2).map (·.size) = some 1 := by kernel_rfl
/-- Of c cells the first j hold the number. -/
def RepSt (w : World) (g c : Nat) (z : Int) (j : Nat) (wr : World) : Prop := Ext w wr ∧ ∃ cur : List Value, wr.heap[g]? = some (.cells cur.toArray 2 (0, 0)) ∧ cur.length = c ∧ cur.take j = List.replicate j (.int .i64 z)
theorem splice_take {cur : List Value} {j m : Nat} {u : Value} (h : cur.take j = List.replicate j u) (_ : j ≤ cur.length) (_ : j + m ≤ cur.length) : (splice cur j (List.replicate m u)).take (j + m) = List.replicate (j + m) u := by
  unfold splice
  rw [h, ← List.append_assoc, List.replicate_append_replicate, List.take_append_of_le_length (by simp), List.take_of_length_le (by simp)]
theorem mulHi {c : Nat} (h : c ≤ 11) : 1 * c / 18446744073709551616 = 0 := by omega
theorem mulLo {c : Nat} (h : c ≤ 11) : 1 * c % 18446744073709551616 = c := by omega
theorem mulC {c : Nat} (h : c ≤ 11) : c < 18446744073709551616 := by omega
set_option maxRecDepth 100000 in
theorem Repeat_c (b c : Nat) (z : Int) (w : World) (hb : Blk w b 2 #[.int .i64 z]) (h1 : 1 ≤ c) (h2 : c ≤ 11) :
    Calls Tryd.prog 75 #[.slice (some ⟨b, 0, none⟩) 1 1, .int .i64 c] w fun e w' => ∃ u, e = .returned u ∧ OwnInts w.heap.size w' u (List.replicate c z) ∧ Ext w w' := by
  obtain ⟨i0, hi, hz0, hz1, hz2⟩ := info_parts intInfo
  go_enter Tryd.func75, Tryd.ntmps75
  go_wp2_with fail
  refine (Tryd.bits_Mul 1 c (by decide) (mulC h2) _).mono ?_
  rintro e w' ⟨rfl, rfl⟩
  rw [mulHi h2, mulLo h2]
  go_wp2_with (at_make; refine wpList_make_full _ rfl _ _ 38 rfl w'.heap.size 2 i0 _ 1 Tryd.underlying38 hi hz0 hz1 .i64 .i64 _ _ c rfl rfl ?d1 ?d2 ?c1 ?c2 ?c3 ?_)
  case d1 => rfl
  case d2 => rfl
  case c1 => rw [hz2]; omega
  case c2 => unfold maxLen; omega
  case c3 => exact Nat.le_refl _
  intro w1 hown hgr
  have hx1 : Ext w' w1 := (Ext.refl _).grown hgr (by simp)
  obtain ⟨cur, hg, hcl⟩ : ∃ cur : List Value, w1.heap[w'.heap.size]? = some (.cells cur.toArray 2 (0, 0)) ∧ cur.length = c := by
    rcases hown.2 with ⟨h', _⟩ | ⟨g', cap, cu, h', _, hg, _, _, hcs, _⟩
    · simp at h'
    · injection h' with e1 e2 e3
      injection e1 with e1
      injection e1 with e1 e4 e5
      subst e1 e3
      exact ⟨cu.toList, by simpa using hg, by simpa using hcs⟩
  have hsrc := (hb.ext hx1).cell 0
  simp only [List.getElem?_toArray, List.getElem?_cons_zero] at hsrc
  have hgb : b < w'.heap.size := hb.lt
  clear hown hgr hi hz0 hz1 hz2
  generalize hG : w'.heap.size = g at *
  have HG := Lib.hid hG
  have HCL := Lib.hid hcl
  clear hG hcl
  go_wp2_with (with_reducible refine wpList_copy_splice rfl _ _ 38 38 rfl 2 Tryd.underlying38 intSize' (some ⟨g, 0, none⟩) (some ⟨b, 0, none⟩) c c 1 1 rfl rfl g 0 cur 2 hg [.int .i64 z] ?k1 ?k2 ?k3 ?k4 g w' ?k5 ?k6 ?_)
  case k1 => show 1 = min 1 c; omega
  case k2 =>
    intro j u hj
    match j, hj with
    | 0, hj => simp at hj; subst hj; exact hsrc
  case k3 => have := HCL.out; simp; omega
  case k4 => intro u hu; simp at hu; subst hu; rfl
  case k5 => rw [← HG.out]; exact hx1
  case k6 => exact Nat.le_refl _
  intro w2 hg2 hbl2
  have hS : RepSt w' g c z 1 w2 := by
    refine ⟨by unfold Ext; rw [HG.out]; exact hbl2, _, hg2.out, ?_, ?_⟩
    · rw [length_splice _ _ _ (by have := HCL.out; simp; omega)]; exact HCL.out
    · simp [splice]
  clear hg hg2 hbl2 hsrc hx1
  go_wp2
  go_loopw [8] (fun i wr => ∃ j : Nat, 1 ≤ j ∧ j ≤ c ∧ i = .int .i64 j ∧ RepSt w' g c z j wr) (fun i _ => c - (intOf i).toNat)
  case atStart => exact ⟨1, Nat.le_refl _, h1, rfl, hS⟩
  case round =>
    clear hS
    obtain ⟨j, hj1, hj, rfl, hS⟩ := hrel
    by_cases hlt : j < c
    · obtain ⟨hx, cu, hgu, hcu, htk⟩ := hS
      have HCU := Lib.hid hcu
      have HTK := Lib.hid htk
      clear hcu htk
      have hcs : (List.replicate (min j (c - j)) (Value.int .i64 z)).length = Nat.min j (c - j) := by simp
      have hn0 : ¬ c = j := by omega
      have hj0 : (0 : Int) ≤ (j : Int) := by omega
      have hj2 : (j : Int) ≤ (c : Int) := by omega
      have hfit : j + (List.replicate (min j (c - j)) (Value.int .i64 z)).length ≤ cu.length := by have := HCU.out; simp; omega
      have h1c : ∀ u ∈ List.replicate (min j (c - j)) (Value.int .i64 z), u.oneCell' = true := fun u hu => by rw [List.eq_of_mem_replicate hu]; rfl
      have hcells : ∀ k u, (List.replicate (min j (c - j)) (Value.int .i64 z))[k]? = some u → wr.cell? ((⟨g, 0, none⟩ : Addr).add k) = some u := by
        intro k u hk
        have hk' : k < min j (c - j) := by simpa using (List.getElem?_eq_some_iff.1 hk).1
        have hadd : (⟨g, 0, none⟩ : Addr).add k = ⟨g, k, none⟩ := by unfold Addr.add; split <;> simp_all
        rw [hadd, cell_of_row wr g k _ _ (0, 0) hgu]
        have e : (cu.take j)[k]? = some (Value.int .i64 z) := by rw [HTK.out, List.getElem?_replicate, if_pos (by omega)]
        rw [List.getElem?_take, if_pos (by omega)] at e
        simp only [List.getElem?_toArray, e]
        rw [List.getElem?_replicate, if_pos hk'] at hk
        exact hk
      have hbl : Below g w' wr := by have := hx; unfold Ext at this; rwa [HG.out] at this
      have hsz : (hb.ext hx).cell 0 = (hb.ext hx).cell 0 := rfl
      have hcb := (hb.ext hx).cell 0
      simp only [List.getElem?_toArray, List.getElem?_cons_zero] at hcb
      have HN := Lib.hid hcs
      have HF := Lib.hid hfit
      have H1 := Lib.hid h1c
      have HC := Lib.hid hcells
      clear hcs hfit h1c hcells hsz
      go_wp2_with fail
      go_region_held3 (fun w' => w'.cell? ⟨b, 0, none⟩ = some (.int .i64 z))
        (first | go_keep | exact hkeep)
        ((refine step_copy_splice (by rfl) _ _ 38 38 (by rfl) 2 Tryd.underlying38 intSize' (some ⟨g, j, none⟩) (some ⟨g, 0, none⟩) (c - j) (c - j) j c (by rfl) (by rfl) g j cu 2 hgu (List.replicate (min j (c - j)) (Value.int .i64 z)) HN.out (fun _ => ⟨rfl, _, rfl, HC.out⟩) HF.out H1.out g w' hbl.drew (Nat.le_refl _) ?_; intro w3 hg3 hbl3; have hkeep := (hbl3.cell (p := ⟨b, 0, none⟩) hgb).trans (hb.cell 0); simp only [List.getElem?_toArray, List.getElem?_cons_zero] at hkeep))
      have hS3 : RepSt w' g c z (j + min j (c - j)) w3 := by
        refine ⟨by unfold Ext; rw [HG.out]; exact hbl3, _, hg3.out, ?_, ?_⟩
        · rw [length_splice _ _ _ HF.out]; exact HCU.out
        · exact splice_take HTK.out (by have := HCU.out; omega) (by have := HF.out; simpa using this)
      have hwr : IntKind.i64.wrap ((j : Int) + ((min j (c - j) : Nat) : Int)) = ((j + min j (c - j) : Nat) : Int) := by
        rw [IntWalk.i64_in _ (by omega)]; omega
      rw [hwr]
      have hm1 : 1 ≤ min j (c - j) := by omega
      have hm2 : j + min j (c - j) ≤ c := by omega
      clear hwr hbl3 hg3 hgu hcb hkeep hbl
      generalize min j (c - j) = mm at *
      go_wp2
      go_roundw
      case rel => exact ⟨j + mm, by omega, by omega, rfl, hS3⟩
      case measure => simp [intOf]; omega
    · have hje : j = c := by omega
      subst hje
      go_wp2
      go_ret
      obtain ⟨hx, cu, hgu, hcu, htk⟩ := hS
      refine ⟨_, rfl, ⟨by simp, .inr ⟨g, j, cu.toArray, by simp, by rw [HG.out]; exact Nat.le_refl _, hgu, by simp, by unfold maxLen; omega, by simpa using hcu, ?_⟩⟩, hx⟩
      simp only [List.length_replicate, Nat.mul_one, ivs, List.map_replicate]
      exact htk
end Go.Proofs.YtdkdmcaehinkhaaDoor
