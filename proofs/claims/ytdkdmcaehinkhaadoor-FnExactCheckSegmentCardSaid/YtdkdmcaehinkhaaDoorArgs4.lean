/- The arguments of the laws of this seat, opened, continued: lists of lists, a proof. No condition. -/
import Derived.Test.YtdkdmcaehinkhaaDoorArgs
import Derived.Test.YtdkdmcaehinkhaaDoorProof
namespace Go.Proofs.YtdkdmcaehinkhaaDoor
open Go Go.RowKit Go.ChangeShapes Go.WideShapes Go.Deep Go.Joins
section
variable {H : Type} {enc : TypeId × Value → H} {w : World}
theorem open_introws {t : TypeId} {fuel : Nat} {v : Value} {x : DataW H × List MemPlace} (ht : Tryd.prog.underlying t = some (.slice 38)) (h : DataW.trod enc Tryd.prog w 0 (fun _ => true) true fuel t [v] = some x) : ∃ xss, IntRows w v xss := by
  obtain ⟨ls, xs, h1, h2⟩ := open_rows (size := 1) (fun cs (a : List Int) => ∃ u, cs = [u] ∧ Ints w u a) ht (by kernel_rfl) (by omega) (fun n cs y hy => by
    rcases DataW.trod_slice Tryd.underlying38 hy with ⟨rfl, _⟩ | ⟨a, len, cap, _, _, _, _, rfl, _⟩
    · obtain ⟨zs, hz⟩ := open_ints Tryd.underlying38 hy
      exact ⟨zs, _, rfl, hz⟩
    · obtain ⟨zs, hz⟩ := open_ints Tryd.underlying38 hy
      exact ⟨zs, _, rfl, hz⟩) h
  have hl : xs.length = ls.length := by obtain ⟨_, _, _, _, _, q⟩ := h1.form; omega
  refine ⟨ls, xs, h1, fun i hi => ?_⟩
  obtain ⟨u, e, hu⟩ := h2 i hi
  refine ⟨u, ?_, hu⟩
  have hi' : i < xs.length := by omega
  rw [Nat.mul_one, List.drop_eq_getElem_cons hi'] at e
  simp only [List.take_succ_cons, List.take_zero, List.cons.injEq, and_true] at e
  rw [List.getElem?_eq_getElem hi', e]
set_option maxRecDepth 100000 in
theorem open_prf {r : Reach} {b0 : Nat} {v : Value} {d : DataW H} {p : List MemPlace} (hv : Value.okWide Tryd.prog w r b0 40 v) (h : DataW.Trod enc Tryd.prog w 0 (fun _ => true) true 40 v d p) : ∃ q, Prf w v q := by
  obtain ⟨v0, v1, v2, y0, y1, y2, n, rfl, _, _, h0, h1, h2⟩ := open_agg3 Tryd.underlying40 (by kernel_rfl) (by kernel_rfl) hv h
  obtain ⟨k0, e0, _⟩ := open_i64 Tryd.underlying2 h0
  obtain ⟨ns, hn⟩ := open_ints Tryd.underlying38 h1
  obtain ⟨ws, hw⟩ := open_introws Tryd.underlying26 h2
  injection e0 with e0 _
  subst e0
  exact ⟨⟨k0, ns, ws⟩, v1, v2, rfl, hn, hw⟩
end
end Go.Proofs.YtdkdmcaehinkhaaDoor
