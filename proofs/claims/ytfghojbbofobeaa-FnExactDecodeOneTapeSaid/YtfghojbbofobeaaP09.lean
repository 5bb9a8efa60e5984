/- A configuration as an argument. No condition. -/
import Derived.Test.YtfghojbbofobeaaP02
import Derived.Test.YtfghojbbofobeaaP08
section
namespace Go.Proofs.Ytfghojbbofobeaa
open Go Go.RowKit Go.ChangeShapes Go.WideShapes Go.ChangeAt Go.Deep Go.Joins
section
variable {H : Type} {enc : TypeId × Value → H} {w : World}
set_option maxRecDepth 100000 in
theorem open_conf {r : Reach} {b0 : Nat} {v : Value} {d : DataW H} {p : List MemPlace} (hv : Value.okWide Try.prog w r b0 27 v) (h : DataW.Trod enc Try.prog w 0 (fun _ => true) true 27 v d p) : ∃ c, Conf w v c := by
  obtain ⟨v0, v1, v2, y0, y1, y2, n, rfl, _, _, h0, h1, h2⟩ := open_agg3 Try.underlying27 (by kernel_rfl) (by kernel_rfl) hv h
  obtain ⟨k0, e0, _⟩ := open_i64 Try.underlying2 h0
  obtain ⟨ls, hl⟩ := open_ints Try.underlying25 h1
  obtain ⟨rs, hr⟩ := open_ints Try.underlying25 h2
  injection e0 with e0 _
  subst e0
  exact ⟨⟨k0, ls, rs⟩, v1, v2, rfl, hl, hr⟩
end
end Go.Proofs.Ytfghojbbofobeaa
end
