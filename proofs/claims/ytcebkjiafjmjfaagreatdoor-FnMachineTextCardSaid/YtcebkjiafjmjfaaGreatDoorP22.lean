/- What a door seat's rows share where they list pinned tables: the listed variables of the library, the world that lays them, and the shape of the worlds.
The arguments of a law on bytes, opened. No condition. -/
import Derived.Test.YtcebkjiafjmjfaaGreatDoorP03
import Derived.Test.YtcebkjiafjmjfaaGreatDoorP07
import Derived.Test.YtcebkjiafjmjfaaGreatDoorP21
import Derived.Test.YtcebkjiafjmjfaaGreatDoorTie
import Derived.Test.YtcebkjiafjmjfaaGreatDoorP02
import Derived.Lib.LaidTab
import Derived.Lay
import Derived.HandedShaped
import Derived.Shelf.Vars
import Derived.Test.YtcebkjiafjmjfaaGreatDoorP20
section
namespace Go.Proofs.YtcebkjiafjmjfaaGreatDoor
open Go Go.RowKit Go.ChangeShapes Go.WideShapes Go.ChangeAt
theorem ownKnP : ownKnob Tryz.prog.godebug = none := by kernel_rfl
theorem laidOutPP : laidOutB Tryz.prog = true := by kernel_rfl
abbrev laidP : List (String × DataW Unit) := Rows.fnMachineTextRow.laid
theorem laid_metP (os : Os) (args : Array Value) : laidMetH Tryz.prog laidP ((World.laidAll Tryz.prog os laidP).forCall (fun _ _ => 0) ⟨#[], args, []⟩).memory := by
  rw [MakeChecks.laidMetH_plain _ _ _ (by kernel_rfl)]
  exact laidMet_laidAll _ (by kernel_rfl) (by kernel_rfl)
set_option maxRecDepth 100000 in
theorem tab_of_laidP {W : World} (h : laidMetH Tryz.prog laidP W) : Tab W := by
  rw [MakeChecks.laidMetH_plain _ _ _ (by kernel_rfl)] at h
  obtain ⟨ps, ⟨g0, t0, cs0, f0, p0, q0, hg0, ht0, hv0, hd0, ⟨g1, t1, cs1, f1, p1, q1, hg1, ht1, hv1, hd1, ⟨g2, t2, cs2, f2, p2, q2, hg2, ht2, hv2, hd2, _, _⟩, _⟩, _⟩, _, _⟩ := h
  obtain rfl := Option.some.inj ((show Tryz.prog.globalNamed "internal/strconv.uint64pow10" = some 3 by kernel_rfl).symm.trans hg2)
  obtain rfl := Option.some.inj ((show (Tryz.prog.globals[3]?).map (·.type) = some 160 by kernel_rfl).symm.trans ht2)
  show World.var? Tryz.prog W "internal/strconv.uint64pow10" = _
  rw [hv2, ← Lib.cells_of_tab Tryz.underlying160 Tryz.underlying76 (by kernel_rfl) (by kernel_rfl) (zs := Lib.pow10Tab) hd2]
theorem maxL_of_shape {W : World} (h : W.ShapedOpen Tryz.prog) : MaxL W :=
  Go.Proofs.cell_of_shapedOpen_int (zero := #[.int .i64 0]) (t := 3) h (of_decide_eq_true (by kernel_rfl)) (by kernel_rfl) rfl (by kernel_rfl) (by kernel_rfl) Tryz.underlying3
theorem law_liftS {H : Type} {enc : TypeId × Value → H} {a : Assume} {C : Checked} {os : Os} {f : FuncId} {fn : Func} {s : ChangeSpec} {conds : List PathCond} {X : World → Array Value → Prop} {tb : TypeId}
    (hX : ∀ (w w' : World) (args : Array Value), w.heap = w'.heap → X w args → X w' args)
    (own : ownKnob C.prog.godebug = none) (started : os.Started) (noInit : C.prog.inits.idxOf? f = none) (hfn : C.prog.funcs[f]? = some fn)
    (witness : ∃ (w : World) (tape : Tape) (i : Input), w.os = os ∧ (w.forCall tape i).Shaped C.prog ∧ i.vars = [] ∧ Input.okWide C.prog (w.forCall tape i) .any w.heap.size f i ∧
      ((s.pre enc C.prog fn conds false (w.forCall tape i).memory i.args ∧ X (w.forCall tape i).memory i.args) ∧ sizedMet enc C.prog fn (OpenSpec.ofChange s) false (w.forCall tape i).memory i.args) ∧ a.holds C.prog (lone (Frame.enter C.prog f i.args .normal) [] (w.forCall tape i)))
    (hl : laidOutB C.prog = true) (hp : (fn.params.toList.all fun t => C.prog.readableRec t && decide (t < C.prog.types.size)) = true) (hr : fn.resultTypes = #[tb]) (htb : C.prog.underlying tb = some .bool) (hv : s.vars = [])
    (hs : ∀ ds : List (DataW H), ds.length = fn.params.size → s.fn H ds = { results := [.lit (.bool true)], args := ds })
    (walk : ∀ (W : World) (base : Nat) (args : Array Value) (ds : List (DataW H)) (p : List MemPlace), (∀ (j : Nat) t v, fn.params[j]? = some t → args[j]? = some v → Value.okWide C.prog W .any base t v) →
      DataW.TrodAll enc C.prog W 0 (fun _ => true) true fn.params.toList args.toList ds p → X W args → W.ShapedOpen C.prog → Calls C.prog f args W fun e W' => e = .returned (.bool true) ∧ Below W.heap.size W W') :
    ReturnsInHanded a C os f .any (fun w args => (s.pre enc C.prog fn conds false w args ∧ X w args) ∧ sizedMet enc C.prog fn (OpenSpec.ofChange s) false w args) (s.post enc C.prog fn false true false false) := by
  refine returnsInHanded_of_calls own started noInit witness ?_
  intro w tape i _ hsh _ hok hpre hholds
  obtain ⟨_, _, _, fn', hfn', _, _, _, _, hval⟩ := hok
  have e : fn' = fn := Option.some.inj (hfn'.symm.trans hfn)
  subst e
  obtain ⟨⟨⟨ds, gs, before, hw, hc⟩, hx⟩, hz⟩ := hpre
  have hw' := DataW.Whole.of_heap (w' := w.forCall tape i) (by rfl) hw
  obtain ⟨p, q, hA, _⟩ := id hw'
  refine (walk (w.forCall tape i) w.heap.size i.args ds p hval hA (hX _ _ _ (by rfl) hx) hsh).mono fun e W' ⟨he, hb⟩ => ?_
  subst he
  exact ChangeSpec.post_blind (law_post hl hp hr htb hv hs hw' hb)
end Go.Proofs.YtcebkjiafjmjfaaGreatDoor
end
section
namespace Go.Proofs.YtcebkjiafjmjfaaGreatDoor
open Go Go.RowKit Go.ChangeShapes Go.WideShapes Go.Deep Go.Joins
section
variable {H : Type} {enc : TypeId × Value → H} {w : World}
theorem open_bytes {fuel : Nat} {v : Value} {x : DataW H × List MemPlace} (h : DataW.trod enc Tryz.prog w 0 (fun _ => true) true fuel 22 [v] = some x) : ∃ bs, Bytes w v bs := by
  obtain ⟨ls, xs, h1, h2⟩ := open_rows (size := 1) (fun cs (a : Int) => cs = [.int .u8 a] ∧ 0 ≤ a ∧ a ≤ 255) Tryz.underlying22 (by kernel_rfl) (by omega) (fun n cs y hy => by
    obtain ⟨k, e, _, hw⟩ := DataW.trod_int Tryz.underlying5 hy
    exact ⟨k, e, by simpa [Lit.wf, IntKind.min, IntKind.max, IntKind.signed, IntKind.bits] using hw⟩) h
  have e : xs = ls.flatMap fun a => [.int .u8 a] := flat_of_rows (size := 1) (fun a => [.int .u8 a]) (fun _ => rfl) ls xs (by obtain ⟨_, _, _, _, _, q⟩ := h1.form; exact q) (fun i hi => (h2 i hi).1)
  have e2 : xs = bvs ls := by rw [e]; unfold bvs; rw [List.map_eq_flatMap]
  refine ⟨ls, by rw [← e2]; exact h1, fun z hz => ?_⟩
  obtain ⟨i, hi, rfl⟩ := List.getElem_of_mem hz
  exact (h2 i hi).2
set_option maxRecDepth 100000 in
theorem open_bytesT {r : Reach} {b0 : Nat} {v : Value} {d : DataW H} {p : List MemPlace} (hv : Value.okWide Tryz.prog w r b0 22 v) (h : DataW.Trod enc Tryz.prog w 0 (fun _ => true) true 22 v d p) : ∃ bs, Bytes w v bs := by
  obtain ⟨a, l, c, rfl⟩ := okWide_slice Tryz.underlying22 hv
  obtain ⟨n, h⟩ := h
  exact open_bytes h
end
end Go.Proofs.YtcebkjiafjmjfaaGreatDoor
end
