/- Plain words: lists of texts as cells; the letters of a valid configuration.
Contract of the library's split of a text whose parts do not hold the separator. The library's length of searches is some number.
What a door seat's rows share where they list pinned tables: the listed variables of the library, the world that lays them, and the shape of the worlds. -/
import Derived.Test.YtkbpchdncljlbaaGreatDoorV07
import Derived.Test.YtkbpchdncljlbaaGreatDoorV08
import Derived.Test.YtkbpchdncljlbaaGreatDoorV02
import Derived.Test.YtkbpchdncljlbaaGreatDoorV05
import Derived.Test.YtkbpchdncljlbaaGreatDoorTie
import Derived.Test.YtkbpchdncljlbaaGreatDoorV01
import Derived.Lib.LaidTab
import Derived.Lay
import Derived.HandedShaped
import Derived.Shelf.Vars
section
set_option linter.unusedSimpArgs false
set_option linter.unusedVariables false
namespace Go.Proofs.YtkbpchdncljlbaaGreatDoor
open Go Go.RowKit Go.Proofs
def svB (xs : List (List UInt8)) : List Value := xs.map fun l => Value.string (bsS l)
theorem svB_length (xs : List (List UInt8)) : (svB xs).length = xs.length := by simp [svB]
theorem svB_take {α : Type} (f : α → List UInt8) (xs : List α) (k : Nat) (h : k < xs.length) : svB ((xs.take (k + 1)).map f) = svB ((xs.take k).map f) ++ [.string (bsS (f xs[k]))] := by
  unfold svB; rw [List.take_succ_eq_append_getElem h, List.map_append, List.map_append]; rfl
theorem conf_digs {m : MachD} {c : ConfD} (hm : machOk m = true) (hc : confB m c = true) : (0 ≤ c.q ∧ c.q ≤ 999) ∧ (c.l.length ≤ 200 ∧ ∀ z ∈ c.l, 0 ≤ z ∧ z ≤ 9) ∧ (c.r.length ≤ 200 ∧ ∀ z ∈ c.r, 0 ≤ z ∧ z ≤ 9) := by
  obtain ⟨s1, s2, t1, t2⟩ := machOk_bounds hm
  simp only [confB, sideOk, Bool.and_eq_true, decide_eq_true_eq, List.all_eq_true] at hc
  obtain ⟨⟨h1, ⟨⟨h2, h3⟩, _⟩⟩, ⟨⟨h4, h5⟩, _⟩⟩ := hc
  have h1 := inB_iff.1 h1
  refine ⟨by omega, ⟨by omega, fun z hz => ?_⟩, ⟨by omega, fun z hz => ?_⟩⟩
  · have := inB_iff.1 (h3 z hz); omega
  · have := inB_iff.1 (h5 z hz); omega
theorem confT_app (c : ConfD) : bsS (digB c.l.reverse) ++ ⟨#[40]⟩ ++ itoaS c.q ++ ⟨#[41]⟩ ++ bsS (digB c.r) = bsS (confT c) := by
  have e : confT c = digB c.l.reverse ++ [40] ++ Lib.itoa c.q ++ [41] ++ digB c.r := by
    unfold confT
    simp
  rw [e, ← bs_app, ← bs_app, ← bs_app, ← bs_app]
  rfl
end Go.Proofs.YtkbpchdncljlbaaGreatDoor
end
section
set_option linter.unusedSimpArgs false
set_option linter.unusedVariables false
namespace Go.Proofs.YtkbpchdncljlbaaGreatDoor
open Go Go.RowKit Go.Proofs
set_option maxHeartbeats 400000
/-- The library's variable of the searches holds some number. -/
def MaxL (w : World) : Prop := ∃ n, w.cell? ⟨0, 0, none⟩ = some (.int .i64 n)
theorem MaxL.ext {w w' : World} (h : MaxL w) (he : Ext w w') : MaxL w' := by
  obtain ⟨n, hn⟩ := h
  exact ⟨n, he.cell hn⟩
theorem split_texts {c : UInt8} {l : List (List UInt8)} (h0 : 0 < l.length) (h : ∀ q ∈ l, c ∉ q) : Lib.splitB ⟨#[c]⟩ 0 (Lib.countB (bsS (Lib.join l [c])) ⟨#[c]⟩) (bsS (Lib.join l [c])) = l.map bsS ∧ Lib.countB (bsS (Lib.join l [c])) ⟨#[c]⟩ + 1 = l.length := by
  cases l with
  | nil => simp at h0
  | cons p ps =>
    obtain ⟨h1, h2⟩ := split_join p ps h
    exact ⟨h1, by rw [h2]; rfl⟩
theorem SplitT_c (c : UInt8) (l : List (List UInt8)) (h0 : 0 < l.length) (h : ∀ q ∈ l, c ∉ q) (w : World) (hM : MaxL w) (hs : (Lib.join l [c]).length < 4294967281) :
    Calls Tryz.prog 24 #[.string (bsS (Lib.join l [c])), .string ⟨#[c]⟩] w fun e w' => e = .returned (.slice (some ⟨w.heap.size, 0, none⟩) l.length l.length) ∧ w' = w.alloc (.cells (svB l).toArray 9) := by
  obtain ⟨n, hn⟩ := hM
  obtain ⟨h1, h2⟩ := split_texts h0 h
  have := Tryz.strings_Split (bsS (Lib.join l [c])) ⟨#[c]⟩ n w (by rw [bs_size]; exact hs) hn (by show 1 ≤ 1; omega)
  rw [h1, h2, List.map_map] at this
  exact this
end Go.Proofs.YtkbpchdncljlbaaGreatDoor
end
section
namespace Go.Proofs.YtkbpchdncljlbaaGreatDoor
open Go Go.RowKit Go.ChangeShapes Go.WideShapes Go.ChangeAt
theorem ownKnP : ownKnob Tryz.prog.godebug = none := by kernel_rfl
theorem laidOutPP : laidOutB Tryz.prog = true := by kernel_rfl
abbrev laidP : List (String × DataW Unit) := Rows.fnMultiRow.laid
theorem laid_metP (os : Os) (args : Array Value) : laidMetH Tryz.prog laidP ((World.laidAll Tryz.prog os laidP).forCall (fun _ _ => 0) ⟨#[], args, []⟩).memory := by
  rw [MakeChecks.laidMetH_plain _ _ _ (by kernel_rfl)]
  exact laidMet_laidAll _ (by kernel_rfl) (by kernel_rfl)
set_option maxRecDepth 100000 in
theorem tab_of_laidP {W : World} (h : laidMetH Tryz.prog laidP W) : Tab W := by
  rw [MakeChecks.laidMetH_plain _ _ _ (by kernel_rfl)] at h
  obtain ⟨ps, ⟨g0, t0, cs0, f0, p0, q0, hg0, ht0, hv0, hd0, ⟨g1, t1, cs1, f1, p1, q1, hg1, ht1, hv1, hd1, ⟨g2, t2, cs2, f2, p2, q2, hg2, ht2, hv2, hd2, _, _⟩, _⟩, _⟩, _, _⟩ := h
  obtain rfl := Option.some.inj ((show Tryz.prog.globalNamed "internal/strconv.uint64pow10" = some 3 by kernel_rfl).symm.trans hg2)
  obtain rfl := Option.some.inj ((show (Tryz.prog.globals[3]?).map (·.type) = some 177 by kernel_rfl).symm.trans ht2)
  show World.var? Tryz.prog W "internal/strconv.uint64pow10" = _
  rw [hv2, ← Lib.cells_of_tab Tryz.underlying177 Tryz.underlying85 (by kernel_rfl) (by kernel_rfl) (zs := Lib.pow10Tab) hd2]
theorem maxL_of_shape {W : World} (h : W.ShapedOpen Tryz.prog) : MaxL W :=
  Go.Proofs.cell_of_shapedOpen_int (zero := #[.int .i64 0]) (t := 3) h (of_decide_eq_true (by kernel_rfl)) (by kernel_rfl) rfl (by kernel_rfl) (by kernel_rfl) Tryz.underlying3
theorem law_liftS {H : Type} {enc : TypeId × Value → H} {a : Assume} {C : Checked} {os : Os} {f : FuncId} {fn : Func} {s : ChangeSpec} {conds : List PathCond} {X : World → Array Value → Prop} {tb : TypeId}
    (hX : ∀ (w w' : World) (args : Array Value), w.heap = w'.heap → X w args → X w' args)
    (own : ownKnob C.prog.godebug = none) (started : os.Started) (noInit : C.prog.inits.idxOf? f = none) (hfn : C.prog.funcs[f]? = some fn)
    (witness : ∃ (w : World) (tape : Tape) (i : Input), w.os = os ∧ (w.forCall tape i).Shaped C.prog ∧ i.vars = [] ∧ Input.okWide C.prog (w.forCall tape i) .any w.heap.size f i ∧
      ((s.pre enc C.prog fn conds false (w.forCall tape i).memory i.args ∧ X (w.forCall tape i).memory i.args) ∧ sizedMet enc C.prog fn (OpenSpec.ofChange s) false (w.forCall tape i).memory i.args) ∧ a.holds C.prog (lone (Frame.enter C.prog f i.args .normal) [] (w.forCall tape i)))
    (hl : laidOutB C.prog = true) (hp : (fn.params.toList.all fun t => C.prog.readableRec t && decide (t < C.prog.types.size)) = true) (hr : fn.resultTypes = #[tb]) (htb : C.prog.underlying tb = some .bool) (hv : s.vars = [])
    (hs : ∀ ds : List (DataW H), ds.length = fn.params.size → s.fn H ds = { results := [.lit (.bool true)], args := ds })
    (walk : ∀ (W : World) (base : Nat) (args : Array Value) (ds : List (DataW H)) (p : List MemPlace), (∀ (j : Nat) t v, fn.params[j]? = some t → args[j]? = some v → Value.okWide C.prog W .any base t v) →
      DataW.TrodAll enc C.prog W 0 (fun _ => true) true fn.params.toList args.toList ds p → X W args → W.ShapedOpen C.prog → Calls C.prog f args W fun e W' => e = .returned (.bool true) ∧ Below W.heap.size W W') :
    ReturnsInHanded a C os f .any (fun w args => (s.pre enc C.prog fn conds false w args ∧ X w args) ∧ sizedMet enc C.prog fn (OpenSpec.ofChange s) false w args) (s.post enc C.prog fn false true false false) := by
  refine returnsInHanded_of_calls own started noInit witness ?_
  intro w tape i _ hsh _ hok hpre hholds
  obtain ⟨_, _, _, fn', hfn', _, _, _, _, hval⟩ := hok
  have e : fn' = fn := Option.some.inj (hfn'.symm.trans hfn)
  subst e
  obtain ⟨⟨⟨ds, gs, before, hw, hc⟩, hx⟩, hz⟩ := hpre
  have hw' := DataW.Whole.of_heap (w' := w.forCall tape i) (by rfl) hw
  obtain ⟨p, q, hA, _⟩ := id hw'
  refine (walk (w.forCall tape i) w.heap.size i.args ds p hval hA (hX _ _ _ (by rfl) hx) hsh).mono fun e W' ⟨he, hb⟩ => ?_
  subst he
  exact ChangeSpec.post_blind (law_post hl hp hr htb hv hs hw' hb)
end Go.Proofs.YtkbpchdncljlbaaGreatDoor
end
