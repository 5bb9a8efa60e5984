/- Contract of the program's text of digits. The letters are from 0 to 9.
Contracts of the program's tests on configurations and budgets. The machine is valid where its numbers are reckoned with.
What a door seat's rows share where they list pinned tables: the listed variables of the library, the world that lays them, and the shape of the worlds. -/
import Derived.Test.YtnflhpgkffiloaaDoorF05
import Derived.Test.YtnflhpgkffiloaaDoorF04
import Derived.Test.YtnflhpgkffiloaaDoorF03
import Derived.Test.YtnflhpgkffiloaaDoorF02
import Derived.Lib.ItoaNum
import Derived.Lib.ItoaMem
import Derived.Lib.ItoaLen
import Derived.Lib.Join
import Derived.Lib.Split
import Derived.Lib.SplitLaws
import Derived.Lib.CountLaws
import Derived.Lib.CutLaws
import Derived.Lib.IndexAny
import Derived.Lib.ParseIntBTie
import Derived.Lib.AtoiTie
import Derived.Lib.AtoiAllCases
import Derived.Lib.IndexMore
import Derived.Test.YtnflhpgkffiloaaDoorTie
import Derived.Test.YtnflhpgkffiloaaDoorF01
import Derived.Lib.LaidTab
import Derived.Lay
import Derived.HandedShaped
import Derived.Shelf.Vars
section
set_option linter.unusedSimpArgs false
set_option linter.unusedVariables false
namespace Go.Proofs.YtnflhpgkffiloaaDoor
open Go Go.RowKit Go.Proofs
set_option maxHeartbeats 400000
def digU (z : Int) : UInt8 := UInt8.ofNat (48 + z.toNat)
def digB (zs : List Int) : List UInt8 := zs.map digU
theorem digU_nat {z : Int} (h0 : 0 ≤ z) (h1 : z ≤ 9) : ((digU z).toNat : Int) = 48 + z := by
  unfold digU
  rw [UInt8.toNat_ofNat', Nat.mod_eq_of_lt (by omega)]
  omega
theorem ext_below {w a b : World} {g : Nat} (h : Ext w a) (hg : w.heap.size = g) (k : Below g a b) : Ext w b := by
  subst hg
  exact Below.trans h k
theorem Bldr.lt {B b : Nat} {l : List UInt8} {w : World} (h : Bldr B b l w) : b < w.heap.size := h.elim (fun x => x.lt) (fun x => x.lt)
set_option maxRecDepth 20000 in
set_option maxHeartbeats 4000000 in
theorem digitsText_c (v : Value) (zs : List Int) (w : World) (h : Ints w v zs) (hz : ∀ z ∈ zs, 0 ≤ z ∧ z ≤ 9) (hl : zs.length ≤ 1048576) :
    Calls Tryd.prog 26 #[v] w fun e w' => e = .returned (.string ⟨(digB zs).toArray⟩) ∧ Ext w w' := by
  obtain ⟨A, c, rfl, h1, h2⟩ := h.form
  obtain ⟨W, hW⟩ : ∃ W, w.alloc (.cells #[.pointer none, .slice none 0 0] 58) = W := ⟨_, rfl⟩
  have hX : Ext w W := by rw [← hW]; exact Ext.alloc _ _
  have hB : Bldr w.heap.size w.heap.size [] W := by rw [← hW]; exact Lib.fresh_isBuilder _ _ w
  have HZ := Lib.hid hz
  generalize hg0 : w.heap.size = g at *
  go_enter Tryd.func26, Tryd.ntmps26
  go_wp2_with fail
  try rw [hW]
  clear hW
  go_loopw [8] (fun i wr => ∃ k : Nat, k ≤ zs.length ∧ i = .int .i64 (k : Int) ∧ Bldr g g (digB (zs.take k)) wr ∧ Ext w wr) (fun i _ => zs.length - (intOf i).toNat)
  case atStart => exact ⟨0, Nat.zero_le _, rfl, hB, hX⟩
  case round =>
    clear hB hX
    obtain ⟨k, hk, rfl, hB, hX⟩ := hrel
    by_cases hlt : k < zs.length
    · obtain ⟨b', off, rfl, hc⟩ := (h.ext hX).at hlt
      have c0 := hc k hlt
      have hnx : Hid (digB (zs.take (k + 1)) = digB (zs.take k) ++ [digU zs[k]]) := Lib.hid (by unfold digB; rw [List.take_succ_eq_append_getElem hlt, List.map_append]; rfl)
      have hz0 := HZ.out _ (List.getElem_mem hlt)
      have hll : (digB (zs.take k)).length ≤ 1048576 := by simp [digB]; omega
      generalize zs[k] = z at *
      have hd := digU_nat hz0.1 hz0.2
      have hn : (digU z).toNat ≤ 127 := by omega
      have hwz : IntKind.i32.wrap z = z := by
        rcases (show z = 0 ∨ z = 1 ∨ z = 2 ∨ z = 3 ∨ z = 4 ∨ z = 5 ∨ z = 6 ∨ z = 7 ∨ z = 8 ∨ z = 9 by omega) with e | e | e | e | e | e | e | e | e | e <;> rw [e] <;> rfl
      have hwr := writeRuneA_c g g _ (digU z) hn wr hB (by omega) (by have := hX.size; omega)
      rw [hd] at hwr
      clear hc
      go_wp2_with fail
      refine hwr.mono ?_
      rintro e w2 ⟨rfl, hB2, hX2⟩
      go_wp2
      go_roundw
      case rel => exact ⟨k + 1, by omega, by go_num, by rw [hnx.out]; exact .inr hB2, ext_below hX hg0 hX2⟩
      case measure => simp [intOf]; omega
    · have hke : zs.take k = zs := List.take_of_length_le (by omega)
      rw [hke] at hB
      clear hke
      have hst := Tryd.Builder_String_any g g (digB zs) wr hB (by have := hX.size; omega)
      go_wp2_with fail
      refine hst.mono ?_
      rintro e w2 ⟨rfl, hX2⟩
      go_wp2
      go_ret
      exact ⟨rfl, ext_below hX hg0 hX2⟩
end Go.Proofs.YtnflhpgkffiloaaDoor
end
section
namespace Go.Proofs.YtnflhpgkffiloaaDoor
open Go Go.RowKit Go.Proofs
set_option maxHeartbeats 400000
/-- A configuration. -/
structure ConfD where
  q : Int
  l : List Int
  r : List Int
deriving DecidableEq
def Conf (w : World) (v : Value) (c : ConfD) : Prop := ∃ lv rv, v = .agg #[.int .i64 c.q, lv, rv] ∧ Ints w lv c.l ∧ Ints w rv c.r
theorem Conf.ext {w w' : World} {v : Value} {c : ConfD} (h : Conf w v c) (he : Ext w w') : Conf w' v c := by
  obtain ⟨lv, rv, hv, h1, h2⟩ := h; exact ⟨lv, rv, hv, h1.ext he, h2.ext he⟩
def blankC : ConfD := ⟨0, [], []⟩
end Go.Proofs.YtnflhpgkffiloaaDoor
end
section
namespace Go.Proofs.YtnflhpgkffiloaaDoor
open Go Go.RowKit Go.ChangeShapes Go.WideShapes Go.ChangeAt
theorem ownKnP : ownKnob Tryd.prog.godebug = none := by kernel_rfl
theorem laidOutPP : laidOutB Tryd.prog = true := by kernel_rfl
abbrev laidP : List (String × DataW Unit) := Rows.fnNormalFormsRow.laid
theorem laid_metP (os : Os) (args : Array Value) : laidMetH Tryd.prog laidP ((World.laidAll Tryd.prog os laidP).forCall (fun _ _ => 0) ⟨#[], args, []⟩).memory := by
  rw [MakeChecks.laidMetH_plain _ _ _ (by kernel_rfl)]
  exact laidMet_laidAll _ (by kernel_rfl) (by kernel_rfl)
set_option maxRecDepth 100000 in
theorem tab_of_laidP {W : World} (h : laidMetH Tryd.prog laidP W) : Tab W := by
  rw [MakeChecks.laidMetH_plain _ _ _ (by kernel_rfl)] at h
  obtain ⟨ps, ⟨g0, t0, cs0, f0, p0, q0, hg0, ht0, hv0, hd0, ⟨g1, t1, cs1, f1, p1, q1, hg1, ht1, hv1, hd1, ⟨g2, t2, cs2, f2, p2, q2, hg2, ht2, hv2, hd2, _, _⟩, _⟩, _⟩, _, _⟩ := h
  obtain rfl := Option.some.inj ((show Tryd.prog.globalNamed "internal/strconv.uint64pow10" = some 0 by kernel_rfl).symm.trans hg2)
  obtain rfl := Option.some.inj ((show (Tryd.prog.globals[0]?).map (·.type) = some 134 by kernel_rfl).symm.trans ht2)
  show World.var? Tryd.prog W "internal/strconv.uint64pow10" = _
  rw [hv2, ← Lib.cells_of_tab Tryd.underlying134 Tryd.underlying66 (by kernel_rfl) (by kernel_rfl) (zs := Lib.pow10Tab) hd2]
theorem law_liftS {H : Type} {enc : TypeId × Value → H} {a : Assume} {C : Checked} {os : Os} {f : FuncId} {fn : Func} {s : ChangeSpec} {conds : List PathCond} {X : World → Array Value → Prop} {tb : TypeId}
    (hX : ∀ (w w' : World) (args : Array Value), w.heap = w'.heap → X w args → X w' args)
    (own : ownKnob C.prog.godebug = none) (started : os.Started) (noInit : C.prog.inits.idxOf? f = none) (hfn : C.prog.funcs[f]? = some fn)
    (witness : ∃ (w : World) (tape : Tape) (i : Input), w.os = os ∧ (w.forCall tape i).Shaped C.prog ∧ i.vars = [] ∧ Input.okWide C.prog (w.forCall tape i) .any w.heap.size f i ∧
      ((s.pre enc C.prog fn conds false (w.forCall tape i).memory i.args ∧ X (w.forCall tape i).memory i.args) ∧ sizedMet enc C.prog fn (OpenSpec.ofChange s) false (w.forCall tape i).memory i.args) ∧ a.holds C.prog (lone (Frame.enter C.prog f i.args .normal) [] (w.forCall tape i)))
    (hl : laidOutB C.prog = true) (hp : (fn.params.toList.all fun t => C.prog.readableRec t && decide (t < C.prog.types.size)) = true) (hr : fn.resultTypes = #[tb]) (htb : C.prog.underlying tb = some .bool) (hv : s.vars = [])
    (hs : ∀ ds : List (DataW H), ds.length = fn.params.size → s.fn H ds = { results := [.lit (.bool true)], args := ds })
    (walk : ∀ (W : World) (base : Nat) (args : Array Value) (ds : List (DataW H)) (p : List MemPlace), (∀ (j : Nat) t v, fn.params[j]? = some t → args[j]? = some v → Value.okWide C.prog W .any base t v) →
      DataW.TrodAll enc C.prog W 0 (fun _ => true) true fn.params.toList args.toList ds p → X W args → W.ShapedOpen C.prog → Calls C.prog f args W fun e W' => e = .returned (.bool true) ∧ Below W.heap.size W W') :
    ReturnsInHanded a C os f .any (fun w args => (s.pre enc C.prog fn conds false w args ∧ X w args) ∧ sizedMet enc C.prog fn (OpenSpec.ofChange s) false w args) (s.post enc C.prog fn false true false false) := by
  refine returnsInHanded_of_calls own started noInit witness ?_
  intro w tape i _ hsh _ hok hpre hholds
  obtain ⟨_, _, _, fn', hfn', _, _, _, _, hval⟩ := hok
  have e : fn' = fn := Option.some.inj (hfn'.symm.trans hfn)
  subst e
  obtain ⟨⟨⟨ds, gs, before, hw, hc⟩, hx⟩, hz⟩ := hpre
  have hw' := DataW.Whole.of_heap (w' := w.forCall tape i) (by rfl) hw
  obtain ⟨p, q, hA, _⟩ := id hw'
  refine (walk (w.forCall tape i) w.heap.size i.args ds p hval hA (hX _ _ _ (by rfl) hx) hsh).mono fun e W' ⟨he, hb⟩ => ?_
  subst he
  exact ChangeSpec.post_blind (law_post hl hp hr htb hv hs hw' hb)
end Go.Proofs.YtnflhpgkffiloaaDoor
end
