/- From the walk of a law to its row: a law that answers true and leaves old memory as it was meets its statement. No condition.
Contracts of the small functions on numbers and rules. No condition. -/
import Derived.Test.YtjcfmlecfjmcgaaGreatDoorS01
import Derived.Carry
import Derived.ProofKit
import Derived.LaidMore
import Derived.OpenShut
import Derived.Stop.Joined
import Derived.Test.YtjcfmlecfjmcgaaGreatDoorProg
import Derived.Lib.QuietBelow
import Derived.Laws.StructEq
section
namespace Go.Proofs.YtjcfmlecfjmcgaaGreatDoor
open Go Go.RowKit Go.ChangeShapes Go.WideShapes Go.Deep Go.Joins
section
variable {H : Type} {enc : TypeId × Value → H} {P : Program}
theorem trodAll_stays (hl : laidOutB P = true) {W W' : World} (hb : Below W.heap.size W W') : ∀ {ts : List TypeId} {vs : List Value} {ds : List (DataW H)} {ps : List MemPlace},
    (ts.all fun t => P.readableRec t && decide (t < P.types.size)) = true → DataW.TrodAll enc P W 0 (fun _ => true) true ts vs ds ps → (∀ x ∈ ps, x.block < W.heap.size) →
    DataW.TrodAll enc P W' 0 (fun b => decide (b < W.heap.size)) true ts vs ds ps
  | [], _, _, _, _, h, _ => by
    obtain ⟨rfl, rfl, rfl⟩ := trodAll_nil h
    exact rfl
  | t :: ts, _, _, _, hr, h, hlt => by
    obtain ⟨v, vs, d, ds, p, q, rfl, rfl, rfl, h1, h2⟩ := trodAll_cons h
    simp only [List.all_cons, Bool.and_eq_true, decide_eq_true_eq] at hr
    exact ⟨p, q, Below.trod hl hr.1.1 hr.1.2 h1 hb (fun x hx => hlt x (List.mem_append_left _ hx)), trodAll_stays hl hb (by simpa using hr.2) h2 (fun x hx => hlt x (List.mem_append_right _ hx)), rfl⟩
theorem trodAll_len {w : World} {base : Nat} {sp : Nat → Bool} {held : Bool} : ∀ {ts : List TypeId} {vs : List Value} {ds : List (DataW H)} {ps : List MemPlace}, DataW.TrodAll enc P w base sp held ts vs ds ps → ds.length = ts.length
  | [], _, _, _, h => by obtain ⟨rfl, rfl, rfl⟩ := trodAll_nil h; rfl
  | _ :: _, _, _, _, h => by
    obtain ⟨v, vs, d, ds, p, q, rfl, rfl, rfl, _, h2⟩ := trodAll_cons h
    simp [trodAll_len h2]
theorem law_post {f : Func} {s : ChangeSpec} {W W' : World} {args : Array Value} {ds gs : List (DataW H)} {before : List MemPlace} {tb : TypeId}
    (hl : laidOutB P = true) (hp : (f.params.toList.all fun t => P.readableRec t && decide (t < P.types.size)) = true) (hr : f.resultTypes = #[tb]) (htb : P.underlying tb = some .bool) (hv : s.vars = [])
    (hs : ∀ ds : List (DataW H), ds.length = f.params.size → s.fn H ds = { results := [.lit (.bool true)], args := ds })
    (hW : DataW.Whole enc P f.params.toList s.vars false W args.toList ds gs before) (hb : Below W.heap.size W W') :
    s.post enc P f false true false false W args (.bool true) W' := by
  have hW' := hW
  obtain ⟨p, q, hA, hV, rfl, hfz, _⟩ := hW
  rw [hv] at hV
  obtain ⟨rfl, rfl⟩ := trodVars_none hV
  have hlen : ds.length = f.params.size := by simpa using trodAll_len hA
  have hlt : ∀ x ∈ p, x.block < W.heap.size := fun x hx => hW'.lt x (by simpa using hx)
  refine ⟨ds, [], p ++ [], [], p, [], hW', ?_, ?_, ?_, hb.frame _, fun h => by cases h⟩
  · rw [List.append_nil, hs ds hlen, hr]
    exact trodAll_mk1 (shut_bool htb true)
  · rw [List.append_nil, hs ds hlen]
    exact trodAll_stays hl hb hp hA hlt
  · rw [List.append_nil, hs ds hlen, hv]
    exact rfl
theorem law_lift {a : Assume} {C : Checked} {os : Os} {f : FuncId} {fn : Func} {s : ChangeSpec} {conds : List PathCond} {X : World → Array Value → Prop} {tb : TypeId}
    (hX : ∀ (w w' : World) (args : Array Value), w.heap = w'.heap → X w args → X w' args)
    (own : ownKnob C.prog.godebug = none) (started : os.Started) (noInit : C.prog.inits.idxOf? f = none) (hfn : C.prog.funcs[f]? = some fn)
    (witness : ∃ (w : World) (tape : Tape) (i : Input), w.os = os ∧ (w.forCall tape i).Shaped C.prog ∧ i.vars = [] ∧ Input.okWide C.prog (w.forCall tape i) .any w.heap.size f i ∧
      ((s.pre enc C.prog fn conds false (w.forCall tape i).memory i.args ∧ X (w.forCall tape i).memory i.args) ∧ sizedMet enc C.prog fn (OpenSpec.ofChange s) false (w.forCall tape i).memory i.args) ∧ a.holds C.prog (lone (Frame.enter C.prog f i.args .normal) [] (w.forCall tape i)))
    (hl : laidOutB C.prog = true) (hp : (fn.params.toList.all fun t => C.prog.readableRec t && decide (t < C.prog.types.size)) = true) (hr : fn.resultTypes = #[tb]) (htb : C.prog.underlying tb = some .bool) (hv : s.vars = [])
    (hs : ∀ ds : List (DataW H), ds.length = fn.params.size → s.fn H ds = { results := [.lit (.bool true)], args := ds })
    (walk : ∀ (W : World) (base : Nat) (args : Array Value) (ds : List (DataW H)) (p : List MemPlace), (∀ (j : Nat) t v, fn.params[j]? = some t → args[j]? = some v → Value.okWide C.prog W .any base t v) →
      DataW.TrodAll enc C.prog W 0 (fun _ => true) true fn.params.toList args.toList ds p → X W args → Calls C.prog f args W fun e W' => e = .returned (.bool true) ∧ Below W.heap.size W W') :
    ReturnsInHanded a C os f .any (fun w args => (s.pre enc C.prog fn conds false w args ∧ X w args) ∧ sizedMet enc C.prog fn (OpenSpec.ofChange s) false w args) (s.post enc C.prog fn false true false false) := by
  refine returnsInHanded_of_change_and hX own started noInit hfn witness ?_
  intro W base args ds gs before hval hW _ _ hL _
  obtain ⟨p, q, hA, _⟩ := id hW
  refine (walk W base args ds p hval hA hL).mono fun e W' ⟨he, hb⟩ => ?_
  subst he
  exact ⟨_, rfl, law_post hl hp hr htb hv hs hW hb⟩
end
end Go.Proofs.YtjcfmlecfjmcgaaGreatDoor
end
section
namespace Go.Proofs.YtjcfmlecfjmcgaaGreatDoor
open Go Go.RowKit Go.Proofs
set_option maxHeartbeats 400000

def inB (n lo hi : Int) : Bool := decide (lo ≤ n) && decide (n ≤ hi)
theorem inB_true {n lo hi : Int} (h : lo ≤ n ∧ n ≤ hi) : inB n lo hi = true := by simp [inB, h.1, h.2]
theorem inB_iff {n lo hi : Int} : inB n lo hi = true ↔ lo ≤ n ∧ n ≤ hi := by simp [inB]
theorem inB_false1 {n lo hi : Int} (h : n < lo) : inB n lo hi = false := by simp [inB]; omega
theorem inB_false2 {n lo hi : Int} (h : hi < n) : inB n lo hi = false := by simp [inB]; omega
theorem within_c (n lo hi : Int) (w : World) : Calls Tryz.prog 55 #[.int .i64 n, .int .i64 lo, .int .i64 hi] w fun e w' => e = .returned (.bool (inB n lo hi)) ∧ w = w' := by
  rcases Int.lt_or_le n lo with h | h
  · have H := inB_false1 (hi := hi) h
    go_enter Tryz.func55, Tryz.ntmps55
    go_wp2
    go_ret
    exact ⟨by simp, rfl⟩
  · rcases Int.lt_or_le hi n with h2 | h2
    · have H := inB_false2 (lo := lo) h2
      go_enter Tryz.func55, Tryz.ntmps55
      go_wp2
      go_ret
      exact ⟨by simp [H, h2], rfl⟩
    · have H := inB_true ⟨h, h2⟩
      go_enter Tryz.func55, Tryz.ntmps55
      go_wp2
      go_ret
      exact ⟨by simp [H], rfl⟩
theorem l00In_c (n lo hi : Int) (w : World) : Calls Tryz.prog 75 #[.int .i64 n, .int .i64 lo, .int .i64 hi] w fun e w' => e = .returned (.bool (inB n lo hi)) ∧ w = w' := by
  rcases Int.lt_or_le n lo with h | h
  · have H := inB_false1 (hi := hi) h
    go_enter Tryz.func75, Tryz.ntmps75
    go_wp2
    go_ret
    exact ⟨by simp, rfl⟩
  · rcases Int.lt_or_le hi n with h2 | h2
    · have H := inB_false2 (lo := lo) h2
      go_enter Tryz.func75, Tryz.ntmps75
      go_wp2
      go_ret
      exact ⟨by simp [H, h2], rfl⟩
    · have H := inB_true ⟨h, h2⟩
      go_enter Tryz.func75, Tryz.ntmps75
      go_wp2
      go_ret
      exact ⟨by simp [H], rfl⟩

/-- A rule. -/
structure RuleD where
  w : Int
  m : Int
  n : Int
deriving DecidableEq
def RuleD.v (r : RuleD) : Value := .agg #[.int .i64 r.w, .int .i64 r.m, .int .i64 r.n]
def noR : RuleD := ⟨0, 0, -1⟩
theorem noRule_c (w : World) : Calls Tryz.prog 93 #[] w fun e w' => e = .returned (.agg #[.int .i64 0, .int .i64 0, .int .i64 (-1)]) ∧ Ext w w' := by
  go_enter Tryz.func93, Tryz.ntmps93
  go_wp2
  exact bodyPost_ret (v := .agg #[.int .i64 0, .int .i64 0, .int .i64 (-1)]) (by simp [results, Tryz.results93, go_sem]) rfl ⟨rfl, Ext.alloc _ _⟩
theorem l05None_c (w : World) : Calls Tryz.prog 81 #[] w fun e w' => e = .returned (.agg #[.int .i64 0, .int .i64 0, .int .i64 (-1)]) ∧ Ext w w' := by
  go_enter Tryz.func81, Tryz.ntmps81
  go_wp2
  exact bodyPost_ret (v := .agg #[.int .i64 0, .int .i64 0, .int .i64 (-1)]) (by simp [results, Tryz.results81, go_sem]) rfl ⟨rfl, Ext.alloc _ _⟩
def rEq (r s : RuleD) : Bool := decide (r = s)
theorem ruleGuard : Tryz.prog.eqGuardType Tryz.prog.depth 95 = false := by kernel_rfl
theorem ruleIs : Tryz.prog.underlying 95 = some (.struct (Tryz.prog.fieldsOf 95)) := by kernel_rfl
theorem ruleStood : Tryz.prog.stoodInHeld 95 = false := by kernel_rfl
theorem ruleEqual (w : World) (a b c x y z : Int) : (Op.equalIn 10000 95 (.agg #[.int .i64 a, .int .i64 b, .int .i64 c]) (.agg #[.int .i64 x, .int .i64 y, .int .i64 z])).run Tryz.prog w = .ok (decide ((⟨a, b, c⟩ : RuleD) = ⟨x, y, z⟩)) w := by
  have e : (Tryz.prog.fieldsOf 95).toList.map (fun f => (f.name, f.type, f.offset)) = [("Write", 2, 0), ("Move", 2, 1), ("Next", 2, 2)] := by kernel_rfl
  rw [run_equalIn_agg w 9999 _ _ _ ruleIs ruleStood]
  match h : (Tryz.prog.fieldsOf 95).toList with
  | [f0, f1, f2] =>
    rw [h] at e
    simp only [List.map_cons, List.map_nil, List.cons.injEq, Prod.mk.injEq, and_true] at e
    obtain ⟨⟨n0, t0, o0⟩, ⟨n1, t1, o1⟩, ⟨n2, t2, o2⟩⟩ := e
    by_cases h0 : a = x <;> by_cases h1 : b = y <;> by_cases h2 : c = z <;>
      simp [Op.eqFields, n0, t0, o0, n1, t1, o1, n2, t2, o2, go_sem, h0, h1, h2]
  | [] => rw [h] at e; simp at e
  | [_] => rw [h] at e; simp at e
  | [_, _] => rw [h] at e; simp at e
  | _ :: _ :: _ :: _ :: _ => rw [h] at e; simp at e
theorem ruleNeq_run (w : World) (a b c x y z : Int) : (binOp .neq 95 (.agg #[.int .i64 a, .int .i64 b, .int .i64 c]) (.agg #[.int .i64 x, .int .i64 y, .int .i64 z])).run Tryz.prog w = .ok (.bool (!rEq ⟨a, b, c⟩ ⟨x, y, z⟩)) w := by
  rw [run_neq_struct, ruleEqual]; rfl
theorem ruleEql_run (w : World) (a b c x y z : Int) : (binOp .eql 95 (.agg #[.int .i64 a, .int .i64 b, .int .i64 c]) (.agg #[.int .i64 x, .int .i64 y, .int .i64 z])).run Tryz.prog w = .ok (.bool (rEq ⟨a, b, c⟩ ⟨x, y, z⟩)) w := by
  rw [run_eql_struct, ruleEqual]; rfl
attribute [go_sem] ruleGuard
def isR (r : RuleD) : Bool := !(rEq r noR)
theorem isRule_c (a b c : Int) (w : World) : Calls Tryz.prog 114 #[.agg #[.int .i64 a, .int .i64 b, .int .i64 c]] w fun e w' => e = .returned (.bool (isR ⟨a, b, c⟩)) ∧ Ext w w' := by
  go_enter Tryz.func114, Tryz.ntmps114
  go_wp2
  obtain ⟨w1, bk, e1, e2, hx, _, _, c0, c1, c2⟩ := box3 w (.int .i64 a) (.int .i64 b) (.int .i64 c) 95
  rw [e1, e2]
  clear e1 e2
  have rn := ruleNeq_run
  have d0 := cellR c0
  have d1 := cellR c1
  have d2 := cellR c2
  refine wp_region_ext (by kernel_rfl) (by kernel_rfl) ?_
  repeat (go_big_quiet_step ((go_at_call 93; exact Calls.extR (noRule_c _))))
  refine wpQuiet_nil ?_
  intro w2 hx2
  go_wp2
  go_ret
  exact ⟨by simp [isR, noR], hx.trans hx2⟩
theorem eqRule_c (a b c x y z : Int) (w : World) : Calls Tryz.prog 74 #[.agg #[.int .i64 a, .int .i64 b, .int .i64 c], .agg #[.int .i64 x, .int .i64 y, .int .i64 z]] w fun e w' => e = .returned (.bool (rEq ⟨a, b, c⟩ ⟨x, y, z⟩)) ∧ Ext w w' := by
  go_enter Tryz.func74, Tryz.ntmps74
  go_wp2
  all_goals (go_ret; refine ⟨?_, (Ext.alloc _ _).trans (Ext.alloc _ _)⟩; simp_all [rEq])
end Go.Proofs.YtjcfmlecfjmcgaaGreatDoor
end
