/- A region that draws its order, in which one operation calls or makes memory and all others only read: one walk in the order of the text serves every order. No program stands here.
Contracts of the reference's test of a configuration, and of its maker of the machine on one half of the tape. The machine is valid.
Contract of the reference's tape of a configuration of the machine with one tape for several. -/
import Derived.BigQuiet
import Derived.Deep.QuietTactic
import Derived.Test.YtfghojbbofobeaaP01
import Derived.Test.YtfghojbbofobeaaP06
import Derived.Test.YtfghojbbofobeaaP27
section
namespace Go.Proofs.Ytfghojbbofobeaa
open Go
section
variable {P : Program} {ops : Array Oper} {md : Region.Mode} {C : World → Prop} {Post : Value → World → Prop}
/-- An operation that only reads. -/
def plainOp (o : Oper) : Bool :=
  match o.op with
  | .move _ | .assign _ | .pick _ _ _ | .load _ _ | .fieldAddr _ _ _ | .binOp _ _ _ _ _ | .unOp _ _ _ | .indexAddr _ _ _ | .slice _ _ _ _ _ | .convert _ _ _ | .extract _ _ | .field _ _ _ | .index _ _ _ => true
  | _ => false
theorem run_value {s : Sem Value} {w w' : World} {n : Next} (h : (do pure (Next.value (← s)) : Sem Next).run P w = .ok n w') : ∃ v, n = .value v := by
  rw [Sem.run_bind] at h
  cases hs : s.run P w with
  | ok v w1 => rw [hs] at h; simp only [Result.andThen_ok, Sem.run_pure, Result.ok.injEq] at h; exact ⟨v, h.1.symm⟩
  | halt x w1 => rw [hs] at h; cases h
theorem plain_value {o : Oper} (ho : plainOp o = true) {ρ : Operand → Value} {w w' : World} {n : Next} (h : (execOp ρ o).run P w = .ok n w') : ∃ v, n = .value v := by
  unfold plainOp at ho
  unfold execOp at h
  split at ho <;> rename_i hop <;> simp only [hop] at h
  case h_14 => cases ho
  case h_1 => simp only [Sem.run_pure, Result.ok.injEq] at h; exact ⟨_, h.1.symm⟩
  case h_2 => simp only [Sem.run_pure, Result.ok.injEq] at h; exact ⟨_, h.1.symm⟩
  case h_3 =>
    rw [Sem.run_bind] at h
    generalize (asBool _).run P w = r at h
    cases r with
    | ok v w1 => simp only [Result.andThen_ok, Sem.run_pure, Result.ok.injEq] at h; exact ⟨_, h.1.symm⟩
    | halt x w1 => cases h
  all_goals exact run_value h
/-- Two values that an operation yields in one world are one. -/
theorem yields_unique {o : Oper} (ho : plainOp o = true) {a : Act} {v v' : Value} {w : World} (hw : C w) (h : YieldsIn P ops C o v a) (h' : YieldsIn P ops C o v' a) : v = v' := by
  rcases h with ⟨h1, h2⟩ | ⟨h1, rfl⟩ <;> rcases h' with ⟨h1', h2'⟩ | ⟨h1', rfl⟩
  · have a1 := h2 w hw
    have a2 := h2' w hw
    unfold Oper.quietAt at a1 a2
    cases hr : (execOp a.eval o).run P w with
    | ok n w' =>
      obtain ⟨u, rfl⟩ := plain_value ho hr
      rw [hr] at a1 a2
      exact a1.2.symm.trans a2.2
    | halt x w' => rw [hr] at a1; exact a1.elim
  · rw [h1] at h1'; cases h1'
  · rw [h1] at h1'; cases h1'
  · rfl
/-- What is asked of the one operation that stirs, by what it comes to. -/
def stirUpon (P : Program) (K : Value → World → Prop) : Result Next → Prop
  | .ok (.value v) w' => K v w'
  | .ok .skip w' => K undef w'
  | .ok (.enter f args) w' => Calls P f args w' (fun e w'' => ∃ v, e = .returned v ∧ K v w'')
  | _ => False
def stirAt (P : Program) (o : Oper) (a : Act) (w : World) (K : Value → World → Prop) : Prop := stirUpon P K ((execOp a.eval o).run P w)
theorem stirAt.wp {o : Oper} {a : Act} {w : World} {K : Value → World → Prop} {K' : Act → World → Prop} {Q : Exit → Act → World → Prop} (h : stirAt P o a w K) (hk : ∀ u w', K u w' → K' (a.put o.dst u) w') : o.wp P a w K' Q := by
  unfold stirAt at h
  unfold Oper.wp
  generalize (execOp a.eval o).run P w = r at *
  cases r with
  | ok n w' =>
    cases n <;> simp only [stirUpon] at h <;> simp only [Oper.upon]
    case value v => exact hk _ _ h
    case skip => exact hk _ _ h
    case enter f args => exact Calls.mono h fun e w'' ⟨v, he, hv⟩ => by subst he; exact hk _ _ hv
  | halt x w' => simp only [stirUpon] at h
theorem stirAt.some {o : Oper} {a : Act} {w : World} {K : Value → World → Prop} (h : stirAt P o a w K) : ∃ u w', K u w' := by
  unfold stirAt at h
  generalize (execOp a.eval o).run P w = r at *
  cases r with
  | ok n w' =>
    cases n <;> simp only [stirUpon] at h
    case value v => exact ⟨_, _, h⟩
    case skip => exact ⟨_, _, h⟩
    case enter f args =>
      obtain ⟨e, w'', fr, ⟨v, _, hv⟩, _⟩ := h []
      exact ⟨_, _, hv⟩
  | halt x w' => simp only [stirUpon] at h
/-- From every world of the class it yields a value and a world of the class, with what is asked of both. -/
def Stirs (P : Program) (ops : Array Oper) (C : World → Prop) (Post : Value → World → Prop) (o : Oper) (a : Act) : Prop :=
  Region.wanted o (yielded ops a.tmps) = true ∧ ∀ w, C w → stirAt P o a w (fun u w' => C w' ∧ Post u w')
theorem Stirs.of_same {o : Oper} {a a' : Act} (h : Stirs P ops C Post o a) (he : execOp a'.eval o = execOp a.eval o)
    (hw : Region.wanted o (yielded ops a'.tmps) = Region.wanted o (yielded ops a.tmps)) : Stirs P ops C Post o a' := by
  unfold Stirs stirAt at *
  rw [he, hw]
  exact h
/-- Whatever order is picked, the one operation not having come up yet. -/
def wpA (P : Program) (md : Region.Mode) (ops : Array Oper) (C : World → Prop) (Post : Value → World → Prop) (QQ : Value → Act → Prop) (t : Nat) (ot : Oper) : Nat → Array Bool → Act → Prop
  | 0, _, _ => False
  | f + 1, listed, a => Region.ready md ops listed ≠ [] ∧ ∀ i ∈ Region.ready md ops listed, (i ≠ t → qOp P ops C i (wpA P md ops C Post QQ t ot f (listed.setIfInBounds i true)) a) ∧
      (i = t → Stirs P ops C Post ot a ∧ ∀ u, (∃ w, C w ∧ Post u w) → wpAnyQ P md ops C (QQ u) f (listed.setIfInBounds t true) (a.put ot.dst u))
theorem qOp_plain {i : Nat} {o : Oper} {a : Act} {K : Act → Prop} {K' : Act → World → Prop} {Q' : Exit → Act → World → Prop} {w : World} (hi : ops[i]? = some o) (ho : plainOp o = true) (hw : C w) (h : qOp P ops C i K a) (hk : ∀ a', K a' → K' a' w) : wpOp P ops Q' i K' a w := by
  unfold qOp at h
  unfold wpOp
  simp only [hi] at h ⊢
  split
  · rename_i hwn
    simp only [hwn, if_true] at h
    obtain ⟨v, hv, hn⟩ := h
    refine .inl ?_
    have a1 := hv w hw
    unfold Oper.quietAt at a1
    unfold Oper.wp
    cases hr : (execOp a.eval o).run P w with
    | ok n w' =>
      obtain ⟨u, rfl⟩ := plain_value ho hr
      rw [hr] at a1
      obtain ⟨rfl, rfl⟩ := a1
      exact hk _ hn
    | halt x w' => rw [hr] at a1; exact a1.elim
  · rename_i hwn
    simp only [hwn] at h
    exact hk _ h
theorem wpAny_of_B {QQ : Act → Prop} {Q' : Exit → Act → World → Prop} {w : World} (hw : C w) (hQ : ∀ a, QQ a → Q' .normal a w) : ∀ (f : Nat) (listed : Array Bool) (a : Act),
    (∀ j o, ops[j]? = some o → listed.getD j true = false → plainOp o = true) → wpAnyQ P md ops C QQ f listed a → wpAny P md ops Q' f listed a w
  | 0, _, _, _, h => ⟨h.1, hQ _ h.2⟩
  | f + 1, listed, a, hp, h => ⟨fun h0 => hQ _ (h.1 h0), fun i hi => by
      obtain ⟨hun, o, ho, _⟩ := mem_ready.1 hi
      refine qOp_plain ho (hp i o ho hun) hw (h.2 i hi) fun a' h' => wpAny_of_B hw hQ f _ a' ?_ h'
      intro j oj hj hjun
      by_cases e : i = j
      · subst e; exact hp _ _ hj hun
      · rw [getD_set_ne true e] at hjun; exact hp j oj hj hjun⟩
theorem wpAny_of_A {QQ : Value → Act → Prop} {Q' : Exit → Act → World → Prop} {t : Nat} {ot : Oper} (ht : ops[t]? = some ot) (hp : ∀ j o, ops[j]? = some o → j ≠ t → plainOp o = true) (hQ : ∀ u a w, C w → Post u w → QQ u a → Q' .normal a w) :
    ∀ (f : Nat) (listed : Array Bool) (a : Act) (w : World), C w → t < listed.size → wpA P md ops C Post QQ t ot f listed a → wpAny P md ops Q' f listed a w
  | 0, _, _, _, _, _, h => h.elim
  | f + 1, listed, a, w, hw, hl, h => ⟨fun h0 => absurd h0 h.1, fun i hi => by
      by_cases e : i = t
      · subst e
        obtain ⟨hs, hu⟩ := (h.2 i hi).2 rfl
        unfold wpOp
        simp only [ht]
        rw [if_pos hs.1]
        refine .inl ((hs.2 w hw).wp fun u w' ⟨hc, hpo⟩ => ?_)
        refine wpAny_of_B hc (fun a' ha' => hQ u a' w' hc hpo ha') f _ _ ?_ (hu u ⟨w', hc, hpo⟩)
        intro j o hj hjun
        by_cases ej : j = i
        · subst ej
          rw [Array.getD_eq_getD_getElem?, Array.getElem?_setIfInBounds_self_of_lt hl] at hjun
          simp at hjun
        · exact hp j o hj ej
      · obtain ⟨_, o, ho, _⟩ := mem_ready.1 hi
        exact qOp_plain ho (hp i o ho e) hw ((h.2 i hi).1 e) fun a' h' => wpAny_of_A ht hp hQ f _ a' w hw (by simpa using hl) h'⟩
theorem apart_keep {oi oj : Oper} {v : Value} {a : Act} (hap : oi.apart ops oj = true) (hsi : ∀ cs b, oi.op ≠ .select cs b) (hy : YieldsIn P ops C oi v a) (u : Value) : YieldsIn P ops C oi v (a.put oj.dst u) := by
  obtain ⟨_, _, h3⟩ := Oper.apart_spec hap
  exact hy.of_same (execOp_put oi hsi a oj.dst u h3) (wanted_put oi a oj.dst u h3)
theorem apart_back {oi oj : Oper} {v : Value} {a : Act} {u : Value} (hap : oj.apart ops oi = true) (hsi : ∀ cs b, oi.op ≠ .select cs b) (hy : YieldsIn P ops C oi v (a.put oj.dst u)) : YieldsIn P ops C oi v a := by
  obtain ⟨h1, _, _⟩ := Oper.apart_spec hap
  exact hy.of_same (execOp_put oi hsi a oj.dst u h1).symm (wanted_put oi a oj.dst u h1).symm
theorem free_set {i j : Nat} {oi : Oper} {listed : Array Bool} (hfree : ∀ k ok, ops[k]? = some ok → k ≠ i → listed.getD k true = false → (∀ e ∈ ok.after, Region.binds md e = true → e.on ≠ i) → oi.apart ops ok = true)
    (hjun : listed.getD j true = false) : ∀ k ok, ops[k]? = some ok → k ≠ i → (listed.setIfInBounds j true).getD k true = false → (∀ e ∈ ok.after, Region.binds md e = true → e.on ≠ i) → oi.apart ops ok = true := fun k ok hk hki hun hno => by
  refine hfree k ok hk hki ?_ hno
  by_cases hjk : j = k
  · subst hjk; exact hjun
  · rw [getD_set_ne true hjk] at hun; exact hun
theorem not_waits {i : Nat} {oj : Oper} {listed : Array Bool} (hall : ∀ e ∈ oj.after, Region.binds md e = true → listed.getD e.on false = true) (h0 : listed.getD i true = false) : ∀ e ∈ oj.after, Region.binds md e = true → e.on ≠ i := fun e he hb heq => by
  have h1 := hall e he hb
  rw [heq] at h1
  rcases Nat.lt_or_ge i listed.size with h' | h'
  · simp [h'] at h0 h1; rw [h0] at h1; cases h1
  · simp [Array.getElem?_eq_none h'] at h1
/-- A reading operation may be taken first. -/
theorem wpA_first {QQ : Value → Act → Prop} {t : Nat} {ot : Oper} {k : Nat} {ok : Oper} {v : Value} (ht : ops[t]? = some ot) (hk : ops[k]? = some ok) (hkt : k ≠ t) (hsel : ∀ (j : Nat) (o : Oper) cs b, ops[j]? = some o → o.op ≠ .select cs b) :
    ∀ (f : Nat) (listed : Array Bool) (a : Act),
      (∀ j oj, ops[j]? = some oj → j ≠ k → listed.getD j true = false → (∀ e ∈ oj.after, Region.binds md e = true → e.on ≠ k) → ok.apart ops oj = true) →
      k ∈ Region.ready md ops listed → YieldsIn P ops C ok v a →
      wpA P md ops C Post QQ t ot f (listed.setIfInBounds k true) (a.put ok.dst v) → wpA P md ops C Post QQ t ot (f + 1) listed a := by
  intro f
  induction f with
  | zero => intro listed a _ _ _ H; exact H.elim
  | succ f ih =>
    intro listed a hfree hr hy H
    refine ⟨fun h => (by rw [h] at hr; cases hr), fun j hj => ⟨fun hjt => ?_, fun hjt => ?_⟩⟩
    · by_cases hjk : j = k
      · subst hjk; exact hy.qOp hk H
      · have h1 := (H.2 j (ready_mono hj hjk)).1 hjt
        obtain ⟨hjun, oj, hoj, hall⟩ := mem_ready.1 hj
        have hnot := not_waits (md := md) hall (mem_ready.1 hr).1
        have h2 := qOp_put hoj (hfree j oj hoj hjk hjun hnot) (fun cs b => hsel k ok cs b hk) (fun cs b => hsel j oj cs b hoj) hy h1
        refine qOp_mono (fun a' h3 => ih (listed.setIfInBounds j true) a' (free_set hfree hjun) (ready_mono hr (Ne.symm hjk)) h3.1 ?_) h2
        rw [Array.setIfInBounds_comm _ _ hjk]
        exact h3.2
    · subst hjt
      have hjk : j ≠ k := Ne.symm hkt
      obtain ⟨hjun, oj, hoj, hall⟩ := mem_ready.1 hj
      have hoe : oj = ot := Option.some.inj (hoj.symm.trans ht)
      subst hoe
      have hnot := not_waits (md := md) hall (mem_ready.1 hr).1
      have hap := hfree j oj hoj hjk hjun hnot
      obtain ⟨p1, p2, p3⟩ := Oper.apart_spec hap
      obtain ⟨hs, hu⟩ := (H.2 j (ready_mono hj hjk)).2 rfl
      have hsj := fun cs b => hsel j oj cs b hoj
      refine ⟨hs.of_same (execOp_put oj hsj a ok.dst v p1).symm (wanted_put oj a ok.dst v p1).symm, fun u hsh => ?_⟩
      have h4 := hu u hsh
      refine wpAnyQ_first hk hsel f (listed.setIfInBounds j true) (a.put oj.dst u) (free_set hfree hjun) (ready_mono hr (Ne.symm hjk)) (apart_keep hap (fun cs b => hsel k ok cs b hk) hy u) ?_
      rw [Array.setIfInBounds_comm _ _ hjk, ← Act.put_comm a v u p2]
      exact h4
/-- The one operation may be taken first. -/
theorem wpA_stir {QQ : Value → Act → Prop} {t : Nat} {ot : Oper} {w0 : World} (hw0 : C w0) (ht : ops[t]? = some ot) (hp : ∀ j o, ops[j]? = some o → j ≠ t → plainOp o = true) (hsel : ∀ (j : Nat) (o : Oper) cs b, ops[j]? = some o → o.op ≠ .select cs b) :
    ∀ (f : Nat) (listed : Array Bool) (a : Act),
      (∀ j oj, ops[j]? = some oj → j ≠ t → listed.getD j true = false → (∀ e ∈ oj.after, Region.binds md e = true → e.on ≠ t) → ot.apart ops oj = true) →
      t ∈ Region.ready md ops listed → Stirs P ops C Post ot a →
      (∀ u, (∃ w, C w ∧ Post u w) → wpAnyQ P md ops C (QQ u) f (listed.setIfInBounds t true) (a.put ot.dst u)) → wpA P md ops C Post QQ t ot (f + 1) listed a := by
  intro f
  induction f with
  | zero =>
    intro listed a _ hr hs H
    refine ⟨fun h => (by rw [h] at hr; cases hr), fun j hj => ⟨fun hjt => ?_, fun hjt => ?_⟩⟩
    · obtain ⟨u0, w', hc, hpo⟩ := (hs.2 w0 hw0).some
      have h1 := (H u0 ⟨w', hc, hpo⟩).1
      have := ready_mono hj hjt
      rw [h1] at this
      cases this
    · exact ⟨hs, H⟩
  | succ f ih =>
    intro listed a hfree hr hs H
    refine ⟨fun h => (by rw [h] at hr; cases hr), fun j hj => ⟨fun hjt => ?_, fun hjt => ?_⟩⟩
    · obtain ⟨u0, w', hc, hpo⟩ := (hs.2 w0 hw0).some
      obtain ⟨hjun, oj, hoj, hall⟩ := mem_ready.1 hj
      have hnot := not_waits (md := md) hall (mem_ready.1 hr).1
      have hap := hfree j oj hoj hjt hjun hnot
      obtain ⟨p1, p2, p3⟩ := Oper.apart_spec hap
      have hsj := fun cs b => hsel j oj cs b hoj
      have hst := fun cs b => hsel t ot cs b ht
      obtain ⟨v, hv, _⟩ := yieldsIn_of_qOp hoj ((H u0 ⟨w', hc, hpo⟩).2 j (ready_mono hj hjt))
      have hv := apart_back hap hsj hv
      refine hv.qOp hoj (ih (listed.setIfInBounds j true) _ (free_set hfree hjun) (ready_mono hr (Ne.symm hjt)) (hs.of_same (execOp_put ot hst a oj.dst v p3) (wanted_put ot a oj.dst v p3)) fun u hsh => ?_)
      obtain ⟨v', hv', hk'⟩ := yieldsIn_of_qOp hoj ((H u hsh).2 j (ready_mono hj hjt))
      have e := yields_unique (hp j oj hoj hjt) hw0 hv (apart_back hap hsj hv')
      subst e
      rw [Array.setIfInBounds_comm _ _ hjt, ← Act.put_comm a u v p2]
      exact hk'
    · subst hjt
      exact ⟨hs, H⟩
theorem wpA_lex {QQ : Value → Act → Prop} {t : Nat} {ot : Oper} {w0 : World} (hw0 : C w0) (ht : ops[t]? = some ot) (hp : ∀ j o, ops[j]? = some o → j ≠ t → plainOp o = true) (hs : Region.noSelect ops = true) (l2 : List Oper) :
    ∀ (l1 : List Oper) (k : Nat) (listed : Array Bool) (a : Act), k + l1.length = t → (∀ j, (l1 ++ ot :: l2)[j]? = ops[k + j]?) →
      Region.lexFrom md ops (l1 ++ ot :: l2).length k listed = true →
      wpQuiet P ops C (fun a => Stirs P ops C Post ot a ∧ ∀ u, (∃ w, C w ∧ Post u w) → wpQuiet P ops C (QQ u) l2 (a.put ot.dst u)) l1 a → wpA P md ops C Post QQ t ot (l1 ++ ot :: l2).length listed a
  | [], k, listed, a, hkt, hl, hB, h => by
    have hk : k = t := by simpa using hkt
    subst hk
    simp only [List.nil_append, List.length_cons, Region.lexFrom, Bool.and_eq_true] at hB ⊢
    obtain ⟨⟨hr, hf⟩, hB'⟩ := hB
    refine wpA_stir hw0 ht hp (Region.noSelect_spec hs) l2.length listed a (Region.free_spec ht hf) (by simpa using hr) h.1 fun u hsh => ?_
    exact wpAnyQ_lex hs l2 (k + 1) _ _ (fun j => by have := hl (j + 1); simpa [Nat.add_assoc, Nat.add_comm 1 j] using this) hB' (h.2 u hsh)
  | o :: l1, k, listed, a, hkt, hl, hB, h => by
    have h0 : ops[k]? = some o := by simpa using (hl 0).symm
    simp only [List.cons_append, List.length_cons, Region.lexFrom, Bool.and_eq_true] at hB ⊢
    obtain ⟨⟨hr, hf⟩, hB'⟩ := hB
    have hst : qOp P ops C k (wpQuiet P ops C (fun a => Stirs P ops C Post ot a ∧ ∀ u, (∃ w, C w ∧ Post u w) → wpQuiet P ops C (QQ u) l2 (a.put ot.dst u)) l1) a := by unfold qOp; simp only [h0]; exact h
    obtain ⟨v, hy, hK⟩ := yieldsIn_of_qOp h0 hst
    refine wpA_first ht h0 (by simp at hkt; omega) (Region.noSelect_spec hs) _ listed a (Region.free_spec h0 hf) (by simpa using hr) hy ?_
    exact wpA_lex hw0 ht hp hs l2 l1 (k + 1) _ _ (by simp at hkt ⊢; omega) (fun j => by have := hl (j + 1); simpa [Nat.add_assoc, Nat.add_comm 1 j] using this) hB' hK
/-- ONE WALK SERVES EVERY ORDER: the operations l1, the one that stirs, the operations l2. -/
theorem wp_region_one {id : Nat} {Q : Exit → Act → World → Prop} {a : Act} {w : World} (l1 l2 : List Oper) (ot : Oper) (hm : P.follows .mixedOrders = true) (hB : Region.lexB .any (l1 ++ ot :: l2).toArray = true)
    (hp1 : l1.all plainOp = true) (hp2 : l2.all plainOp = true) (hC : C { w with drawn := w.drawn + 1 })
    (h : wpQuiet P (l1 ++ ot :: l2).toArray C (fun a => Stirs P (l1 ++ ot :: l2).toArray C Post ot a ∧ ∀ u, (∃ w, C w ∧ Post u w) → wpQuiet P (l1 ++ ot :: l2).toArray C (fun a' => ∀ w', C w' → Post u w' → Q .normal a' w') l2 (a.put ot.dst u)) l1 a) :
    (Code.region id (l1 ++ ot :: l2).toArray true).wp P Q a w := by
  simp only [Region.lexB, Bool.and_eq_true] at hB
  have ht : (l1 ++ ot :: l2).toArray[l1.length]? = some ot := by simp
  have hp : ∀ j o, (l1 ++ ot :: l2).toArray[j]? = some o → j ≠ l1.length → plainOp o = true := by
    intro j o hj hne
    simp only [List.getElem?_toArray] at hj
    by_cases h1 : j < l1.length
    · rw [List.getElem?_append_left h1] at hj
      exact List.all_eq_true.1 hp1 o (List.mem_of_getElem? hj)
    · rw [List.getElem?_append_right (by omega)] at hj
      obtain ⟨d, hd⟩ : ∃ d, j - l1.length = d + 1 := ⟨j - l1.length - 1, by omega⟩
      rw [hd, List.getElem?_cons_succ] at hj
      exact List.all_eq_true.1 hp2 o (List.mem_of_getElem? hj)
  refine wp_region_any hm (wpAny_of_A (Post := Post) (QQ := fun u a' => ∀ w', C w' → Post u w' → Q .normal a' w') ht hp (fun u a' w' hc hpo hq => hq w' hc hpo) _ _ _ _ hC (by simp) ?_)
  have := wpA_lex (md := .any) (Post := Post) hC ht hp hB.1 l2 l1 0 (Array.replicate (l1 ++ ot :: l2).toArray.size false) a (by simp) (by simp) (by simpa using hB.2) h
  simpa using this
end
end Go.Proofs.Ytfghojbbofobeaa
namespace Go.Proofs.Ytfghojbbofobeaa
open Go Go.RowKit
/-- The class of worlds that extend a world, as the quiet walk wants it. -/
def Grows (w : World) : World → Prop := fun w' => ∃ p : Regrown, w' = Sort.grow (redrawn w p.d) p.os
theorem grows_iff {w w' : World} : (∃ p : Regrown, w' = Sort.grow (redrawn w p.d) p.os) ↔ Ext w w' :=
  ⟨fun ⟨p, hp⟩ => by subst hp; exact below_regrown w p.d p.os, fun h => regrown_of_below h⟩
theorem wp_region_mix {P : Program} {id : Nat} {Q : Exit → Act → World → Prop} {a : Act} {w : World} {l : List Oper} (t : Nat) (ot : Oper) (Post : Value → World → Prop) (hm : P.follows .mixedOrders = true) (hB : Region.lexB .any l.toArray = true)
    (hl : l = l.take t ++ ot :: l.drop (t + 1)) (hp1 : (l.take t).all plainOp = true) (hp2 : (l.drop (t + 1)).all plainOp = true)
    (h : wpQuiet P l.toArray (fun w' => ∃ p : Regrown, w' = Sort.grow (redrawn w p.d) p.os) (fun a =>
      (Region.wanted ot (yielded l.toArray a.tmps) = true ∧ ∀ w1, Ext w w1 → stirAt P ot a w1 (fun u w' => Ext w1 w' ∧ Post u w')) ∧
      ∀ u, (∃ w', Ext w w' ∧ Post u w') → wpQuiet P l.toArray (fun w' => ∃ p : Regrown, w' = Sort.grow (redrawn w p.d) p.os) (fun a' => ∀ w', Ext w w' → Post u w' → Q .normal a' w') (l.drop (t + 1)) (a.put ot.dst u)) (l.take t) a) :
    (Code.region id l.toArray true).wp P Q a w := by
  have hC : (fun w' => ∃ p : Regrown, w' = Sort.grow (redrawn w p.d) p.os) { w with drawn := w.drawn + 1 } := ⟨⟨w.drawn + 1, #[]⟩, by rw [Sort.grow_empty]; rfl⟩
  have hB' : Region.lexB .any (l.take t ++ ot :: l.drop (t + 1)).toArray = true := by rw [← hl]; exact hB
  have key := wp_region_one (P := P) (id := id) (Q := Q) (a := a) (w := w) (C := fun w' => ∃ p : Regrown, w' = Sort.grow (redrawn w p.d) p.os) (Post := Post) (l.take t) (l.drop (t + 1)) ot hm hB' hp1 hp2 hC ?_
  · rwa [← hl] at key
  · rw [← hl]
    refine wpQuiet_mono ?_ _ _ h
    rintro a' ⟨⟨hw, hs⟩, hu⟩
    refine ⟨⟨hw, fun w1 h1 => ?_⟩, fun u ⟨w', h1, h2⟩ => ?_⟩
    · have h1' := grows_iff.1 h1
      have := hs w1 h1'
      exact stirAt.mono this fun u w' ⟨e1, e2⟩ => ⟨grows_iff.2 (h1'.trans e1), e2⟩
    · refine wpQuiet_mono ?_ _ _ (hu u ⟨w', grows_iff.1 h1, h2⟩)
      intro a'' hq w'' hc hpo
      exact hq w'' (grows_iff.1 hc) hpo
where
  wpQuiet_mono {P : Program} {ops : Array Oper} {C : World → Prop} {Q Q' : Act → Prop} (hq : ∀ a, Q a → Q' a) : ∀ (l : List Oper) (a : Act), wpQuiet P ops C Q l a → wpQuiet P ops C Q' l a
    | [], a, h => hq a h
    | o :: l, a, h => by
      have h' : if Region.wanted o (yielded ops a.tmps) then o.quiet P a C (wpQuiet P ops C Q l) else wpQuiet P ops C Q l (a.put o.dst undef) := h
      show if Region.wanted o (yielded ops a.tmps) then o.quiet P a C (wpQuiet P ops C Q' l) else wpQuiet P ops C Q' l (a.put o.dst undef)
      by_cases hw : Region.wanted o (yielded ops a.tmps) = true
      · rw [if_pos hw] at h' ⊢
        exact Oper.quiet_mono (fun a' h'' => wpQuiet_mono hq l a' h'') h'
      · rw [if_neg hw] at h' ⊢
        exact wpQuiet_mono hq l _ h'
  stirAt.mono {P : Program} {o : Oper} {a : Act} {w : World} {K K' : Value → World → Prop} (h : stirAt P o a w K) (hk : ∀ u w', K u w' → K' u w') : stirAt P o a w K' := by
    unfold stirAt at *
    generalize (execOp a.eval o).run P w = r at *
    cases r with
    | ok n w' =>
      cases n <;> simp only [stirUpon] at h ⊢
      case value v => exact hk _ _ h
      case skip => exact hk _ _ h
      case enter f args => exact Calls.mono h fun e w'' ⟨v, he, hv⟩ => ⟨v, he, hk _ _ hv⟩
    | halt x w' => simp only [stirUpon] at h
end Go.Proofs.Ytfghojbbofobeaa
end
section
set_option linter.unusedSimpArgs false
set_option linter.unusedVariables false
namespace Go.Proofs.Ytfghojbbofobeaa
open Go Go.RowKit Go.Proofs
set_option maxHeartbeats 400000
theorem sideOk_nolast {zs : List Int} {sy : Int} (h : (zs.all fun z => inB z 0 (sy - 1)) = false) : sideOk zs sy 200 = false := by simp only [sideOk, h]; simp
set_option maxRecDepth 20000 in
theorem l05Cells_c (b o : Nat) (sy : Int) (v : Value) (zs : List Int) (w : World) (hsy : w.cell? ⟨b, o, none⟩ = some (.int .i64 sy)) (h : Ints w v zs) (s1 : 1 ≤ sy) (s2 : sy ≤ 1000000) :
    Calls Try.prog 66 #[.pointer (some ⟨b, o, none⟩), v] w fun e w' => e = .returned (.bool (sideOk zs sy 200)) ∧ Ext w w' := by
  obtain ⟨A, c, rfl, h2, h2'⟩ := h.form
  go_enter Try.func66, Try.ntmps66
  go_wp2
  go_loopw [5] (fun i wr => ∃ k : Nat, k ≤ zs.length ∧ i = .int .i64 k ∧ Ext w wr ∧ Hid (allTo (fun z => inB z 0 (sy - 1)) zs k)) (fun i _ => zs.length - (intOf i).toNat)
  case atStart => exact ⟨0, Nat.zero_le _, rfl, Ext.refl _, by unfold Hid allTo; simp⟩
  case round =>
    obtain ⟨k, hk, rfl, hx, hall⟩ := hrel
    by_cases hlt : k < zs.length
    · obtain ⟨b', off, rfl, hc⟩ := (h.ext hx).at hlt
      have c0 := cellR (hc k hlt)
      have d0 := cellR (hx.cell hsy)
      have HY := fun he => Lib.hid (allTo_step (p := fun z => inB z 0 (sy - 1)) hall.out hlt he)
      have HN := fun he => Lib.hid (sideOk_nolast (sy := sy) (all_no (p := fun z => inB z 0 (sy - 1)) hlt he))
      generalize zs[k] = z at *
      clear hc
      go_wp2_with fail
      refine wp_region_ext (by kernel_rfl) (by kernel_rfl) ?_
      repeat (go_big_quiet_step ((go_at_call 36; exact Calls.sameR (l00In_c _ _ _ _))))
      refine wpQuiet_nil ?_
      intro w2 hx2
      have hX := hx.trans hx2
      cases hb : inB z 0 (sy - 1) with
      | true =>
        have HY2 := HY hb
        clear HY HN
        go_wp2
        go_roundw
        case rel => exact ⟨k + 1, by omega, by go_num, hX, HY2⟩
        case measure => simp [intOf]; omega
      | false =>
        have HN2 := HN hb
        clear HY HN
        go_wp2
        go_ret
        exact ⟨by rw [HN2.out]; rfl, hX⟩
    · have HA := Lib.hid (allTo_end hall.out (by omega))
      by_cases hl : (zs.length : Int) ≤ 200
      · have hld : decide ((zs.length : Int) ≤ 200) = true := by simp [hl]
        by_cases hz : zs.length = 0
        · have hzb : ((zs.length : Int) == 0) = true := by simp [hz]
          have HE : Hid (sideOk zs sy 200 = true) := by unfold Hid; simp only [sideOk, HA.out, hzb, hld]; rfl
          clear hz
          go_wp2
          go_ret
          exact ⟨by rw [HE.out]; rfl, hx⟩
        · have hzb : ((zs.length : Int) == 0) = false := by rw [beq_eq_false_iff_ne]; omega
          have hl1 : zs.length - 1 < zs.length := by omega
          obtain ⟨b', off, rfl, hc⟩ := (h.ext hx).at hl1
          have c0 := hc (zs.length - 1) hl1
          have HE : Hid (sideOk zs sy 200 = (zs[zs.length - 1] != 0)) := by unfold Hid; simp only [sideOk, HA.out, hzb, hld, lastD_get (show 0 < zs.length by omega)]; rfl
          have i1 : (0 : Int) ≤ (zs.length : Int) - 1 := by omega
          have i2 : ((zs.length : Int) - 1) < (zs.length : Int) := by omega
          have i3 : ((zs.length : Int) - 1).toNat = zs.length - 1 := by omega
          clear hc
          generalize zs[zs.length - 1] = z at *
          go_wp2
          go_ret
          exact ⟨by rw [HE.out]; rfl, hx⟩
      · have hld : decide ((zs.length : Int) ≤ 200) = false := by simp; omega
        have HE : Hid (sideOk zs sy 200 = false) := by unfold Hid; simp only [sideOk, hld]; simp
        go_wp2
        go_ret
        exact ⟨by rw [HE.out]; rfl, hx⟩
/-- A configuration behind a pointer. -/
def ConfP (w : World) (b : Nat) (c : ConfD) : Prop := ∃ lv rv, w.cell? ⟨b, 0, none⟩ = some (.int .i64 c.q) ∧ w.cell? ⟨b, 1, none⟩ = some lv ∧ w.cell? ⟨b, 2, none⟩ = some rv ∧ Ints w lv c.l ∧ Ints w rv c.r
theorem ConfP.ext {w w' : World} {b : Nat} {c : ConfD} (h : ConfP w b c) (he : Ext w w') : ConfP w' b c := by
  obtain ⟨lv, rv, h1, h2, h3, h4, h5⟩ := h
  exact ⟨lv, rv, he.cell h1, he.cell h2, he.cell h3, h4.ext he, h5.ext he⟩
set_option maxRecDepth 20000 in
theorem l05Good_c (b o bc : Nat) (m : MachD) (c : ConfD) (w : World) (hsy : w.cell? ⟨b, o, none⟩ = some (.int .i64 m.sy)) (hst : w.cell? ⟨b, o + 1, none⟩ = some (.int .i64 m.st)) (hc : ConfP w bc c) (s1 : 1 ≤ m.sy) (s2 : m.sy ≤ 1000000) (s3 : 1 ≤ m.st) (s4 : m.st ≤ 1000) :
    Calls Try.prog 41 #[.pointer (some ⟨b, o, none⟩), .pointer (some ⟨bc, 0, none⟩)] w fun e w' => e = .returned (.bool (confB m c)) ∧ Ext w w' := by
  obtain ⟨lv, rv, p0, p1, p2, hl, hr⟩ := hc
  obtain ⟨Al, cl, rfl, _, _⟩ := hl.form
  obtain ⟨Ar, cr, rfl, _, _⟩ := hr.form
  have d0 := cellR p0
  have d1 := cellR p1
  have d2 := cellR p2
  have e0 := cellR hsy
  have e1 := cellR hst
  have CL := fun d os => l05Cells_c b o m.sy _ c.l _ (e0 d os) (hl.ext (below_regrown w d os)) s1 s2
  have CR := fun d os => l05Cells_c b o m.sy _ c.r _ (e0 d os) (hr.ext (below_regrown w d os)) s1 s2
  have IN := fun (w : World) => l00In_c c.q 0 (m.st - 1) w
  cases ha : inB c.q 0 (m.st - 1) with
  | false =>
    simp only [ha] at IN
    have HE : Hid (confB m c = false) := by unfold Hid; simp only [confB, ha]; simp
    go_enter Try.func41, Try.ntmps41
    go_wp2
    refine wp_region_ext (by kernel_rfl) (by kernel_rfl) ?_
    repeat (go_big_quiet_step (first | (go_at_call 36; exact Calls.sameR (IN _)) | (go_at_call 66; exact Calls.extR (CL _ _))))
    refine wpQuiet_nil ?_
    intro w2 hx2
    go_wp2
    go_ret
    exact ⟨by rw [HE.out]; rfl, hx2⟩
  | true =>
    simp only [ha] at IN
    cases hb : sideOk c.l m.sy 200 with
    | false =>
      have HE : Hid (confB m c = false) := by unfold Hid; simp only [confB, hb]; simp
      simp only [hb] at CL
      go_enter Try.func41, Try.ntmps41
      go_wp2
      refine wp_region_ext (by kernel_rfl) (by kernel_rfl) ?_
      repeat (go_big_quiet_step (first | (go_at_call 36; exact Calls.sameR (IN _)) | (go_at_call 66; exact Calls.extR (CL _ _))))
      refine wpQuiet_nil ?_
      intro w2 hx2
      go_wp2
      go_ret
      exact ⟨by rw [HE.out]; rfl, hx2⟩
    | true =>
      have HE : Hid (confB m c = sideOk c.r m.sy 200) := by unfold Hid; simp only [confB, hb, ha]; simp
      simp only [hb] at CL
      go_enter Try.func41, Try.ntmps41
      go_wp2
      refine wp_region_ext (by kernel_rfl) (by kernel_rfl) ?_
      repeat (go_big_quiet_step (first | (go_at_call 36; exact Calls.sameR (IN _)) | (go_at_call 66; with_reducible exact Calls.extR (CL _ _)) | (go_at_call 66; with_reducible exact Calls.extR (CR _ _))))
      refine wpQuiet_nil ?_
      intro w2 hx2
      go_wp2
      go_ret
      exact ⟨by rw [HE.out]; rfl, hx2⟩
end Go.Proofs.Ytfghojbbofobeaa
end
section
set_option linter.unusedSimpArgs false
set_option linter.unusedVariables false
namespace Go.Proofs.Ytfghojbbofobeaa
open Go Go.RowKit Go.Proofs Go.Maps
set_option maxHeartbeats 400000
def TapeResS (w : World) (r : Option TapeD) (e : Ending) (w' : World) : Prop :=
  ((r = none ∧ e = .returned (.tuple #[.agg #[.slice none 0 0, .slice none 0 0], .bool false])) ∨
    ∃ t lv rv, r = some t ∧ e = .returned (.tuple #[.agg #[lv, rv], .bool true]) ∧ OwnInts w.heap.size w' lv t.l ∧ OwnInts w.heap.size w' rv t.r) ∧ Ext w w'
set_option maxRecDepth 20000 in
set_option maxHeartbeats 8000000 in
theorem l13Tape_c (b bc : Nat) (m : MultiD) (c : ConfD) (t0 j : Int) (w : World) (hM : MulAt w b m) (hm : multiOk m = true) (hC : ConfP w bc c) (hL : c.l.length ≤ 200) (hR : c.r.length ≤ 200)
    (ht0 : 0 ≤ t0) (ht1 : t0 < m.tp) (hj0 : 0 ≤ j) (hj1 : j < m.tp) (hB1 : ∀ z ∈ c.l, 0 ≤ z ∧ z ≤ 2 * m.sy - 1) (hB2 : ∀ z ∈ c.r, 0 ≤ z ∧ z ≤ 2 * m.sy - 1) :
    Calls Try.prog 42 #[.pointer (some ⟨b, 0, none⟩), .pointer (some ⟨bc, 0, none⟩), .int .i64 t0, .int .i64 j] w (TapeResS w (tapeDec m.sy (lineC m c t0 j))) := by
  obtain ⟨i0, hi, hz0, hz1, hz2⟩ := info_parts intInfo
  obtain ⟨⟨tp1, tp2⟩, ⟨y1, y2⟩, _⟩ := multi_all hm
  obtain ⟨A, cA, hb, _⟩ := hM
  obtain ⟨lv, qv, _, c1, c2, hl, hr⟩ := hC
  obtain ⟨Al, cl, rfl, _, _⟩ := hl.form
  obtain ⟨Ar, cr, rfl, _, _⟩ := hr.form
  obtain ⟨g, hg⟩ : ∃ g, w.heap.size = g := ⟨_, rfl⟩
  obtain ⟨W0, hW0⟩ : ∃ W, W = w.alloc (.cells #[.slice none 0 0, .slice none 0 0] 93) := ⟨_, rfl⟩
  have hX : Ext w W0 := by rw [hW0]; exact Ext.alloc _ _
  have hW0s : W0.heap.size = g + 1 := by rw [hW0]; simp [hg]
  have HWS := Lib.hid hW0s
  have bO : Blk W0 g 93 #[.slice none 0 0, .slice none 0 0] := by rw [hW0]; exact Blk.new _ _ _ _ hg
  have HBO := Lib.hid bO
  obtain ⟨W, hW⟩ : ∃ W, W = W0.alloc (.cells #[] 2) := ⟨_, rfl⟩
  have hXW : Ext W0 W := by rw [hW]; exact Ext.alloc _ _
  have HOWN : Hid (OwnInts (g + 1) W (.slice (some ⟨g + 1, 0, none⟩) 0 0) (plainM m.sy [])) := Lib.hid (by
    rw [hW]
    have := World.ownsRow_made (base := g + 1) (e := 2) (size := 1) W0 #[] 0 (by rw [hW0s]; exact Nat.le_refl _) (by unfold maxLen; omega) (by simp [ivs])
    rw [hW0s] at this
    exact this)
  have HC1 := Lib.hid (hX.cell c1)
  have HC2 := Lib.hid (hX.cell c2)
  have HMB := Lib.hid (hb.ext hX)
  have HL := Lib.hid (hl.ext hX)
  have HR := Lib.hid (hr.ext hX)
  have HB : Hid (∀ z ∈ lineC m c t0 j, 0 ≤ z ∧ z ≤ 2 * m.sy - 1) := Lib.hid (lineC_mem (by omega) hB1 hB2)
  obtain ⟨R, hRr⟩ : ∃ R, R = tapeDec m.sy (lineC m c t0 j) := ⟨_, rfl⟩
  rw [← hRr]
  have HRES := Lib.hid hRr
  obtain ⟨H, hH⟩ : ∃ H, c.l.length = H := ⟨_, rfl⟩
  obtain ⟨Q, hQ⟩ : ∃ Q, c.r.length = Q := ⟨_, rfl⟩
  have hN : (cellsC c).length = H + Q := by simp [cellsC, hH, hQ]
  have HLI : Hid (lineC m c t0 j = lineT m.tp.toNat (frstC m.tp t0 j H) (cellsC c) (H + Q)) := Lib.hid (by unfold lineC; rw [hN, hH])
  have HBX : Hid (∀ z ∈ cellsC c, 0 ≤ z ∧ z ≤ 2 * m.sy - 1) := Lib.hid fun z hz => by
    rcases List.mem_append.1 hz with h1 | h1
    · exact hB1 z (List.mem_reverse.1 h1)
    · exact hB2 z h1
  have HXL : Hid (∀ i, i < H → ∀ q, H = i + q + 1 → (cellsC c).getD i 0 = c.l.getD q 0) := Lib.hid fun i hi q hq => by
    unfold cellsC
    rw [List.getD_eq_getElem?_getD, List.getElem?_append_left (by rw [List.length_reverse]; omega), List.getElem?_reverse (by omega), List.getD_eq_getElem?_getD]
    congr 2
    omega
  have HXR : Hid (∀ q, (cellsC c).getD (H + q) 0 = c.r.getD q 0) := Lib.hid fun q => by
    unfold cellsC
    rw [List.getD_eq_getElem?_getD, List.getElem?_append_right (by rw [List.length_reverse]; omega), List.getD_eq_getElem?_getD, List.length_reverse, hH, Nat.add_sub_cancel_left]
  have HLn := Lib.hid hH
  have HQn := Lib.hid hQ
  have hT2 : m.tp = 2 ∨ m.tp = 3 := by omega
  rw [hH] at hL
  rw [hQ] at hR
  have hwn : IntKind.i64.wrap (-(H : Int)) = -(H : Int) := IntWalk.i64_in _ (by omega)
  have c1W := (hX.trans hXW).cell c1
  rw [hH] at c1W
  have HX := Lib.hid hX
  generalize cellsC c = xs at *
  obtain ⟨F, hF⟩ : ∃ F, frstC m.tp t0 j H = F := ⟨_, rfl⟩
  have HF : Hid (∀ i : Nat, (t0 + ((i : Int) - H)) % m.tp = j ↔ i % m.tp.toNat = F) := Lib.hid fun i => by rw [first_iff hT2 hj0 hj1, hF]
  rw [hF] at HLI
  clear hRr hH hQ hN hF hl hr hb hB1 hB2 c1 c2
  rw [hW, hW0] at c1W
  go_enter Try.func42, Try.ntmps42
  go_wp2_with fail
  try rw [← hW0]
  try rw [← hW]
  try rw [hg]
  clear hW hW0 hW0s
  go_loopw [10, 11, 12, 13] (fun l h k o wr => ∃ (i : Nat) (z hd : Int), i ≤ H + Q ∧ o = .int .i64 z ∧ h = .int .i64 hd ∧ Hid (z = (i : Int) - H) ∧ k = .int .i64 ((cntM m.sy (lineT m.tp.toNat F xs i) : Nat) : Int) ∧ Hid (LastM m.sy (lineT m.tp.toNat F xs i) hd) ∧ Ext W0 wr ∧ OwnInts (g + 1) wr l (plainM m.sy (lineT m.tp.toNat F xs i))) (fun _ _ _ o _ => ((Q : Int) - intOf o).toNat)
  case atStart => exact ⟨0, -(H : Int), -1, Nat.zero_le _, rfl, rfl, Lib.hid (by omega), rfl, Lib.hid (LastM.nil _ _), hXW, HOWN.out⟩
  case round =>
    clear c1W hX bO hXW
    obtain ⟨i, z, hd, hiN, rfl, rfl, hz, rfl, hla, hE, ho⟩ := hrel
    have hlN := lineT_len m.tp.toNat F xs i
    have hcn := cntM_le m.sy (lineT m.tp.toNat F xs i)
    have d1 := hE.cell HC1.out
    have d2 := hE.cell HC2.out
    rw [HLn.out] at d1
    rw [HQn.out] at d2
    have m0 := (HMB.out.ext hE).cell 0
    have m1 := (HMB.out.ext hE).cell 1
    simp only [List.getElem?_toArray, List.getElem?_cons_zero, List.getElem?_cons_succ] at m0 m1
    have hzi := hz.out
    have HZI := Lib.hid hz.out
    have HO := Lib.hid ho
    obtain ⟨Av, cv, hv, hv1, hv2, _⟩ := (ownsRow_row ho).form
    subst hv
    by_cases hlt : z < (Q : Int)
    · have hiN1 : i < H + Q := by omega
      have hw1 : IntKind.i64.wrap (t0 + z) = t0 + z := IntWalk.i64_in _ (by omega)
      obtain ⟨r1, hr1⟩ : ∃ r1, (t0 + z).tmod m.tp = r1 := ⟨_, rfl⟩
      have hr1b : -4 < r1 ∧ r1 < 4 := by
        have a1 := Int.lt_tmod_of_pos (t0 + z) (b := m.tp) (by omega)
        have a2 := Int.tmod_lt_of_pos (t0 + z) (b := m.tp) (by omega)
        omega
      have hw2 : IntKind.i64.wrap (r1 + m.tp) = r1 + m.tp := IntWalk.i64_in _ (by omega)
      have hr2 : (r1 + m.tp).tmod m.tp = (t0 + z) % m.tp := by rw [← hr1]; exact floor_eqA hT2
      have hr3 : ((t0 + z) % m.tp = j) ↔ i % m.tp.toNat = F := by rw [hzi]; exact HF.out i
      obtain ⟨r2, hr2'⟩ : ∃ r2, (t0 + z) % m.tp = r2 := ⟨_, rfl⟩
      rw [hr2'] at hr2 hr3
      have htp0 : ¬ m.tp = 0 := by omega
      have hw3 : IntKind.i64.wrap (z + 1) = z + 1 := IntWalk.i64_in _ (by omega)
      have hzn : z + 1 = ((i + 1 : Nat) : Int) - H := by omega
      have HZN := Lib.hid hzn
      have HLA := Lib.hid hla.out
      have hiH : (z < 0 ∧ i < H) ∨ (¬ z < 0 ∧ H ≤ i) := by omega
      have hmeas : ((Q : Int) - (z + 1)).toNat < ((Q : Int) - z).toNat := by omega
      clear hr2' hzn hla hv1 hv2 hzi
      have zD := Ext.drew wr
      go_upto_region 7 with fail
      have e0 := zD.cell m0
      refine wp_region_ordT 19 (readsT [0, 1, 2, 3, 4, 5, 6, 7, 8, 9, 10, 11, 12, 13, 14, 15, 16, 17, 18] .done) (by kernel_rfl) (by kernel_rfl) (fun _ _ _ _ _ h => h) ?_
      simp only [readsT]
      iterate 19 (refine wpOrdT_read (v := ?_) (by rfl) (Or.inl ⟨by rfl, fun x hx => ?_⟩) ?_; rotate_left; (· have u0 := hx.cell e0; go_simp; try with_reducible rfl); try simp only [Act.put, List.setIfInBounds_toArray, List.set_cons_zero, List.set_cons_succ])
      refine wpOrdT_done ?_
      try simp only [List.drop_succ_cons, List.drop_zero]
      change wpList _ _ _ _ _ wr.drew
      have hED := hE.trans zD
      have f1 := zD.cell d1
      have f2 := zD.cell d2
      have k1 := zD.cell m1
      have HOD := Lib.hid (OwnInts.ext HO.out zD)
      have LL := HL.out.ext hED
      have LR := HR.out.ext hED
      clear e0 m0 m1 d1 d2 ho HO hr1 hE
      generalize wr.drew = Y at *
      by_cases hj : r2 = j
      · have hmod : i % m.tp.toNat = F := hr3.1 hj
        have HN1 : Hid (lineT m.tp.toNat F xs (i + 1) = lineT m.tp.toNat F xs i ++ [xs.getD i 0]) := Lib.hid (lineT_hit hmod)
        obtain ⟨zs, hzs⟩ : ∃ zs, lineT m.tp.toNat F xs i = zs := ⟨_, rfl⟩
        rw [hzs] at HN1 HOD HLA hcn hlN
        rw [hzs]
        have HPL : (plainM m.sy zs).length = zs.length := by simp [plainM]
        have HPn := Lib.hid HPL
        clear hr3 hmod hzs HPL
        subst hj
        obtain ⟨y, hy⟩ : ∃ y, xs.getD i 0 = y := ⟨_, rfl⟩
        have hyb : 0 ≤ y ∧ y ≤ 2 * m.sy - 1 := by
          rw [← hy, List.getD_eq_getElem?_getD]
          cases h : xs[i]? with
          | none => exact ⟨Int.le_refl _, by show (0 : Int) ≤ _; omega⟩
          | some x => exact HBX.out x (List.mem_of_getElem? h)
        rw [hy] at HN1
        have htm : y.tmod m.sy = y % m.sy := Int.tmod_eq_emod_of_nonneg hyb.1
        obtain ⟨yr, hyr⟩ : ∃ yr, y % m.sy = yr := ⟨_, rfl⟩
        rw [hyr] at htm
        have HYR := Lib.hid hyr
        have hsy0 : ¬ m.sy = 0 := by omega
        clear hyr
        rcases hiH with ⟨hneg, hiH⟩ | ⟨hneg, hiH⟩
        · have hzi := HZI.out
          obtain ⟨q, hq⟩ : ∃ q, H = i + q + 1 := ⟨H - i - 1, by omega⟩
          have hqv : c.l.getD q 0 = y := by rw [← HXL.out i hiH q hq, hy]
          have hqH : q < H := by omega
          have hqc : q < c.l.length := by rw [HLn.out]; exact hqH
          have hqz : -z - 1 = (q : Int) := by omega
          have hn1 : IntKind.i64.wrap (-z) = -z := IntWalk.i64_in _ (by omega)
          have hn2 : IntKind.i64.wrap (-z - 1) = (q : Int) := by rw [hqz]; exact IntWalk.i64_in _ (by omega)
          have hqi : (q : Int) < (H : Int) := by omega
          obtain ⟨bl, ol, rfl, hcl⟩ := LL.at hqc
          have ck := hcl q hqc
          rw [show c.l[q] = y by rw [← hqv, List.getD_eq_getElem?_getD, List.getElem?_eq_getElem hqc]; rfl] at ck
          clear hq hqv hqz hy hqc hcl hzi
          obtain ⟨n, hn⟩ : ∃ n, (plainM m.sy zs).length = n := ⟨_, rfl⟩
          have ho : Y.ownsRow (g + 1) 2 1 (.slice Av (plainM m.sy zs).length cv) (plainM m.sy zs).length (ivs (plainM m.sy zs)) := HOD.out
          have hnz : n = zs.length := by rw [← hn]; exact HPn.out
          obtain ⟨kc, hkc⟩ : ∃ kc, cntM m.sy zs = kc := ⟨_, rfl⟩
          rw [hn] at ho ⊢
          rw [hkc] at hcn ⊢
          have hn4 : n ≤ 400 := by omega
          have hk4 : kc ≤ 400 := by omega
          have HPX : Hid (ivs (plainM m.sy (zs ++ [y])) = ivs (plainM m.sy zs) ++ [.int .i64 yr]) := Lib.hid (by rw [plain_snoc, HYR.out]; simp [ivs])
          have HPL1 : Hid ((plainM m.sy (zs ++ [y])).length = n + 1) := Lib.hid (by rw [plain_snoc, List.length_append, hn]; rfl)
          have hwk : IntKind.i64.wrap ((kc : Int) + 1) = (kc : Int) + 1 := IntWalk.i64_in _ (by omega)
          have hsz : g + 1 ≤ Y.heap.size := by have := hED.size; rw [HWS.out] at this; exact this
          have hl1 := fun (b : Nat) (hb : (Value.slice Av n cv).ownBlock = some b) => (ho.lt b hb).1
          have hlow : ∀ b, (Value.slice Av n cv).ownBlock = some b → W0.heap.size ≤ b := fun b hb => by rw [HWS.out]; exact hl1 b hb
          by_cases hmk : m.sy ≤ y
          · have hmb : markB m.sy y = true := decide_eq_true hmk
            have HLM : Hid (LastM m.sy (zs ++ [y]) (n : Int)) := Lib.hid (by rw [hnz]; exact LastM.mark hmb)
            have HCN : Hid (((cntM m.sy (zs ++ [y]) : Nat) : Int) = (kc : Int) + 1) := Lib.hid (by rw [cntM_snoc, hkc, hmb]; simp)
            clear hmb hn hnz hkc HYR HPn hl1
            go_wp2_with (at_builtin; refine wpList_append_own _ rfl _ _ 25 rfl (g + 1) 2 i0 (.int .i64 0) 1 8 Try.underlying25 hi hz0 hz1 hz2 rfl (by decide) _ _ _ rfl (ho.alloc _) ⟨Y.heap.size, 0, none⟩ 1 1 [.int .i64 yr] rfl rfl (cell_one_new _ _ _) ?c2 ?c3 ?c4 ?c5 ?_)
            case c2 => first | rfl | (intro u hu; simp at hu; subst hu; rfl)
            case c3 => first | omega | (unfold maxLen; omega)
            case c4 => omega
            case c5 => first | omega | (simp; omega)
            intro v' w3 hown' hgrow _
            have hX3 : Ext W0 w3 := hED.grown (grownBy_trans (World.grownBy_alloc _ _ _) hgrow) hlow
            have R3 : OwnInts (g + 1) w3 v' (plainM m.sy (zs ++ [y])) := by unfold OwnInts; rw [HPX.out, HPL1.out]; exact hown'
            clear hown' hgrow ho
            go_wp2_with fail
            go_roundw
            case rel => exact ⟨i + 1, z + 1, (n : Int), by omega, rfl, rfl, HZN.out, by rw [HN1.out, HCN.out], by rw [HN1.out]; exact HLM.out, hX3, by rw [HN1.out]; exact R3⟩
            case measure => simp [intOf]; omega
          · have hmb : markB m.sy y = false := decide_eq_false hmk
            have HLM : Hid (LastM m.sy (zs ++ [y]) hd) := Lib.hid (LastM.skip HLA.out hmb)
            have HCN : Hid (((cntM m.sy (zs ++ [y]) : Nat) : Int) = (kc : Int)) := Lib.hid (by rw [cntM_snoc, hkc, hmb]; simp)
            clear hmb hn hnz hkc HYR HPn hl1
            go_wp2_with (at_builtin; refine wpList_append_own _ rfl _ _ 25 rfl (g + 1) 2 i0 (.int .i64 0) 1 8 Try.underlying25 hi hz0 hz1 hz2 rfl (by decide) _ _ _ rfl (ho.alloc _) ⟨Y.heap.size, 0, none⟩ 1 1 [.int .i64 yr] rfl rfl (cell_one_new _ _ _) ?c2 ?c3 ?c4 ?c5 ?_)
            case c2 => first | rfl | (intro u hu; simp at hu; subst hu; rfl)
            case c3 => first | omega | (unfold maxLen; omega)
            case c4 => omega
            case c5 => first | omega | (simp; omega)
            intro v' w3 hown' hgrow _
            have hX3 : Ext W0 w3 := hED.grown (grownBy_trans (World.grownBy_alloc _ _ _) hgrow) hlow
            have R3 : OwnInts (g + 1) w3 v' (plainM m.sy (zs ++ [y])) := by unfold OwnInts; rw [HPX.out, HPL1.out]; exact hown'
            clear hown' hgrow ho
            go_wp2_with fail
            go_roundw
            case rel => exact ⟨i + 1, z + 1, hd, by omega, rfl, rfl, HZN.out, by rw [HN1.out, HCN.out], by rw [HN1.out]; exact HLM.out, hX3, by rw [HN1.out]; exact R3⟩
            case measure => simp [intOf]; omega
        · have hzi := HZI.out
          obtain ⟨q, hq⟩ : ∃ q : Nat, z = (q : Int) := ⟨z.toNat, by omega⟩
          have hqi0 : i = H + q := by omega
          have hqv : c.r.getD q 0 = y := by rw [← HXR.out q, ← hqi0, hy]
          have hqH : q < Q := by omega
          have hqc : q < c.r.length := by rw [HQn.out]; exact hqH
          have hqi : (q : Int) < (Q : Int) := by omega
          have hzt : z.toNat = q := by omega
          have hz00 : 0 ≤ z := by omega
          have hzq : z < (Q : Int) := by omega
          obtain ⟨bl, ol, rfl, hcl⟩ := LR.at hqc
          have ck := hcl q hqc
          rw [show c.r[q] = y by rw [← hqv, List.getD_eq_getElem?_getD, List.getElem?_eq_getElem hqc]; rfl] at ck
          clear hq hqi0 hqv hy hqc hcl hzi hqi
          obtain ⟨n, hn⟩ : ∃ n, (plainM m.sy zs).length = n := ⟨_, rfl⟩
          have ho : Y.ownsRow (g + 1) 2 1 (.slice Av (plainM m.sy zs).length cv) (plainM m.sy zs).length (ivs (plainM m.sy zs)) := HOD.out
          have hnz : n = zs.length := by rw [← hn]; exact HPn.out
          obtain ⟨kc, hkc⟩ : ∃ kc, cntM m.sy zs = kc := ⟨_, rfl⟩
          rw [hn] at ho ⊢
          rw [hkc] at hcn ⊢
          have hn4 : n ≤ 400 := by omega
          have hk4 : kc ≤ 400 := by omega
          have HPX : Hid (ivs (plainM m.sy (zs ++ [y])) = ivs (plainM m.sy zs) ++ [.int .i64 yr]) := Lib.hid (by rw [plain_snoc, HYR.out]; simp [ivs])
          have HPL1 : Hid ((plainM m.sy (zs ++ [y])).length = n + 1) := Lib.hid (by rw [plain_snoc, List.length_append, hn]; rfl)
          have hwk : IntKind.i64.wrap ((kc : Int) + 1) = (kc : Int) + 1 := IntWalk.i64_in _ (by omega)
          have hsz : g + 1 ≤ Y.heap.size := by have := hED.size; rw [HWS.out] at this; exact this
          have hl1 := fun (b : Nat) (hb : (Value.slice Av n cv).ownBlock = some b) => (ho.lt b hb).1
          have hlow : ∀ b, (Value.slice Av n cv).ownBlock = some b → W0.heap.size ≤ b := fun b hb => by rw [HWS.out]; exact hl1 b hb
          by_cases hmk : m.sy ≤ y
          · have hmb : markB m.sy y = true := decide_eq_true hmk
            have HLM : Hid (LastM m.sy (zs ++ [y]) (n : Int)) := Lib.hid (by rw [hnz]; exact LastM.mark hmb)
            have HCN : Hid (((cntM m.sy (zs ++ [y]) : Nat) : Int) = (kc : Int) + 1) := Lib.hid (by rw [cntM_snoc, hkc, hmb]; simp)
            clear hmb hn hnz hkc HYR HPn hl1
            go_wp2_with (at_builtin; refine wpList_append_own _ rfl _ _ 25 rfl (g + 1) 2 i0 (.int .i64 0) 1 8 Try.underlying25 hi hz0 hz1 hz2 rfl (by decide) _ _ _ rfl (ho.alloc _) ⟨Y.heap.size, 0, none⟩ 1 1 [.int .i64 yr] rfl rfl (cell_one_new _ _ _) ?c2 ?c3 ?c4 ?c5 ?_)
            case c2 => first | rfl | (intro u hu; simp at hu; subst hu; rfl)
            case c3 => first | omega | (unfold maxLen; omega)
            case c4 => omega
            case c5 => first | omega | (simp; omega)
            intro v' w3 hown' hgrow _
            have hX3 : Ext W0 w3 := hED.grown (grownBy_trans (World.grownBy_alloc _ _ _) hgrow) hlow
            have R3 : OwnInts (g + 1) w3 v' (plainM m.sy (zs ++ [y])) := by unfold OwnInts; rw [HPX.out, HPL1.out]; exact hown'
            clear hown' hgrow ho
            go_wp2_with fail
            go_roundw
            case rel => exact ⟨i + 1, z + 1, (n : Int), by omega, rfl, rfl, HZN.out, by rw [HN1.out, HCN.out], by rw [HN1.out]; exact HLM.out, hX3, by rw [HN1.out]; exact R3⟩
            case measure => simp [intOf]; omega
          · have hmb : markB m.sy y = false := decide_eq_false hmk
            have HLM : Hid (LastM m.sy (zs ++ [y]) hd) := Lib.hid (LastM.skip HLA.out hmb)
            have HCN : Hid (((cntM m.sy (zs ++ [y]) : Nat) : Int) = (kc : Int)) := Lib.hid (by rw [cntM_snoc, hkc, hmb]; simp)
            clear hmb hn hnz hkc HYR HPn hl1
            go_wp2_with (at_builtin; refine wpList_append_own _ rfl _ _ 25 rfl (g + 1) 2 i0 (.int .i64 0) 1 8 Try.underlying25 hi hz0 hz1 hz2 rfl (by decide) _ _ _ rfl (ho.alloc _) ⟨Y.heap.size, 0, none⟩ 1 1 [.int .i64 yr] rfl rfl (cell_one_new _ _ _) ?c2 ?c3 ?c4 ?c5 ?_)
            case c2 => first | rfl | (intro u hu; simp at hu; subst hu; rfl)
            case c3 => first | omega | (unfold maxLen; omega)
            case c4 => omega
            case c5 => first | omega | (simp; omega)
            intro v' w3 hown' hgrow _
            have hX3 : Ext W0 w3 := hED.grown (grownBy_trans (World.grownBy_alloc _ _ _) hgrow) hlow
            have R3 : OwnInts (g + 1) w3 v' (plainM m.sy (zs ++ [y])) := by unfold OwnInts; rw [HPX.out, HPL1.out]; exact hown'
            clear hown' hgrow ho
            go_wp2_with fail
            go_roundw
            case rel => exact ⟨i + 1, z + 1, hd, by omega, rfl, rfl, HZN.out, by rw [HN1.out, HCN.out], by rw [HN1.out]; exact HLM.out, hX3, by rw [HN1.out]; exact R3⟩
            case measure => simp [intOf]; omega
      · have hmod : i % m.tp.toNat ≠ F := fun h => hj (hr3.2 h)
        have HN1 : Hid (lineT m.tp.toNat F xs (i + 1) = lineT m.tp.toNat F xs i) := Lib.hid (lineT_skip hmod)
        have hrj : (r2 != j) = true := by simp [hj]
        clear hr3 hmod
        go_wp2_with fail
        go_roundw
        case rel => exact ⟨i + 1, z + 1, hd, by omega, rfl, rfl, HZN.out, by rw [HN1.out], by rw [HN1.out]; exact HLA.out, hED, by rw [HN1.out]; exact HOD.out⟩
        case measure => simp [intOf]; omega
    · have hge : ¬ z < (Q : Int) := hlt
      have hiE : i = H + Q := by omega
      have hlB : g ≤ wr.heap.size := by have := hE.size; rw [HWS.out] at this; omega
      have bO1 := HBO.out.ext hE
      have hXw := HX.out.trans hE
      have hwg : w.heap.size ≤ g := by omega
      rw [hiE, ← HLI.out] at hcn hlN
      have HLA : Hid (LastM m.sy (lineC m c t0 j) hd) := Lib.hid (by rw [HLI.out, ← hiE]; exact hla.out)
      have hoC : OwnInts (g + 1) wr (.slice Av (plainM m.sy (lineC m c t0 j)).length cv) (plainM m.sy (lineC m c t0 j)) := by rw [HLI.out, ← hiE]; exact HO.out
      have hcv : (plainM m.sy (lineC m c t0 j)).length ≤ cv := by
        obtain ⟨A', c', e, h1, _⟩ := hoC.ints.form
        injection e with e1 e2 e3
        omega
      rw [hiE, ← HLI.out]
      have HRN := Lib.hid HRES.out
      generalize lineC m c t0 j = zs at *
      obtain ⟨n, hn⟩ : ∃ n, (plainM m.sy zs).length = n := ⟨_, rfl⟩
      have hnz : zs.length = n := by rw [← hn]; simp [plainM]
      rw [hn] at hoC hcv ⊢
      have hn4 : n ≤ 400 := by omega
      have HNZ := Lib.hid hnz
      have HNP := Lib.hid hn
      by_cases hc : cntM m.sy zs = 1
      · obtain ⟨k, rfl, hk, hf, ha⟩ := dec_one HLA.out hc
        have HT := Lib.hid (tapeDec_one hf ha)
        have hkn : k < n := by omega
        have HTK := Lib.hid (plain_take HB.out hf)
        have HDK := Lib.hid (plain_drop HB.out hf ha)
        have HRT : Hid (R = some ⟨trim (zs.take k).reverse, trim ((zs.getD k 0 - m.sy) :: zs.drop (k + 1))⟩) := Lib.hid (by rw [HRN.out]; exact HT.out)
        rw [hc]
        obtain ⟨gl, rfl, hgl1, hgl2⟩ := own_at (show wr.ownsRow (g + 1) 2 1 (.slice Av n cv) n (ivs (plainM m.sy zs)) by rw [← hn]; exact (by rw [← hn] at hoC; exact hoC)) (by omega)
        have i1' : Ints wr (.slice (some ⟨gl, 0, none⟩) k cv) (zs.take k) := by
          have h1 := hoC.ints
          rw [← hn] at h1
          have h2 := h1.take k (by omega)
          rwa [HTK.out] at h2
        have i2' := ints_dropA hoC.ints hn.symm k (by omega)
        rw [HDK.out, Nat.zero_add] at i2'
        have hlt0 : (zs.take k).length ≤ 1048576 := by rw [List.length_take]; omega
        have hlt1 : (zs.take k).reverse.length ≤ 1048576 := by rw [List.length_reverse]; exact hlt0
        have hlt2 : ((zs.getD k 0 - m.sy) :: zs.drop (k + 1)).length ≤ 1048576 := by rw [List.length_cons, List.length_drop]; omega
        have zE := Ext.drew wr
        have RV := l03Reverse_c (.slice (some ⟨gl, 0, none⟩) k cv) (zs.take k) wr.drew (i1'.ext zE) hlt0
        generalize hl1 : (zs.take k).reverse = L1 at *
        generalize hl2 : (zs.getD k 0 - m.sy) :: zs.drop (k + 1) = L2 at *
        have hkc : k ≤ cv := by omega
        have hkci : (k : Int) ≤ (cv : Int) := by omega
        have hkn2 : k ≤ n := by omega
        have hkni : (k : Int) ≤ (n : Int) := by omega
        have hnck : ¬ cv = k := by omega
        clear hn hnz hc hf ha HT hoC HO hlN hcn hl1 hl2 hiE hzi hv1 hv2 ho hla
        go_upto_region 18 with fail
        refine wp_region_ordT 10 (readsT [0, 1, 2, 5, 6, 7] (.stir 3 (.stir 4 (.stir 8 (readsT [9] .done))))) (by kernel_rfl) (by kernel_rfl) (fun _ _ _ _ _ h => h) ?_
        simp only [readsT]
        iterate 6 (refine wpOrdT_read (v := ?_) (by rfl) (Or.inl ⟨by rfl, fun x hx => ?_⟩) ?_; rotate_left; (· go_simp; try with_reducible rfl); try simp only [Act.put, List.setIfInBounds_toArray, List.set_cons_zero, List.set_cons_succ])
        refine wpOrdT_stir (by rfl) (fun K hK => ?_)
        go_simp
        go_at_call 68
        refine RV.mono ?_
        rintro e w5 ⟨u5, rfl, ho5, hx5⟩
        refine hK _ _ hx5 ?_
        clear hK K RV
        try simp only [Act.put, List.setIfInBounds_toArray, List.set_cons_zero, List.set_cons_succ]
        have TR := l05Trim_c u5 L1 w5 ho5.ints hlt1
        refine wpOrdT_stir (by rfl) (fun K hK => ?_)
        go_simp
        go_at_call 67
        refine TR.mono ?_
        rintro e w6 ⟨u6, rfl, ho6, hx6⟩
        refine hK _ _ hx6 ?_
        clear hK K TR
        try simp only [Act.put, List.setIfInBounds_toArray, List.set_cons_zero, List.set_cons_succ]
        have TR := l05Trim_c _ L2 w6 (i2'.ext (zE.trans (hx5.trans hx6))) hlt2
        refine wpOrdT_stir (by rfl) (fun K hK => ?_)
        go_simp
        go_at_call 67
        refine TR.mono ?_
        rintro e w8 ⟨u8, rfl, ho8, hx8⟩
        refine hK _ _ hx8 ?_
        clear hK K TR
        try simp only [Act.put, List.setIfInBounds_toArray, List.set_cons_zero, List.set_cons_succ]
        obtain ⟨A6, c6, rfl, _, _⟩ := ho6.ints.form
        obtain ⟨A8, c8, rfl, _, _⟩ := ho8.ints.form
        iterate 1 (refine wpOrdT_read (v := ?_) (by rfl) (Or.inl ⟨by rfl, fun x hx => ?_⟩) ?_; rotate_left; (· go_simp; try with_reducible rfl); try simp only [Act.put, List.setIfInBounds_toArray, List.set_cons_zero, List.set_cons_succ])
        refine wpOrdT_done ?_
        try simp only [List.drop_succ_cons, List.drop_zero]
        have hE8 : Ext wr w8 := zE.trans (hx5.trans (hx6.trans hx8))
        have hX8 := hXw.trans hE8
        have b8 := bO1.ext hE8
        have o6 : OwnInts w.heap.size w8 (.slice A6 (trim L1).length c6) (trim L1) := OwnInts.ext (ownsRow_base ho6 (Nat.le_trans hXw.size (zE.trans hx5).size)) hx8
        have o8 : OwnInts w.heap.size w8 (.slice A8 (trim L2).length c8) (trim L2) := ownsRow_base ho8 (Nat.le_trans hXw.size (zE.trans (hx5.trans hx6)).size)
        have ob := b8.cell
        have of_ := b8.frozen
        have HO6 := Lib.hid o6
        have HO8 := Lib.hid o8
        clear o6 o8 ho6 ho8 ho5 hx5 hx6 hx8 i1' i2'
        go_wp2
        exact bodyPost_ret (v := .tuple #[.agg #[.slice A6 (trim L1).length c6, .slice A8 (trim L2).length c8], .bool true]) (by simp [results, Try.results42, go_sem, ob]) rfl ⟨.inr ⟨_, _, _, HRT.out, rfl, own_setM (b8.set_ 0 _) (by decide) (own_setM b8 (by decide) HO6.out 0 _) 1 _, own_setM (b8.set_ 0 _) (by decide) (own_setM b8 (by decide) HO8.out 0 _) 1 _⟩, (hX8.setCell (p := ⟨g, 0, none⟩) hwg _).setCell (p := ⟨g, 1, none⟩) hwg _⟩
      · have HRT : Hid (R = none) := Lib.hid (by rw [HRN.out]; exact dec_no hc)
        obtain ⟨kc, hkc⟩ : ∃ kc, cntM m.sy zs = kc := ⟨_, rfl⟩
        rw [hkc] at hc hcn ⊢
        have hb1 : ((kc : Int) != 1) = true := by simp; omega
        have ob := bO1.cell
        have of_ := bO1.frozen
        clear hn hnz hc hoC HO hlN hcn hiE hzi hkc ho hla
        go_wp2
        exact bodyPost_ret (v := .tuple #[.agg #[.slice none 0 0, .slice none 0 0], .bool false]) (by simp [results, Try.results42, go_sem, ob]) rfl ⟨.inl ⟨HRT.out, rfl⟩, (hXw.setCell (p := ⟨g, 0, none⟩) hwg _).setCell (p := ⟨g, 1, none⟩) hwg _⟩
end Go.Proofs.Ytfghojbbofobeaa
end
