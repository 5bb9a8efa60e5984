/- Plain words: a step of a machine with two tapes, made by the machine with one tape.
Plain words: a whole step of a machine with two tapes, made by the machine with one tape.
Plain words: the tapes that a line of cells stands for, and their decoding. -/
import Derived.Test.YtgeckhjkahnonaaGreatDoorO30
section
set_option linter.unusedSimpArgs false
set_option linter.unusedVariables false
namespace Go.Proofs.YtgeckhjkahnonaaGreatDoor
open Go Go.RowKit Go.Proofs
theorem tidy_last {xs : List Int} (h : tidyL xs) {n : Nat} (hn : xs.length = n + 1) : xs.getD n 0 ≠ 0 := by
  rcases h with h | h
  · rw [h] at hn; simp at hn
  · have e : xs.getD n 0 = xs.getLastD 0 := by
      rw [List.getLastD_eq_getLast?, List.getLast?_eq_getElem?, List.getD_eq_getElem?_getD, hn]
      rfl
    rw [e]; exact h
theorem tidy_len {xs : List Int} (h : tidyL xs) {n : Nat} (h0 : ∀ i : Nat, n ≤ i → xs.getD i 0 = 0) : xs.length ≤ n := by
  rcases Nat.lt_or_ge n xs.length with c | c
  · exact absurd (h0 (xs.length - 1) (by omega)) (tidy_last h (by omega))
  · exact c
theorem tidy_ext {xs ys : List Int} (h : tidyL xs) (h' : tidyL ys) (e : ∀ i : Nat, xs.getD i 0 = ys.getD i 0) : xs = ys := by
  have hz : ∀ zs : List Int, ∀ i, zs.length ≤ i → zs.getD i 0 = 0 := fun zs i hi => by
    rw [List.getD_eq_getElem?_getD, List.getElem?_eq_none hi]; rfl
  have hl : xs.length = ys.length := by
    have a := tidy_len h (n := ys.length) (fun i hi => by rw [e]; exact hz ys i hi)
    have b := tidy_len h' (n := xs.length) (fun i hi => by rw [← e]; exact hz xs i hi)
    omega
  refine List.ext_getElem hl fun i h1 h2 => ?_
  have := e i
  rw [List.getD_eq_getElem?_getD, List.getD_eq_getElem?_getD, List.getElem?_eq_getElem h1, List.getElem?_eq_getElem h2] at this
  exact this
/-- Behind t steps, all of them made with room, the machine is at a place; all cells beyond lo and hi are blank. -/
structure Rch (m : MultiD) (s : List MP × List RuleD) (x0 : ConfD) (lo hi : Int) (t : Nat) (p : MP) (f : Int → Int) (pos : Int) : Prop where
  at_ : AtW m s (cfgI (oneM m s) x0 t) p f pos
  runs : RunsTo (oneM m s) x0 t
  box : ∀ i, f i ≠ 0 → lo ≤ i ∧ i ≤ hi
  val : ∀ i, 0 ≤ f i ∧ f i < 2 * m.sy
  tidy : tidyL (cfgI (oneM m s) x0 t).l ∧ tidyL (cfgI (oneM m s) x0 t).r
theorem Rch.wider {m : MultiD} {s : List MP × List RuleD} {x0 : ConfD} {lo hi lo' hi' : Int} {t : Nat} {p : MP} {f : Int → Int} {pos : Int} (h : Rch m s x0 lo hi t p f pos) (h1 : lo' ≤ lo) (h2 : hi ≤ hi') : Rch m s x0 lo' hi' t p f pos :=
  ⟨h.at_, h.runs, fun i hi => by have := h.box i hi; omega, h.val, h.tidy⟩
theorem ln_fit {x : ConfD} {f : Int → Int} {pos lo hi : Int} (hl : Ln x f pos) (box : ∀ i, f i ≠ 0 → lo ≤ i ∧ i ≤ hi) (ht : tidyL x.l ∧ tidyL x.r) (h1 : lo ≤ pos) (h2 : pos ≤ hi) (hb : hi ≤ lo + 190) : fitI x = true := by
  have z : ∀ i, (i < lo ∨ hi < i) → f i = 0 := fun i hi => by
    by_cases c : f i = 0
    · exact c
    · have := box i c; omega
  have a := tidy_len ht.1 (n := 200) (fun i hi => by rw [hl.l]; exact z _ (by omega))
  have b := tidy_len ht.2 (n := 200) (fun i hi => by rw [hl.r]; exact z _ (by omega))
  simp only [fitI, Bool.and_eq_true, decide_eq_true_eq]
  exact ⟨a, b⟩
theorem Rch.step {m : MultiD} (hm : multiOk m = true) {s : List MP × List RuleD} (hs : weaveB m = some s) {x0 : ConfD} {lo hi : Int} {t : Nat} {p : MP} {f : Int → Int} {pos w mv : Int} {p' : MP} (h : Rch m s x0 lo hi t p f pos)
    (ha : actW m p (f pos) = ⟨w, mv, p', false⟩) (hmv : mv = 1 ∨ mv = -1) (hw : 0 ≤ w ∧ w < 2 * m.sy) (h1 : lo ≤ pos) (h2 : pos ≤ hi) (h3 : lo ≤ pos + mv) (h4 : pos + mv ≤ hi) (hb : hi ≤ lo + 190) : Rch m s x0 lo hi (t + 1) p' (updF f pos w) (pos + mv) := by
  obtain ⟨a, b⟩ := h.at_.step hm hs (h.val pos).1 (h.val pos).2 ha hmv
  have hbox : ∀ i, updF f pos w i ≠ 0 → lo ≤ i ∧ i ≤ hi := fun i hi => by
    by_cases e : i = pos
    · omega
    · rw [updF_other _ _ _ e] at hi
      exact h.box i hi
  have htd := tidy_step (ru := lookI (oneM m s) (cfgI (oneM m s) x0 t)) h.tidy
  refine ⟨b, h.runs.succ a (ln_fit b.ln hbox htd h3 h4 hb), hbox, fun i => ?_, htd⟩
  by_cases e : i = pos
  · rw [e, updF_same]; exact hw
  · rw [updF_other _ _ _ e]; exact h.val i
theorem updF_self (f : Int → Int) (p : Int) : updF f p (f p) = f := by
  funext i
  unfold updF
  split
  · rename_i e; rw [e]
  · rfl
/-- A step that leaves the cell as it is. -/
theorem Rch.pass {m : MultiD} (hm : multiOk m = true) {s : List MP × List RuleD} (hs : weaveB m = some s) {x0 : ConfD} {lo hi : Int} {t : Nat} {p : MP} {f : Int → Int} {pos mv : Int} {p' : MP} (h : Rch m s x0 lo hi t p f pos)
    (ha : actW m p (f pos) = ⟨f pos, mv, p', false⟩) (hmv : mv = 1 ∨ mv = -1) (h1 : lo ≤ pos) (h2 : pos ≤ hi) (h3 : lo ≤ pos + mv) (h4 : pos + mv ≤ hi) (hb : hi ≤ lo + 190) : Rch m s x0 lo hi (t + 1) p' f (pos + mv) := by
  have := h.step hm hs ha hmv (h.val pos) h1 h2 h3 h4 hb
  rwa [updF_self] at this
/-- The cells of one of two tapes on the line, that under its head marked. -/
def WvT (f : Int → Int) (t : Int) (g : Int → Int) (h : Int) : Prop := ∀ i, f (2 * i + t) = g i + (if i = h then 2 else 0)
theorem WvT.mark {f : Int → Int} {t : Int} {g : Int → Int} {h : Int} (H : WvT f t g h) : f (2 * h + t) = g h + 2 := by rw [H h, if_pos rfl]
theorem WvT.no {f : Int → Int} {t : Int} {g : Int → Int} {h i : Int} (H : WvT f t g h) (e : i ≠ h) : f (2 * i + t) = g i := by rw [H i, if_neg e]; omega
theorem WvT.other {f : Int → Int} {t : Int} {g : Int → Int} {h : Int} (H : WvT f t g h) {p v : Int} (e : ∀ i, 2 * i + t ≠ p) : WvT (updF f p v) t g h := fun i => by
  rw [updF_other _ _ _ (e i)]; exact H i
/-- The values on a tape are 0 and 1. -/
def Bin (g : Int → Int) : Prop := ∀ i, 0 ≤ g i ∧ g i ≤ 1
theorem Bin.upd {g : Int → Int} (h : Bin g) {p v : Int} (hv : 0 ≤ v ∧ v ≤ 1) : Bin (updF g p v) := fun i => by
  unfold updF
  split
  · exact hv
  · exact h i
/-- What is written and how the head moves. -/
def wrM (m : MultiD) (i t : Int) : Int := (mrAt m i).wr.getD t.toNat 0
def mvM (m : MultiD) (i t : Int) : Int := (mrAt m i).mv.getD t.toNat 0
theorem act_carry1 {m : MultiD} {i t d v : Int} : actW m ⟨1, i, t, 1, 0, 0, 0, d⟩ v = ⟨v, mvM m i t, ⟨1, i, t, 0, 0, 0, 0, d⟩, false⟩ := rfl
theorem act_carry0 {m : MultiD} {i t d v : Int} (hy : m.sy = 2) (hp : m.tp = 2) : actW m ⟨1, i, t, 0, 0, 0, 0, d⟩ v = ⟨v % 2 + 2, -(mvM m i t), ⟨2, i, t, 1, 0, 0, 0, d⟩, false⟩ := by
  have e : actW m ⟨1, i, t, 0, 0, 0, 0, d⟩ v = ⟨v % m.sy + m.sy, -(mvM m i t), ⟨2, i, t, m.tp - 1, 0, 0, 0, d⟩, false⟩ := rfl
  rw [e, hy, hp]
  rfl
theorem act_ret1 {m : MultiD} {i t d v : Int} : actW m ⟨2, i, t, 1, 0, 0, 0, d⟩ v = ⟨v, -(mvM m i t), ⟨2, i, t, 0, 0, 0, 0, d⟩, false⟩ := rfl
theorem act_ret0 {m : MultiD} {i t d v : Int} : actW m ⟨2, i, t, 0, 0, 0, 0, d⟩ v = ⟨v, -1, aftP m i t d, false⟩ := rfl
theorem putP_stay {m : MultiD} {i t d : Int} (h : mvM m i t = 0) (hy : m.sy = 2) : putP m i t d = ⟨wrM m i t + 2, -1, aftP m i t (orB d t), false⟩ := by
  unfold putP
  rw [if_pos (show (mrAt m i).mv.getD t.toNat 0 = 0 from h), hy]
  rfl
theorem putP_go {m : MultiD} {i t d : Int} (h : mvM m i t ≠ 0) (hp : m.tp = 2) : putP m i t d = ⟨wrM m i t, mvM m i t, ⟨1, i, t, 1, 0, 0, 0, orB d t⟩, false⟩ := by
  unfold putP
  rw [if_neg (show ¬ (mrAt m i).mv.getD t.toNat 0 = 0 from h), hp]
  rfl
/-- A cell is written and its mark goes on, if the head moves. -/
theorem Rch.put {m : MultiD} (hm : multiOk m = true) (hp : m.tp = 2) (hy : m.sy = 2) {s : List MP × List RuleD} (hs : weaveB m = some s) {x0 : ConfD} {lo hi : Int} {T : Nat} {p : MP} {f g g' : Int → Int} {t h h' i d : Int}
    (H : Rch m s x0 lo hi T p f (2 * h + t)) (ht : t = 0 ∨ t = 1) (hW : WvT f t g h) (hW' : WvT f (1 - t) g' h') (hB : Bin g) (i0 : 0 ≤ i) (i1 : i < m.rules.length)
    (ha : actW m p (f (2 * h + t)) = putP m i t d) (h1 : lo ≤ 2 * h + t - 4) (h2 : 2 * h + t + 4 ≤ hi) (hb : hi ≤ lo + 190) :
    ∃ f2 k, Rch m s x0 lo hi (T + k) (aftP m i t (orB d t)) f2 (2 * h + t - 1) ∧ WvT f2 t (updF g h (wrM m i t)) (h + mvM m i t) ∧ WvT f2 (1 - t) g' h' ∧ ((k = 1 ∧ mvM m i t = 0) ∨ (k = 5 ∧ mvM m i t ≠ 0)) := by
  have hr := rule_wm hm i0 i1 t.toNat
  have hwr : 0 ≤ wrM m i t ∧ wrM m i t ≤ 1 := by have := hr.1; unfold wrM; omega
  have hmv : -1 ≤ mvM m i t ∧ mvM m i t ≤ 1 := hr.2
  by_cases hz : mvM m i t = 0
  · rw [putP_stay hz hy] at ha
    have H1 := H.step hm hs ha (.inr rfl) (by omega) (by omega) (by omega) (by omega) (by omega) hb
    refine ⟨_, 1, H1, fun j => ?_, hW'.other (fun j => by omega), .inl ⟨rfl, hz⟩⟩
    rw [hz]
    by_cases e : j = h
    · subst e
      rw [updF_same, updF_same, if_pos (by omega)]
    · rw [updF_other _ _ _ (by omega), hW.no e, updF_other _ _ _ e, if_neg (by omega)]
      omega
  · rw [putP_go hz hp] at ha
    have hmv' : mvM m i t = 1 ∨ mvM m i t = -1 := by omega
    have hmn : -(mvM m i t) = 1 ∨ -(mvM m i t) = -1 := by omega
    have H1 := H.step hm hs ha hmv' (by omega) (by omega) (by omega) (by omega) (by omega) hb
    have H2 := H1.pass hm hs act_carry1 hmv' (by omega) (by omega) (by omega) (by omega) hb
    have e0 : updF f (2 * h + t) (wrM m i t) (2 * h + t + mvM m i t + mvM m i t) = g (h + mvM m i t) := by
      rw [updF_other _ _ _ (by omega), show 2 * h + t + mvM m i t + mvM m i t = 2 * (h + mvM m i t) + t by omega, hW.no (by omega)]
    have hg := hB (h + mvM m i t)
    have H3 := H2.step hm hs (act_carry0 hy hp) hmn (by rw [e0]; omega) (by omega) (by omega) (by omega) (by omega) hb
    have H4 := H3.pass hm hs act_ret1 hmn (by omega) (by omega) (by omega) (by omega) hb
    have H5 := H4.pass hm hs act_ret0 (.inr rfl) (by omega) (by omega) (by omega) (by omega) hb
    have ep : 2 * h + t + mvM m i t + mvM m i t + -(mvM m i t) + -(mvM m i t) + -1 = 2 * h + t - 1 := by omega
    rw [ep] at H5
    refine ⟨_, 5, H5, fun j => ?_, (hW'.other (fun j => ?_)).other (fun j => ?_), .inr ⟨rfl, hz⟩⟩
    rotate_left
    · omega
    · omega
    · by_cases e : j = h + mvM m i t
      · subst e
        rw [show 2 * (h + mvM m i t) + t = 2 * h + t + mvM m i t + mvM m i t by omega, updF_same, if_pos rfl, e0, updF_other _ _ _ (by omega)]
        have : g (h + mvM m i t) % 2 = g (h + mvM m i t) := by omega
        rw [this]
      · rw [updF_other _ _ _ (by omega), if_neg e]
        by_cases e2 : j = h
        · subst e2
          rw [updF_same, updF_same]; omega
        · rw [updF_other _ _ _ (by omega), updF_other _ _ _ e2, hW.no e2]; omega
end Go.Proofs.YtgeckhjkahnonaaGreatDoor
end
section
set_option linter.unusedSimpArgs false
set_option linter.unusedVariables false
namespace Go.Proofs.YtgeckhjkahnonaaGreatDoor
open Go Go.RowKit Go.Proofs
/-- The place that looks for marked cells, at a cell. -/
def lkA (q : Int) (g0 g1 : Int → Int) (h0 h1 pos : Int) : MP := ⟨0, q, pos % 2, 0, if 2 * h0 < pos then g0 h0 + 1 else 0, if 2 * h1 + 1 < pos then g1 h1 + 1 else 0, 0, 0⟩
theorem act_look {m : MultiD} {p : MP} {v : Int} (h : p.k = 0) : actW m p v = lkP m p v := by unfold actW; rw [if_pos h]
theorem look_step {m : MultiD} (hp : m.tp = 2) (hy : m.sy = 2) {q : Int} {f g0 g1 : Int → Int} {h0 h1 pos : Int} (W0 : WvT f 0 g0 h0) (W1 : WvT f 1 g1 h1) (B0 : Bin g0) (B1 : Bin g1) (hpos : pos < 2 * h0 ∨ pos < 2 * h1 + 1) :
    actW m (lkA q g0 g1 h0 h1 pos) (f pos) = ⟨f pos, 1, lkA q g0 g1 h0 h1 (pos + 1), false⟩ := by
  rw [act_look rfl]
  unfold lkP
  have b0 := B0 h0
  have b1 := B1 h1
  rcases (show pos % 2 = 0 ∨ pos % 2 = 1 by omega) with e | e
  · obtain ⟨i, rfl⟩ : ∃ i, pos = 2 * i := ⟨pos / 2, by omega⟩
    have et : (lkA q g0 g1 h0 h1 (2 * i)).t = 0 := e
    rw [et]
    by_cases hi : i = h0
    · subst hi
      have hv : f (2 * i) = g0 i + 2 := by have := W0.mark; rwa [Int.add_zero] at this
      have e0 : (lkA q g0 g1 i h1 (2 * i)) = ⟨0, q, 0, 0, 0, 0, 0, 0⟩ := by
        unfold lkA
        rw [e, if_neg (by omega), if_neg (by omega)]
      rw [e0, if_pos (by rw [hv, hy]; exact ⟨by omega, rfl⟩)]
      have e1 : seenP m ⟨0, q, 0, 0, 0, 0, 0, 0⟩ (f (2 * i)) = lkA q g0 g1 i h1 (2 * i + 1) := by
        unfold seenP nxtT withT withF lkA
        rw [hp, hy, hv, if_pos (show 2 * i < 2 * i + 1 by omega), if_neg (show ¬ 2 * h1 + 1 < 2 * i + 1 by omega)]
        simp
      rw [e1, if_pos]
      unfold lacksB lkA
      rw [if_neg (show ¬ 2 * h1 + 1 < 2 * i + 1 by omega)]
      simp
    · have hv : f (2 * i) = g0 i := by have := W0.no hi; rwa [Int.add_zero] at this
      have bi := B0 i
      rw [if_neg (by rw [hv, hy]; omega)]
      congr 1
      unfold nxtT withT lkA
      rw [hp]
      have c0 : (2 * h0 < 2 * i) = (2 * h0 < 2 * i + 1) := propext ⟨fun h => by omega, fun h => by omega⟩
      have c1 : (2 * h1 + 1 < 2 * i) = (2 * h1 + 1 < 2 * i + 1) := propext ⟨fun h => by omega, fun h => by omega⟩
      simp only [c0, c1]
      congr 1
      omega
  · obtain ⟨i, rfl⟩ : ∃ i, pos = 2 * i + 1 := ⟨pos / 2, by omega⟩
    have et : (lkA q g0 g1 h0 h1 (2 * i + 1)).t = 1 := e
    rw [et]
    by_cases hi : i = h1
    · subst hi
      have hv : f (2 * i + 1) = g1 i + 2 := W1.mark
      have e0 : (lkA q g0 g1 h0 i (2 * i + 1)) = ⟨0, q, 1, 0, 0, 0, 0, 0⟩ := by
        unfold lkA
        rw [e, if_neg (by omega), if_neg (by omega)]
      rw [e0, if_pos (by rw [hv, hy]; exact ⟨by omega, rfl⟩)]
      have e1 : seenP m ⟨0, q, 1, 0, 0, 0, 0, 0⟩ (f (2 * i + 1)) = lkA q g0 g1 h0 i (2 * i + 1 + 1) := by
        unfold seenP nxtT withT withF lkA
        rw [hp, hy, hv, if_neg (show ¬ 2 * h0 < 2 * i + 1 + 1 by omega), if_pos (show 2 * i + 1 < 2 * i + 1 + 1 by omega)]
        simp
        omega
      rw [e1, if_pos]
      unfold lacksB lkA
      rw [if_neg (show ¬ 2 * h0 < 2 * i + 1 + 1 by omega)]
      simp
    · have hv : f (2 * i + 1) = g1 i := W1.no hi
      have bi := B1 i
      rw [if_neg (by rw [hv, hy]; omega)]
      congr 1
      unfold nxtT withT lkA
      rw [hp]
      have c0 : (2 * h0 < 2 * i + 1) = (2 * h0 < 2 * i + 1 + 1) := propext ⟨fun h => by omega, fun h => by omega⟩
      have c1 : (2 * h1 + 1 < 2 * i + 1) = (2 * h1 + 1 < 2 * i + 1 + 1) := propext ⟨fun h => by omega, fun h => by omega⟩
      simp only [c0, c1]
      congr 1
      omega
/-- The last marked cell. -/
theorem look_last {m : MultiD} (hp : m.tp = 2) (hy : m.sy = 2) {q : Int} {f g0 g1 : Int → Int} {h0 h1 pos : Int} (W0 : WvT f 0 g0 h0) (W1 : WvT f 1 g1 h1) (B0 : Bin g0) (B1 : Bin g1) {t : Int}
    (h : (t = 0 ∧ pos = 2 * h0 ∧ h1 < h0) ∨ (t = 1 ∧ pos = 2 * h1 + 1 ∧ h0 ≤ h1)) :
    actW m (lkA q g0 g1 h0 h1 pos) (f pos) = ruleP m t (findM m.rules (q, g0 h0, g1 h1, 0) m.rules.length) := by
  rw [act_look rfl]
  unfold lkP
  have b0 := B0 h0
  have b1 := B1 h1
  rcases h with ⟨rfl, rfl, hlt⟩ | ⟨rfl, rfl, hle⟩
  · have hv : f (2 * h0) = g0 h0 + 2 := by have := W0.mark; rwa [Int.add_zero] at this
    have e0 : (lkA q g0 g1 h0 h1 (2 * h0)) = ⟨0, q, 0, 0, 0, g1 h1 + 1, 0, 0⟩ := by
      unfold lkA
      rw [if_neg (by omega), if_pos (by omega), show 2 * h0 % 2 = 0 by omega]
    have e1 : seenP m ⟨0, q, 0, 0, 0, g1 h1 + 1, 0, 0⟩ (f (2 * h0)) = ⟨0, q, 1, 0, g0 h0 + 1, g1 h1 + 1, 0, 0⟩ := by
      unfold seenP nxtT withT withF
      rw [hp, hy, hv]
      simp
    rw [e0, if_pos (by rw [hv, hy]; exact ⟨by omega, rfl⟩), e1, if_neg]
    · unfold symsP
      rw [hp]
      simp
    · unfold lacksB
      rw [hp]
      simp
      omega
  · have hv : f (2 * h1 + 1) = g1 h1 + 2 := W1.mark
    have e0 : (lkA q g0 g1 h0 h1 (2 * h1 + 1)) = ⟨0, q, 1, 0, g0 h0 + 1, 0, 0, 0⟩ := by
      unfold lkA
      rw [if_pos (by omega), if_neg (by omega), show (2 * h1 + 1) % 2 = 1 by omega]
    have e1 : seenP m ⟨0, q, 1, 0, g0 h0 + 1, 0, 0, 0⟩ (f (2 * h1 + 1)) = ⟨0, q, 0, 0, g0 h0 + 1, g1 h1 + 1, 0, 0⟩ := by
      unfold seenP nxtT withT withF
      rw [hp, hy, hv]
      simp
    rw [e0, if_pos (by rw [hv, hy]; exact ⟨by omega, rfl⟩), e1, if_neg]
    · unfold symsP
      rw [hp]
      simp
    · unfold lacksB
      rw [hp]
      simp
      omega
theorem Rch.look {m : MultiD} (hm : multiOk m = true) (hp : m.tp = 2) (hy : m.sy = 2) {s : List MP × List RuleD} (hs : weaveB m = some s) {x0 : ConfD} {lo hi : Int} {T : Nat} {f g0 g1 : Int → Int} {q h0 h1 b : Int}
    (H : Rch m s x0 lo hi T (lookP q) f (2 * b)) (W0 : WvT f 0 g0 h0) (W1 : WvT f 1 g1 h1) (B0 : Bin g0) (B1 : Bin g1) (hb0 : b ≤ h0) (hb1 : b ≤ h1) (h1' : lo ≤ 2 * b) (h2 : 2 * h0 ≤ hi ∧ 2 * h1 + 1 ≤ hi) (hb : hi ≤ lo + 190) :
    ∀ n : Nat, (2 * b + n ≤ 2 * h0 ∨ 2 * b + n ≤ 2 * h1 + 1) → Rch m s x0 lo hi (T + n) (lkA q g0 g1 h0 h1 (2 * b + n)) f (2 * b + n) := by
  intro n
  induction n with
  | zero =>
    intro _
    have e : lkA q g0 g1 h0 h1 (2 * b + (0 : Nat)) = lookP q := by
      unfold lkA lookP
      rw [if_neg (by omega), if_neg (by omega), show (2 * b + ((0 : Nat) : Int)) % 2 = 0 by omega]
    rw [e, show 2 * b + ((0 : Nat) : Int) = 2 * b by omega]
    exact H
  | succ n ih =>
    intro hn
    have h := ih (by omega)
    have := h.pass hm hs (look_step hp hy W0 W1 B0 B1 (by omega)) (.inl rfl) (by omega) (by omega) (by omega) (by omega) hb
    rw [show 2 * b + ((n + 1 : Nat) : Int) = 2 * b + (n : Int) + 1 by omega]
    exact this
theorem act_sweep {m : MultiD} (hp : m.tp = 2) (hy : m.sy = 2) {i d v x : Int} (hx : v < 2 ∨ hasB d (x % 2) = true) : actW m ⟨3, i, x % 2, 0, 0, 0, 0, d⟩ v = ⟨v, -1, ⟨3, i, (x - 1) % 2, 0, 0, 0, 0, d⟩, false⟩ := by
  have e : actW m ⟨3, i, x % 2, 0, 0, 0, 0, d⟩ v = if m.sy ≤ v ∧ hasB d (x % 2) = false then putP m i (x % 2) d else ⟨v, -1, ⟨3, i, befT m.tp (x % 2), 0, 0, 0, 0, d⟩, false⟩ := rfl
  have hno : ¬ (m.sy ≤ v ∧ hasB d (x % 2) = false) := by
    rw [hy]
    intro ⟨a, b⟩
    rcases hx with hx | hx
    · omega
    · rw [hx] at b; cases b
  rw [e, if_neg hno]
  have e2 : befT m.tp (x % 2) = (x - 1) % 2 := by unfold befT; rw [hp]; omega
  rw [e2]
theorem hasB_own {t : Int} (ht : t = 0 ∨ t = 1) : hasB (t + 1) t = true := by rcases ht with rfl | rfl <;> rfl
theorem hasB_not {t : Int} (ht : t = 0 ∨ t = 1) : hasB (t + 1) (1 - t) = false := by rcases ht with rfl | rfl <;> rfl
theorem Rch.sweep {m : MultiD} (hm : multiOk m = true) (hp : m.tp = 2) (hy : m.sy = 2) {s : List MP × List RuleD} (hs : weaveB m = some s) {x0 : ConfD} {lo hi : Int} {T : Nat} {f g' : Int → Int} {t i h h' : Int} (ht : t = 0 ∨ t = 1)
    (H : Rch m s x0 lo hi T ⟨3, i, 1 - t, 0, 0, 0, 0, t + 1⟩ f (2 * h + t - 1)) (W' : WvT f (1 - t) g' h') (B' : Bin g') (h1 : lo ≤ 2 * h' - 4) (h2 : 2 * h + t ≤ hi) (hb : hi ≤ lo + 190) :
    ∀ n : Nat, 2 * h' + (1 - t) ≤ 2 * h + t - 1 - n → Rch m s x0 lo hi (T + n) ⟨3, i, (2 * h + t - 1 - n) % 2, 0, 0, 0, 0, t + 1⟩ f (2 * h + t - 1 - n) := by
  intro n
  induction n with
  | zero =>
    intro _
    rw [show 2 * h + t - 1 - ((0 : Nat) : Int) = 2 * h + t - 1 by omega, show (2 * h + t - 1) % 2 = 1 - t by omega]
    exact H
  | succ n ih =>
    intro hn
    have hh := ih (by omega)
    have ha : f (2 * h + t - 1 - n) < 2 ∨ hasB (t + 1) ((2 * h + t - 1 - n) % 2) = true := by
      rcases (show (2 * h + t - 1 - n) % 2 = t ∨ (2 * h + t - 1 - n) % 2 = 1 - t by omega) with e | e
      · right; rw [e]; exact hasB_own ht
      · left
        have e2 : 2 * h + t - 1 - n = 2 * ((2 * h + t - 1 - n) / 2) + (1 - t) := by omega
        rw [e2, W'.no (by omega)]
        have := B' ((2 * h + t - 1 - n) / 2)
        omega
    have := hh.pass hm hs (act_sweep hp hy ha) (.inr rfl) (by omega) (by omega) (by omega) (by omega) hb
    rw [show 2 * h + t - 1 - ((n + 1 : Nat) : Int) = 2 * h + t - 1 - (n : Int) - 1 by omega]
    exact this
theorem act_put {m : MultiD} (hy : m.sy = 2) {i d v t : Int} (hv : 2 ≤ v) (hd : hasB d t = false) : actW m ⟨3, i, t, 0, 0, 0, 0, d⟩ v = putP m i t d := by
  have e : actW m ⟨3, i, t, 0, 0, 0, 0, d⟩ v = if m.sy ≤ v ∧ hasB d t = false then putP m i t d else ⟨v, -1, ⟨3, i, befT m.tp t, 0, 0, 0, 0, d⟩, false⟩ := rfl
  rw [e, if_pos ⟨by omega, hd⟩]
theorem aftP_more {m : MultiD} (hp : m.tp = 2) {i t : Int} (ht : t = 0 ∨ t = 1) : aftP m i t (orB 0 t) = ⟨3, i, 1 - t, 0, 0, 0, 0, t + 1⟩ := by
  unfold aftP befT
  rw [hp]
  rcases ht with rfl | rfl <;> rfl
theorem aftP_all {m : MultiD} (hp : m.tp = 2) {i t : Int} (ht : t = 0 ∨ t = 1) : aftP m i t (orB (1 - t + 1) t) = ⟨4, (mrAt m i).nx, 0, t + 1, 0, 0, 0, 0⟩ := by
  unfold aftP
  rw [hp]
  rcases ht with rfl | rfl <;> rfl
theorem act_leave {m : MultiD} {q c v : Int} : actW m ⟨4, q, 0, c, 0, 0, 0, 0⟩ v = ⟨v, -1, leaveP q (c - 1), false⟩ := rfl
theorem Rch.leave {m : MultiD} (hm : multiOk m = true) {s : List MP × List RuleD} (hs : weaveB m = some s) {x0 : ConfD} {lo hi : Int} {T : Nat} {f : Int → Int} {t q h : Int} (ht : t = 0 ∨ t = 1)
    (H : Rch m s x0 lo hi T ⟨4, q, 0, t + 1, 0, 0, 0, 0⟩ f (2 * h + t - 1)) (h1 : lo ≤ 2 * h - 4) (h2 : 2 * h + t ≤ hi) (hb : hi ≤ lo + 190) :
    ∃ k, 1 ≤ k ∧ k ≤ 2 ∧ Rch m s x0 lo hi (T + k) (lookP q) f (2 * (h - 1)) := by
  rcases ht with rfl | rfl
  · have := H.pass hm hs (p' := lookP q) act_leave (.inr rfl) (by omega) (by omega) (by omega) (by omega) hb
    rw [show 2 * h + 0 - 1 + -1 = 2 * (h - 1) by omega] at this
    exact ⟨1, by omega, by omega, this⟩
  · have h3 := H.pass hm hs (p' := ⟨4, q, 0, 1, 0, 0, 0, 0⟩) act_leave (.inr rfl) (by omega) (by omega) (by omega) (by omega) hb
    have := h3.pass hm hs (p' := lookP q) act_leave (.inr rfl) (by omega) (by omega) (by omega) (by omega) hb
    rw [show 2 * h + 1 - 1 + -1 + -1 = 2 * (h - 1) by omega] at this
    exact ⟨2, by omega, by omega, this⟩
/-- From the last marked cell, that of the tape t, to the beginning of the next step. -/
theorem Rch.rest {m : MultiD} (hm : multiOk m = true) (hp : m.tp = 2) (hy : m.sy = 2) {s : List MP × List RuleD} (hs : weaveB m = some s) {x0 : ConfD} {lo hi : Int} {T : Nat} {p : MP} {f g g' : Int → Int} {t h h' i : Int} (ht : t = 0 ∨ t = 1)
    (H : Rch m s x0 lo hi T p f (2 * h + t)) (W : WvT f t g h) (W' : WvT f (1 - t) g' h') (B : Bin g) (B' : Bin g') (i0 : 0 ≤ i) (i1 : i < m.rules.length) (ha : actW m p (f (2 * h + t)) = putP m i t 0)
    (hlt : 2 * h' + (1 - t) < 2 * h + t) (h1 : lo ≤ 2 * h' - 4) (h2 : 2 * h + t + 4 ≤ hi) (hb : hi ≤ lo + 190) :
    ∃ f2 k, Rch m s x0 lo hi (T + k) (lookP (mrAt m i).nx) f2 (2 * (h' - 1)) ∧ WvT f2 t (updF g h (wrM m i t)) (h + mvM m i t) ∧ WvT f2 (1 - t) (updF g' h' (wrM m i (1 - t))) (h' + mvM m i (1 - t)) ∧
      3 ≤ k ∧ (k : Int) ≤ (2 * h + t) - (2 * h' + (1 - t)) + 12 ∧ (k < 7 → mvM m i t = 0 ∧ mvM m i (1 - t) = 0) := by
  have ht' : 1 - t = 0 ∨ 1 - t = 1 := by omega
  have htt : 1 - (1 - t) = t := by omega
  obtain ⟨f1, k1, H1, V1, V1', hk1⟩ := H.put hm hp hy hs ht W W' B i0 i1 ha (by omega) (by omega) hb
  rw [aftP_more hp ht] at H1
  obtain ⟨n, hn⟩ : ∃ n : Nat, 2 * h + t - 1 - (n : Int) = 2 * h' + (1 - t) := ⟨(2 * h + t - 1 - (2 * h' + (1 - t))).toNat, by omega⟩
  have H2 := H1.sweep hm hp hy hs ht V1' B' h1 (by omega) hb n (by omega)
  rw [hn, show (2 * h' + (1 - t)) % 2 = 1 - t by omega] at H2
  have hmk : f1 (2 * h' + (1 - t)) = g' h' + 2 := V1'.mark
  have hB := B' h'
  obtain ⟨f2, k2, H3, V2, V2', hk2⟩ := H2.put hm hp hy hs ht' V1' (by rw [htt]; exact V1) B' i0 i1 (act_put hy (by omega) (hasB_not ht)) (by omega) (by omega) hb
  rw [show t + 1 = 1 - (1 - t) + 1 by omega, aftP_all hp ht'] at H3
  obtain ⟨k3, a3, b3, H4⟩ := H3.leave hm hs ht' (by omega) (by omega) hb
  rw [htt] at V2'
  refine ⟨f2, k1 + n + k2 + k3, ?_, V2', V2, by omega, by omega, fun h => by omega⟩
  rw [show T + (k1 + n + k2 + k3) = T + k1 + n + k2 + k3 by omega]
  exact H4
end Go.Proofs.YtgeckhjkahnonaaGreatDoor
end
section
set_option linter.unusedSimpArgs false
set_option linter.unusedVariables false
namespace Go.Proofs.YtgeckhjkahnonaaGreatDoor
open Go Go.RowKit Go.Proofs
theorem tidy_trim (xs : List Int) : tidyL (trim xs) := by
  have h1 := trimN_le xs xs.length
  rcases trimN_end xs xs.length with h | h
  · left; unfold trim; rw [h]; rfl
  · cases hk : trimN xs xs.length with
    | zero => left; unfold trim; rw [hk]; rfl
    | succ k =>
      right
      rw [hk] at h h1
      have e : trim xs = xs.take (k + 1) := by unfold trim; rw [hk]
      have hl : (xs.take (k + 1)).length = k + 1 := by rw [List.length_take]; omega
      rw [e, List.getLastD_eq_getLast?, List.getLast?_eq_getElem?, hl]
      rw [show k + 1 - 1 = k by omega] at h ⊢
      rw [List.getElem?_take, if_pos (by omega), ← List.getD_eq_getElem?_getD]
      exact h
/-- The cells of a tape, and the place of its head. -/
structure TLn (x : TapeD) (g : Int → Int) (h : Int) : Prop where
  r : ∀ i : Nat, x.r.getD i 0 = g (h + i)
  l : ∀ i : Nat, x.l.getD i 0 = g (h - 1 - i)
  tr : tidyL x.r
  tl : tidyL x.l
theorem TLn.unique {x y : TapeD} {g : Int → Int} {h : Int} (H : TLn x g h) (H' : TLn y g h) : x = y := by
  have h1 := tidy_ext H.tl H'.tl (fun i => by rw [H.l, H'.l])
  have h2 := tidy_ext H.tr H'.tr (fun i => by rw [H.r, H'.r])
  cases x; cases y
  simp only at h1 h2
  rw [h1, h2]
theorem cons_succ (s : Int) (xs : List Int) (i : Nat) : (s :: xs).getD (i + 1) 0 = xs.getD i 0 := rfl
theorem TLn.head {x : TapeD} {g : Int → Int} {h : Int} (H : TLn x g h) : headT x = g h := by
  have := H.r 0
  unfold headT
  rw [this]
  congr 1
  omega
theorem TLn.write {x : TapeD} {g : Int → Int} {h s mv : Int} (H : TLn x g h) (hm : -1 ≤ mv ∧ mv ≤ 1) : TLn (writeT x s mv) (updF g h s) (h + mv) := by
  unfold writeT writeR
  by_cases c1 : mv = 1
  · rw [if_pos c1]
    subst c1
    refine ⟨fun i => ?_, fun i => ?_, tidy_trim _, tidy_trim _⟩
    · rw [trim_get, drop_getD, H.r, updF_other _ _ _ (by omega)]
      congr 1; omega
    · rw [trim_get]
      cases i with
      | zero => rw [show h + 1 - 1 - ((0 : Nat) : Int) = h by omega, updF_same]; rfl
      | succ i => rw [cons_succ, H.l, updF_other _ _ _ (by omega)]; congr 1; omega
  · rw [if_neg c1]
    by_cases c2 : mv = -1
    · rw [if_pos c2]
      subst c2
      refine ⟨fun i => ?_, fun i => ?_, tidy_trim _, tidy_trim _⟩
      · rw [trim_get]
        cases i with
        | zero =>
          show x.l.getD 0 0 = _
          rw [H.l, updF_other _ _ _ (by omega)]
          congr 1
        | succ i =>
          rw [cons_succ]
          cases i with
          | zero => rw [show h + -1 + ((0 + 1 : Nat) : Int) = h by omega, updF_same]; rfl
          | succ i => rw [cons_succ, drop_getD, H.r, updF_other _ _ _ (by omega)]; congr 1; omega
      · rw [trim_get, drop_getD, H.l, updF_other _ _ _ (by omega)]
        congr 1; omega
    · rw [if_neg c2]
      have : mv = 0 := by omega
      subst this
      rw [Int.add_zero]
      refine ⟨fun i => ?_, fun i => ?_, tidy_trim _, tidy_trim _⟩
      · rw [trim_get]
        cases i with
        | zero => rw [show h + ((0 : Nat) : Int) = h by omega, updF_same]; rfl
        | succ i => rw [cons_succ, drop_getD, H.r, updF_other _ _ _ (by omega)]
      · rw [trim_get, H.l, updF_other _ _ _ (by omega)]
/-- Each second number below n. -/
theorem ixT2 {F : Nat} (hF : F < 2) : ∀ n, ixT 2 F n = (List.range ((n + 1 - F) / 2)).map (fun k => 2 * k + F)
  | 0 => by
    have : (0 + 1 - F) / 2 = 0 := by omega
    rw [this]; rfl
  | n + 1 => by
    by_cases h : n % 2 = F
    · rw [ixT_hit h, ixT2 hF n, show (n + 1 + 1 - F) / 2 = (n + 1 - F) / 2 + 1 by omega, List.range_succ, List.map_append, List.map_singleton]
      congr 2
      omega
    · rw [ixT_miss h, ixT2 hF n, show (n + 1 + 1 - F) / 2 = (n + 1 - F) / 2 by omega]
theorem cells_ln {x : ConfD} {f : Int → Int} {pos : Int} (H : Ln x f pos) (i : Nat) : (cellsC x).getD i 0 = f (pos - x.l.length + i) := by
  unfold cellsC
  by_cases c : i < x.l.length
  · rw [List.getD_eq_getElem?_getD, List.getElem?_append_left (by rw [List.length_reverse]; exact c), List.getElem?_reverse c, ← List.getD_eq_getElem?_getD, H.l]
    congr 1; omega
  · rw [List.getD_eq_getElem?_getD, List.getElem?_append_right (by rw [List.length_reverse]; omega), ← List.getD_eq_getElem?_getD, List.length_reverse, H.r]
    congr 1; omega
theorem ln_off {x : ConfD} {f : Int → Int} {pos i : Int} (H : Ln x f pos) (h : i < pos - x.l.length ∨ pos + x.r.length ≤ i) : f i = 0 := by
  have hz : ∀ zs : List Int, ∀ i, zs.length ≤ i → zs.getD i 0 = 0 := fun zs i hi => by
    rw [List.getD_eq_getElem?_getD, List.getElem?_eq_none hi]; rfl
  rcases h with h | h
  · have := H.l (pos - 1 - i).toNat
    rw [hz _ _ (by omega)] at this
    rw [this]
    congr 1; omega
  · have := H.r (i - pos).toNat
    rw [hz _ _ (by omega)] at this
    rw [this]
    congr 1; omega
theorem dec_line {m : MultiD} (hp : m.tp = 2) (hy : m.sy = 2) {x : ConfD} {f g : Int → Int} {b t h : Int} (ht : t = 0 ∨ t = 1) (H : Ln x f (2 * b)) (W : WvT f t g h) (B : Bin g) : ∃ y, tapeDec m.sy (lineC m x 0 t) = some y ∧ TLn y g h := by
  have hF : frstC m.tp 0 t x.l.length < 2 := by
    have := frstC_lt (T := m.tp) (t0 := 0) (j := t) (by omega) x.l.length
    rw [hp] at this ⊢
    exact this
  obtain ⟨F, hFe⟩ : ∃ F, frstC m.tp 0 t x.l.length = F := ⟨_, rfl⟩
  have hFv : (F : Int) = (t - 0 + x.l.length) % 2 := by
    rw [← hFe]
    unfold frstC
    rw [hp, Int.toNat_of_nonneg (Int.emod_nonneg _ (by decide))]
  obtain ⟨n, hn⟩ : ∃ n, (cellsC x).length = n := ⟨_, rfl⟩
  have hnl : n = x.l.length + x.r.length := by rw [← hn]; simp [cellsC]
  obtain ⟨K, hK⟩ : ∃ K, (n + 1 - F) / 2 = K := ⟨_, rfl⟩
  rw [hFe] at hF
  have hline : lineC m x 0 t = (List.range K).map (fun k => (cellsC x).getD (2 * k + F) 0) := by
    unfold lineC lineT
    rw [hFe, hn, hp, show (2 : Int).toNat = 2 from rfl, ixT2 hF, hK, List.map_map]
    rfl
  obtain ⟨a, ha⟩ : ∃ a : Int, 2 * a + t = 2 * b - x.l.length + F := ⟨(2 * b - x.l.length + F - t) / 2, by omega⟩
  obtain ⟨L, hL⟩ : ∃ L, lineC m x 0 t = L := ⟨_, rfl⟩
  rw [hL] at hline ⊢
  have hlen : L.length = K := by rw [hline]; simp
  have hget : ∀ k : Nat, L.getD k 0 = f (2 * (a + k) + t) := fun k => by
    by_cases c : k < K
    · rw [hline, List.getD_eq_getElem?_getD, List.getElem?_map, List.getElem?_range c]
      show (cellsC x).getD (2 * k + F) 0 = _
      rw [cells_ln H]
      congr 1
      omega
    · rw [List.getD_eq_getElem?_getD, List.getElem?_eq_none (by omega)]
      exact (ln_off H (.inr (by omega))).symm
  have hge : ∀ k : Nat, (h2 : k < L.length) → L[k] = f (2 * (a + k) + t) := fun k h2 => by
    have := hget k
    rwa [List.getD_eq_getElem?_getD, List.getElem?_eq_getElem h2] at this
  have hmk := W.mark
  have hBh := B h
  have hin : 2 * b - x.l.length ≤ 2 * h + t ∧ 2 * h + t < 2 * b + x.r.length := by
    rcases Int.lt_or_le (2 * h + t) (2 * b - x.l.length) with c | c
    · have := ln_off H (.inl c); omega
    · rcases Int.lt_or_le (2 * h + t) (2 * b + x.r.length) with d | d
      · exact ⟨c, d⟩
      · have := ln_off H (.inr d); omega
  obtain ⟨kh, hkh⟩ : ∃ kh : Nat, (kh : Int) = h - a := ⟨(h - a).toNat, by omega⟩
  have hkK : kh < K := by omega
  have hidx : L.findIdx? (markB m.sy) = some kh := by
    refine List.findIdx?_eq_some_iff_getElem.2 ⟨by omega, ?_, fun j hj => ?_⟩
    · rw [hge kh (by omega), show a + (kh : Int) = h by omega, hmk]
      unfold markB
      rw [hy]
      exact decide_eq_true (by omega)
    · rw [hge j (by omega), W.no (by omega)]
      have := B (a + j)
      unfold markB
      rw [hy, decide_eq_false (by omega)]
      decide
  have hany : (L.drop (kh + 1)).any (markB m.sy) = false := by
    refine List.any_eq_false.2 fun z hz => ?_
    obtain ⟨j, hj, rfl⟩ := List.getElem_of_mem hz
    rw [List.getElem_drop, hge, W.no (by omega)]
    have := B (a + ((kh + 1 + j : Nat) : Int))
    unfold markB
    rw [hy, decide_eq_false (by omega)]
    decide
  refine ⟨⟨trim (L.take kh).reverse, trim ((L.getD kh 0 - m.sy) :: L.drop (kh + 1))⟩, ?_, ?_, ?_, tidy_trim _, tidy_trim _⟩
  · unfold tapeDec
    rw [hidx]
    simp only
    rw [if_neg (by rw [hany]; decide)]
  · intro i
    show (trim _).getD i 0 = _
    rw [trim_get]
    cases i with
    | zero =>
      show L.getD kh 0 - m.sy = _
      rw [hget, show a + (kh : Int) = h by omega, hmk, hy, show h + ((0 : Nat) : Int) = h by omega]
      omega
    | succ i =>
      have e : (L.drop (kh + 1)).getD i 0 = L.getD (kh + 1 + i) 0 := by
        rw [List.getD_eq_getElem?_getD, List.getD_eq_getElem?_getD, List.getElem?_drop]
      rw [cons_succ, e, hget, W.no (by omega)]
      congr 1
      omega
  · intro i
    show (trim _).getD i 0 = _
    rw [trim_get]
    have hlt : (L.take kh).length = kh := by rw [List.length_take]; omega
    by_cases c : i < kh
    · rw [List.getD_eq_getElem?_getD, List.getElem?_reverse (by omega), hlt, List.getElem?_take, if_pos (by omega), ← List.getD_eq_getElem?_getD, hget, W.no (by omega)]
      congr 1
      omega
    · rw [List.getD_eq_getElem?_getD, List.getElem?_eq_none (by rw [List.length_reverse]; omega)]
      have h0 := ln_off (i := 2 * (h - 1 - i) + t) H (.inl (by omega))
      rw [W.no (by omega)] at h0
      rw [h0]
      rfl
/-- The configuration that is decoded. -/
theorem dec_one {m : MultiD} (hp : m.tp = 2) (hy : m.sy = 2) {x : ConfD} {f g0 g1 : Int → Int} {q b h0 h1 : Int} {t0 t1 : TapeD} (H : Ln x f (2 * b)) (W0 : WvT f 0 g0 h0) (W1 : WvT f 1 g1 h1) (B0 : Bin g0) (B1 : Bin g1) (T0 : TLn t0 g0 h0) (T1 : TLn t1 g1 h1) :
    decOne m (lookP q) x = (⟨q, [t0, t1]⟩, 0) := by
  obtain ⟨y0, e0, u0⟩ := dec_line hp hy (.inl rfl) H W0 B0
  obtain ⟨y1, e1, u1⟩ := dec_line hp hy (.inr rfl) H W1 B1
  rw [u0.unique T0] at e0
  rw [u1.unique T1] at e1
  have e : decTapes m x 0 2 = some [t0, t1] := by
    unfold decTapes decTapes decTapes
    show (match (match some [], tapeDec m.sy (lineC m x 0 ((0 : Nat) : Int)) with | some l, some t => some (l ++ [t]) | _, _ => none), tapeDec m.sy (lineC m x 0 ((1 : Nat) : Int)) with | some l, some t => some (l ++ [t]) | _, _ => none) = _
    rw [show ((0 : Nat) : Int) = 0 from rfl, show ((1 : Nat) : Int) = 1 from rfl, e0, e1]
    rfl
  unfold decOne
  rw [if_pos (show (lookP q).k = 0 from rfl)]
  have e2 : decTapes m x (lookP q).t m.tp.toNat = some [t0, t1] := by rw [hp]; exact e
  rw [e2]
  rfl
end Go.Proofs.YtgeckhjkahnonaaGreatDoor
end
