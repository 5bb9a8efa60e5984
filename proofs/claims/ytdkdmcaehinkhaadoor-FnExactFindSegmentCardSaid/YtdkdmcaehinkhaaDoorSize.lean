/- The search for the size of segments, in plain words, and the reference's. The machine is valid. -/
import Derived.Test.YtdkdmcaehinkhaaDoorConf
import Derived.Test.YtdkdmcaehinkhaaDoorAns
namespace Go.Proofs.YtdkdmcaehinkhaaDoor
open Go Go.RowKit Go.Proofs
set_option maxHeartbeats 400000
theorem FindEnds.unique {m : MachD} {n : Nat} {b : Int} {ea : Bool} {k k' : Nat} (h : FindEnds m n b ea k) (h' : FindEnds m n b ea k') : k = k' := by
  rcases Nat.lt_trichotomy k k' with c | c | c
  · have := h'.1 k c
    rcases h.2 with d | d
    · exact absurd this.1 d
    · exact absurd d this.2
  · exact c
  · have := h.1 k' c
    rcases h'.2 with d | d
    · exact absurd this.1 d
    · exact absurd d this.2
theorem FindEnds.le {m : MachD} {n : Nat} {b : Int} {ea : Bool} {k : Nat} (h : FindEnds m n b ea k) (hb : 0 ≤ b) : (k : Int) ≤ b := by
  by_cases c : (k : Int) ≤ b
  · exact c
  · have := (h.1 b.toNat (by omega)).2
    exact absurd (.inr (.inr (by omega))) this
theorem iterS_mono (m : MachD) (n k : Nat) : (iterS m n k).1.length ≤ (iterS m n (k + 1)).1.length := (addAll_length _ _).1
theorem FindEnds.steps {m : MachD} {n : Nat} {b : Int} {ea : Bool} {k : Nat} (h : FindEnds m n b ea k) : (if k < (iterS m n k).1.length then (k : Int) else ((iterS m n k).1.length : Int)) = k := by
  split
  · rfl
  · rename_i hl
    cases k with
    | zero => omega
    | succ k =>
      have := (h.1 k (by omega)).1
      have := iterS_mono m n k
      omega
/-- A size is accepted after k steps; the budget is used up. -/
def accS (m : MachD) (n k : Nat) : Bool := !decide (k < (iterS m n k).1.length) && decide ((iterS m n k).1.length ≤ 2000) && !(iterS m n k).2
def fullS (m : MachD) (n k : Nat) (b : Int) : Bool := !(iterS m n k).2 && ((k : Int) == b) && decide ((iterS m n k).1.length ≤ 2000)
/-- The size and the code that the search for a size comes to, from a size on, with a budget. -/
def SizeAns (m : MachD) : Nat → Nat → Int → Int → Int → Prop
  | 0, _, _, s, c => s = 0 ∧ c = 3
  | t + 1, n, b, s, c => ∃ k, FindEnds m n b true k ∧ ((accS m n k = true ∧ s = n ∧ c = 0) ∨ (accS m n k = false ∧ fullS m n k b = true ∧ s = 0 ∧ c = 5) ∨ (accS m n k = false ∧ fullS m n k b = false ∧ SizeAns m t (n + 2) (b - k) s c))
theorem SizeAns.unique {m : MachD} : ∀ {t n : Nat} {b s c s' c' : Int}, SizeAns m t n b s c → SizeAns m t n b s' c' → s = s' ∧ c = c'
  | 0, _, _, _, _, _, _, h, h' => ⟨h.1.trans h'.1.symm, h.2.trans h'.2.symm⟩
  | t + 1, n, b, s, c, s', c', ⟨k, hk, h⟩, ⟨k', hk', h'⟩ => by
    obtain rfl := hk.unique hk'
    rcases h with ⟨h1, rfl, rfl⟩ | ⟨h1, h2, rfl, rfl⟩ | ⟨h1, h2, h3⟩ <;> rcases h' with ⟨g1, rfl, rfl⟩ | ⟨g1, g2, rfl, rfl⟩ | ⟨g1, g2, g3⟩
    all_goals first | exact ⟨rfl, rfl⟩ | exact SizeAns.unique h3 g3 | (exact absurd (h1.symm.trans g1) (by decide)) | (exact absurd (h2.symm.trans g2) (by decide))
set_option maxRecDepth 20000 in
set_option maxHeartbeats 1000000 in
theorem l26Size_c (b : Nat) (m : MachD) (rv : Value) (bud : Int) (w : World) (hM : MachBlk w b m rv) (hr : Rules w rv m.rules) (hmk : MOk m) (h1 : 0 ≤ bud) (h2 : bud ≤ 20000) :
    Calls Tryd.prog 45 #[.pointer (some ⟨b, 0, none⟩), .int .i64 bud] w fun e w' => (∃ s c, e = .returned (.tuple #[.int .i64 s, .int .i64 c]) ∧ SizeAns m 5 1 bud s c) ∧ Ext w w' := by
  have HMK := Lib.hid hmk
  clear hmk
  go_enter Tryd.func45, Tryd.ntmps45
  go_wp2
  go_loopw [6, 7] (fun l z wr => ∃ (i : Nat) (lf : Int), i ≤ 5 ∧ z = .int .i64 (2 * i + 1) ∧ l = .int .i64 lf ∧ 0 ≤ lf ∧ lf ≤ bud ∧ (∀ s c, SizeAns m (5 - i) (2 * i + 1) lf s c → SizeAns m 5 1 bud s c) ∧ Ext w wr) (fun _ z _ => (11 - intOf z).toNat)
  case atStart => exact ⟨0, bud, by omega, rfl, rfl, h1, by omega, fun s c h => h, Ext.refl _⟩
  case round =>
    obtain ⟨i, lf, hi, rfl, rfl, hl0, hl1, hco, hX⟩ := hrel
    have HCO := Lib.hid hco
    clear hco
    by_cases hi5 : i < 5
    · obtain ⟨t, ht⟩ : ∃ t, 5 - i = t + 1 := ⟨4 - i, by omega⟩
      have HCO2 : Hid (∀ s c, SizeAns m (t + 1) (2 * i + 1) lf s c → SizeAns m 5 1 bud s c) := by unfold Hid; rw [← ht]; exact HCO.out
      have HTI : Hid (5 - (i + 1) = t) := by unfold Hid; omega
      have hz9 : decide (2 * (i : Int) + 1 ≤ 9) = true := by simp; omega
      have e1 : (2 * (i : Int) + 1) = ((2 * i + 1 : Nat) : Int) := by omega
      clear ht HCO
      rw [e1] at hz9 ⊢
      have n1 : 1 ≤ 2 * i + 1 := by omega
      have n2 : 2 * i + 1 ≤ 9 := by omega
      have HN : Hid (((2 * i + 1 : Nat) : Int) + 2 = 2 * ((i + 1 : Nat) : Int) + 1) := by unfold Hid; omega
      have HN2 : Hid (2 * (i + 1) + 1 = 2 * i + 1 + 2) := by unfold Hid; omega
      clear e1
      generalize 2 * i + 1 = n at *
      go_wp2_with fail
      refine (l26Find_c b m _ n lf true _ (Blk.ext hM hX) (hr.ext hX) HMK.out n1 n2).mono ?_
      rintro e w2 ⟨k, hend, ⟨u, rfl, ho⟩, hx2⟩
      have hle := hend.le hl0
      rw [hend.steps]
      have HE := Lib.hid hend
      have HAC : Hid (accS m n k = (!decide (k < (iterS m n k).1.length) && decide ((iterS m n k).1.length ≤ 2000) && !(iterS m n k).2)) := rfl
      have HFU : Hid (fullS m n k lf = (!(iterS m n k).2 && ((k : Int) == lf) && decide ((iterS m n k).1.length ≤ 2000))) := rfl
      obtain ⟨Au, cu, rfl, q1, q2⟩ := ho.rows.form
      generalize iterS m n k = s at *
      obtain ⟨al, hal⟩ : ∃ al, (!decide (k < s.1.length) && decide (s.1.length ≤ 2000)) = al := ⟨_, rfl⟩
      rw [hal] at HAC ⊢
      have hX2 := hX.trans hx2
      clear hend hal ho
      obtain ⟨pr, hpr⟩ : ∃ pr, (!s.2) = pr := ⟨_, rfl⟩
      rw [hpr] at HAC HFU ⊢
      clear hpr
      obtain ⟨kl, hkl⟩ : ∃ kl, ((k : Int) == lf) = kl := ⟨_, rfl⟩
      rw [hkl] at HFU
      have hdd : (2000 < s.1.length ∧ decide (s.1.length ≤ 2000) = false) ∨ (s.1.length ≤ 2000 ∧ decide (s.1.length ≤ 2000) = true) := by
        rcases Nat.lt_or_ge 2000 s.1.length with hd | hd
        · exact .inl ⟨hd, by simp; omega⟩
        · exact .inr ⟨hd, by simp [hd]⟩
      cases al <;> cases pr <;> cases kl <;> rcases hdd with ⟨hd, hdl⟩ | ⟨hd, hdl⟩
      all_goals
        rw [hdl] at HFU
        clear hdl
        have HEND := Lib.hid (fun (s' c' : Int) (h : accS m n k = false ∧ fullS m n k lf = false ∧ SizeAns m t (n + 2) (lf - k) s' c') => HCO2.out s' c' ⟨k, HE.out, .inr (.inr h)⟩)
        have HACC := Lib.hid (fun (h : accS m n k = true) => HCO2.out n 0 ⟨k, HE.out, .inl ⟨h, rfl, rfl⟩⟩)
        have HFUL := Lib.hid (fun (h : accS m n k = false) (h' : fullS m n k lf = true) => HCO2.out 0 5 ⟨k, HE.out, .inr (.inl ⟨h, h', rfl, rfl⟩)⟩)
        go_wp2
        first
          | (go_ret2; exact ⟨⟨_, _, rfl, HACC.out HAC.out⟩, hX2⟩)
          | (go_ret2; exact ⟨⟨_, _, rfl, HFUL.out HAC.out HFU.out⟩, hX2⟩)
          | (go_roundw
             · exact ⟨i + 1, lf - k, by omega, by rw [HN.out], rfl, by omega, by omega, fun s' c' h => HEND.out s' c' ⟨HAC.out, HFU.out, by rw [HTI.out, HN2.out] at h; exact h⟩, hX2⟩
             · simp [intOf]; omega)
    · have hie : i = 5 := by omega
      subst hie
      go_wp2
      go_ret2
      exact ⟨⟨_, _, rfl, HCO.out 0 3 ⟨rfl, rfl⟩⟩, hX⟩
end Go.Proofs.YtdkdmcaehinkhaaDoor
