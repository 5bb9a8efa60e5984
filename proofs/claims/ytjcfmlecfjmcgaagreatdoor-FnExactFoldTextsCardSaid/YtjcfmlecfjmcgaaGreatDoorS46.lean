/- Contract of the reference's FoldTexts.
Words for a configuration in a block that has been made, with a code. No condition. -/
import Derived.Test.YtjcfmlecfjmcgaaGreatDoorS41
import Derived.Test.YtjcfmlecfjmcgaaGreatDoorS43
import Derived.Test.YtjcfmlecfjmcgaaGreatDoorS45
import Derived.Test.YtjcfmlecfjmcgaaGreatDoorS38
import Derived.Test.YtjcfmlecfjmcgaaGreatDoorS14
section
set_option linter.unusedSimpArgs false
set_option linter.unusedVariables false
namespace Go.Proofs.YtjcfmlecfjmcgaaGreatDoor
open Go Go.RowKit Go.Proofs
set_option maxHeartbeats 400000
theorem l19Steps_c (n : Int) (w : World) : Calls Tryz.prog 42 #[.int .i64 n] w fun e w' => e = .returned (.bool (inB n 0 599)) ∧ w = w' := by
  have hI := l00In_c n 0 599 w
  generalize inB n 0 599 = b at *
  go_enter Tryz.func42, Tryz.ntmps42
  go_wp2_with fail
  refine hI.mono ?_
  rintro e w' ⟨rfl, rfl⟩
  go_wp2
  go_ret
  exact ⟨rfl, rfl⟩
set_option maxRecDepth 20000 in
theorem l19Ask_c (b bc : Nat) (m : MachD) (c : ConfD) (n : Int) (w : World) (hM : MachAt w b m) (hC : ConfP w bc c) :
    Calls Tryz.prog 19 #[.pointer (some ⟨b, 0, none⟩), .pointer (some ⟨bc, 0, none⟩), .int .i64 n] w fun e w' => e = .returned (.int .i64 (codeT (machOk m && confB m c) (inB n 0 599))) ∧ Ext w w' := by
  have hIs := l05Is_c b m w hM
  have hS := fun w => l19Steps_c n w
  obtain ⟨d, hd⟩ : ∃ d, inB n 0 599 = d := ⟨_, rfl⟩
  rw [hd] at hS ⊢
  clear hd
  obtain ⟨k, hk⟩ : ∃ k, codeT (machOk m && confB m c) d = k := ⟨_, rfl⟩
  rw [hk]
  have HK := Lib.hid hk
  clear hk
  have HM := Lib.hid hM
  obtain ⟨rv, p0, p1, p2, hr⟩ := hM
  cases hm : machOk m with
  | false =>
    rw [hm] at hIs HK
    rw [show codeT (false && confB m c) d = 1 from rfl] at HK
    rw [← HK.out]
    clear hm HK
    go_enter Tryz.func19, Tryz.ntmps19
    go_wp2_with fail
    refine hIs.mono ?_
    rintro e w1 ⟨rfl, hx1⟩
    go_wp2
    go_ret
    exact ⟨rfl, hx1⟩
  | true =>
    obtain ⟨s1, s2, s3, s4, hrl⟩ := machOk_all hm
    rw [hm] at hIs HK
    clear hm hrl
    have hGd := fun w1 (hx : Ext w w1) => l05Good_c b 0 bc m c w1 (hx.cell p0) (hx.cell p1) (hC.ext hx) (by omega) (by omega) (by omega) (by omega)
    cases hc : confB m c with
    | false =>
      rw [hc] at hGd HK
      rw [show codeT (true && false) d = 1 from rfl] at HK
      rw [← HK.out]
      clear hc HK
      go_enter Tryz.func19, Tryz.ntmps19
      go_wp2_with fail
      refine hIs.mono ?_
      rintro e w1 ⟨rfl, hx1⟩
      go_wp2_with fail
      refine (hGd w1 hx1).mono ?_
      rintro e w2 ⟨rfl, hx2⟩
      go_wp2
      go_ret
      exact ⟨rfl, hx1.trans hx2⟩
    | true =>
      rw [hc] at hGd HK
      clear hc
      cases d with
      | false =>
        rw [show codeT (true && true) false = 2 from rfl] at HK
        rw [← HK.out]
        clear HK
        go_enter Tryz.func19, Tryz.ntmps19
        go_wp2_with fail
        refine hIs.mono ?_
        rintro e w1 ⟨rfl, hx1⟩
        go_wp2_with fail
        refine (hGd w1 hx1).mono ?_
        rintro e w2 ⟨rfl, hx2⟩
        go_wp2_with fail
        refine (hS w2).mono ?_
        rintro e w3 ⟨rfl, rfl⟩
        go_wp2
        go_ret
        exact ⟨rfl, hx1.trans hx2⟩
      | true =>
        rw [show codeT (true && true) true = 0 from rfl] at HK
        rw [← HK.out]
        clear HK
        go_enter Tryz.func19, Tryz.ntmps19
        go_wp2_with fail
        refine hIs.mono ?_
        rintro e w1 ⟨rfl, hx1⟩
        go_wp2_with fail
        refine (hGd w1 hx1).mono ?_
        rintro e w2 ⟨rfl, hx2⟩
        go_wp2_with fail
        refine (hS w2).mono ?_
        rintro e w3 ⟨rfl, rfl⟩
        go_wp2
        go_ret
        exact ⟨rfl, hx1.trans hx2⟩
end Go.Proofs.YtjcfmlecfjmcgaaGreatDoor
end
section
set_option linter.unusedSimpArgs false
set_option linter.unusedVariables false
namespace Go.Proofs.YtjcfmlecfjmcgaaGreatDoor
open Go Go.RowKit Go.Proofs
/-- A configuration in a block that has been made, and its code. -/
def CutConf (w0 : World) (R : ConfD × Int) (s6 s7 : Value) (w : World) : Prop := ∃ g lv rv, s6 = .pointer (some ⟨g, 0, none⟩) ∧ s7 = .int .i64 R.2 ∧ Blk w g 37 #[.int .i64 R.1.q, lv, rv] ∧ Ext w0 w ∧ w0.heap.size ≤ g ∧ Ints w lv R.1.l ∧ Ints w rv R.1.r
abbrev zeroC : Obj := .cells #[.int .i64 0, .slice none 0 0, .slice none 0 0] 37
theorem CutConf.late {w0 wC : World} {R : ConfD × Int} {lv rv : Value} {base : Nat} (hx : Ext w0 wC) (h1 : OwnInts base wC lv R.1.l) (h2 : OwnInts base wC rv R.1.r) :
    CutConf w0 R (.pointer (some ⟨wC.heap.size, 0, none⟩)) (.int .i64 R.2) (wC.alloc (.cells #[.int .i64 R.1.q, lv, rv] 37)) :=
  ⟨_, lv, rv, rfl, rfl, Blk.new _ _ _ _ rfl, hx.trans (Ext.alloc _ _), hx.size, (h1.ext (Ext.alloc _ _)).ints, (h2.ext (Ext.alloc _ _)).ints⟩
theorem CutConf.early {w0 wC : World} {R : ConfD × Int} {lv rv : Value} {base g : Nat} (hx : Ext w0 wC) (h1 : OwnInts base wC lv R.1.l) (h2 : OwnInts base wC rv R.1.r) (hb : Blk wC g 37 #[.int .i64 0, .slice none 0 0, .slice none 0 0]) (hg : w0.heap.size ≤ g) :
    CutConf w0 R (.pointer (some ⟨g, 0, none⟩)) (.int .i64 R.2) (((wC.setCell ⟨g, 0, none⟩ (.int .i64 R.1.q)).setCell ⟨g, 1, none⟩ lv).setCell ⟨g, 2, none⟩ rv) := by
  have n1 : ∀ k, lv.ownBlock = some k → k ≠ g := fun k hk e => by
    subst e
    exact blk_ne_row hb h1 (by decide) hk.symm
  have n2 : ∀ k, rv.ownBlock = some k → k ≠ g := fun k hk e => by
    subst e
    exact blk_ne_row hb h2 (by decide) hk.symm
  exact ⟨g, lv, rv, rfl, rfl, ((hb.set_ 0 _).set_ 1 _).set_ 2 _, ((hx.setCell hg _).setCell hg _).setCell hg _, hg, (ints_far (ints_far (ints_far h1 n1 _) n1 _) n1 _).ints, (ints_far (ints_far (ints_far h2 n2 _) n2 _) n2 _).ints⟩
end Go.Proofs.YtjcfmlecfjmcgaaGreatDoor
end
