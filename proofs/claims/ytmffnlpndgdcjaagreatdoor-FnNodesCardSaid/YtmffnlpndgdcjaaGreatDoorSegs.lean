/- Contracts of the program's search at its beginning, and of its list of the nodes. -/
import Derived.Test.YtmffnlpndgdcjaaGreatDoorFind
import Derived.Carry
namespace Go.Proofs.YtmffnlpndgdcjaaGreatDoor
open Go Go.RowKit Go.Proofs
set_option maxHeartbeats 400000
/-- The nodes at which a machine halts, of n cells. -/
def startsIn (m : MachD) (n : Nat) : List (List Int) := startsOf n (partsOf m.sy (freeTo m.rules m.rules.length))
theorem startsIn_length (m : MachD) (n : Nat) : (startsIn m n).length ≤ m.rules.length := by
  have := freeTo_length m.rules m.rules.length
  simp [startsIn, startsOf, partsOf]; omega
def SegsRes (w : World) (m : MachD) (rv : Value) (s : List (List Int) × Bool) (e : Ending) (w' : World) : Prop :=
  ∃ bs nv vs bm, e = .returned (.tuple #[.pointer (some ⟨bs, 0, none⟩), .bool (decide (s.1.length ≤ 2000))]) ∧ SegSt w.heap.size w' bs m rv s.1 s.2 nv vs bm ∧ Ext w w'
set_option maxHeartbeats 4000000 in
theorem segmentsOf_c (v : Value) (m : MachD) (n : Nat) (w : World) (rv : Value) (hv : v = .agg #[.int .i64 m.sy, .int .i64 m.st, rv]) (hr : Rules w rv m.rules) (hn : m.rules.length ≤ 6000) (h1 : 2 ≤ m.sy) (h2 : m.sy ≤ 6) (n1 : 1 ≤ n) (n2 : n ≤ 9)
    (hF : ∀ x ∈ startsIn m n, Fits x) (hT : Tab w) :
    Calls Tryz.prog 20 #[v, .int .i64 n] w (SegsRes w m rv (addAll ([], false) (startsIn m n))) := by
  subst hv
  obtain ⟨Ar, cr, rfl, h3, h3'⟩ := hr.form
  have HF := Lib.hid hF
  clear hF
  have hmm := @run_makeMap Tryz.prog
  go_enter Tryz.func20, Tryz.ntmps20
  go_wp2_with fail
  have HB : ∃ W, W = ((w.alloc (.cells #[.int .i64 m.sy, .int .i64 m.st, .slice Ar m.rules.length cr] 26)).alloc (.map #[] 0)).alloc (.cells #[.int .i64 m.sy, .int .i64 m.st, .slice Ar m.rules.length cr, .slice none 0 0, .map (some (w.heap.size + 1)), .bool false] 56) := ⟨_, rfl⟩
  obtain ⟨W, hW⟩ := HB
  have hX0 : Ext w W := by rw [hW]; exact ((Ext.alloc _ _).trans (Ext.alloc _ _)).trans (Ext.alloc _ _)
  have hsz : W.heap.size = w.heap.size + 3 := by rw [hW]; simp
  have bS : Blk W (w.heap.size + 2) 56 #[.int .i64 m.sy, .int .i64 m.st, .slice Ar m.rules.length cr, .slice none 0 0, .map (some (w.heap.size + 1)), .bool false] := by
    rw [hW]; exact Blk.new _ _ _ _ (by simp)
  have hSeen : Seen W (w.heap.size + 1) 0 (keysOf []) := by
    have e : keysOf [] = fun _ => false := by funext k; simp [keysOf]
    rw [e, hW]
    have := Seen.made (w.alloc (.cells #[.int .i64 m.sy, .int .i64 m.st, .slice Ar m.rules.length cr] 26))
    simp only [World.size_alloc] at this
    exact this.ext (Ext.alloc _ _)
  have hr0 := hr.ext hX0
  rw [← hW]
  clear hW
  refine (segmentStarts_c _ m n W ⟨_, rfl, hr0⟩ hn h1 h2 n1 n2).mono ?_
  rintro e w1 ⟨u, rfl, hu, hx1⟩
  obtain ⟨us, u1, u2, u3⟩ := hu
  have hX1 := hX0.trans hx1
  have inv : FindInv w.heap.size W.heap.size w1 (w.heap.size + 2) m (.slice Ar m.rules.length cr) u (startsIn m n) us 0 [] false (.slice none 0 0) [] (w.heap.size + 1) w1 :=
    ⟨⟨bS.ext hx1, ⟨by simp, .inl ⟨rfl, rfl⟩⟩, fun i hi => by simp at hi, fun i j u u' g hi => by simp at hi, hSeen.ext hx1, by omega, by omega⟩, u1, u2, fun i u g hi => by simp at hi, .inl rfl, Below.refl _ _⟩
  have hsl := startsIn_length m n
  go_wp2_with fail
  refine (find_c w.heap.size W.heap.size w1 (w.heap.size + 2) m _ u (startsIn m n) us [] false _ [] (w.heap.size + 1) inv (by omega) hx1.size u3 (fun x hx => by simp at hx) HF.out (by simp; omega) (hT.below hT.low hX1) hT.low).mono ?_
  rintro e w2 ⟨rfl, ⟨nv, vs, hst⟩, hb⟩
  generalize addAll ([], false) (startsIn m n) = s at *
  go_wp2
  go_ret2
  exact ⟨_, nv, vs, _, rfl, hst, Below.trans hX1 hb⟩
end Go.Proofs.YtmffnlpndgdcjaaGreatDoor
