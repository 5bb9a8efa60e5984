/- Contract of the reference's list of the nodes that are found.
The answer of both lists of nodes, as plain data.
The search for the size of segments, in plain words, and the reference's. The machine is valid.
The reference's search for a proof by segments. No condition. -/
import Derived.Test.YtacpchapgklcgaaGreatDoorR32
import Derived.Test.YtacpchapgklcgaaGreatDoorR06
import Derived.Test.YtacpchapgklcgaaGreatDoorR22
section
namespace Go.Proofs.YtacpchapgklcgaaGreatDoor
open Go Go.RowKit Go.Proofs
set_option maxHeartbeats 400000
theorem ends_of_find {m : MachD} {n k : Nat} (h : FindEnds m n 2001 false k) : EndsS m n k := by
  obtain ⟨h1, h2⟩ := h
  refine ⟨fun j hj => ?_, fun hg => ?_⟩
  · obtain ⟨a, b⟩ := h1 j hj
    refine ⟨a, ?_⟩
    by_cases c : 2000 < (iterS m n j).1.length
    · exact absurd (.inr (.inl c)) b
    · omega
  · obtain ⟨g1, g2⟩ := hg
    rcases h2 with c | c
    · exact c g1
    · rcases c with ⟨_, c⟩ | c | c
      · cases c
      · omega
      · omega
end Go.Proofs.YtacpchapgklcgaaGreatDoor
namespace Go.Proofs.YtacpchapgklcgaaGreatDoor
open Go Go.RowKit Go.Proofs
set_option maxHeartbeats 400000
/-- The rows, the flag and the code that are the answer. -/
def NodesAns (m : MachD) (n : Int) (xs : List (List Int)) (b : Bool) (c : Int) : Prop :=
  (machOk m = false ∧ xs = [] ∧ b = false ∧ c = 1) ∨ (machOk m = true ∧ inB n 1 9 = false ∧ xs = [] ∧ b = false ∧ c = 2) ∨
  (machOk m = true ∧ inB n 1 9 = true ∧ ∃ k, EndsS m n.toNat k ∧ ((2000 < (iterS m n.toNat k).1.length ∧ xs = [] ∧ b = false ∧ c = 5) ∨
    ((iterS m n.toNat k).1.length ≤ 2000 ∧ xs = (iterS m n.toNat k).1 ∧ b = (!(iterS m n.toNat k).2) ∧ c = 0)))
theorem NodesAns.unique {m : MachD} {n : Int} {xs xs' : List (List Int)} {b b' : Bool} {c c' : Int} (h : NodesAns m n xs b c) (h' : NodesAns m n xs' b' c') : xs = xs' ∧ b = b' ∧ c = c' := by
  rcases h with ⟨h1, rfl, rfl, rfl⟩ | ⟨h1, h2, rfl, rfl, rfl⟩ | ⟨h1, h2, k, hk, h3⟩ <;> rcases h' with ⟨g1, rfl, rfl, rfl⟩ | ⟨g1, g2, rfl, rfl, rfl⟩ | ⟨g1, g2, k', hk', g3⟩
  · exact ⟨rfl, rfl, rfl⟩
  · rw [h1] at g1; cases g1
  · rw [h1] at g1; cases g1
  · rw [h1] at g1; cases g1
  · exact ⟨rfl, rfl, rfl⟩
  · rw [h2] at g2; cases g2
  · rw [h1] at g1; cases g1
  · rw [h2] at g2; cases g2
  · have e := hk.unique hk'
    subst e
    rcases h3 with ⟨a1, rfl, rfl, rfl⟩ | ⟨a1, rfl, rfl, rfl⟩ <;> rcases g3 with ⟨b1, rfl, rfl, rfl⟩ | ⟨b1, rfl, rfl, rfl⟩
    · exact ⟨rfl, rfl, rfl⟩
    · omega
    · omega
    · exact ⟨rfl, rfl, rfl⟩
theorem tot_le (xss : List (List Int)) (c : Nat) (h : ∀ x ∈ xss, x.length ≤ c) : tot xss ≤ xss.length * c := by
  induction xss with
  | nil => simp [tot]
  | cons a l ih =>
    have h1 := h a List.mem_cons_self
    have h2 := ih fun x hx => h x (List.mem_cons_of_mem _ hx)
    simp only [tot, List.map_cons, List.sum_cons, List.length_cons, Nat.add_mul, Nat.one_mul] at *
    omega
theorem NodesAns.tot {m : MachD} {n : Int} {xs : List (List Int)} {b : Bool} {c : Int} (h : NodesAns m n xs b c) : tot xs ≤ 22000 := by
  rcases h with ⟨_, rfl, _⟩ | ⟨_, _, rfl, _⟩ | ⟨h1, h2, k, hk, h3⟩
  · simp [Proofs.YtacpchapgklcgaaGreatDoor.tot]
  · simp [Proofs.YtacpchapgklcgaaGreatDoor.tot]
  · rcases h3 with ⟨_, rfl, _⟩ | ⟨a1, rfl, _⟩
    · simp [Proofs.YtacpchapgklcgaaGreatDoor.tot]
    · have hnn : 1 ≤ n ∧ n ≤ 9 := by simpa [inB] using h2
      have hok := iterS_ok (MOk.of h1) (n := n.toNat) (by omega) k (fun j hj => (hk.1 j hj).1)
      have := tot_le (iterS m n.toNat k).1 11 (fun x hx => by have := (hok x hx).len; omega)
      omega
theorem NodesRes.ans {w w' : World} {m : MachD} {n : Int} {e : Ending} (h : NodesRes w m n e w') :
    ∃ g xs b c, e = .returned (.tuple #[g, .bool b, .int .i64 c]) ∧ NodesAns m n xs b c ∧ OwnIntRows w.heap.size w' g xs ∧ Ext w w' := by
  obtain ⟨h, hx⟩ := h
  have hnil : OwnIntRows w.heap.size w' (.slice none 0 0) [] := ⟨[], ⟨by simp, .inl ⟨rfl, rfl⟩⟩, fun i hi => by simp at hi, fun i j u u' g hi => by simp at hi⟩
  rcases h with ⟨h1, rfl⟩ | ⟨h1, h2, rfl⟩ | ⟨h1, h2, k, hk, ⟨h3, rfl⟩ | ⟨h3, nv, rfl, ho⟩⟩
  · exact ⟨_, [], _, _, rfl, .inl ⟨h1, rfl, rfl, rfl⟩, hnil, hx⟩
  · exact ⟨_, [], _, _, rfl, .inr (.inl ⟨h1, h2, rfl, rfl, rfl⟩), hnil, hx⟩
  · exact ⟨_, [], _, _, rfl, .inr (.inr ⟨h1, h2, k, hk, .inl ⟨h3, rfl, rfl, rfl⟩⟩), hnil, hx⟩
  · exact ⟨_, _, _, _, rfl, .inr (.inr ⟨h1, h2, k, hk, .inr ⟨h3, rfl, rfl, rfl⟩⟩), ho, hx⟩
end Go.Proofs.YtacpchapgklcgaaGreatDoor
end
section
namespace Go.Proofs.YtacpchapgklcgaaGreatDoor
open Go Go.RowKit Go.Proofs
set_option maxHeartbeats 400000
theorem FindEnds.unique {m : MachD} {n : Nat} {b : Int} {ea : Bool} {k k' : Nat} (h : FindEnds m n b ea k) (h' : FindEnds m n b ea k') : k = k' := by
  rcases Nat.lt_trichotomy k k' with c | c | c
  · have := h'.1 k c
    rcases h.2 with d | d
    · exact absurd this.1 d
    · exact absurd d this.2
  · exact c
  · have := h.1 k' c
    rcases h'.2 with d | d
    · exact absurd this.1 d
    · exact absurd d this.2
theorem FindEnds.le {m : MachD} {n : Nat} {b : Int} {ea : Bool} {k : Nat} (h : FindEnds m n b ea k) (hb : 0 ≤ b) : (k : Int) ≤ b := by
  by_cases c : (k : Int) ≤ b
  · exact c
  · have := (h.1 b.toNat (by omega)).2
    exact absurd (.inr (.inr (by omega))) this
theorem iterS_mono (m : MachD) (n k : Nat) : (iterS m n k).1.length ≤ (iterS m n (k + 1)).1.length := (addAll_length _ _).1
theorem FindEnds.steps {m : MachD} {n : Nat} {b : Int} {ea : Bool} {k : Nat} (h : FindEnds m n b ea k) : (if k < (iterS m n k).1.length then (k : Int) else ((iterS m n k).1.length : Int)) = k := by
  split
  · rfl
  · rename_i hl
    cases k with
    | zero => omega
    | succ k =>
      have := (h.1 k (by omega)).1
      have := iterS_mono m n k
      omega
/-- A size is accepted after k steps; the budget is used up. -/
def accS (m : MachD) (n k : Nat) : Bool := !decide (k < (iterS m n k).1.length) && decide ((iterS m n k).1.length ≤ 2000) && !(iterS m n k).2
def fullS (m : MachD) (n k : Nat) (b : Int) : Bool := !(iterS m n k).2 && ((k : Int) == b) && decide ((iterS m n k).1.length ≤ 2000)
/-- The size and the code that the search for a size comes to, from a size on, with a budget. -/
def SizeAns (m : MachD) : Nat → Nat → Int → Int → Int → Prop
  | 0, _, _, s, c => s = 0 ∧ c = 3
  | t + 1, n, b, s, c => ∃ k, FindEnds m n b true k ∧ ((accS m n k = true ∧ s = n ∧ c = 0) ∨ (accS m n k = false ∧ fullS m n k b = true ∧ s = 0 ∧ c = 5) ∨ (accS m n k = false ∧ fullS m n k b = false ∧ SizeAns m t (n + 2) (b - k) s c))
theorem SizeAns.unique {m : MachD} : ∀ {t n : Nat} {b s c s' c' : Int}, SizeAns m t n b s c → SizeAns m t n b s' c' → s = s' ∧ c = c'
  | 0, _, _, _, _, _, _, h, h' => ⟨h.1.trans h'.1.symm, h.2.trans h'.2.symm⟩
  | t + 1, n, b, s, c, s', c', ⟨k, hk, h⟩, ⟨k', hk', h'⟩ => by
    obtain rfl := hk.unique hk'
    rcases h with ⟨h1, rfl, rfl⟩ | ⟨h1, h2, rfl, rfl⟩ | ⟨h1, h2, h3⟩ <;> rcases h' with ⟨g1, rfl, rfl⟩ | ⟨g1, g2, rfl, rfl⟩ | ⟨g1, g2, g3⟩
    all_goals first | exact ⟨rfl, rfl⟩ | exact SizeAns.unique h3 g3 | (exact absurd (h1.symm.trans g1) (by decide)) | (exact absurd (h2.symm.trans g2) (by decide))
end Go.Proofs.YtacpchapgklcgaaGreatDoor
end
section
namespace Go.Proofs.YtacpchapgklcgaaGreatDoor
open Go Go.RowKit Go.Proofs
set_option maxHeartbeats 400000
def noP : ProofD := ⟨0, [], []⟩
/-- The proof and the code that the search for a proof comes to. -/
def FsAns (m : MachD) (b : Int) (p : ProofD) (c : Int) : Prop :=
  (budC m b ≠ 0 ∧ p = noP ∧ c = budC m b) ∨ (budC m b = 0 ∧ ∃ s, SizeAns m 5 1 b s c ∧ p = if c = 0 then ⟨5, [s], []⟩ else noP)
theorem FsAns.unique {m : MachD} {b : Int} {p p' : ProofD} {c c' : Int} (h : FsAns m b p c) (h' : FsAns m b p' c') : p = p' ∧ c = c' := by
  rcases h with ⟨h1, rfl, rfl⟩ | ⟨h1, s, hs, rfl⟩ <;> rcases h' with ⟨g1, rfl, rfl⟩ | ⟨g1, s', hs', rfl⟩
  · exact ⟨rfl, rfl⟩
  · exact absurd g1 h1
  · exact absurd h1 g1
  · obtain ⟨rfl, rfl⟩ := hs.unique hs'
    exact ⟨rfl, rfl⟩
def FsRes (w : World) (m : MachD) (b : Int) (e : Ending) (w' : World) : Prop :=
  (∃ p c nv, e = .returned (.tuple #[.agg #[.int .i64 p.k, nv, .slice none 0 0], .int .i64 c]) ∧ FsAns m b p c ∧ p.ws = [] ∧ p.ns.length ≤ 1 ∧ OwnInts w.heap.size w' nv p.ns) ∧ Ext w w'
theorem own_nil (base : Nat) (w : World) : OwnInts base w (.slice none 0 0) [] := ⟨rfl, .inl ⟨rfl, rfl⟩⟩
theorem FsRes.no {w w' : World} {m : MachD} {b c : Int} (hx : Ext w w') (h : (budC m b ≠ 0 ∧ c = budC m b) ∨ (budC m b = 0 ∧ c ≠ 0 ∧ ∃ s, SizeAns m 5 1 b s c)) :
    FsRes w m b (.returned (.tuple #[.agg #[.int .i64 0, .slice none 0 0, .slice none 0 0], .int .i64 c])) w' := by
  refine ⟨⟨noP, c, .slice none 0 0, rfl, ?_, rfl, by simp [noP], own_nil _ _⟩, hx⟩
  rcases h with ⟨h1, rfl⟩ | ⟨h1, h2, s, hs⟩
  · exact .inl ⟨h1, rfl, rfl⟩
  · exact .inr ⟨h1, s, hs, by rw [if_neg h2]⟩
theorem FsRes.yes {w w' : World} {m : MachD} {b s : Int} {nv : Value} (hx : Ext w w') (h : budC m b = 0) (hs : SizeAns m 5 1 b s 0) (ho : OwnInts w.heap.size w' nv [s]) :
    FsRes w m b (.returned (.tuple #[.agg #[.int .i64 5, nv, .slice none 0 0], .int .i64 0])) w' :=
  ⟨⟨⟨5, [s], []⟩, 0, nv, rfl, .inr ⟨h, s, hs, by simp⟩, rfl, by simp, ho⟩, hx⟩
theorem store3 {w : World} {g : Nat} {t : TypeId} {a b c : Value} (h : Blk w g t #[a, b, c]) (x y z : Value) : Blk (((w.setCell ⟨g, 0, none⟩ x).setCell ⟨g, 1, none⟩ y).setCell ⟨g, 2, none⟩ z) g t #[x, y, z] := ((h.set_ 0 x).set_ 1 y).set_ 2 z
theorem own_one (w : World) (s : Int) {base g : Nat} (hb : base ≤ w.heap.size) (hg : w.heap.size = g) : OwnInts base (w.alloc (.cells #[.int .i64 s] 2)) (.slice (some ⟨g, 0, none⟩) 1 1) [s] := by
  subst hg
  refine ⟨by simp, .inr ⟨w.heap.size, 1, #[.int .i64 s], rfl, hb, heap_alloc_new w _, Nat.le_refl _, by unfold maxLen; simp, by simp, by simp [ivs]⟩⟩
end Go.Proofs.YtacpchapgklcgaaGreatDoor
end
