/- The answer of both lists of nodes, as plain data. -/
import Derived.Test.YtdkdmcaehinkhaaDoorNodesS
namespace Go.Proofs.YtdkdmcaehinkhaaDoor
open Go Go.RowKit Go.Proofs
set_option maxHeartbeats 400000
/-- The rows, the flag and the code that are the answer. -/
def NodesAns (m : MachD) (n : Int) (xs : List (List Int)) (b : Bool) (c : Int) : Prop :=
  (machOk m = false ∧ xs = [] ∧ b = false ∧ c = 1) ∨ (machOk m = true ∧ inB n 1 9 = false ∧ xs = [] ∧ b = false ∧ c = 2) ∨
  (machOk m = true ∧ inB n 1 9 = true ∧ ∃ k, EndsS m n.toNat k ∧ ((2000 < (iterS m n.toNat k).1.length ∧ xs = [] ∧ b = false ∧ c = 5) ∨
    ((iterS m n.toNat k).1.length ≤ 2000 ∧ xs = (iterS m n.toNat k).1 ∧ b = (!(iterS m n.toNat k).2) ∧ c = 0)))
theorem NodesAns.unique {m : MachD} {n : Int} {xs xs' : List (List Int)} {b b' : Bool} {c c' : Int} (h : NodesAns m n xs b c) (h' : NodesAns m n xs' b' c') : xs = xs' ∧ b = b' ∧ c = c' := by
  rcases h with ⟨h1, rfl, rfl, rfl⟩ | ⟨h1, h2, rfl, rfl, rfl⟩ | ⟨h1, h2, k, hk, h3⟩ <;> rcases h' with ⟨g1, rfl, rfl, rfl⟩ | ⟨g1, g2, rfl, rfl, rfl⟩ | ⟨g1, g2, k', hk', g3⟩
  · exact ⟨rfl, rfl, rfl⟩
  · rw [h1] at g1; cases g1
  · rw [h1] at g1; cases g1
  · rw [h1] at g1; cases g1
  · exact ⟨rfl, rfl, rfl⟩
  · rw [h2] at g2; cases g2
  · rw [h1] at g1; cases g1
  · rw [h2] at g2; cases g2
  · have e := hk.unique hk'
    subst e
    rcases h3 with ⟨a1, rfl, rfl, rfl⟩ | ⟨a1, rfl, rfl, rfl⟩ <;> rcases g3 with ⟨b1, rfl, rfl, rfl⟩ | ⟨b1, rfl, rfl, rfl⟩
    · exact ⟨rfl, rfl, rfl⟩
    · omega
    · omega
    · exact ⟨rfl, rfl, rfl⟩
theorem tot_le (xss : List (List Int)) (c : Nat) (h : ∀ x ∈ xss, x.length ≤ c) : tot xss ≤ xss.length * c := by
  induction xss with
  | nil => simp [tot]
  | cons a l ih =>
    have h1 := h a List.mem_cons_self
    have h2 := ih fun x hx => h x (List.mem_cons_of_mem _ hx)
    simp only [tot, List.map_cons, List.sum_cons, List.length_cons, Nat.add_mul, Nat.one_mul] at *
    omega
theorem NodesAns.tot {m : MachD} {n : Int} {xs : List (List Int)} {b : Bool} {c : Int} (h : NodesAns m n xs b c) : tot xs ≤ 22000 := by
  rcases h with ⟨_, rfl, _⟩ | ⟨_, _, rfl, _⟩ | ⟨h1, h2, k, hk, h3⟩
  · simp [Proofs.YtdkdmcaehinkhaaDoor.tot]
  · simp [Proofs.YtdkdmcaehinkhaaDoor.tot]
  · rcases h3 with ⟨_, rfl, _⟩ | ⟨a1, rfl, _⟩
    · simp [Proofs.YtdkdmcaehinkhaaDoor.tot]
    · have hnn : 1 ≤ n ∧ n ≤ 9 := by simpa [inB] using h2
      have hok := iterS_ok (MOk.of h1) (n := n.toNat) (by omega) k (fun j hj => (hk.1 j hj).1)
      have := tot_le (iterS m n.toNat k).1 11 (fun x hx => by have := (hok x hx).len; omega)
      omega
theorem NodesRes.ans {w w' : World} {m : MachD} {n : Int} {e : Ending} (h : NodesRes w m n e w') :
    ∃ g xs b c, e = .returned (.tuple #[g, .bool b, .int .i64 c]) ∧ NodesAns m n xs b c ∧ OwnIntRows w.heap.size w' g xs ∧ Ext w w' := by
  obtain ⟨h, hx⟩ := h
  have hnil : OwnIntRows w.heap.size w' (.slice none 0 0) [] := ⟨[], ⟨by simp, .inl ⟨rfl, rfl⟩⟩, fun i hi => by simp at hi, fun i j u u' g hi => by simp at hi⟩
  rcases h with ⟨h1, rfl⟩ | ⟨h1, h2, rfl⟩ | ⟨h1, h2, k, hk, ⟨h3, rfl⟩ | ⟨h3, nv, rfl, ho⟩⟩
  · exact ⟨_, [], _, _, rfl, .inl ⟨h1, rfl, rfl, rfl⟩, hnil, hx⟩
  · exact ⟨_, [], _, _, rfl, .inr (.inl ⟨h1, h2, rfl, rfl, rfl⟩), hnil, hx⟩
  · exact ⟨_, [], _, _, rfl, .inr (.inr ⟨h1, h2, k, hk, .inl ⟨h3, rfl, rfl, rfl⟩⟩), hnil, hx⟩
  · exact ⟨_, _, _, _, rfl, .inr (.inr ⟨h1, h2, k, hk, .inr ⟨h3, rfl, rfl, rfl⟩⟩), ho, hx⟩
end Go.Proofs.YtdkdmcaehinkhaaDoor
