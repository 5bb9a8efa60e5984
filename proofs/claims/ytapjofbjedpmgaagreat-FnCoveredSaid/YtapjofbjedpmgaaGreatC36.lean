/- The words that the search of a bouncer tries, and what is returned for them.
What a bouncer's proof for three records says; plain.
Contract: slices.DeleteFunc at records: what is left is some of the records that were there. -/
import Derived.Test.YtapjofbjedpmgaaGreatC35
import Derived.Test.YtapjofbjedpmgaaGreatC23
import Derived.Test.YtapjofbjedpmgaaGreatC33
import Derived.Test.YtapjofbjedpmgaaGreatC34
import Derived.Test.YtapjofbjedpmgaaGreatC03
import Derived.Test.YtapjofbjedpmgaaGreatC11
import Derived.Test.YtapjofbjedpmgaaGreatC30
import Derived.Test.YtapjofbjedpmgaaGreatC14
import Derived.Lib.SliceRun
import Derived.Lib.SlBuf
section
set_option linter.unusedSimpArgs false
set_option linter.unusedVariables false
namespace Go.Proofs.YtapjofbjedpmgaaGreat
open Go Go.RowKit Go.Proofs
set_option maxHeartbeats 400000
theorem OwnLists.base {b b' : Nat} {w : World} {v : Value} {xss : List (List Int)} (h : OwnLists b w v xss) (hb : b' ≤ b) : OwnLists b' w v xss := by
  obtain ⟨vs, x, y⟩ := h
  exact ⟨vs, ownsRow_base x hb, fun i hi => by obtain ⟨u, c, d⟩ := y i hi; exact ⟨u, c, ownsRow_base d hb⟩⟩
theorem OwnFo.ext {b : Nat} {w w' : World} {v : Value} {f : FoD} (h : OwnFo b w v f) (he : Ext w w') : OwnFo b w' v f := by
  obtain ⟨wv, rv, ov, e, x, y, z⟩ := h
  exact ⟨wv, rv, ov, e, x.ext he, y.ext he, ownsRow_ext z he⟩
theorem OwnFo.base {b b' : Nat} {w : World} {v : Value} {f : FoD} (h : OwnFo b w v f) (hb : b' ≤ b) : OwnFo b' w v f := by
  obtain ⟨wv, rv, ov, e, x, y, z⟩ := h
  exact ⟨wv, rv, ov, e, x.base hb, y.base hb, ownsRow_base z hb⟩
/-- What words are tried. -/
structure Tried (a b : List Int) (ps : List (List Int)) : Prop where
  ln : ps.length = 3 ∨ ps.length = 5
  wl : ∀ x ∈ ps, x.length ≤ 48 ∧ ∀ z ∈ x, z ∈ a ∨ z ∈ b
  rl : ∀ x ∈ ods ps, 1 ≤ x.length ∧ x.length ≤ 8
  lst : 1 ≤ ((evs ps).getD ((evs ps).length - 1) []).length
theorem Tried.ok {a b : List Int} {ps : List (List Int)} {m : MachD} {q : Int} (h : Tried a b ps) (hq : 0 ≤ q ∧ q < m.st) (ha : ∀ z ∈ a, 0 ≤ z ∧ z < m.sy) (hb : ∀ z ∈ b, 0 ≤ z ∧ z < m.sy) : foOk m (bncF q ps) = true ∧ 0 ≤ (bncF q ps).at_ ∧ (bncF q ps).at_ < ((bncF q ps).ws.getD (bncF q ps).hd.toNat []).length := by
  have h1 := h.ln
  have h2 := evs_len ps
  have h3 := ods_len ps
  have hz : ∀ x ∈ ps, ∀ z ∈ x, 0 ≤ z ∧ z < m.sy := fun x hx z hz => ((h.wl x hx).2 z hz).elim (ha z) (hb z)
  have hw : (bncF q ps).ws.getD (bncF q ps).hd.toNat [] = (evs ps).getD ((evs ps).length - 1) [] := by
    show (evs ps).getD (((evs ps).length : Int) - 1).toNat [] = _
    congr 1
    omega
  have hat : (bncF q ps).at_ = (((evs ps).getD ((evs ps).length - 1) []).length : Int) - 1 := rfl
  have hl := h.lst
  have hr : 0 ≤ (bncF q ps).at_ ∧ (bncF q ps).at_ < ((bncF q ps).ws.getD (bncF q ps).hd.toNat []).length := by
    rw [hw, hat]
    omega
  refine ⟨foOk_of ⟨hq, ?_, ?_, ?_, fun x hx => ?_, fun x hx => ?_, fun o ho => ?_, ?_⟩ ?_, hr⟩
  · show 1 ≤ (ods ps).length ∧ (ods ps).length ≤ 3
    omega
  · show (evs ps).length = (ods ps).length + 1
    omega
  · show (List.replicate (ods ps).length (0 : Int)).length = (ods ps).length
    simp
  · have hx : x ∈ ps := evs_mem hx
    exact ⟨by have := (h.wl x hx).1; omega, hz x hx⟩
  · have hx' : x ∈ ods ps := hx
    exact ⟨(h.rl x hx').1, by have := (h.rl x hx').2; omega, hz x (ods_mem hx')⟩
  · have ho : o ∈ List.replicate (ods ps).length (0 : Int) := ho
    rw [List.eq_of_mem_replicate ho]
    omega
  · show 0 ≤ ((evs ps).length : Int) - 1 ∧ ((evs ps).length : Int) - 1 ≤ (ods ps).length
    omega
  · unfold atOk
    simp only [Bool.or_eq_true]
    exact .inl (.inl (inB_iff.2 (by omega)))
/-- A part of a slice. -/
theorem Ints.part {w : World} {b off c : Nat} {zs : List Int} (h : Ints w (.slice (some ⟨b, off, none⟩) zs.length c) zs) (i k : Nat) (hk : i + k ≤ zs.length) : Ints w (.slice (some ⟨b, off + i, none⟩) k (c - i)) ((zs.drop i).take k) := by
  have h1 := h.drop i (by omega)
  have e : (zs.drop i).length = zs.length - i := by rw [List.length_drop]
  rw [← e] at h1
  exact h1.take k (by rw [e]; omega)
end Go.Proofs.YtapjofbjedpmgaaGreat
end
section
set_option linter.unusedSimpArgs false
set_option linter.unusedVariables false
namespace Go.Proofs.YtapjofbjedpmgaaGreat
open Go Go.RowKit Go.Proofs
set_option maxHeartbeats 400000
theorem Tried.words {a b : List Int} {ps : List (List Int)} {m : MachD} (hm : machOk m = true) (h : Tried a b ps) (ha : ∀ z ∈ a, 0 ≤ z ∧ z < m.sy) (hb : ∀ z ∈ b, 0 ≤ z ∧ z < m.sy) : ps.all wordB = true := by
  obtain ⟨_, h6, _, _⟩ := machOk_bounds hm
  refine List.all_eq_true.2 fun x hx => ?_
  obtain ⟨h1, h2⟩ := h.wl x hx
  unfold wordB
  rw [Bool.and_eq_true]
  refine ⟨decide_eq_true (by omega), List.all_eq_true.2 fun z hz => inB_iff.2 ?_⟩
  have := (h2 z hz).elim (ha z) (hb z)
  omega
/-- A record that is met on the run from the blank tape. -/
structure RecG (m : MachD) (w : World) (x : RecV) : Prop where
  pos : 1 ≤ x.n
  run : RunsTo m blankC x.n
  conf : x.c = cfgI m blankC x.n
  le : x.n ≤ 20000
  l : Ints w x.lv x.c.l
  r : Ints w x.rv x.c.r
  fl : Flat x.lv
  fr : Flat x.rv
theorem RecG.ext {m : MachD} {w w' : World} {x : RecV} (h : RecG m w x) (he : Ext w w') : RecG m w' x := ⟨h.pos, h.run, h.conf, h.le, h.l.ext he, h.r.ext he, h.fl, h.fr⟩
theorem RecG.good {m : MachD} (hm : machOk m = true) {w : World} {x : RecV} (h : RecG m w x) : IGood m x.c := by
  rw [h.conf]
  exact cfg_good hm (blank_good hm) _ h.run.no
theorem RecG.len {m : MachD} {w : World} {x : RecV} (h : RecG m w x) : x.c.l.length ≤ 200 ∧ x.c.r.length ≤ 200 := by
  have := h.run.fit x.n (Nat.le_refl _)
  rw [← h.conf] at this
  simpa [fitI] using this
/-- The line of a record. -/
def lineR (x : RecV) : List Int := x.c.l.reverse ++ [0]
theorem RecG.line {m : MachD} (hm : machOk m = true) {w : World} {x : RecV} (h : RecG m w x) : (lineR x).length ≤ 201 ∧ ∀ z ∈ lineR x, 0 ≤ z ∧ z < m.sy := by
  obtain ⟨h2, _, _, _⟩ := machOk_bounds hm
  refine ⟨by have := h.len.1; unfold lineR; rw [List.length_append, List.length_reverse]; simp only [List.length_cons, List.length_nil]; omega, fun z hz => ?_⟩
  unfold lineR at hz
  rcases List.mem_append.1 hz with hz | hz
  · exact (h.good hm).l z (List.mem_reverse.1 hz)
  · rw [List.mem_singleton.1 hz]
    omega
end Go.Proofs.YtapjofbjedpmgaaGreat
end
section
set_option linter.unusedSimpArgs false
set_option linter.unusedVariables false
namespace Go.Proofs.YtapjofbjedpmgaaGreat
open Go Go.RowKit Go.Proofs
set_option maxHeartbeats 400000
/-- The cells of records. -/
def encs (rs : List RecV) : List Value := rs.flatMap encC
theorem encs_len (rs : List RecV) : (encs rs).length = rs.length * 5 := by
  induction rs with
  | nil => rfl
  | cons r rs ih => simp only [encs, List.flatMap_cons, List.length_append, List.length_cons] at *; rw [ih]; simp [encC]; omega
theorem encs_get : ∀ (rs : List RecV) (k : Nat) (h : k < rs.length), (encs rs)[k * 5]? = some (.int .i64 rs[k].n) ∧ (encs rs)[k * 5 + 1]? = some (.int .i64 rs[k].side) ∧ (encs rs)[k * 5 + 2]? = some (.int .i64 rs[k].c.q) ∧ (encs rs)[k * 5 + 3]? = some rs[k].lv ∧ (encs rs)[k * 5 + 4]? = some rs[k].rv
  | r :: rs, 0, h => ⟨rfl, rfl, rfl, rfl, rfl⟩
  | r :: rs, k + 1, h => by
    have ih := encs_get rs k (by simpa using h)
    have e : ∀ j, (encs (r :: rs))[(k + 1) * 5 + j]? = (encs rs)[k * 5 + j]? := fun j => by
      show (encC r ++ encs rs)[(k + 1) * 5 + j]? = _
      rw [List.getElem?_append_right (by simp [encC]; omega)]
      congr 1
      simp [encC]
      omega
    refine ⟨(e 0).trans ih.1, (e 1).trans ih.2.1, (e 2).trans ih.2.2.1, (e 3).trans ih.2.2.2.1, (e 4).trans ih.2.2.2.2⟩
/-- Records in a row. -/
def Recs (w : World) (v : Value) (rs : List RecV) : Prop := Row w 5 v rs.length (encs rs)
theorem Recs.ext {w w' : World} {v : Value} {rs : List RecV} (h : Recs w v rs) (he : Ext w w') : Recs w' v rs := Row.ext h he
theorem Recs.form {w : World} {v : Value} {rs : List RecV} (h : Recs w v rs) : ∃ A c, v = .slice A rs.length c ∧ rs.length ≤ c ∧ c ≤ 9223372036854775807 := by
  obtain ⟨A, c, hv, h1, h2, _⟩ := Row.form h
  exact ⟨A, c, hv, h1, h2⟩
theorem Recs.at {w : World} {c : Nat} {A : Option Addr} {rs : List RecV} (h : Recs w (.slice A rs.length c) rs) {k : Nat} (hk : k < rs.length) :
    ∃ b off, A = some ⟨b, off, none⟩ ∧ ∀ j, (hj : j < rs.length) → w.cell? ⟨b, off + j * 5, none⟩ = some (.int .i64 rs[j].n) ∧ w.cell? ⟨b, off + j * 5 + 1, none⟩ = some (.int .i64 rs[j].side) ∧ w.cell? ⟨b, off + j * 5 + 2, none⟩ = some (.int .i64 rs[j].c.q) ∧ w.cell? ⟨b, off + j * 5 + 3, none⟩ = some rs[j].lv ∧ w.cell? ⟨b, off + j * 5 + 4, none⟩ = some rs[j].rv := by
  obtain ⟨b, off, hA, hc⟩ := Row.at h hk
  refine ⟨b, off, hA, fun j hj => ?_⟩
  obtain ⟨e0, e1, e2, e3, e4⟩ := encs_get rs j hj
  refine ⟨by rw [hc (j * 5) (by omega), e0], ?_, ?_, ?_, ?_⟩
  · rw [Nat.add_assoc, hc (j * 5 + 1) (by omega), e1]
  · rw [Nat.add_assoc, hc (j * 5 + 2) (by omega), e2]
  · rw [Nat.add_assoc, hc (j * 5 + 3) (by omega), e3]
  · rw [Nat.add_assoc, hc (j * 5 + 4) (by omega), e4]
theorem encs_take (rs : List RecV) (k : Nat) (hk : k ≤ rs.length) : (encs rs).take (k * 5) = encs (rs.take k) := by
  have e : encs rs = encs (rs.take k) ++ encs (rs.drop k) := by
    unfold encs
    rw [← List.flatMap_append, List.take_append_drop]
  have hl : (encs (rs.take k)).length = k * 5 := by rw [encs_len, List.length_take, Nat.min_eq_left hk]
  rw [e, List.take_append_of_le_length (by omega), List.take_of_length_le (by omega)]
/-- The first of them. -/
theorem Recs.take {w : World} {A : Option Addr} {c : Nat} {rs : List RecV} (h : Recs w (.slice A rs.length c) rs) (k : Nat) (hk : k ≤ rs.length) : Recs w (.slice A k c) (rs.take k) := by
  obtain ⟨A', c', hv, h1, h1', h2, h3⟩ := h
  injection hv with e1 e2 e3
  subst e1 e3
  have hl : (rs.take k).length = k := by rw [List.length_take, Nat.min_eq_left hk]
  unfold Recs
  rw [hl]
  refine ⟨A, c, rfl, by omega, h1', by rw [encs_len, hl], fun hn => ?_⟩
  obtain ⟨b, off, rfl, hc⟩ := h3 (by omega)
  refine ⟨b, off, rfl, fun j hj => ?_⟩
  rw [encs_len, hl] at hj
  rw [hc j (by rw [encs_len]; omega), ← encs_take rs k hk, List.getElem?_take, if_pos hj]
end Go.Proofs.YtapjofbjedpmgaaGreat
end
