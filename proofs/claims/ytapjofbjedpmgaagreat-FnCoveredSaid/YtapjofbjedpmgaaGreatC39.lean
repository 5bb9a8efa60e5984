/- Contract of the library's sorting of rows of numbers by the library's comparison: behind it the rows are permuted, sorted, and owned as before.
Sets of items: how many there are; the set of some lists is known by its members.
Plain: the parts of a proof by contexts, read back from it; closed sets are accepted. -/
import Derived.Test.YtapjofbjedpmgaaGreatC38
import Derived.Test.YtapjofbjedpmgaaGreatC17
import Derived.Test.YtapjofbjedpmgaaGreatC37
import Derived.Test.YtapjofbjedpmgaaGreatC16
section
set_option linter.unusedSimpArgs false
set_option linter.unusedVariables false
set_option linter.unusedSectionVars false
set_option maxHeartbeats 4000000
namespace Go.Proofs.YtapjofbjedpmgaaGreat
open Go Go.RowKit Go.Proofs
/-- Behind the sort the same slice owns the row. -/
theorem ownsRow_sortW {α : Type} [Inhabited α] (enc : α → Value) {w : World} {base g cap n : Nat} {e : TypeId} {vs : List Value} (m : Nat) (d : Array α) (os : Array Obj) (h : w.ownsRow base e 1 (.slice (some ⟨g, 0, none⟩) n cap) n vs) (hd : d.size = n) (hn : 0 < n) :
    (sortWorld enc w g 0 m d os).ownsRow base e 1 (.slice (some ⟨g, 0, none⟩) n cap) n (d.toList.map enc) := by
  obtain ⟨hl, h2⟩ := h
  refine ⟨by simp [hd], ?_⟩
  rcases h2 with ⟨e', _⟩ | ⟨g', cap', cur, hv, hb', hh, hnc, hcm, hcs, htk⟩
  · cases e'
  · injection hv with e1 e2 e3
    injection e1 with e1
    injection e1 with e1
    subst e1 e3
    have hg : g < w.heap.size := (Array.getElem?_eq_some_iff.1 hh).1
    refine .inr ⟨g, cap, Sort.putCells enc 0 d cur, rfl, hb', ?_, hnc, hcm, by simp [Sort.putCells, hcs], ?_⟩
    · unfold sortWorld
      rw [Sort.heap_grow_old _ _ (by simpa using hg)]
      simp [Sort.putRow, Sort.mapBlock, Sort.ahead, Array.getElem?_modify, hh, Sort.onCells]
    · apply List.ext_getElem?
      intro j
      by_cases hj : j < n
      · rw [List.getElem?_take_of_lt (by omega), Array.getElem?_toList]
        simp [Sort.putCells, hj, hd, show j < cur.size by omega, show j < d.size by omega]
      · rw [List.getElem?_take_eq_none (by omega), List.getElem?_eq_none (by simp; omega)]
theorem cmpL_eq : ∀ xs ys : List Int, cmpL xs ys = 0 → xs = ys
  | [], [], _ => rfl
  | [], _ :: _, h => by simp [cmpL] at h
  | _ :: _, [], h => by simp [cmpL] at h
  | a :: s, b :: t, h => by
    unfold cmpL at h
    split at h
    · cases h
    · split at h
      · cases h
      · rw [cmpL_eq s t h, show a = b by omega]
theorem cmpL_anti : ∀ xs ys : List Int, cmpL xs ys = - cmpL ys xs
  | [], [] => rfl
  | [], _ :: _ => rfl
  | _ :: _, [] => rfl
  | a :: s, b :: t => by
    unfold cmpL
    by_cases h1 : a < b
    · rw [if_pos h1, if_neg (by omega), if_pos h1]
    · by_cases h2 : b < a
      · rw [if_neg h1, if_pos h2, if_pos h2]; rfl
      · rw [if_neg h1, if_neg h2, if_neg h2, if_neg h1]
        exact cmpL_anti s t
set_option maxRecDepth 20000 in
theorem sortOwn_c (base : Nat) (w : World) (v : Value) (xss : List (List Int)) (ho : OwnLists base w v xss) (h0 : 0 < xss.length) (h1 : xss.length ≤ 1048576) :
    Calls Tryz.prog 76 #[v, .func (.func 77) #[] #[]] w fun e w' => e = .returned (.tuple #[]) ∧ (∃ yss, yss.Perm xss ∧ yss.Pairwise (fun a b => ¬ cmpL b a < 0) ∧ OwnLists base w' v yss) ∧ w.grownBy w' v.ownBlock := by
  obtain ⟨vs, hr1, hr2⟩ := ho
  have h : OutR base w v vs xss := ⟨hr1, hr2⟩
  obtain ⟨A, cap, rfl, g1, g2, _⟩ := (ownsRow_row h.1).form
  obtain ⟨g, rfl, hb, hlt⟩ := own_at h.1 h0
  have hlen : vs.length = xss.length := by have := h.1.1; omega
  obtain ⟨enc, henc⟩ : ∃ enc : Nat → Value, enc = fun k => vs.getD k (.slice none 0 0) := ⟨_, rfl⟩
  have hrow : ∀ (W0 : World), w.grownBy W0 (some g) → ∀ k, Ints W0 (enc k) (xss.getD k []) := by
    intro W0 hW k
    rw [henc]
    by_cases hk : k < xss.length
    · obtain ⟨u, e, hu⟩ := h.2 k hk
      have hu' : OwnInts base W0 u xss[k] := World.ownsRow.kept hu hW (own_ne hu h.1 (by decide))
      simp only [List.getD_eq_getElem?_getD, e, List.getElem?_eq_getElem hk, Option.getD_some]
      exact hu'.ints
    · simp only [List.getD_eq_getElem?_getD, List.getElem?_eq_none (show vs.length ≤ k by omega), List.getElem?_eq_none (show xss.length ≤ k by omega), Option.getD_none]
      exact ⟨none, 0, rfl, Nat.le_refl _, by omega, by simp [ivs], fun hn => absurd hn (by simp)⟩
  have hone : ∀ k, (enc k).oneCell' = true := by
    intro k
    obtain ⟨A, c, e, _⟩ := (hrow w (World.grownBy.refl _ _) k).form
    rw [e]
    rfl
  have hO : Sort.SWO (ltOf fun i j : Nat => cmpL (xss.getD i []) (xss.getD j [])) := by
    refine ⟨fun x => ?_, fun x y z h1 h2 => ?_, fun x y z h1 h2 => ?_⟩
    · simp [ltOf, cmpL_self]
    · simp only [ltOf, decide_eq_true_eq] at *
      exact cmpL_trans _ _ _ h1 h2
    · simp only [ltOf, decide_eq_false_iff_not] at *
      exact cmpL_ntrans _ _ _ h1 h2
  have hsz : (List.range xss.length).toArray.size = xss.length := by simp
  have hcell : ∀ j, j < xss.length → w.cell? ⟨g, j, none⟩ = some (enc j) ∧ w.frozen? ⟨g, j, none⟩ = false := by
    intro j hj
    rcases h.1.2 with ⟨e, _⟩ | ⟨g', cap', cur, hv, hb', hh, hnc, hcm, hcs, htk⟩
    · cases e
    · injection hv with e1 e2 e3
      injection e1 with e1
      injection e1 with e1
      subst e1
      refine ⟨?_, ?_⟩
      · rw [cell_of_row w g j cur _ (0, 0) hh, henc]
        have hjv : j < vs.length := by omega
        have : vs[j]? = cur.toList[j]? := by rw [← htk, List.getElem?_take_of_lt (by omega)]
        show cur[j]? = some (vs.getD j (.slice none 0 0))
        rw [List.getD_eq_getElem?_getD, this, Array.getElem?_toList]
        have hjc : j < cur.size := by omega
        simp [hjc]
      · unfold World.frozen?
        simp [hh]
  have hH : Sort.Holds enc w g 0 (List.range xss.length).toArray := by
    intro j hj
    rw [hsz] at hj
    rw [Nat.zero_add]
    have : (List.range xss.length).toArray[j]! = j := by simp [hj]
    rw [this]
    exact hcell j hj
  have key := Tryz.slices_SortFunc enc hone (fun i j : Nat => cmpL (xss.getD i []) (xss.getD j [])) hO 77 #[] g 0 cap (List.range xss.length).toArray w (enters_of Tryz.func77 (by kernel_rfl) rfl)
    (fun m os dk hdk x y => by
      have hW := grownBy_sortW enc w g m dk os
      refine (slicesCompare_c _ _ _ _ _ (hrow _ hW x) (hrow _ hW y)).mono ?_
      rintro e w' ⟨rfl, rfl⟩
      exact ⟨rfl, 0, #[], by rw [Sort.grow_empty]; rfl⟩) hH hlt (by rw [hsz]; omega)
  rw [hsz] at key
  refine key.mono ?_
  rintro e w' ⟨rfl, d', n, os, hp, hS, rfl⟩
  have hgw := grownBy_sortW enc w g n d' os
  obtain ⟨hp1, hp2, hp3⟩ := hp
  have hd' : d'.size = xss.length := by rw [hp1, hsz]
  have hperm : d'.toList.Perm (List.range xss.length) := by
    have e1 : d'.extract 0 xss.length = d' := by
      rw [← hd', Array.extract_size]
    have e2 : (List.range xss.length).toArray.extract 0 xss.length = (List.range xss.length).toArray := by
      have := @Array.extract_size _ (List.range xss.length).toArray
      rwa [hsz] at this
    rw [e1, e2] at hp3
    simpa using hp3
  have hrl : (d'.toList.map fun k => xss.getD k []).length = xss.length := by simp [hd']
  refine ⟨rfl, ⟨d'.toList.map fun k => xss.getD k [], ?_, ?_, ?_⟩, hgw⟩
  · have h3 := hperm.map (fun k => xss.getD k [])
    have e : (List.range xss.length).map (fun k => xss.getD k []) = xss := by
      apply List.ext_getElem (by simp)
      intro i h1 h2
      simp [List.getD_eq_getElem?_getD, List.getElem?_eq_getElem h2]
    rwa [e] at h3
  · rw [List.pairwise_iff_getElem]
    intro i j hi hj hij
    rw [hrl] at hi hj
    have := hS i j (Nat.zero_le _) hij hj
    have e1 : d'[i]! = d'[i] := getElem!_pos _ _ (by omega)
    have e2 : d'[j]! = d'[j] := getElem!_pos _ _ (by omega)
    rw [e1, e2] at this
    simp only [ltOf, decide_eq_false_iff_not] at this
    simpa using this
  · have hso := ownsRow_sortW enc n d' os h.1 hd' h0
    refine ⟨d'.toList.map enc, by rw [hrl]; exact hso, fun i hi => ?_⟩
    have hi' : i < d'.size := by simpa using hi
    have hk : d'[i] < xss.length := by
      have : d'[i] ∈ d'.toList := by simp
      exact List.mem_range.1 (hperm.mem_iff.1 this)
    refine ⟨enc d'[i], by simp [hi'], ?_⟩
    obtain ⟨u, e, hu⟩ := h.2 _ hk
    have hu' : OwnInts base _ u xss[d'[i]] := World.ownsRow.kept hu hgw (own_ne hu h.1 (by decide))
    have e3 : enc d'[i] = u := by rw [henc]; simp [List.getD_eq_getElem?_getD, e]
    rw [e3]
    have e4 : (d'.toList.map fun k => xss.getD k [])[i] = xss[d'[i]] := by simp [List.getD_eq_getElem?_getD, List.getElem?_eq_getElem hk]
    rw [e4]
    exact hu'
end Go.Proofs.YtapjofbjedpmgaaGreat
end
section
set_option linter.unusedSimpArgs false
set_option linter.unusedVariables false
namespace Go.Proofs.YtapjofbjedpmgaaGreat
open Go Go.RowKit Go.Proofs Go.Maps
set_option maxHeartbeats 400000
theorem nodup_len {α : Type} [DecidableEq α] : ∀ {l L : List α}, l.Nodup → (∀ x ∈ l, x ∈ L) → l.length ≤ L.length
  | [], L, _, _ => by simp
  | a :: l, L, hn, hs => by
    rw [List.nodup_cons] at hn
    have ha := hs a List.mem_cons_self
    have := nodup_len (l := l) (L := L.erase a) hn.2 (fun x hx => (List.mem_erase_of_ne (by rintro rfl; exact hn.1 hx)).2 (hs x (List.mem_cons_of_mem _ hx)))
    rw [List.length_erase_of_mem ha] at this
    have h1 := List.length_pos_of_mem ha
    rw [List.length_cons]
    omega
theorem nodup_len_eq {α : Type} [DecidableEq α] {l L : List α} (h1 : l.Nodup) (h2 : L.Nodup) (h : ∀ x, x ∈ l ↔ x ∈ L) : l.length = L.length :=
  Nat.le_antisymm (nodup_len h1 fun x hx => (h x).1 hx) (nodup_len h2 fun x hx => (h x).2 hx)
/-- Lists of one length, with small numbers. -/
structure GoodL (len : Nat) (L : List (List Int)) : Prop where
  len : ∀ x ∈ L, x.length = len
  small : ∀ x ∈ L, ∀ z ∈ x, smallQ z
theorem anyT_iff {L : List (List Int)} {ys : List Int} : anyT L ys = true ↔ ∃ x ∈ L, ys = padI x := by
  unfold anyT
  rw [List.any_eq_true]
  constructor
  · rintro ⟨x, a, b⟩; exact ⟨x, a, of_decide_eq_true b⟩
  · rintro ⟨x, a, b⟩; exact ⟨x, a, decide_eq_true b⟩
theorem anyT_congr {L L' : List (List Int)} (h : ∀ x, x ∈ L ↔ x ∈ L') : anyT L = anyT L' := by
  funext ys
  rw [Bool.eq_iff_iff, anyT_iff, anyT_iff]
  constructor
  · rintro ⟨x, a, b⟩; exact ⟨x, (h x).1 a, b⟩
  · rintro ⟨x, a, b⟩; exact ⟨x, (h x).2 a, b⟩
theorem anyT_append (L L' : List (List Int)) : anyT (L ++ L') = fun ys => anyT L ys || anyT L' ys := by
  funext ys
  unfold anyT
  rw [List.any_append]
theorem anyT_key {len : Nat} {L : List (List Int)} (hg : GoodL len L) (hl : len ≤ 10) {ys : List Int} (h : anyT L ys = true) : ∃ l, keyOf Tryz.prog 108 (enI ys) = some l := by
  obtain ⟨x, hx, rfl⟩ := anyT_iff.1 h
  exact itKey _ (padI_len (by rw [hg.len x hx]; exact hl)) (padI_small (hg.small x hx))
theorem padI_take {x : List Int} {len : Nat} (h : x.length = len) : (padI x).take len = x := by
  unfold padI
  rw [List.take_append_of_le_length (by omega), List.take_of_length_le (by omega)]
/-- A list that holds each of a list's members once, rising. -/
structure SortOf (L S : List (List Int)) : Prop where
  rise : S.Pairwise (fun a b => cmpL a b < 0)
  mem : ∀ x, x ∈ S ↔ x ∈ L
theorem SortOf.nodup {L S : List (List Int)} (h : SortOf L S) : S.Nodup := h.rise.imp fun {a b} hab e => by subst e; rw [cmpL_self] at hab; omega
theorem SortOf.good {len : Nat} {L S : List (List Int)} (h : SortOf L S) (hg : GoodL len L) : GoodL len S := ⟨fun x hx => hg.len x ((h.mem x).1 hx), fun x hx => hg.small x ((h.mem x).1 hx)⟩
theorem SortOf.anyT {L S : List (List Int)} (h : SortOf L S) : anyT S = anyT L := anyT_congr h.mem
theorem pairwise_get {α : Type} {R : α → α → Prop} {l : List α} (h : l.Pairwise R) {i j : Nat} (hi : i < l.length) (hj : j < l.length) (hij : i < j) : R l[i] l[j] := List.pairwise_iff_getElem.1 h i j hi hj hij
theorem SortOf.riseB {L S : List (List Int)} (h : SortOf L S) : riseB S = true := by
  unfold Go.Proofs.YtapjofbjedpmgaaGreat.riseB
  rw [List.all_eq_true]
  intro k hk
  rw [List.mem_range] at hk
  rw [decide_eq_true_eq, List.getD_eq_getElem?_getD, List.getD_eq_getElem?_getD, List.getElem?_eq_getElem (by omega), List.getElem?_eq_getElem (by omega)]
  exact pairwise_get h.rise _ _ (by omega)
set_option maxRecDepth 20000 in
/-- How many keys there are. -/
theorem TblK.size {w : World} {b n len : Nat} {L S : List (List Int)} (h : TblK w b n (anyT L)) (hg : GoodL len L) (hl : len ≤ 10) (hS : S.Nodup) (hm : ∀ x, x ∈ S ↔ x ∈ L) (ty : TypeId) :
    (Builtin.len_ #[104] ty #[.map (some b)]).run Tryz.prog w = .ok (.int .i64 (S.length : Int)) w ∧ TblK w b S.length (anyT L) := by
  obtain ⟨D, h1, h2, h3⟩ := h
  have hsz : Maps.size D = S.length := by
    obtain ⟨es, hD, hpw, hkl⟩ := h1.entries itTy.keyed
    subst hD
    have e0 : Maps.size (DataW.map es) = (es.map (·.1)).length := by simp [Maps.size]
    obtain ⟨kf, hkf⟩ : ∃ kf : List Int → Lit, kf = fun x => (keyOf Tryz.prog 108 (enI (padI x))).getD (.bool false) := ⟨_, rfl⟩
    have hkf2 : ∀ x ∈ L, keyOf Tryz.prog 108 (enI (padI x)) = some (kf x) := fun x hx => by
      obtain ⟨l, hl2⟩ := anyT_key hg hl (anyT_iff.2 ⟨x, hx, rfl⟩)
      rw [hkf]
      show _ = some ((keyOf Tryz.prog 108 (enI (padI x))).getD (.bool false))
      rw [hl2]; rfl
    have e1 : S.length = (S.map kf).length := by simp
    rw [e0, e1]
    letI : DecidableEq Lit := fun a b => Classical.propDecidable (a = b)
    have hnd : (S.map kf).Nodup := by
      refine List.pairwise_map.2 (List.Pairwise.imp_of_mem ?_ hS)
      intro x y hx hy hne e
      have hx' := (hm x).1 hx
      have hy' := (hm y).1 hy
      have k1 := hkf2 x hx'
      have k2 := hkf2 y hy'
      rw [e] at k1
      exact hne (padI_inj ((hg.len x hx').trans (hg.len y hy').symm) (enI_inj _ _ (itTy.keyed.inj k1 k2)))
    refine nodup_len_eq (List.pairwise_map.2 hpw) hnd fun l => ?_
    · rw [List.mem_map, List.mem_map]
      constructor
      · rintro ⟨p, hp, rfl⟩
        have hh : Maps.has (DataW.map es) p.1 = true := by
          rw [Maps.has_eq, List.any_eq_true]
          exact ⟨p, hp, WideAt.sameKey_self (hkl p hp)⟩
        obtain ⟨ys, _, _, hky, hT⟩ := h3 p.1 hh
        obtain ⟨x, hx, rfl⟩ := anyT_iff.1 hT
        refine ⟨x, (hm x).2 hx, ?_⟩
        have := hkf2 x hx
        rw [hky] at this
        injection this with this
        exact this.symm
      · rintro ⟨x, hx, rfl⟩
        have hx' := (hm x).1 hx
        have hk := hkf2 x hx'
        have e := h2 _ _ hk
        have hh : Maps.has (DataW.map es) (kf x) = true := by
          cases hh : Maps.has (DataW.map es) (kf x) with
          | true => rfl
          | false =>
            rw [atKey_of_not_has hh] at e
            rw [anyT_iff.2 ⟨x, hx', rfl⟩] at e
            cases e
        rw [Maps.has_eq, List.any_eq_true] at hh
        obtain ⟨p, hp, hs⟩ := hh
        exact ⟨p, hp, WideAt.sameKey_eq hs⟩
  refine ⟨by rw [← hsz]; exact h1.len itTy.und ty, D, ?_, h2, h3⟩
  obtain ⟨es, clock, hb, F, hs, hD⟩ := h1
  refine ⟨es, clock, hb, F, ?_, hD⟩
  have e1 : Maps.size D = es.size := by rw [hD]; simp [Maps.size, length_sorted]
  omega
end Go.Proofs.YtapjofbjedpmgaaGreat
end
section
set_option linter.unusedSimpArgs false
set_option linter.unusedVariables false
namespace Go.Proofs.YtapjofbjedpmgaaGreat
open Go Go.RowKit Go.Proofs
/-- The proof with these parts. -/
def proofX (s : SetsD) : ProofD := ⟨8, ((s.n : Int) :: (s.l.length : Int) :: (s.r.length : Int) :: s.c.map fun w => w.getD 0 0), (s.l ++ s.r) ++ s.c.map fun w => w.drop 1⟩
def big12 : Int := 1000000000000
def partA (p : ProofD) : Nat := (p.ns.getD 1 0).toNat
def partB (p : ProofD) : Nat := (p.ns.getD 2 0).toNat
def setsP (p : ProofD) : SetsD := ⟨(p.ns.getD 0 0).toNat, p.ws.take (partA p), (p.ws.drop (partA p)).take (partB p), statedX (p.ns.drop 3) (p.ws.drop (partA p + partB p))⟩
def headB (p : ProofD) : Bool := decide (p.k = 8) && decide (3 ≤ p.ns.length) && inB (p.ns.getD 0 0) 1 4
def sumsB (p : ProofD) : Bool := inB (p.ns.getD 1 0) 0 (p.ws.length : Int) && inB (p.ns.getD 2 0) 0 (p.ws.length : Int) && decide (p.ns.getD 1 0 + p.ns.getD 2 0 + ((p.ns.drop 3).length : Int) = (p.ws.length : Int)) && (p.ns.drop 3).all fun z => inB z 0 big12
def wordsB (p : ProofD) : Bool := ((setsP p).l.all (listB (setsP p).n 9)) && ((setsP p).r.all (listB (setsP p).n 9)) && ((p.ws.drop (partA p + partB p)).all (listB (2 * (setsP p).n + 1) 9))
def incB (s : SetsD) : Bool := riseB s.l && riseB s.r && riseB s.c
/-- Whether a valid proof has parts. -/
def setsB (p : ProofD) : Bool := headB p && sumsB p && wordsB p && incB (setsP p)
theorem statedX_back {c : List (List Int)} (h : ∀ x ∈ c, 1 ≤ x.length) : statedX (c.map fun w => w.getD 0 0) (c.map fun w => w.drop 1) = c := by
  unfold statedX
  induction c with
  | nil => rfl
  | cons a l ih =>
    rw [List.map_cons, List.map_cons, List.zipWith_cons_cons, ih (fun x hx => h x (List.mem_cons_of_mem _ hx))]
    congr 1
    have := h a List.mem_cons_self
    cases a with
    | nil => simp at this
    | cons x y => rfl
/-- The letters and states of parts are those of a machine. -/
structure SetsIn (sy st : Int) (s : SetsD) : Prop where
  l : ∀ x ∈ s.l, ∀ z ∈ x, 0 ≤ z ∧ z < sy
  r : ∀ x ∈ s.r, ∀ z ∈ x, 0 ≤ z ∧ z < sy
  c : ∀ x ∈ s.c, (0 ≤ x.getD 0 0 ∧ x.getD 0 0 < st) ∧ ∀ z ∈ x.drop 1, 0 ≤ z ∧ z < sy
theorem setsP_proofX {s : SetsD} (hs : SetsOk s) : setsP (proofX s) = s := by
  have hc := statedX_back (c := s.c) (fun x hx => by rw [hs.c x hx]; omega)
  have ea : partA (proofX s) = s.l.length := by simp [partA, proofX]
  have eb : partB (proofX s) = s.r.length := by simp [partB, proofX]
  unfold setsP
  rw [ea, eb]
  obtain ⟨n, l, r, c⟩ := s
  simp only [proofX] at *
  congr 1
  · rw [List.append_assoc, List.take_append_of_le_length (Nat.le_refl _), List.take_of_length_le (Nat.le_refl _)]
  · rw [List.append_assoc, List.drop_append_of_le_length (Nat.le_refl _), List.drop_of_length_le (Nat.le_refl _), List.nil_append, List.take_append_of_le_length (Nat.le_refl _), List.take_of_length_le (Nat.le_refl _)]
  · rw [← List.length_append, List.drop_append_of_le_length (Nat.le_refl _), List.drop_of_length_le (Nat.le_refl _), List.nil_append]
    simpa using hc
theorem setsB_proofX {s : SetsD} {sy st : Int} (hs : SetsOk s) (hi : SetsIn sy st s) (h1 : sy ≤ 10) (h2 : st ≤ 1000) (hl : riseB s.l = true) (hr : riseB s.r = true) (hc : riseB s.c = true) : setsB (proofX s) = true := by
  have hP := setsP_proofX hs
  have ea : partA (proofX s) = s.l.length := by simp [partA, proofX]
  have eb : partB (proofX s) = s.r.length := by simp [partB, proofX]
  have n1 := hs.n1
  have n4 := hs.n4
  unfold setsB headB sumsB wordsB incB
  rw [hP, ea, eb]
  simp only [Bool.and_eq_true, List.all_eq_true, decide_eq_true_eq, hl, hr, hc, and_true, inB_iff, listB]
  refine ⟨⟨⟨⟨rfl, by simp [proofX]⟩, by simp [proofX]; omega⟩, ⟨⟨⟨by simp [proofX]; omega, by simp [proofX]; omega⟩, by simp [proofX]; omega⟩, fun z hz => ?_⟩⟩, ⟨fun x hx => ⟨hs.l x hx, fun z hz => ?_⟩, fun x hx => ⟨hs.r x hx, fun z hz => ?_⟩⟩, fun x hx => ?_⟩
  · have hz : z ∈ s.c.map fun w => w.getD 0 0 := hz
    obtain ⟨x, hx, rfl⟩ := List.mem_map.1 hz
    have := (hi.c x hx).1
    unfold big12
    exact ⟨this.1, by omega⟩
  · have := hi.l x hx z hz
    omega
  · have := hi.r x hx z hz
    omega
  · have e : (proofX s).ws.drop (s.l.length + s.r.length) = s.c.map fun w => w.drop 1 := by
      show ((s.l ++ s.r) ++ s.c.map fun w => w.drop 1).drop (s.l.length + s.r.length) = _
      rw [← List.length_append, List.drop_append_of_le_length (Nat.le_refl _), List.drop_of_length_le (Nat.le_refl _), List.nil_append]
    rw [e] at hx
    obtain ⟨y, hy, rfl⟩ := List.mem_map.1 hx
    refine ⟨by rw [List.length_drop, hs.c y hy]; omega, fun z hz => ?_⟩
    have := (hi.c y hy).2 z hz
    omega
/-- What the search for a proof comes to. -/
structure Closed (m : MachD) (s : SetsD) : Prop where
  zl : List.replicate s.n 0 ∈ s.l
  zr : List.replicate s.n 0 ∈ s.r
  zc : List.replicate (2 * s.n + 2) 0 ∈ s.c
  ctx : ∀ w ∈ s.c, ctxOk m s w = true
theorem Closed.chk {m : MachD} {s : SetsD} (h : Closed m s) (hs : SetsOk s) (hi : SetsIn m.sy m.st s) : chkX m s = true := by
  unfold chkX fitsX zerosX
  simp only [Bool.and_eq_true, List.all_eq_true, decide_eq_true_eq, listB, inB_iff]
  refine ⟨⟨⟨⟨fun x hx => ⟨hs.l x hx, fun z hz => ?_⟩, fun x hx => ⟨hs.r x hx, fun z hz => ?_⟩⟩, fun x hx => ⟨(hi.c x hx).1.2, fun z hz => ?_⟩⟩, ⟨(inT_iff fun z hz => ?_).2 h.zl, (inT_iff fun z hz => ?_).2 h.zr⟩, (inT_iff fun z hz => ?_).2 h.zc⟩, h.ctx⟩
  · have := hi.l x hx z hz; omega
  · have := hi.r x hx z hz; omega
  · have := (hi.c x hx).2 z hz; omega
  · rw [hs.l z hz, List.length_replicate]
  · rw [hs.r z hz, List.length_replicate]
  · rw [hs.c z hz, List.length_replicate]
theorem cov_blank {m : MachD} {s : SetsD} (h : Closed m s) (hs : SetsOk s) : covX s ⟨0, [], []⟩ = true := by
  unfold covX
  rw [Bool.and_eq_true, Bool.and_eq_true]
  have e1 : ctxF ⟨0, [], []⟩ s.n = List.replicate (2 * s.n + 1) 0 := by
    unfold ctxF
    show cellsF [] 0 s.n ++ cellsF [] 0 (s.n + 1) = _
    rw [cellsF_out (by simp), cellsF_out (by simp), List.replicate_append_replicate]
    congr 1
    omega
  have e2 : winL [] s.n ([] : List Int).length = [List.replicate s.n 0] := by simp [winL]
  refine ⟨⟨(inT_iff fun z hz => ?_).2 ?_, ?_⟩, ?_⟩
  · rw [hs.c z hz, List.length_cons, ctxF_len]
  · rw [e1]
    exact h.zc
  · show (winL [] s.n ([] : List Int).length).all (inT s.l) = true
    rw [e2, List.all_cons, List.all_nil, Bool.and_true]
    exact (inT_iff fun z hz => by rw [hs.l z hz, List.length_replicate]).2 h.zl
  · show (winL (([] : List Int).drop 1) s.n (([] : List Int).drop 1).length).all (inT s.r) = true
    rw [List.drop_nil, e2, List.all_cons, List.all_nil, Bool.and_true]
    exact (inT_iff fun z hz => by rw [hs.r z hz, List.length_replicate]).2 h.zr
end Go.Proofs.YtapjofbjedpmgaaGreat
end
