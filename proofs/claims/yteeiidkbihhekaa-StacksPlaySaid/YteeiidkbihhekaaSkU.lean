/- Stacks, plain: the search finds all ways; those through a node's links, link by link, are the node's ways. -/
import Derived.Test.YteeiidkbihhekaaSkT
set_option linter.unusedVariables false
set_option linter.unusedSimpArgs false
namespace Go.Proofs.Yteeiidkbihhekaa
open Go Go.RowKit
def addT (o : Int) (y : Wy) : Wy := (y.1, y.2 ++ [o])
def allL (f : Nat → Bool → List Wy) (n : Nat) (nd lk : Int) (met : Bool) : Nat → List (Int × Int) → List Wy
  | _, [] => []
  | i, l :: ls => (f l.1.toNat (met || (decide ((n : Int) = nd) && decide ((i : Int) = lk)))).map (addT l.2) ++ allL f n nd lk met (i + 1) ls
/-- all ways of so many links from a node down that use the link asked for -/
def allW (ns : List N) (nd lk : Int) : Nat → Nat → Bool → List Wy
  | 0, n, met => if nd < 0 ∨ met = true then [((n : Int), [])] else []
  | k + 1, n, met => allL (allW ns nd lk k) n nd lk met 0 (lkOf ns n)
def onto (ov : List Int) (y : Wy) : Wy := (y.1, y.2 ++ ov.reverse)
theorem onto_addT (ov : List Int) (o : Int) (l : List Wy) : (l.map (addT o)).map (onto ov) = l.map (onto (ov ++ [o])) := by
  rw [List.map_map]
  refine List.map_congr_left (fun y _ => ?_)
  show ((addT o y).1, (addT o y).2 ++ ov.reverse) = _
  simp [addT, onto]
theorem down_all (ns : List N) (nd lk : Int) : ∀ (k n : Nat) (met : Bool) (ov : List Int) (out : List Wy), out.length ≤ 4096 →
    (out.length + (allW ns nd lk k n met).length ≤ 4096 → downP ns nd lk k n met ov out = (out ++ (allW ns nd lk k n met).map (onto ov), true)) ∧
    (4096 < out.length + (allW ns nd lk k n met).length → (downP ns nd lk k n met ov out).2 = false)
  | 0, n, met, ov, out, ho => by
    have e1 : downP ns nd lk 0 n met ov out = (if nd < 0 ∨ met = true then out ++ [((n : Int), ov.reverse)] else out, decide ((if nd < 0 ∨ met = true then out ++ [((n : Int), ov.reverse)] else out).length ≤ 4096)) := rfl
    have e2 : allW ns nd lk 0 n met = if nd < 0 ∨ met = true then [((n : Int), [])] else [] := rfl
    rw [e1, e2]
    by_cases h : nd < 0 ∨ met = true
    · rw [if_pos h, if_pos h]
      constructor
      · intro hl
        rw [decide_eq_true (by simpa using hl)]
        simp [onto]
      · intro hl
        exact decide_eq_false (by simp at hl ⊢; omega)
    · rw [if_neg h, if_neg h]
      constructor
      · intro hl
        rw [decide_eq_true ho]
        simp
      · intro hl
        simp at hl
        omega
  | k + 1, n, met, ov, out, ho => by
    have go : ∀ (ls : List (Int × Int)) (i : Nat) (out : List Wy), out.length ≤ 4096 →
        (out.length + (allL (allW ns nd lk k) n nd lk met i ls).length ≤ 4096 → byLinks (downP ns nd lk k) n nd lk met ov i ls out = (out ++ (allL (allW ns nd lk k) n nd lk met i ls).map (onto ov), true)) ∧
        (4096 < out.length + (allL (allW ns nd lk k) n nd lk met i ls).length → (byLinks (downP ns nd lk k) n nd lk met ov i ls out).2 = false) := by
      intro ls
      induction ls with
      | nil =>
        intro i out ho
        constructor
        · intro _
          show (out, true) = _
          simp [allL]
        · intro h
          simp [allL] at h
          omega
      | cons l ls ih =>
        intro i out ho
        have hd := down_all ns nd lk k l.1.toNat (met || (decide ((n : Int) = nd) && decide ((i : Int) = lk))) (ov ++ [l.2]) out ho
        have eL : allL (allW ns nd lk k) n nd lk met i (l :: ls) = (allW ns nd lk k l.1.toNat (met || (decide ((n : Int) = nd) && decide ((i : Int) = lk)))).map (addT l.2) ++ allL (allW ns nd lk k) n nd lk met (i + 1) ls := rfl
        have eB : byLinks (downP ns nd lk k) n nd lk met ov i (l :: ls) out =
          if (downP ns nd lk k l.1.toNat (met || (decide ((n : Int) = nd) && decide ((i : Int) = lk))) (ov ++ [l.2]) out).2 = true then byLinks (downP ns nd lk k) n nd lk met ov (i + 1) ls (downP ns nd lk k l.1.toNat (met || (decide ((n : Int) = nd) && decide ((i : Int) = lk))) (ov ++ [l.2]) out).1
          else ((downP ns nd lk k l.1.toNat (met || (decide ((n : Int) = nd) && decide ((i : Int) = lk))) (ov ++ [l.2]) out).1, false) := rfl
        rw [eL, eB]
        generalize allW ns nd lk k l.1.toNat (met || (decide ((n : Int) = nd) && decide ((i : Int) = lk))) = W at *
        generalize downP ns nd lk k l.1.toNat (met || (decide ((n : Int) = nd) && decide ((i : Int) = lk))) (ov ++ [l.2]) out = D at *
        rw [List.length_append, List.length_map]
        by_cases h1 : out.length + W.length ≤ 4096
        · rw [hd.1 h1, if_pos rfl]
          have h2 := ih (i + 1) (out ++ W.map (onto (ov ++ [l.2]))) (by simpa using h1)
          rw [List.length_append, List.length_map] at h2
          constructor
          · intro h3
            rw [h2.1 (by omega), List.map_append, onto_addT, List.append_assoc]
          · intro h3
            exact h2.2 (by omega)
        · have h3 := hd.2 (by omega)
          rw [if_neg (by rw [h3]; simp)]
          constructor
          · intro h4
            omega
          · intro _
            rfl
    exact go (lkOf ns n) 0 out ho
theorem map_onto_nil (l : List Wy) : l.map (onto []) = l := by
  have : ∀ y ∈ l, onto [] y = id y := fun y _ => by simp [onto]
  rw [List.map_congr_left this, List.map_id]
theorem ways_all (ns : List N) (nd lk : Int) (k n : Nat) (hn : n < ns.length) (hk : k ≤ 8) : waysP ns n k nd lk = if (allW ns nd lk k n false).length ≤ 4096 then (0, allW ns nd lk k n false) else (3, []) := by
  unfold waysP
  rw [if_pos ⟨by omega, by omega⟩, if_pos ⟨by omega, by omega⟩, Int.toNat_natCast, Int.toNat_natCast]
  obtain ⟨h1, h2⟩ := down_all ns nd lk k n false [] [] (by simp)
  simp only [List.length_nil, Nat.zero_add, List.nil_append, map_onto_nil] at h1 h2
  by_cases h : (allW ns nd lk k n false).length ≤ 4096
  · rw [h1 h, if_pos rfl, if_pos h]
  · rw [h2 (by omega), if_neg (by simp), if_neg h]
theorem allL_congr {f f' : Nat → Bool → List Wy} {n n' : Nat} {nd lk nd' lk' : Int} {met met' : Bool} : ∀ (ls : List (Int × Int)) (i i' : Nat),
    (∀ l ∈ ls, ∀ j j' : Nat, f l.1.toNat (met || (decide ((n : Int) = nd) && decide ((j : Int) = lk))) = f' l.1.toNat (met' || (decide ((n' : Int) = nd') && decide ((j' : Int) = lk')))) →
    allL f n nd lk met i ls = allL f' n' nd' lk' met' i' ls
  | [], i, i', h => rfl
  | l :: ls, i, i', h => by
    show _ ++ allL f n nd lk met (i + 1) ls = _ ++ allL f' n' nd' lk' met' (i' + 1) ls
    rw [allL_congr ls (i + 1) (i' + 1) (fun l hl => h l (List.mem_cons_of_mem _ hl)), h l List.mem_cons_self i i']
/-- where any way counts, what was met does not matter -/
theorem allW_neg (ns : List N) {nd lk : Int} (hnd : nd < 0) : ∀ (k n : Nat) (met : Bool), allW ns nd lk k n met = allW ns (-1) (-1) k n false
  | 0, n, met => by
    show (if nd < 0 ∨ met = true then [((n : Int), [])] else []) = if (-1 : Int) < 0 ∨ false = true then [((n : Int), [])] else []
    rw [if_pos (Or.inl hnd), if_pos (Or.inl (by omega))]
  | k + 1, n, met => allL_congr _ _ _ (fun l _ j j' => (allW_neg ns hnd k _ _).trans (allW_neg ns (by omega) k _ _).symm)
theorem allW_met (ns : List N) {nd lk : Int} : ∀ (k n : Nat), allW ns nd lk k n true = allW ns (-1) (-1) k n false
  | 0, n => by
    show (if nd < 0 ∨ true = true then [((n : Int), [])] else []) = if (-1 : Int) < 0 ∨ false = true then [((n : Int), [])] else []
    rw [if_pos (Or.inr rfl), if_pos (Or.inl (by omega))]
  | k + 1, n => allL_congr _ _ _ (fun l _ j j' => by
    rw [Bool.true_or, allW_met ns k]
    exact (allW_neg ns (by omega) k _ _).symm)
/-- a link's node lies lower -/
theorem Good.lower {ns : List N} {b : Nat} (h : Good ns b) {n : Nat} (hn : n < ns.length) {l : Int × Int} (hl : l ∈ lkOf ns n) : 0 ≤ l.1 ∧ l.1.toNat < ns.length ∧ lvOf ns l.1.toNat < lvOf ns n := by
  rw [lkOf_at hn] at hl
  have h1 := h.lnk _ (List.getElem_mem hn) l hl
  have h2 := h.down _ (List.getElem_mem hn) l hl
  rw [lvOf_at hn]
  exact ⟨h1.1, by omega, h2⟩
theorem allL_nil {f : Nat → Bool → List Wy} {n : Nat} {nd lk : Int} {met : Bool} : ∀ (ls : List (Int × Int)) (i : Nat), (∀ l ∈ ls, ∀ j : Nat, i ≤ j → f l.1.toNat (met || (decide ((n : Int) = nd) && decide ((j : Int) = lk))) = []) → allL f n nd lk met i ls = []
  | [], i, h => rfl
  | l :: ls, i, h => by
    show (f _ _).map _ ++ allL f n nd lk met (i + 1) ls = []
    rw [h l List.mem_cons_self i (Nat.le_refl _), allL_nil ls (i + 1) (fun l hl j hj => h l (List.mem_cons_of_mem _ hl) j (by omega))]
    rfl
theorem allW_low {ns : List N} {b : Nat} (h : Good ns b) (n0 : Nat) (lk : Int) : ∀ (k m : Nat), m < ns.length → lvOf ns m < lvOf ns n0 → allW ns n0 lk k m false = []
  | 0, m, hm, hl => by
    show (if (n0 : Int) < 0 ∨ false = true then [((m : Int), [])] else []) = []
    rw [if_neg (by simp)]
  | k + 1, m, hm, hl => allL_nil _ _ (fun l hml j _ => by
    have h1 := h.lower hm hml
    have ne : ¬ ((m : Int) = (n0 : Int)) := fun e => by
      have : m = n0 := by omega
      subst this
      omega
    rw [decide_eq_false ne, Bool.false_and, Bool.or_false]
    exact allW_low h n0 lk k _ h1.2.1 (by omega))
theorem allL_one {ns : List N} {b : Nat} (h : Good ns b) {n k : Nat} (hn : n < ns.length) (t : Nat) : ∀ (ls : List (Int × Int)) (j : Nat), (∀ l ∈ ls, l ∈ lkOf ns n) →
    allL (allW ns n t k) n n t false j ls = if h2 : j ≤ t ∧ t - j < ls.length then (allW ns (-1) (-1) k (ls[t - j]'h2.2).1.toNat false).map (addT (ls[t - j]'h2.2).2) else []
  | [], j, hs => by
    rw [dif_neg (by simp)]
    rfl
  | l :: ls, j, hs => by
    have ih := allL_one h hn t ls (j + 1) (k := k) (fun l hl => hs l (List.mem_cons_of_mem _ hl))
    have hlow := h.lower hn (hs l List.mem_cons_self)
    show (allW ns n t k l.1.toNat (false || (decide ((n : Int) = (n : Int)) && decide ((j : Int) = (t : Int))))).map (addT l.2) ++ allL (allW ns n t k) n n t false (j + 1) ls = _
    rw [decide_eq_true rfl, Bool.true_and, Bool.false_or]
    by_cases e : j = t
    · subst e
      rw [decide_eq_true rfl, allW_met, ih, dif_neg (by omega), dif_pos ⟨Nat.le_refl _, by simp⟩]
      simp
    · rw [decide_eq_false (by omega), allW_low h n t k _ hlow.2.1 hlow.2.2, ih]
      by_cases h3 : j + 1 ≤ t ∧ t - (j + 1) < ls.length
      · rw [dif_pos h3, dif_pos ⟨by omega, by simp; omega⟩]
        have e2 : t - j = t - (j + 1) + 1 := by omega
        simp [e2]
      · rw [dif_neg h3, dif_neg (fun h4 => h3 ⟨by omega, by have := h4.2; simp at this; omega⟩)]
        rfl
def byOne (ns : List N) (k : Nat) (l : Int × Int) : List Wy := (allW ns (-1) (-1) k l.1.toNat false).map (addT l.2)
theorem allW_through {ns : List N} {b : Nat} (h : Good ns b) {n k : Nat} (hn : n < ns.length) (t : Nat) (ht : t < (lkOf ns n).length) : allW ns n t (k + 1) n false = byOne ns k (lkOf ns n)[t] := by
  show allL (allW ns n t k) n n t false 0 (lkOf ns n) = _
  rw [allL_one h hn t _ 0 (fun l hl => hl), dif_pos ⟨Nat.zero_le _, by simpa using ht⟩]
  simp [byOne]
theorem allL_flat (ns : List N) (n k : Nat) : ∀ (ls : List (Int × Int)) (i : Nat), allL (allW ns (-1) (-1) k) n (-1) (-1) false i ls = ls.flatMap (byOne ns k)
  | [], i => rfl
  | l :: ls, i => by
    show (allW ns (-1) (-1) k l.1.toNat _).map (addT l.2) ++ allL (allW ns (-1) (-1) k) n (-1) (-1) false (i + 1) ls = byOne ns k l ++ ls.flatMap (byOne ns k)
    rw [allL_flat ns n k ls (i + 1), allW_neg ns (by omega)]
    rfl
theorem allW_flat (ns : List N) (n k : Nat) : allW ns (-1) (-1) (k + 1) n false = (lkOf ns n).flatMap (byOne ns k) := allL_flat ns n k _ 0
theorem flat_part (f : Int × Int → List Wy) : ∀ (ls : List (Int × Int)) (l : Int × Int), l ∈ ls → (f l).length ≤ (ls.flatMap f).length
  | [], l, h => absurd h (by simp)
  | x :: xs, l, h => by
    rw [List.flatMap_cons, List.length_append]
    rcases List.mem_cons.1 h with rfl | h
    · omega
    · have := flat_part f xs l h
      omega
theorem byOne_len (ns : List N) (k : Nat) (l : Int × Int) : (byOne ns k l).length = (allW ns (-1) (-1) k l.1.toNat false).length := by simp [byOne]
theorem addT_len (ns : List N) (nd lk : Int) : ∀ (k n : Nat) (met : Bool), ∀ y ∈ allW ns nd lk k n met, y.2.length = k
  | 0, n, met, y, h => by
    have e : allW ns nd lk 0 n met = if nd < 0 ∨ met = true then [((n : Int), [])] else [] := rfl
    rw [e] at h
    split at h
    · simp at h
      subst h
      rfl
    · simp at h
  | k + 1, n, met, y, h => by
    have go : ∀ (ls : List (Int × Int)) (i : Nat), y ∈ allL (allW ns nd lk k) n nd lk met i ls → y.2.length = k + 1 := by
      intro ls
      induction ls with
      | nil => exact fun i h => absurd h (by simp [allL])
      | cons l ls ih =>
        intro i h
        have e : allL (allW ns nd lk k) n nd lk met i (l :: ls) = (allW ns nd lk k l.1.toNat (met || (decide ((n : Int) = nd) && decide ((i : Int) = lk)))).map (addT l.2) ++ allL (allW ns nd lk k) n nd lk met (i + 1) ls := rfl
        rw [e] at h
        rcases List.mem_append.1 h with h | h
        · obtain ⟨z, hz, rfl⟩ := List.mem_map.1 h
          have := addT_len ns nd lk k _ _ z hz
          simp [addT, this]
        · exact ih _ h
    exact go _ 0 h
end Go.Proofs.Yteeiidkbihhekaa
