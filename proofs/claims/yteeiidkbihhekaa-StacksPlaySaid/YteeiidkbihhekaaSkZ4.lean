/- The reference's Ways; it answers as the program's Ways and Through. -/
import Derived.Test.YteeiidkbihhekaaSkZ3
set_option linter.unusedVariables false
set_option linter.unusedSimpArgs false
namespace Go.Proofs.Yteeiidkbihhekaa
open Go Go.RowKit
variable {w : World} {S r p : Nat} {nv : Value} {vs : List Value} {ns : List N}
/-- what the reference's Ways answers -/
def rwaysP (ns : List N) (n len nd lk : Int) : Int × List Wy :=
  if 0 ≤ n ∧ n < ns.length then
    if nd = -1 ∨ (0 ≤ nd ∧ nd < ns.length ∧ 0 ≤ lk ∧ lk < (lkOf ns nd.toNat).length) then
      if 0 ≤ len ∧ len ≤ 8 then
        if (downR ns nd lk len.toNat n.toNat (decide (nd = -1))).length ≤ 4096 then (0, downR ns nd lk len.toNat n.toNat (decide (nd = -1))) else (3, [])
      else (2, [])
    else (4, [])
  else (4, [])
theorem rways_all (ns : List N) (n len : Int) : waysP ns n len (-1) (-1) = rwaysP ns n len (-1) 0 := by
  by_cases h1 : 0 ≤ n ∧ n < ns.length
  · by_cases h2 : 0 ≤ len ∧ len ≤ 8
    · obtain ⟨m, rfl⟩ : ∃ m : Nat, n = m := ⟨n.toNat, by omega⟩
      obtain ⟨k, rfl⟩ : ∃ k : Nat, len = k := ⟨len.toNat, by omega⟩
      rw [ways_all ns (-1) (-1) k m (by omega) (by omega)]
      unfold rwaysP
      rw [if_pos h1, if_pos (Or.inl rfl), if_pos h2, Int.toNat_natCast, Int.toNat_natCast, decide_eq_true rfl]
      have hd := downR_all ns (-1) 0 k m true (fun _ => rfl)
      rw [allW_neg ns (show (-1 : Int) < 0 by omega) k m true] at hd
      by_cases h : (allW ns (-1) (-1) k m false).length ≤ 4096
      · rw [hd.1 h, if_pos h]
      · rw [if_neg h, if_neg (by have := hd.2 (by omega); omega)]
    · unfold waysP rwaysP
      rw [if_pos h1, if_neg h2, if_pos h1, if_pos (Or.inl rfl), if_neg h2]
  · unfold waysP rwaysP
    rw [if_neg h1, if_neg h1]
theorem rways_thru (ns : List N) (n len nd lk : Int) (hnd : nd ≠ -1) : thruP ns n len nd lk = rwaysP ns n len nd lk := by
  unfold thruP rwaysP
  by_cases h1 : 0 ≤ n ∧ n < ns.length
  · rw [if_pos h1, if_pos h1]
    by_cases h3 : 0 ≤ nd ∧ nd < ns.length ∧ 0 ≤ lk ∧ lk < (lkOf ns nd.toNat).length
    · rw [if_pos h3, if_pos (Or.inr h3)]
      by_cases h2 : 0 ≤ len ∧ len ≤ 8
      · obtain ⟨m, rfl⟩ : ∃ m : Nat, n = m := ⟨n.toNat, by omega⟩
        obtain ⟨k, rfl⟩ : ∃ k : Nat, len = k := ⟨len.toNat, by omega⟩
        rw [ways_all ns nd lk k m (by omega) (by omega), if_pos h2, Int.toNat_natCast, Int.toNat_natCast, decide_eq_false hnd]
        have hd := downR_all ns nd lk k m false (fun h => by omega)
        by_cases h : (allW ns nd lk k m false).length ≤ 4096
        · rw [hd.1 h, if_pos h]
        · rw [if_neg h, if_neg (by have := hd.2 (by omega); omega)]
      · unfold waysP
        rw [if_pos h1, if_neg h2, if_neg h2]
    · rw [if_neg h3, if_neg (fun h => h.elim hnd h3)]
  · rw [if_neg h1, if_neg h1]
set_option maxRecDepth 100000 in
set_option maxHeartbeats 2000000 in
theorem rways_in (h : RM w S r nv vs ns p) (hf : ns.length ≤ 2097152) (hp : p ≤ 1073741824) (hL : Linked ns) (n len nd lk : Int) :
    Calls Try.prog 26 #[.pointer (some ⟨r, 0, none⟩), .int .i64 n, .int .i64 len, .int .i64 nd, .int .i64 lk] w (Told w (rwaysP ns n len nd lk)) := by
  have c0 := h.c0
  obtain ⟨A0, cap0, hv0⟩ := own_len h.nod
  rw [hv0] at c0
  by_cases h1 : 0 ≤ n ∧ n < ns.length
  · have a1 : decide (n < 0) = false := decide_eq_false (by omega)
    have a2 : decide ((ns.length : Int) ≤ n) = false := decide_eq_false (by omega)
    by_cases h3 : nd = -1 ∨ (0 ≤ nd ∧ nd < ns.length ∧ 0 ≤ lk ∧ lk < (lkOf ns nd.toNat).length)
    · by_cases h2 : 0 ≤ len ∧ len ≤ 8
      · have b1 : decide (len < 0) = false := decide_eq_false (by omega)
        have b2 : decide (8 < len) = false := decide_eq_false (by omega)
        obtain ⟨m, rfl⟩ : ∃ m : Nat, n = m := ⟨n.toNat, by omega⟩
        obtain ⟨k, rfl⟩ : ∃ k : Nat, len = k := ⟨len.toNat, by omega⟩
        have a3 : decide (ns.length ≤ m) = false := decide_eq_false (by omega)
        have b3 : decide (8 < k) = false := decide_eq_false (by omega)
        have hW : rwaysP ns m k nd lk = if (downR ns nd lk k m (decide (nd = -1))).length ≤ 4096 then (0, downR ns nd lk k m (decide (nd = -1))) else (3, []) := by
          unfold rwaysP
          rw [if_pos h1, if_pos h3, if_pos h2, Int.toNat_natCast, Int.toNat_natCast]
        rw [hW]
        clear hW
        have hd := rdown_in (nd := nd) (lk := lk) hL k (by omega) m (by omega) (decide (nd = -1)) w h hp
        have hDl := downR_len ns nd lk k m (decide (nd = -1))
        obtain ⟨D, hD⟩ : ∃ D, downR ns nd lk k m (decide (nd = -1)) = D := ⟨_, rfl⟩
        rw [hD] at hd hDl ⊢
        clear hD
        by_cases e : nd = -1
        · subst e
          rw [decide_eq_true rfl] at hd
          replace hd := Kept.mk hd
          by_cases h4 : D.length ≤ 4096
          · have g1 : decide (4096 < D.length) = false := decide_eq_false (by omega)
            have g1' : decide ((4096 : Int) < (D.length : Int)) = false := decide_eq_false (by omega)
            rw [if_pos h4]
            clear h1 h2 h3
            go_enter Try.func26, Try.ntmps26
            go_wp2_with (first | (go_at_call 34; (with_reducible refine hd.out.mono ?_); rintro en w4 ⟨v4, us4, rfl, hw4, b4⟩; obtain ⟨A4, c4, hv4⟩ := own_len hw4.wm.outr; subst hv4; replace hw4 := Kept.mk hw4; replace b4 := Kept.mk b4))
            refine bodyPost_ret (v := .tuple #[.slice A4 D.length c4, .int .i64 0]) (by simp [results, Try.results26, go_sem]) rfl ⟨_, us4, rfl, hw4.out.wm, b4.out⟩
          · have g1 : decide (4096 < D.length) = true := decide_eq_true (by omega)
            have g1' : decide ((4096 : Int) < (D.length : Int)) = true := decide_eq_true (by omega)
            rw [if_neg h4]
            clear h1 h2 h3
            go_enter Try.func26, Try.ntmps26
            go_wp2_with (first | (go_at_call 34; (with_reducible refine hd.out.mono ?_); rintro en w4 ⟨v4, us4, rfl, hw4, b4⟩; obtain ⟨A4, c4, hv4⟩ := own_len hw4.wm.outr; subst hv4; replace hw4 := Kept.mk hw4; replace b4 := Kept.mk b4))
            refine bodyPost_ret (v := .tuple #[.slice none 0 0, .int .i64 3]) (by simp [results, Try.results26, go_sem]) rfl ⟨_, [], rfl, WaysM.nil _ _, b4.out⟩
        · have h5 := h3.resolve_left e
          obtain ⟨t, rfl⟩ : ∃ t : Nat, nd = t := ⟨nd.toNat, by omega⟩
          have ht : t < ns.length := by omega
          rw [decide_eq_false e] at hd
          replace hd := Kept.mk hd
          rw [Int.toNat_natCast, lkOf_at ht] at h5
          obtain ⟨a, cap, hva, _, hlta, _, _, _, x2⟩ := h.node t ht
          rw [hva] at hv0
          cases hv0
          have hlk := h.lks t ht
          obtain ⟨AV, cV, hV⟩ := own_len hlk
          rw [hV] at x2
          have d1 : decide (t < ns.length) = true := decide_eq_true ht
          have d1' : decide ((t : Int) < (ns.length : Int)) = true := decide_eq_true (by omega)
          have d2 : decide (ns.length ≤ t) = false := decide_eq_false (by omega)
          have d2' : decide ((ns.length : Int) ≤ (t : Int)) = false := decide_eq_false (by omega)
          have d3 : decide (lk < 0) = false := decide_eq_false (by omega)
          have d4 : decide (((ns[t]).lk.length : Int) ≤ lk) = false := decide_eq_false (by omega)
          have d5 : decide ((t : Int) < 0) = false := decide_eq_false (by omega)
          have d6 : ((t : Int) == -1) = false := beq_eq_false_iff_ne.2 e
          have d7 : decide ((t : Int) = -1) = false := decide_eq_false e
          have d8 : ((t : Int) != -1) = true := bne_iff_ne.2 e
          replace h := Kept.mk h
          clear hlk hV hva e
          generalize (ns[t]).lk.length = nl at *
          by_cases h4 : D.length ≤ 4096
          · have g1 : decide (4096 < D.length) = false := decide_eq_false (by omega)
            have g1' : decide ((4096 : Int) < (D.length : Int)) = false := decide_eq_false (by omega)
            rw [if_pos h4]
            clear h1 h2 h3 h5
            go_enter Try.func26, Try.ntmps26
            go_wp2_with (first | (go_at_call 34; (with_reducible refine hd.out.mono ?_); rintro en w4 ⟨v4, us4, rfl, hw4, b4⟩; obtain ⟨A4, c4, hv4⟩ := own_len hw4.wm.outr; subst hv4; replace hw4 := Kept.mk hw4; replace b4 := Kept.mk b4))
            refine bodyPost_ret (v := .tuple #[.slice A4 D.length c4, .int .i64 0]) (by simp [results, Try.results26, go_sem]) rfl ⟨_, us4, rfl, hw4.out.wm, b4.out⟩
          · have g1 : decide (4096 < D.length) = true := decide_eq_true (by omega)
            have g1' : decide ((4096 : Int) < (D.length : Int)) = true := decide_eq_true (by omega)
            rw [if_neg h4]
            clear h1 h2 h3 h5
            go_enter Try.func26, Try.ntmps26
            go_wp2_with (first | (go_at_call 34; (with_reducible refine hd.out.mono ?_); rintro en w4 ⟨v4, us4, rfl, hw4, b4⟩; obtain ⟨A4, c4, hv4⟩ := own_len hw4.wm.outr; subst hv4; replace hw4 := Kept.mk hw4; replace b4 := Kept.mk b4))
            refine bodyPost_ret (v := .tuple #[.slice none 0 0, .int .i64 3]) (by simp [results, Try.results26, go_sem]) rfl ⟨_, [], rfl, WaysM.nil _ _, b4.out⟩
      · have hW : rwaysP ns n len nd lk = (2, []) := by
          unfold rwaysP
          rw [if_pos h1, if_pos h3, if_neg h2]
        rw [hW]
        clear hW
        by_cases e : nd = -1
        · subst e
          by_cases h4 : len < 0
          · have b1 : decide (len < 0) = true := decide_eq_true h4
            clear h3 h2
            go_enter Try.func26, Try.ntmps26
            go_wp2
            refine bodyPost_ret (v := .tuple #[.slice none 0 0, .int .i64 2]) (by simp [results, Try.results26, go_sem]) rfl ⟨_, [], rfl, WaysM.nil _ _, Below.refl _ _⟩
          · have b1 : decide (len < 0) = false := decide_eq_false h4
            have b2 : decide (8 < len) = true := decide_eq_true (by omega)
            clear h3 h2
            go_enter Try.func26, Try.ntmps26
            go_wp2
            refine bodyPost_ret (v := .tuple #[.slice none 0 0, .int .i64 2]) (by simp [results, Try.results26, go_sem]) rfl ⟨_, [], rfl, WaysM.nil _ _, Below.refl _ _⟩
        · have h5 := h3.resolve_left e
          obtain ⟨t, rfl⟩ : ∃ t : Nat, nd = t := ⟨nd.toNat, by omega⟩
          have ht : t < ns.length := by omega
          rw [Int.toNat_natCast, lkOf_at ht] at h5
          obtain ⟨a, cap, hva, _, hlta, _, _, _, x2⟩ := h.node t ht
          rw [hva] at hv0
          cases hv0
          have hlk := h.lks t ht
          obtain ⟨AV, cV, hV⟩ := own_len hlk
          rw [hV] at x2
          have d1 : decide (t < ns.length) = true := decide_eq_true ht
          have d1' : decide ((t : Int) < (ns.length : Int)) = true := decide_eq_true (by omega)
          have d2 : decide (ns.length ≤ t) = false := decide_eq_false (by omega)
          have d2' : decide ((ns.length : Int) ≤ (t : Int)) = false := decide_eq_false (by omega)
          have d3 : decide (lk < 0) = false := decide_eq_false (by omega)
          have d4 : decide (((ns[t]).lk.length : Int) ≤ lk) = false := decide_eq_false (by omega)
          have d5 : decide ((t : Int) < 0) = false := decide_eq_false (by omega)
          have d6 : ((t : Int) == -1) = false := beq_eq_false_iff_ne.2 e
          have d7 : decide ((t : Int) = -1) = false := decide_eq_false e
          have d8 : ((t : Int) != -1) = true := bne_iff_ne.2 e
          replace h := Kept.mk h
          clear hlk hV hva e
          generalize (ns[t]).lk.length = nl at *
          by_cases h4 : len < 0
          · have b1 : decide (len < 0) = true := decide_eq_true h4
            clear h3 h2 h5
            go_enter Try.func26, Try.ntmps26
            go_wp2
            refine bodyPost_ret (v := .tuple #[.slice none 0 0, .int .i64 2]) (by simp [results, Try.results26, go_sem]) rfl ⟨_, [], rfl, WaysM.nil _ _, Below.refl _ _⟩
          · have b1 : decide (len < 0) = false := decide_eq_false h4
            have b2 : decide (8 < len) = true := decide_eq_true (by omega)
            clear h3 h2 h5
            go_enter Try.func26, Try.ntmps26
            go_wp2
            refine bodyPost_ret (v := .tuple #[.slice none 0 0, .int .i64 2]) (by simp [results, Try.results26, go_sem]) rfl ⟨_, [], rfl, WaysM.nil _ _, Below.refl _ _⟩
    · have hW : rwaysP ns n len nd lk = (4, []) := by
        unfold rwaysP
        rw [if_pos h1, if_neg h3]
      rw [hW]
      clear hW
      have e : ¬ nd = -1 := fun e => h3 (Or.inl e)
      have d6 : (nd == -1) = false := beq_eq_false_iff_ne.2 e
      have d7 : decide (nd = -1) = false := decide_eq_false e
      have d8 : (nd != -1) = true := bne_iff_ne.2 e
      by_cases h4 : 0 ≤ nd ∧ nd < ns.length
      · obtain ⟨t, rfl⟩ : ∃ t : Nat, nd = t := ⟨nd.toNat, by omega⟩
        have ht : t < ns.length := by omega
        have h5 : ¬ (0 ≤ lk ∧ lk < (ns[t]).lk.length) := fun h5 => h3 (Or.inr ⟨h4.1, h4.2, h5.1, by rw [Int.toNat_natCast, lkOf_at ht]; exact h5.2⟩)
        obtain ⟨a, cap, hva, _, hlta, _, _, _, x2⟩ := h.node t ht
        rw [hva] at hv0
        cases hv0
        have hlk := h.lks t ht
        obtain ⟨AV, cV, hV⟩ := own_len hlk
        rw [hV] at x2
        have d1 : decide (t < ns.length) = true := decide_eq_true ht
        have d1' : decide ((t : Int) < (ns.length : Int)) = true := decide_eq_true (by omega)
        have d2 : decide (ns.length ≤ t) = false := decide_eq_false (by omega)
        have d2' : decide ((ns.length : Int) ≤ (t : Int)) = false := decide_eq_false (by omega)
        have d5 : decide ((t : Int) < 0) = false := decide_eq_false (by omega)
        replace h := Kept.mk h
        clear hlk hV hva e h3
        generalize (ns[t]).lk.length = nl at *
        by_cases h6 : lk < 0
        · have d3 : decide (lk < 0) = true := decide_eq_true h6
          clear h5
          go_enter Try.func26, Try.ntmps26
          go_wp2
          refine bodyPost_ret (v := .tuple #[.slice none 0 0, .int .i64 4]) (by simp [results, Try.results26, go_sem]) rfl ⟨_, [], rfl, WaysM.nil _ _, Below.refl _ _⟩
        · have d3 : decide (lk < 0) = false := decide_eq_false h6
          have d4 : decide ((nl : Int) ≤ lk) = true := decide_eq_true (by omega)
          clear h5
          go_enter Try.func26, Try.ntmps26
          go_wp2
          refine bodyPost_ret (v := .tuple #[.slice none 0 0, .int .i64 4]) (by simp [results, Try.results26, go_sem]) rfl ⟨_, [], rfl, WaysM.nil _ _, Below.refl _ _⟩
      · subst hv0
        by_cases h6 : nd < 0
        · have d5 : decide (nd < 0) = true := decide_eq_true h6
          clear h3 h4 e
          go_enter Try.func26, Try.ntmps26
          go_wp2
          refine bodyPost_ret (v := .tuple #[.slice none 0 0, .int .i64 4]) (by simp [results, Try.results26, go_sem]) rfl ⟨_, [], rfl, WaysM.nil _ _, Below.refl _ _⟩
        · have d5 : decide (nd < 0) = false := decide_eq_false h6
          have d4 : decide ((ns.length : Int) ≤ nd) = true := decide_eq_true (by omega)
          clear h3 h4 e
          go_enter Try.func26, Try.ntmps26
          go_wp2
          refine bodyPost_ret (v := .tuple #[.slice none 0 0, .int .i64 4]) (by simp [results, Try.results26, go_sem]) rfl ⟨_, [], rfl, WaysM.nil _ _, Below.refl _ _⟩
  · have hW : rwaysP ns n len nd lk = (4, []) := by
      unfold rwaysP
      rw [if_neg h1]
    rw [hW]
    clear hW
    subst hv0
    by_cases h2 : n < 0
    · have a1 : decide (n < 0) = true := decide_eq_true h2
      go_enter Try.func26, Try.ntmps26
      go_wp2
      refine bodyPost_ret (v := .tuple #[.slice none 0 0, .int .i64 4]) (by simp [results, Try.results26, go_sem]) rfl ⟨_, [], rfl, WaysM.nil _ _, Below.refl _ _⟩
    · have a1 : decide (n < 0) = false := decide_eq_false h2
      have a2 : decide ((ns.length : Int) ≤ n) = true := decide_eq_true (by omega)
      go_enter Try.func26, Try.ntmps26
      go_wp2
      refine bodyPost_ret (v := .tuple #[.slice none 0 0, .int .i64 4]) (by simp [results, Try.results26, go_sem]) rfl ⟨_, [], rfl, WaysM.nil _ _, Below.refl _ _⟩
end Go.Proofs.Yteeiidkbihhekaa
