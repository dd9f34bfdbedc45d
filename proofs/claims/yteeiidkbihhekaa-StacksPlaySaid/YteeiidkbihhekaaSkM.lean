/- Stacks: ways, Ways, Through, At. -/
import Derived.Test.YteeiidkbihhekaaSkL
set_option linter.unusedVariables false
set_option linter.unusedSimpArgs false
namespace Go.Proofs.Yteeiidkbihhekaa
open Go Go.RowKit Go.Maps Go.WideMaps
variable {w : World} {B g bm br p : Nat} {nv : Value} {vs : List Value} {ns : List N}
abbrev waysAns (v : Value) (e : Int) : Ending := .returned (.tuple #[v, .int .i64 e])
/-- what ways answers: the error, the ways -/
def waysP (ns : List N) (n len nd lk : Int) : Int × List Wy :=
  if 0 ≤ n ∧ n < ns.length then
    if 0 ≤ len ∧ len ≤ 8 then
      if (downP ns nd lk len.toNat n.toNat false [] []).2 = true then (0, (downP ns nd lk len.toNat n.toNat false [] []).1) else (3, [])
    else (2, [])
  else (4, [])
def Told (w : World) (r : Int × List Wy) (e : Ending) (w' : World) : Prop :=
  ∃ v us, e = waysAns v r.1 ∧ WaysM w' w.heap.size v us r.2 ∧ Below w.heap.size w w'
theorem WaysM.nil (w : World) (S : Nat) : WaysM w S (.slice none 0 0) [] [] := ⟨rfl, ⟨rfl, .inl ⟨rfl, rfl⟩⟩, fun i hi => absurd hi (by simp)⟩
theorem Srch.start (w : World) (g : Nat) (nd lk : Int) : Srch (w.alloc (.cells #[.pointer (some ⟨g, 0, none⟩), .int .i64 nd, .int .i64 lk, .slice none 0 0, .slice none 0 0] 89)) w.heap.size w.heap.size g nd lk [] (.slice none 0 0) (.slice none 0 0) [] [] :=
  ⟨alloc_here w _, Nat.le_refl _, ⟨rfl, .inl ⟨rfl, rfl⟩⟩, WaysM.nil _ _, fun i hi => absurd hi (by simp)⟩
set_option maxRecDepth 100000 in
theorem ways_in (h : StM w B g nv bm br vs ns p) (hp : p ≤ 1073741824) (hL : Linked ns) (n len nd lk : Int) :
    Calls Try.prog 30 #[.pointer (some ⟨g, 0, none⟩), .int .i64 n, .int .i64 len, .int .i64 nd, .int .i64 lk] w (Told w (waysP ns n len nd lk)) := by
  have ht := there_in h n
  have c1 := h.c1
  have eq73 := eql73
  by_cases h1 : 0 ≤ n ∧ n < ns.length
  · rw [decide_eq_true h1] at ht
    by_cases h2 : 0 ≤ len ∧ len ≤ 8
    · have q1 : decide (len < 0) = false := decide_eq_false (by omega)
      have q2 : decide (8 < len) = false := decide_eq_false (by omega)
      obtain ⟨m, rfl⟩ : ∃ m : Nat, n = m := ⟨n.toNat, by omega⟩
      obtain ⟨k, rfl⟩ : ∃ k : Nat, len = k := ⟨len.toNat, by omega⟩
      have hd := down_in h hp hL k (by omega) m (by omega) false [] (.slice none 0 0) (.slice none 0 0) [] [] _ (by simp; omega) (by simp) (Srch.start w g nd lk) (below_al w _)
      have hW : waysP ns m k nd lk = if (downP ns nd lk k m false [] []).2 = true then (0, (downP ns nd lk k m false [] []).1) else (3, []) := by
        unfold waysP
        rw [if_pos h1, if_pos h2, Int.toNat_natCast, Int.toNat_natCast]
      unfold DownOk at hd
      rw [hW]
      have hS := Srch.start w g nd lk
      replace hS := Kept.mk hS
      clear hW h1 h2
      obtain ⟨o, b, hR⟩ : ∃ o b, downP ns nd lk k m false [] [] = (o, b) := ⟨_, _, rfl⟩
      rw [hR] at hd ⊢
      clear hR
      dsimp only at hd ⊢
      cases b
      · rw [if_neg (by simp)]
        go_enter Try.func30, Try.ntmps30
        go_wp2_with (first | (go_at_call 28; (with_reducible refine ht.mono ?_); rintro en w1 ⟨rfl, rfl⟩) | (go_at_call 36; (with_reducible refine hd.mono ?_); rintro en w4 ⟨rfl, vo4, vw4, us4, hs4, fr4⟩))
        refine bodyPost_ret (v := .tuple #[.slice none 0 0, .int .i64 3]) (by simp [results, Try.results30, go_sem]) rfl ⟨_, [], rfl, WaysM.nil _ _, ?_⟩
        exact (below_al _ _).trans (fr4.low hS.out (by simp))
      · rw [if_pos rfl]
        go_enter Try.func30, Try.ntmps30
        go_wp2_with (first | (go_at_call 28; (with_reducible refine ht.mono ?_); rintro en w1 ⟨rfl, rfl⟩) | (go_at_call 36; (with_reducible refine hd.mono ?_); rintro en w4 ⟨rfl, vo4, vw4, us4, hs4, fr4⟩; have k4 : w4.cell? ⟨w1.heap.size, 4, none⟩ = some vw4 := hs4.cell 4; replace hs4 := Kept.mk hs4; replace fr4 := Kept.mk fr4))
        refine bodyPost_ret (v := .tuple #[vw4, .int .i64 0]) (by simp [results, Try.results30, go_sem]) rfl ⟨_, us4, rfl, hs4.out.wm, ?_⟩
        exact (below_al _ _).trans (fr4.out.low hS.out (by simp))
    · have hW : waysP ns n len nd lk = (2, []) := by
        unfold waysP
        rw [if_pos h1, if_neg h2]
      rw [hW]
      clear hW
      by_cases h3 : len < 0
      · have q1 : decide (len < 0) = true := decide_eq_true h3
        go_enter Try.func30, Try.ntmps30
        go_wp2_with (first | (go_at_call 28; (with_reducible refine ht.mono ?_); rintro en w1 ⟨rfl, rfl⟩))
        refine bodyPost_ret (v := .tuple #[.slice none 0 0, .int .i64 2]) (by simp [results, Try.results30, go_sem]) rfl ⟨_, [], rfl, WaysM.nil _ _, Below.refl _ _⟩
      · have q1 : decide (len < 0) = false := decide_eq_false h3
        have q2 : decide (8 < len) = true := decide_eq_true (by omega)
        go_enter Try.func30, Try.ntmps30
        go_wp2_with (first | (go_at_call 28; (with_reducible refine ht.mono ?_); rintro en w1 ⟨rfl, rfl⟩))
        refine bodyPost_ret (v := .tuple #[.slice none 0 0, .int .i64 2]) (by simp [results, Try.results30, go_sem]) rfl ⟨_, [], rfl, WaysM.nil _ _, Below.refl _ _⟩
  · rw [decide_eq_false h1] at ht
    have hW : waysP ns n len nd lk = (4, []) := by
      unfold waysP
      rw [if_neg h1]
    rw [hW]
    clear hW
    go_enter Try.func30, Try.ntmps30
    go_wp2_with (first | (go_at_call 28; (with_reducible refine ht.mono ?_); rintro en w1 ⟨rfl, rfl⟩))
    refine bodyPost_ret (v := .tuple #[.slice none 0 0, .int .i64 4]) (by simp [results, Try.results30, go_sem]) rfl ⟨_, [], rfl, WaysM.nil _ _, Below.refl _ _⟩
theorem Ways_in (h : StM w B g nv bm br vs ns p) (hp : p ≤ 1073741824) (hL : Linked ns) (n len : Int) :
    Calls Try.prog 11 #[.pointer (some ⟨g, 0, none⟩), .int .i64 n, .int .i64 len] w (Told w (waysP ns n len (-1) (-1))) := by
  have hw := ways_in h hp hL n len (-1) (-1)
  generalize waysP ns n len (-1) (-1) = r at *
  go_enter Try.func11, Try.ntmps11
  go_wp2_with (first | (go_at_call 30; (with_reducible refine hw.mono ?_); rintro en w1 ⟨v, us, rfl, hm, hb⟩; replace hm := Kept.mk hm; replace hb := Kept.mk hb))
  refine bodyPost_ret (v := .tuple #[v, .int .i64 r.1]) (by simp [results, Try.results11, go_sem]) rfl ⟨v, us, rfl, hm.out, hb.out⟩
/-- what Through answers -/
def thruP (ns : List N) (n len nd lk : Int) : Int × List Wy :=
  if 0 ≤ n ∧ n < ns.length then
    if 0 ≤ nd ∧ nd < ns.length ∧ 0 ≤ lk ∧ lk < (lkOf ns nd.toNat).length then waysP ns n len nd lk else (4, [])
  else (4, [])
set_option maxRecDepth 100000 in
set_option maxHeartbeats 1000000 in
theorem Through_in (h : StM w B g nv bm br vs ns p) (hp : p ≤ 1073741824) (hL : Linked ns) (n len nd lk : Int) :
    Calls Try.prog 17 #[.pointer (some ⟨g, 0, none⟩), .int .i64 n, .int .i64 len, .int .i64 nd, .int .i64 lk] w (Told w (thruP ns n len nd lk)) := by
  have hw := ways_in h hp hL n len nd lk
  have ht := there_in h n
  have ht2 := there_in h nd
  have c0 := h.c0
  have c1 := h.c1
  have eq73 := neq73
  by_cases h1 : 0 ≤ n ∧ n < ns.length
  · rw [decide_eq_true h1] at ht
    by_cases h2 : 0 ≤ nd ∧ nd < ns.length
    · rw [decide_eq_true h2] at ht2
      obtain ⟨m, rfl⟩ : ∃ m : Nat, nd = m := ⟨nd.toNat, by omega⟩
      have hm : m < ns.length := by omega
      obtain ⟨a, cap, rfl, hBa, hlta, hcap, _, _, x2⟩ := h.node m hm
      have hlk := h.lks m hm
      obtain ⟨A, lc, hV⟩ := own_len hlk
      rw [hV] at x2
      have d1 : decide (m < ns.length) = true := decide_eq_true hm
      have d1' : decide ((m : Int) < (ns.length : Int)) = true := decide_eq_true (by omega)
      have hlkl : (ns[m]).lk.length ≤ p := h.lkp _ (List.getElem_mem hm)
      have eT : thruP ns n len m lk = if 0 ≤ lk ∧ lk < (ns[m]).lk.length then waysP ns n len m lk else (4, []) := by
        unfold thruP
        rw [if_pos h1, Int.toNat_natCast, lkOf_at hm]
        by_cases h3 : 0 ≤ lk ∧ lk < (ns[m]).lk.length
        · rw [if_pos h3, if_pos ⟨h2.1, h2.2, h3⟩]
        · rw [if_neg h3, if_neg (fun h => h3 h.2.2)]
      rw [eT]
      clear eT hV hlk h
      generalize (ns[m]).lk.length = LL at *
      by_cases h3 : 0 ≤ lk ∧ lk < LL
      · rw [if_pos h3]
        have q1 : decide (lk < 0) = false := decide_eq_false (by omega)
        have q2 : decide ((LL : Int) ≤ lk) = false := decide_eq_false (by omega)
        generalize waysP ns n len m lk = r at *
        clear h1 h2 h3
        go_enter Try.func17, Try.ntmps17
        go_wp2_with (first | (go_at_call 28; (first | ((with_reducible refine ht.mono ?_); rintro en w1 ⟨rfl, rfl⟩) | ((with_reducible refine ht2.mono ?_); rintro en w1 ⟨rfl, rfl⟩))) | (go_at_call 30; (with_reducible refine hw.mono ?_); rintro en w1 ⟨v, us, rfl, hm, hb⟩; replace hm := Kept.mk hm; replace hb := Kept.mk hb))
        refine bodyPost_ret (v := .tuple #[v, .int .i64 r.1]) (by simp [results, Try.results17, go_sem]) rfl ⟨v, us, rfl, hm.out, hb.out⟩
      · rw [if_neg h3]
        clear hw
        by_cases h4 : lk < 0
        · have q1 : decide (lk < 0) = true := decide_eq_true (by omega)
          clear h1 h2 h3
          go_enter Try.func17, Try.ntmps17
          go_wp2_with (first | (go_at_call 28; (first | ((with_reducible refine ht.mono ?_); rintro en w1 ⟨rfl, rfl⟩) | ((with_reducible refine ht2.mono ?_); rintro en w1 ⟨rfl, rfl⟩))))
          refine bodyPost_ret (v := .tuple #[.slice none 0 0, .int .i64 4]) (by simp [results, Try.results17, go_sem]) rfl ⟨_, [], rfl, WaysM.nil _ _, Below.refl _ _⟩
        · have q1 : decide (lk < 0) = false := decide_eq_false (by omega)
          have q2 : decide ((LL : Int) ≤ lk) = true := decide_eq_true (by omega)
          clear h1 h2 h3
          go_enter Try.func17, Try.ntmps17
          go_wp2_with (first | (go_at_call 28; (first | ((with_reducible refine ht.mono ?_); rintro en w1 ⟨rfl, rfl⟩) | ((with_reducible refine ht2.mono ?_); rintro en w1 ⟨rfl, rfl⟩))))
          refine bodyPost_ret (v := .tuple #[.slice none 0 0, .int .i64 4]) (by simp [results, Try.results17, go_sem]) rfl ⟨_, [], rfl, WaysM.nil _ _, Below.refl _ _⟩
    · rw [decide_eq_false h2] at ht2
      have eT : thruP ns n len nd lk = (4, []) := by
        unfold thruP
        rw [if_pos h1, if_neg (fun h => h2 ⟨h.1, h.2.1⟩)]
      rw [eT]
      clear eT hw h1 h2
      go_enter Try.func17, Try.ntmps17
      go_wp2_with (first | (go_at_call 28; (first | ((with_reducible refine ht.mono ?_); rintro en w1 ⟨rfl, rfl⟩) | ((with_reducible refine ht2.mono ?_); rintro en w1 ⟨rfl, rfl⟩))))
      refine bodyPost_ret (v := .tuple #[.slice none 0 0, .int .i64 4]) (by simp [results, Try.results17, go_sem]) rfl ⟨_, [], rfl, WaysM.nil _ _, Below.refl _ _⟩
  · rw [decide_eq_false h1] at ht
    have eT : thruP ns n len nd lk = waysP ns n len nd lk := by
      unfold thruP waysP
      rw [if_neg h1, if_neg h1]
    rw [eT]
    generalize waysP ns n len nd lk = r at *
    clear eT ht2 h1
    go_enter Try.func17, Try.ntmps17
    go_wp2_with (first | (go_at_call 28; (with_reducible refine ht.mono ?_); rintro en w1 ⟨rfl, rfl⟩) | (go_at_call 30; (with_reducible refine hw.mono ?_); rintro en w1 ⟨v, us, rfl, hm, hb⟩; replace hm := Kept.mk hm; replace hb := Kept.mk hb))
    refine bodyPost_ret (v := .tuple #[v, .int .i64 r.1]) (by simp [results, Try.results17, go_sem]) rfl ⟨v, us, rfl, hm.out, hb.out⟩
end Go.Proofs.Yteeiidkbihhekaa
