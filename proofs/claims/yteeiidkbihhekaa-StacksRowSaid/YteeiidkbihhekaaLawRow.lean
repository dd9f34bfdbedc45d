/- One state laid on the other, over things, is one way down: the law StacksRow returns true, for any row of bytes and any length. -/
import Derived.Test.YteeiidkbihhekaaSkS
import Derived.Test.YteeiidkbihhekaaSkP
import Derived.Test.YteeiidkbihhekaaSkR
set_option linter.unusedVariables false
set_option linter.unusedSimpArgs false
namespace Go.Proofs.Yteeiidkbihhekaa
open Go Go.RowKit
set_option maxRecDepth 100000 in
set_option maxHeartbeats 4000000 in
theorem row_main (A : Option Addr) (cap : Nat) (l : List Int) (n : Int) (w : World) (hA : BytesR w A l) (hW : BWf l) (hc : l.length ≤ cap) (hl : l.length ≤ 40) (hn : 0 ≤ n ∧ n ≤ 255) :
    Calls Try.prog 3 #[.slice A l.length cap, .int .u8 n] w fun e w' => e = .returned (.bool true) ∧ Below w.heap.size w w' := by
  have d40 : decide (40 < l.length) = false := decide_eq_false (by omega)
  have d40' : decide ((40 : Int) < (l.length : Int)) = false := decide_eq_false (by omega)
  go_enter Try.func3, Try.ntmps3
  go_wp2_with (first | (go_at_call 9; (with_reducible refine (new_ok 0 (by omega) (wf_i rfl) _).mono ?_); rintro en w1 ⟨g, bm, br, nv, vs, rfl, h1, b1⟩; replace h1 := Kept.mk h1; replace b1 := Kept.mk b1))
  clear d40 d40'
  have hA' := Kept.mk hA
  have hW' := Kept.mk hW
  clear hA hW
  go_loopg [7, 8] l.length (fun gk t i wr => ∃ k : Nat, i = .int .i64 k ∧ t = .int .i64 k ∧ Kept (k + gk = l.length) ∧ Kept (∃ nv vs, StM wr w.heap.size g nv bm br vs (rowNs (l.take k)) k) ∧ Kept (Below w.heap.size w wr))
  case atStart => exact ⟨0, rfl, rfl, ⟨by omega⟩, ⟨_, _, h1.out⟩, b1⟩
  case round =>
    obtain ⟨k, rfl, rfl, hk, ⟨nv', vs', h2⟩, hB⟩ := hrel
    have hk' := hk.out
    by_cases hlt : k < l.length
    · have f1 : decide (k < l.length) = true := decide_eq_true hlt
      have f1' : decide ((k : Int) < (l.length : Int)) = true := decide_eq_true (by omega)
      obtain ⟨ad, rfl, y0⟩ := hA'.out k hlt
      have hz := hW'.out _ (List.getElem_mem hlt)
      have y1 : wr.drew.cell? (ad.add k) = some (.int .u8 l[k]) := (hB.out.cell (World.block_lt_of_cell? _ _ y0)).trans y0
      have bd : Below wr.heap.size wr wr.drew := (Below.refl _ _).drew
      have tk : (l.take k).length = k := by simp; omega
      have hpu := Push_in (h2.below bd) (by omega) (by rw [rowNs_len, tk]; omega) (((l.take k).length : Nat) : Int) (l[k] % 7) ((((l.take k).length : Nat) : Int) + 1) l[k] (Wf.of (by omega) (by omega)) (Wf.of (by omega) (by omega))
      rw [push_row _ _ hz.1, tk] at hpu
      have ts : l.take k ++ [l[k]] = l.take (k + 1) := by
        rw [List.take_succ_eq_append_getElem hlt]
      rw [ts] at hpu
      have hpu' := Kept.mk hpu
      clear hpu ts tk bd h2
      generalize l[k] = z at *
      have wr1 : IntKind.i64.wrap ((k : Int) + 1) = (k : Int) + 1 := IntWalk.i64_in _ (by omega)
      have wr2 : IntKind.i64.wrap z = z := IntWalk.i64_in _ (by omega)
      have wr3 : z.tmod 7 = z % 7 := by rw [Int.tmod_eq_emod_of_nonneg hz.1]
      have wr4 : IntKind.i64.wrap (z % 7) = z % 7 := IntWalk.i64_in _ (by omega)
      go_wp2
      go_region_held3 (fun w' => w'.cell? (ad.add k) = some (.int .u8 z)) (first | exact y1 | exact y2 | fail) (first
        | (go_at_call 10; (with_reducible refine hpu'.out.mono ?_); rintro en w3 ⟨rfl, nv3, vs3, s3, b3, t3⟩
           have y2 : w3.cell? (ad.add k) = some (.int .u8 z) := (b3.cell (World.block_lt_of_cell? _ _ y0)).trans y1
           replace s3 := Kept.mk s3
           replace b3 := Kept.mk b3)
        | fail)
      go_wp2
      go_roundg (gk - 1)
      case measure => omega
      case rel => exact ⟨k + 1, by go_num, by go_num, ⟨by omega⟩, ⟨_, _, s3.out⟩, ⟨hB.out.drew.trans b3.out⟩⟩
    · have f1 : decide (k < l.length) = false := decide_eq_false hlt
      have f1' : decide ((k : Int) < (l.length : Int)) = false := decide_eq_false (by omega)
      have ek : k = l.length := by omega
      subst ek
      rw [List.take_length] at h2
      obtain ⟨m, hm⟩ : ∃ m : Nat, n % 9 = m := ⟨(n % 9).toNat, by omega⟩
      have hm8 : m ≤ 8 := by omega
      have hwa := Ways_in h2 (by omega) (rowNs_linked l) l.length m
      rw [ways_row l m hm8] at hwa
      have wr2 : IntKind.i64.wrap n = n := IntWalk.i64_in _ (by omega)
      have wr3 : n.tmod 9 = n % 9 := by rw [Int.tmod_eq_emod_of_nonneg hn.1]
      have wr4 : IntKind.i64.wrap (n % 9) = n % 9 := IntWalk.i64_in _ (by omega)
      clear h2
      by_cases hmk : m ≤ l.length
      · rw [if_pos hmk] at hwa
        have hwa' := Kept.mk hwa
        clear hwa
        have q1 : decide (l.length < m) = false := decide_eq_false (by omega)
        have q1' : decide ((l.length : Int) < (m : Int)) = false := decide_eq_false (by omega)
        have eb : (((l.length - m : Nat)) : Int) = (l.length : Int) - (m : Int) := by omega
        have el : (l.drop (l.length - m)).length = m := by simp; omega
        obtain ⟨D, hD⟩ : ∃ D, l.drop (l.length - m) = D := ⟨_, rfl⟩
        rw [hD] at hwa' el
        rw [eb] at hwa'
        have hDi : Kept (∀ i (h : i < D.length), ∃ (h2 : l.length - m + i < l.length), D[i] = l[l.length - m + i]) := ⟨fun i hi => by
          subst hD
          refine ⟨by omega, ?_⟩
          rw [List.getElem_drop]⟩
        replace hD := Kept.mk hD
        have wrs : IntKind.i64.wrap ((l.length : Int) - (m : Int)) = (l.length : Int) - (m : Int) := IntWalk.i64_in _ (by omega)
        clear eb
        go_wp2_with (first | (go_at_call 11; (with_reducible refine hwa'.out.mono ?_); rintro en w5 ⟨v5, us5, rfl, m5, b5⟩
                              obtain ⟨a5, c5, hv5, _, ha5, hc5, r5, _⟩ := own_cells m5.outr (by simp)
                              simp only [List.length_cons, List.length_nil] at hv5
                              subst hv5
                              have x0 : w5.cell? ⟨a5, 0, none⟩ = some (.int .i64 ((l.length : Int) - (m : Int))) := (r5 0 (by simp)).trans (wayCells_at _ us5 0 m5.len (by simp)).1
                              have x1 : w5.cell? ⟨a5, 1, none⟩ = some (vAt us5 0) := (r5 1 (by simp)).trans (wayCells_at _ us5 0 m5.len (by simp)).2
                              have o5 := m5.ways 0 (by simp)
                              simp only [List.getElem_cons_zero] at o5
                              rw [el] at o5
                              obtain ⟨A6, c6, hv6⟩ := own_len o5
                              rw [hv6] at x1 o5
                              replace o5 := Kept.mk o5
                              replace b5 := Kept.mk b5
                              clear r5 m5 hv6))
        go_loopg [15] m (fun gk t wr => ∃ i : Nat, t = .int .i64 i ∧ Kept (i + gk = m) ∧ Kept (∃ n, wr = w5.drewN n))
        case atStart => exact ⟨0, rfl, ⟨by omega⟩, ⟨0, rfl⟩⟩
        case round =>
          obtain ⟨i, rfl, hi, hz⟩ := hrel
          have hi' := hi.out
          by_cases hlt2 : i < m
          · have f2 : decide (i < m) = true := decide_eq_true hlt2
            have f2' : decide ((i : Int) < (m : Int)) = true := decide_eq_true (by omega)
            have o6 := o5.out
            rw [← el] at o6
            obtain ⟨a6, cc, hv, _, ha6, hcc, r6⟩ := int_read o6 (by omega)
            cases hv
            have hiD : i < D.length := by omega
            obtain ⟨h7, e7⟩ := hDi.out i hiD
            have s1 := r6 i hiD
            rw [e7] at s1
            obtain ⟨ad, rfl, y0⟩ := hA'.out _ h7
            have B5 := hB.out.trans (b5.out.mono hB.out.size)
            have y1 := cell_below B5 (World.block_lt_of_cell? _ _ y0) y0
            have z0 : wr.cell? ⟨a5, 1, none⟩ = some (.slice (some ⟨a6, 0, none⟩) m c6) := by
              obtain ⟨n, rfl⟩ := hz.out
              exact x1
            have z1 : wr.cell? ⟨a6, i, none⟩ = some (.int .i64 l[l.length - m + i]) := by obtain ⟨n, rfl⟩ := hz.out; exact s1
            have z2 : wr.cell? (ad.add (l.length - m + i)) = some (.int .u8 l[l.length - m + i]) := by obtain ⟨n, rfl⟩ := hz.out; exact y1
            have hz8 := hW'.out _ (List.getElem_mem h7)
            have g1 : (0 : Int) ≤ (l.length : Int) - (m : Int) + (i : Int) := by omega
            have g2 : (l.length : Int) - (m : Int) + (i : Int) < (l.length : Int) := by omega
            have g3 : ((l.length : Int) - (m : Int) + (i : Int)).toNat = l.length - m + i := by omega
            have g4 : IntKind.i64.wrap ((l.length : Int) - (m : Int) + (i : Int)) = (l.length : Int) - (m : Int) + (i : Int) := IntWalk.i64_in _ (by omega)
            have g5 : IntKind.i64.wrap l[l.length - m + i] = l[l.length - m + i] := IntWalk.i64_in _ (by omega)
            have g6 : IntKind.i64.wrap ((i : Int) + 1) = (i : Int) + 1 := IntWalk.i64_in _ (by omega)
            have g7 : decide ((l.length : Int) - (m : Int) + (i : Int) < (l.length : Int)) = true := decide_eq_true g2
            have g8 : decide ((0 : Int) ≤ (l.length : Int) - (m : Int) + (i : Int)) = true := decide_eq_true g1
            generalize l[l.length - m + i] = z at *
            clear s1 e7 y0 y1 x0 x1 o6 r6
            go_wp2
            go_quiet (fail)
            go_wp2
            go_roundg (gk - 1)
            case measure => omega
            case rel =>
              refine ⟨i + 1, by go_num, ⟨by omega⟩, ?_⟩
              obtain ⟨n, rfl⟩ := hz.out
              exact ⟨_, World.drewN_drewN _ _ _⟩
          · have f2 : decide (i < m) = false := decide_eq_false hlt2
            have f2' : decide ((i : Int) < (m : Int)) = false := decide_eq_false (by omega)
            go_wp2_with (first | (go_at_call 8; (with_reducible refine (lives_in _).mono ?_); rintro en w6 ⟨rfl, b6⟩))
            go_ret
            refine ⟨rfl, ?_⟩
            have B5 := hB.out.trans (b5.out.mono hB.out.size)
            obtain ⟨n, rfl⟩ := hz.out
            have B6 := below_drewN B5 n
            exact B6.trans (b6.mono B6.size)
      · rw [if_neg hmk] at hwa
        have hwa' := Kept.mk hwa
        clear hwa
        have q1 : decide (l.length < m) = true := decide_eq_true (by omega)
        have q1' : decide ((l.length : Int) < (m : Int)) = true := decide_eq_true (by omega)
        go_wp2_with (first | (go_at_call 11; (with_reducible refine hwa'.out.mono ?_); rintro en w5 ⟨v5, us5, rfl, m5, b5⟩; obtain ⟨A5, c5, hv5⟩ := own_len m5.outr; subst hv5) | (go_at_call 8; (with_reducible refine (lives_in _).mono ?_); rintro en w6 ⟨rfl, b6⟩))
        go_ret
        refine ⟨rfl, ?_⟩
        have B5 := hB.out.trans (b5.mono hB.out.size)
        exact B5.trans (b6.mono B5.size)
set_option maxRecDepth 100000 in
theorem lawRow (A : Option Addr) (cap : Nat) (l : List Int) (n : Int) (w : World) (hA : BytesR w A l) (hW : BWf l) (hc : l.length ≤ cap) (hm : l.length ≤ maxLen) (hn : 0 ≤ n ∧ n ≤ 255) :
    Calls Try.prog 3 #[.slice A l.length cap, .int .u8 n] w fun e w' => e = .returned (.bool true) ∧ Below w.heap.size w w' := by
  by_cases hl : l.length ≤ 40
  · exact row_main A cap l n w hA hW hc hl hn
  · have d40 : decide (40 < l.length) = true := decide_eq_true (by omega)
    have d40' : decide ((40 : Int) < (l.length : Int)) = true := decide_eq_true (by omega)
    clear hA hW
    go_enter Try.func3, Try.ntmps3
    go_wp2_with (first | (go_at_call 8; (with_reducible refine (lives_in _).mono ?_); rintro en w6 ⟨rfl, b6⟩))
    go_ret
    exact ⟨rfl, b6⟩
end Go.Proofs.Yteeiidkbihhekaa
