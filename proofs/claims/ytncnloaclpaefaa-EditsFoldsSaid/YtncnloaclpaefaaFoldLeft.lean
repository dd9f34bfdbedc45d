/- LeftEdits, walked: of TwinEdits' list it says that the list and the marks are as they were. -/
import Derived.Test.YtncnloaclpaefaaFoldPl
set_option linter.unusedVariables false
set_option linter.unusedSimpArgs false
namespace Go.Proofs.Ytncnloaclpaefaa.Folds
open Go Go.RowKit Go.Proofs.Ytncnloaclpaefaa.Pl Go.Proofs.Ytncnloaclpaefaa.PEditsFolds
open Go.Proofs.YtncnloaclpaefaaW.PrintWords
theorem take_self (l : List S23) : (l ++ marks).take l.length = l := by simp
theorem mark_at (l : List S23) (i : Nat) (h : i < 3) : rd_T23 (l ++ marks) ((l.length + i : Nat) : Int) = marks.getD i z23 := by
  unfold rd_T23
  have e : (((l.length + i : Nat) : Int)).toNat = l.length + i := by omega
  rw [e, List.getD_eq_getElem?_getD, List.getElem?_append_right (by omega), Nat.add_sub_cancel_left, List.getD_eq_getElem?_getD]
theorem run_long (A : Option Addr) (n m cap : Nat) (h : m ≤ cap) (w : World) : (Instr.slice 44 (.slice A n cap) none (some (.int .i64 m)) none).run Try.prog w = .ok (.slice A m cap) w := by
  obtain ⟨i0, hi, hz0, hz1, hz2⟩ := info_parts info23
  have hs : (sizeOf 23).run Try.prog w = .ok 3 w := by
    rw [← hz1]
    simp [sizeOf, run_typeInfo w hi]
  have hA : A.map (fun x => x.add 0) = A := by cases A <;> simp [Addr.add]
  simp [Instr.slice, run_underlying Try.underlying44, Instr.sliceBounds, run_sliceBound, go_sem, h, hs, hA]
set_option maxRecDepth 100000 in
set_option maxHeartbeats 8000000 in
theorem left_yes (A B : Option Addr) (cap c2 : Nat) (l : List S23) (w : World) (hl : l.length ≤ 300) (hm : Kd.C k23 w A (l ++ marks).length (l ++ marks)) (hc : (l ++ marks).length ≤ cap) (hB : Kd.C k23 w B l.length l) (hc2 : l.length ≤ c2) :
    Calls Try.prog 29 #[.slice A l.length cap, .slice B l.length c2] w fun e w' => e = .returned (.bool true) ∧ Drawn0 w w' := by
  have hlm : (l ++ marks).length = l.length + 3 := by simp [marks]
  have ht := Kd.C_take (m := l.length) hm (by omega)
  rw [take_self] at ht
  have hs := rootstocklaw01_SameEdits.calls _ A cap l B c2 l true w ht (by omega) hB hc2 (seds_eq l (by omega))
  have d1 : decide (cap < l.length + 3) = false := decide_eq_false (by omega)
  have d1' : decide ((cap : Int) < (l.length : Int) + 3) = false := decide_eq_false (by omega)
  have rl := fun w => run_long A l.length (l.length + 3) cap (by omega) w
  have e3 : (((l.length + 3 : Nat)) : Int) = (l.length : Int) + 3 := by omega
  rw [e3] at rl
  have hz : l.length ≤ 2097152 := by omega
  go_enter Try.func29, Try.ntmps29
  go_wp2_with (first
    | (go_at_call 34; (with_reducible refine hs.mono ?_); rintro en w1 ⟨rfl, dr⟩; obtain ⟨n1, rfl⟩ := dr.out))
  have hm2 := Kd.C_drewN hm n1
  generalize w.drewN n1 = w1 at hm2 dr ⊢
  clear hm ht hs hB d1 d1' rl
  go_loopg [6] 3 (fun gk i wr => wr = w1 ∧ ∃ k : Nat, i = .int .i64 k ∧ Aside0 (k + gk = 3))
  case atStart => exact ⟨rfl, 0, rfl, ⟨rfl⟩⟩
  case round =>
    obtain ⟨rfl, k, rfl, hk⟩ := hrel
    have hk' := hk.out
    have hc : k = 0 ∨ k = 1 ∨ k = 2 ∨ k = 3 := by omega
    rcases hc with rfl | rfl | rfl | rfl
    · obtain ⟨ad, hA, m0, m1, m2⟩ := at_T23 hm2 ((l.length + 0 : Nat) : Int) (by omega) (by omega)
      rw [mark_at l 0 (by omega)] at m0 m1 m2
      have ez : (((l.length + 0 : Nat)) : Int).toNat = l.length + 0 := by omega
      rw [ez] at m0 m1 m2
      simp only [marks, List.getD_cons_zero, List.getD_cons_succ] at m0 m1 m2
      (try simp only [Nat.add_zero] at m0 m1 m2)
      subst hA
      go_wp2
      go_roundg (gk - 1)
      case measure => omega
      case rel => exact ⟨rfl, 1, rfl, ⟨by omega⟩⟩
    · obtain ⟨ad, hA, m0, m1, m2⟩ := at_T23 hm2 ((l.length + 1 : Nat) : Int) (by omega) (by omega)
      rw [mark_at l 1 (by omega)] at m0 m1 m2
      have ez : (((l.length + 1 : Nat)) : Int).toNat = l.length + 1 := by omega
      rw [ez] at m0 m1 m2
      simp only [marks, List.getD_cons_zero, List.getD_cons_succ] at m0 m1 m2
      (try simp only [Nat.add_zero] at m0 m1 m2)
      subst hA
      go_wp2
      go_roundg (gk - 1)
      case measure => omega
      case rel => exact ⟨rfl, 2, rfl, ⟨by omega⟩⟩
    · obtain ⟨ad, hA, m0, m1, m2⟩ := at_T23 hm2 ((l.length + 2 : Nat) : Int) (by omega) (by omega)
      rw [mark_at l 2 (by omega)] at m0 m1 m2
      have ez : (((l.length + 2 : Nat)) : Int).toNat = l.length + 2 := by omega
      rw [ez] at m0 m1 m2
      simp only [marks, List.getD_cons_zero, List.getD_cons_succ] at m0 m1 m2
      (try simp only [Nat.add_zero] at m0 m1 m2)
      subst hA
      go_wp2
      go_roundg (gk - 1)
      case measure => omega
      case rel => exact ⟨rfl, 3, rfl, ⟨by omega⟩⟩
    · go_wp2
      go_ret
      exact ⟨rfl, dr⟩
end Go.Proofs.Ytncnloaclpaefaa.Folds
