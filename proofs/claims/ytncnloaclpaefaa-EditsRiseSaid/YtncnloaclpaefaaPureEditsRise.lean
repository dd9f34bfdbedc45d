/- An offset not above another one is not above it behind an upright edit, and none is left further behind than the edit is long. No condition. -/
import Derived.Test.YtncnloaclpaefaaPEditsRisex
import Derived.Test.YtncnloaclpaefaaPl
namespace Go.Proofs.Ytncnloaclpaefaa.Pure
open Go.RowKit Go.Proofs.Ytncnloaclpaefaa.Pl Go.Proofs.Ytncnloaclpaefaa.PEditsRise Go.Proofs.YtncnloaclpaefaaW.PrintWords Go.Proofs.YtncnloaclpaefaaW.PrintLast
namespace EditsRiseOwn
theorem edits_Check_eq (k : Nat) (n s e : Int) (t : ByteArray) : edits_Check.f (k + 2) n s e t = some (chk n s e t.size) := by
  simp only [edits_Check.f, edits_Check.j0, edits_Check.j1, chk, wrap64]
  repeat' split
  all_goals (simp_all <;> omega)

theorem edits_Apply_eq (k : Nat) (x : ByteArray) (s e : Int) (t : ByteArray) : edits_Apply.f (k + 2) x s e t = some (ans x s e t) := by
  unfold edits_Apply.f ans
  rw [edits_Check_eq]
  simp only [Option.bind_some]
  by_cases h : chk x.size s e t.size = 0
  · obtain ⟨h1, h2, h3, h4, h5, h6⟩ := chk_zero.1 h
    rw [if_pos h, if_pos h, if_pos h3, if_pos (by omega), if_pos (by simp only [ByteArray.size_extract]; omega), if_pos (by omega), if_pos (by omega), if_pos (by simp only [ByteArray.size_append, ByteArray.size_extract]; omega)]
    rfl
  · rw [if_neg h, if_neg h]

theorem edits_upright_eq (s e : Int) (t : ByteArray) : edits_upright.f s e t = some (upr s e t.size) := by
  unfold edits_upright.f upr
  repeat' split
  all_goals (congr 1; rw [Bool.eq_iff_iff]; simp only [Bool.and_eq_true, decide_eq_true_eq]; first | (simp only [Bool.false_eq_true, false_iff]; omega) | omega)
theorem upr_of {s e m : Int} (h : upr s e m = true) : 0 ≤ s ∧ s ≤ e ∧ e ≤ 65536 ∧ m ≤ 65536 := by
  simp only [upr, Bool.and_eq_true, decide_eq_true_eq] at h
  omega
theorem edits_moved_eq (s e a : Int) (t : ByteArray) (h : upr s e t.size = true) (h0 : 0 ≤ a) (h1 : a ≤ 65536) : edits_moved.f s e t a = some (mov s e t.size a) := by
  obtain ⟨u0, u1, u2, u3⟩ := upr_of h
  unfold edits_moved.f mov mn wrap64
  repeat' split
  all_goals first | rfl | (congr 1; omega) | omega
theorem edits_At_eq (s e a : Int) (t : ByteArray) : edits_At.f s e t a = some (atf s e t.size a) := by
  unfold edits_At.f atf
  rw [edits_upright_eq]
  simp only [Option.bind_some]
  by_cases h : upr s e t.size = true
  · rw [if_pos h]
    by_cases h0 : a < 0
    · rw [if_pos h0, if_neg (by omega)]
    · rw [if_neg h0]
      by_cases h1 : a > 65536
      · rw [if_pos h1, if_neg (by omega)]
      · rw [if_neg h1, edits_moved_eq s e a t h (by omega) (by omega), if_pos ⟨h, by omega, by omega⟩]
        rfl
  · rw [if_neg h, if_neg (fun c => h c.1)]

theorem alive_eq (k : Nat) : rootstocklaw01_alive.f (k + 2) = some true := by
  unfold rootstocklaw01_alive.f
  rw [edits_Apply_eq, edits_Apply_eq]
  decide +kernel

end EditsRiseOwn
open EditsRiseOwn
theorem EditsRise (s e : Int) (t : ByteArray) (a b : Int) (_ : (Lit.int .i64 s).wf = true) (_ : (Lit.int .i64 e).wf = true) (_ : t.size ≤ maxLen) (_ : (Lit.int .i64 a).wf = true) (_ : (Lit.int .i64 b).wf = true) : ∃ k, rootstocklaw01_EditsRise.f k s e t a b = some true := by
  have yes : rootstocklaw01_EditsRise.j0 3 a b true s e t = some true := by
    simp only [rootstocklaw01_EditsRise.j0]
    rw [if_pos trivial, alive_eq 0]
    rfl
  refine ⟨3, ?_⟩
  unfold rootstocklaw01_EditsRise.f
  by_cases h0 : s < 0
  · rw [if_pos h0, yes]
  rw [if_neg h0]
  by_cases h1 : e < s
  · rw [if_pos h1, yes]
  rw [if_neg h1]
  by_cases h2 : e > 65536
  · rw [if_pos h2, yes]
  rw [if_neg h2]
  by_cases h3 : (t.size : Int) > 65536
  · rw [if_pos h3, yes]
  rw [if_neg h3]
  by_cases h4 : a < 0
  · rw [if_pos h4, yes]
  rw [if_neg h4]
  by_cases h5 : b < a
  · rw [if_pos h5, yes]
  rw [if_neg h5]
  by_cases h6 : b > 65536
  · rw [decide_eq_true h6, yes]
  rw [decide_eq_false h6]
  simp only [rootstocklaw01_EditsRise.j0]
  rw [if_neg (by decide), edits_At_eq, edits_At_eq]
  simp only [Option.bind_some]
  have hu : upr s e t.size = true := by simp only [upr, Bool.and_eq_true, decide_eq_true_eq]; omega
  have x1 : atf s e t.size a = mov s e t.size a := if_pos ⟨hu, by omega, by omega⟩
  have x2 : atf s e t.size b = mov s e t.size b := if_pos ⟨hu, by omega, by omega⟩
  rw [x1, x2]
  have y1 : wrap64 (b + (t.size : Int)) = b + t.size := by unfold wrap64; omega
  have y2 : wrap64 (a - wrap64 (e - s)) = a - (e - s) := by unfold wrap64; omega
  rw [y1, y2]
  have z : 0 ≤ mov s e t.size a ∧ mov s e t.size a ≤ mov s e t.size b ∧ mov s e t.size b ≤ b + t.size ∧ a - (e - s) ≤ mov s e t.size a := by
    unfold mov
    repeat' split
    all_goals omega
  obtain ⟨z1, z2, z3, z4⟩ := z
  rw [if_pos z1, if_pos z2, if_pos z3, if_pos z4, alive_eq 0]
  rfl

end Go.Proofs.Ytncnloaclpaefaa.Pure
