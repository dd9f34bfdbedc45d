/- The text behind any edit of any text, or its error, is the reference's. No condition. -/
import Derived.Test.YtncnloaclpaefaaPEditsAppliesx
import Derived.Test.YtncnloaclpaefaaPl
namespace Go.Proofs.Ytncnloaclpaefaa.Pure
open Go.RowKit Go.Proofs.Ytncnloaclpaefaa.Pl Go.Proofs.Ytncnloaclpaefaa.PEditsApplies Go.Proofs.YtncnloaclpaefaaW.PrintWords Go.Proofs.YtncnloaclpaefaaW.PrintLast
namespace EditsAppliesOwn
theorem edits_Check_eq (k : Nat) (n s e : Int) (t : ByteArray) : edits_Check.f (k + 2) n s e t = some (chk n s e t.size) := by
  simp only [edits_Check.f, edits_Check.j0, edits_Check.j1, chk, wrap64]
  repeat' split
  all_goals (simp_all <;> omega)

theorem edits_Apply_eq (k : Nat) (x : ByteArray) (s e : Int) (t : ByteArray) : edits_Apply.f (k + 2) x s e t = some (ans x s e t) := by
  unfold edits_Apply.f ans
  rw [edits_Check_eq]
  simp only [Option.bind_some]
  by_cases h : chk x.size s e t.size = 0
  · obtain ⟨h1, h2, h3, h4, h5, h6⟩ := chk_zero.1 h
    rw [if_pos h, if_pos h, if_pos h3, if_pos (by omega), if_pos (by simp only [ByteArray.size_extract]; omega), if_pos (by omega), if_pos (by omega), if_pos (by simp only [ByteArray.size_append, ByteArray.size_extract]; omega)]
    rfl
  · rw [if_neg h, if_neg h]

theorem edits_upright_eq (s e : Int) (t : ByteArray) : edits_upright.f s e t = some (upr s e t.size) := by
  unfold edits_upright.f upr
  repeat' split
  all_goals (congr 1; rw [Bool.eq_iff_iff]; simp only [Bool.and_eq_true, decide_eq_true_eq]; first | (simp only [Bool.false_eq_true, false_iff]; omega) | omega)
theorem upr_of {s e m : Int} (h : upr s e m = true) : 0 ≤ s ∧ s ≤ e ∧ e ≤ 65536 ∧ m ≤ 65536 := by
  simp only [upr, Bool.and_eq_true, decide_eq_true_eq] at h
  omega
theorem edits_moved_eq (s e a : Int) (t : ByteArray) (h : upr s e t.size = true) (h0 : 0 ≤ a) (h1 : a ≤ 65536) : edits_moved.f s e t a = some (mov s e t.size a) := by
  obtain ⟨u0, u1, u2, u3⟩ := upr_of h
  unfold edits_moved.f mov mn wrap64
  repeat' split
  all_goals first | rfl | (congr 1; omega) | omega
theorem edits_At_eq (s e a : Int) (t : ByteArray) : edits_At.f s e t a = some (atf s e t.size a) := by
  unfold edits_At.f atf
  rw [edits_upright_eq]
  simp only [Option.bind_some]
  by_cases h : upr s e t.size = true
  · rw [if_pos h]
    by_cases h0 : a < 0
    · rw [if_pos h0, if_neg (by omega)]
    · rw [if_neg h0]
      by_cases h1 : a > 65536
      · rw [if_pos h1, if_neg (by omega)]
      · rw [if_neg h1, edits_moved_eq s e a t h (by omega) (by omega), if_pos ⟨h, by omega, by omega⟩]
        rfl
  · rw [if_neg h, if_neg (fun c => h c.1)]

theorem alive_eq (k : Nat) : rootstocklaw01_alive.f (k + 2) = some true := by
  unfold rootstocklaw01_alive.f
  rw [edits_Apply_eq, edits_Apply_eq]
  decide +kernel

theorem ref_Long_eq (t : ByteArray) : rootstockref01_Long.f t = some (decide ((t.size : Int) > 65536)) := rfl
theorem ref_Check_eq (k : Nat) (n s e : Int) (t : ByteArray) : rootstockref01_Check.f (k + 2) n s e t = some (chk n s e t.size) := by
  simp only [rootstockref01_Check.f, rootstockref01_Check.j0, rootstockref01_Check.j1, ref_Long_eq, Option.bind_some, chk, wrap64]
  repeat' split
  all_goals (simp_all <;> omega)

theorem ref_Apply_eq (k : Nat) (x : ByteArray) (s e : Int) (t : ByteArray) : rootstockref01_Apply.f (k + 2) x s e t = some (ans x s e t) := by
  unfold rootstockref01_Apply.f ans
  rw [ref_Long_eq]
  simp only [Option.bind_some]
  by_cases hl : (x.size : Int) > 65536
  · have hc : chk x.size s e t.size = 2 := by unfold chk; rw [if_pos (Or.inr hl)]
    rw [if_pos (decide_eq_true hl), hc]
    rfl
  · rw [if_neg (by simpa using hl), ref_Check_eq]
    simp only [Option.bind_some]
    by_cases h : chk x.size s e t.size = 0
    · obtain ⟨h1, h2, h3, h4, h5, h6⟩ := chk_zero.1 h
      rw [if_pos h, if_pos h, if_pos h3, if_pos (by omega), if_pos (by simp only [ByteArray.size_extract]; omega), if_pos (by omega), if_pos (by omega), if_pos (by simp only [ByteArray.size_append, ByteArray.size_extract]; omega)]
      rfl
    · rw [if_neg h, if_neg h]

end EditsAppliesOwn
open EditsAppliesOwn
theorem EditsApplies (x : ByteArray) (s e : Int) (t : ByteArray) (_ : x.size ≤ 140737488351232) (_ : (Lit.int .i64 s).wf = true) (_ : (Lit.int .i64 e).wf = true) (_ : t.size ≤ maxLen) : ∃ k, rootstocklaw01_EditsApplies.f k x s e t = some true := by
  refine ⟨2, ?_⟩
  unfold rootstocklaw01_EditsApplies.f
  rw [edits_Apply_eq 0, ref_Apply_eq 0]
  simp only [Option.bind_some]
  rw [if_pos trivial, if_pos trivial, alive_eq 0]
  rfl

end Go.Proofs.Ytncnloaclpaefaa.Pure
