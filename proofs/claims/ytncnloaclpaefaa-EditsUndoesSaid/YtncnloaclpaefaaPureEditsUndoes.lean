/- An edit that is taken back leaves the text that was, and is itself what takes that back. No condition. -/
import Derived.Test.YtncnloaclpaefaaPEditsUndoesx
import Derived.Test.YtncnloaclpaefaaPl
namespace Go.Proofs.Ytncnloaclpaefaa.Pure
open Go.RowKit Go.Proofs.Ytncnloaclpaefaa.Pl Go.Proofs.Ytncnloaclpaefaa.PEditsUndoes Go.Proofs.YtncnloaclpaefaaW.PrintWords Go.Proofs.YtncnloaclpaefaaW.PrintLast
namespace EditsUndoesOwn
theorem edits_Check_eq (k : Nat) (n s e : Int) (t : ByteArray) : edits_Check.f (k + 2) n s e t = some (chk n s e t.size) := by
  simp only [edits_Check.f, edits_Check.j0, edits_Check.j1, chk, wrap64]
  repeat' split
  all_goals (simp_all <;> omega)

theorem edits_Apply_eq (k : Nat) (x : ByteArray) (s e : Int) (t : ByteArray) : edits_Apply.f (k + 2) x s e t = some (ans x s e t) := by
  unfold edits_Apply.f ans
  rw [edits_Check_eq]
  simp only [Option.bind_some]
  by_cases h : chk x.size s e t.size = 0
  · obtain ⟨h1, h2, h3, h4, h5, h6⟩ := chk_zero.1 h
    rw [if_pos h, if_pos h, if_pos h3, if_pos (by omega), if_pos (by simp only [ByteArray.size_extract]; omega), if_pos (by omega), if_pos (by omega), if_pos (by simp only [ByteArray.size_append, ByteArray.size_extract]; omega)]
    rfl
  · rw [if_neg h, if_neg h]

theorem edits_upright_eq (s e : Int) (t : ByteArray) : edits_upright.f s e t = some (upr s e t.size) := by
  unfold edits_upright.f upr
  repeat' split
  all_goals (congr 1; rw [Bool.eq_iff_iff]; simp only [Bool.and_eq_true, decide_eq_true_eq]; first | (simp only [Bool.false_eq_true, false_iff]; omega) | omega)
theorem upr_of {s e m : Int} (h : upr s e m = true) : 0 ≤ s ∧ s ≤ e ∧ e ≤ 65536 ∧ m ≤ 65536 := by
  simp only [upr, Bool.and_eq_true, decide_eq_true_eq] at h
  omega
theorem edits_moved_eq (s e a : Int) (t : ByteArray) (h : upr s e t.size = true) (h0 : 0 ≤ a) (h1 : a ≤ 65536) : edits_moved.f s e t a = some (mov s e t.size a) := by
  obtain ⟨u0, u1, u2, u3⟩ := upr_of h
  unfold edits_moved.f mov mn wrap64
  repeat' split
  all_goals first | rfl | (congr 1; omega) | omega
theorem edits_At_eq (s e a : Int) (t : ByteArray) : edits_At.f s e t a = some (atf s e t.size a) := by
  unfold edits_At.f atf
  rw [edits_upright_eq]
  simp only [Option.bind_some]
  by_cases h : upr s e t.size = true
  · rw [if_pos h]
    by_cases h0 : a < 0
    · rw [if_pos h0, if_neg (by omega)]
    · rw [if_neg h0]
      by_cases h1 : a > 65536
      · rw [if_pos h1, if_neg (by omega)]
      · rw [if_neg h1, edits_moved_eq s e a t h (by omega) (by omega), if_pos ⟨h, by omega, by omega⟩]
        rfl
  · rw [if_neg h, if_neg (fun c => h c.1)]

theorem alive_eq (k : Nat) : rootstocklaw01_alive.f (k + 2) = some true := by
  unfold rootstocklaw01_alive.f
  rw [edits_Apply_eq, edits_Apply_eq]
  decide +kernel

theorem edits_Undo_eq (k : Nat) (x : ByteArray) (s e : Int) (t : ByteArray) : edits_Undo.f (k + 2) x s e t = some (und x s e t) := by
  unfold edits_Undo.f und
  rw [edits_Check_eq]
  simp only [Option.bind_some]
  by_cases h : chk x.size s e t.size = 0
  · obtain ⟨h1, h2, h3, h4, h5, h6⟩ := chk_zero.1 h
    rw [if_pos h, if_pos h, if_pos h3, if_pos h4, if_pos h5]
    have z : wrap64 (s + (t.size : Int)) = s + t.size := by unfold wrap64; omega
    rw [z]
  · rw [if_neg h, if_neg h]

end EditsUndoesOwn
open EditsUndoesOwn
theorem EditsUndoes (x : ByteArray) (s e : Int) (t : ByteArray) (_ : x.size ≤ 140737488351232) (_ : (Lit.int .i64 s).wf = true) (_ : (Lit.int .i64 e).wf = true) (_ : t.size ≤ maxLen) : ∃ k, rootstocklaw01_EditsUndoes.f k x s e t = some true := by
  refine ⟨3, ?_⟩
  unfold rootstocklaw01_EditsUndoes.f
  rw [edits_Apply_eq 1, edits_Undo_eq 1]
  simp only [Option.bind_some]
  by_cases h : chk x.size s e t.size = 0
  · obtain ⟨h1, h2, h3, h4, h5, h6⟩ := chk_zero.1 h
    have d1 : ans x s e t = (app x s e t, 0) := if_pos h
    have d2 : und x s e t = (s, s + t.size, x.extract s.toNat e.toNat, 0) := if_pos h
    rw [d1, d2]
    simp only []
    rw [if_pos trivial]
    simp only [rootstocklaw01_EditsUndoes.j0]
    have hs := size_app (t := t) h3 h4 h5
    have c : chk (app x s e t).size s (s + t.size) (x.extract s.toNat e.toNat).size = 0 := chk_zero.2 ⟨by omega, by omega, by omega, by omega, by omega, by simp only [ByteArray.size_extract]; omega⟩
    have d3 : ans (app x s e t) s (s + t.size) (x.extract s.toNat e.toNat) = (x, 0) := by
      unfold ans
      rw [if_pos c, app_back h3 h4 h5]
    have d4 : und (app x s e t) s (s + t.size) (x.extract s.toNat e.toNat) = (s, e, t, 0) := by
      unfold und
      rw [if_pos c, app_mid h3 (by omega)]
      have : s + ((x.extract s.toNat e.toNat).size : Int) = e := by simp only [ByteArray.size_extract]; omega
      rw [this]
    rw [if_neg (by decide), edits_Apply_eq 0, d3]
    simp only [Option.bind_some]
    rw [edits_Undo_eq 0, d4]
    simp only [Option.bind_some]
    rw [if_pos trivial, if_pos trivial, if_pos trivial, if_pos (by simp), alive_eq 0]
    rfl
  · have d1 : ans x s e t = ((⟨#[]⟩ : ByteArray), chk x.size s e t.size) := if_neg h
    have d2 : und x s e t = (0, 0, (⟨#[]⟩ : ByteArray), chk x.size s e t.size) := if_neg h
    rw [d1, d2]
    simp only []
    rw [if_neg h]
    simp only [rootstocklaw01_EditsUndoes.j0]
    rw [if_pos trivial, if_pos trivial, alive_eq 0]
    rfl

end Go.Proofs.Ytncnloaclpaefaa.Pure
