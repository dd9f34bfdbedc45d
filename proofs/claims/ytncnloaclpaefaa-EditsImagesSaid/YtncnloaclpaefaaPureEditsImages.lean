/- Where any offset and any span is behind any edit is told alike by the program and by the reference. No condition. -/
import Derived.Test.YtncnloaclpaefaaPEditsImagesx
import Derived.Test.YtncnloaclpaefaaPl
namespace Go.Proofs.Ytncnloaclpaefaa.Pure
open Go.RowKit Go.Proofs.Ytncnloaclpaefaa.Pl Go.Proofs.Ytncnloaclpaefaa.PEditsImages Go.Proofs.YtncnloaclpaefaaW.PrintWords Go.Proofs.YtncnloaclpaefaaW.PrintLast
namespace EditsImagesOwn
theorem edits_Check_eq (k : Nat) (n s e : Int) (t : ByteArray) : edits_Check.f (k + 2) n s e t = some (chk n s e t.size) := by
  simp only [edits_Check.f, edits_Check.j0, edits_Check.j1, chk, wrap64]
  repeat' split
  all_goals (simp_all <;> omega)

theorem edits_Apply_eq (k : Nat) (x : ByteArray) (s e : Int) (t : ByteArray) : edits_Apply.f (k + 2) x s e t = some (ans x s e t) := by
  unfold edits_Apply.f ans
  rw [edits_Check_eq]
  simp only [Option.bind_some]
  by_cases h : chk x.size s e t.size = 0
  · obtain ⟨h1, h2, h3, h4, h5, h6⟩ := chk_zero.1 h
    rw [if_pos h, if_pos h, if_pos h3, if_pos (by omega), if_pos (by simp only [ByteArray.size_extract]; omega), if_pos (by omega), if_pos (by omega), if_pos (by simp only [ByteArray.size_append, ByteArray.size_extract]; omega)]
    rfl
  · rw [if_neg h, if_neg h]

theorem edits_upright_eq (s e : Int) (t : ByteArray) : edits_upright.f s e t = some (upr s e t.size) := by
  unfold edits_upright.f upr
  repeat' split
  all_goals (congr 1; rw [Bool.eq_iff_iff]; simp only [Bool.and_eq_true, decide_eq_true_eq]; first | (simp only [Bool.false_eq_true, false_iff]; omega) | omega)
theorem upr_of {s e m : Int} (h : upr s e m = true) : 0 ≤ s ∧ s ≤ e ∧ e ≤ 65536 ∧ m ≤ 65536 := by
  simp only [upr, Bool.and_eq_true, decide_eq_true_eq] at h
  omega
theorem edits_moved_eq (s e a : Int) (t : ByteArray) (h : upr s e t.size = true) (h0 : 0 ≤ a) (h1 : a ≤ 65536) : edits_moved.f s e t a = some (mov s e t.size a) := by
  obtain ⟨u0, u1, u2, u3⟩ := upr_of h
  unfold edits_moved.f mov mn wrap64
  repeat' split
  all_goals first | rfl | (congr 1; omega) | omega
theorem edits_At_eq (s e a : Int) (t : ByteArray) : edits_At.f s e t a = some (atf s e t.size a) := by
  unfold edits_At.f atf
  rw [edits_upright_eq]
  simp only [Option.bind_some]
  by_cases h : upr s e t.size = true
  · rw [if_pos h]
    by_cases h0 : a < 0
    · rw [if_pos h0, if_neg (by omega)]
    · rw [if_neg h0]
      by_cases h1 : a > 65536
      · rw [if_pos h1, if_neg (by omega)]
      · rw [if_neg h1, edits_moved_eq s e a t h (by omega) (by omega), if_pos ⟨h, by omega, by omega⟩]
        rfl
  · rw [if_neg h, if_neg (fun c => h c.1)]

theorem alive_eq (k : Nat) : rootstocklaw01_alive.f (k + 2) = some true := by
  unfold rootstocklaw01_alive.f
  rw [edits_Apply_eq, edits_Apply_eq]
  decide +kernel

theorem edits_Image_eq (k : Nat) (s e f g : Int) (t : ByteArray) : edits_Image.f (k + 1) s e t f g = some (img s e t.size f g) := by
  unfold edits_Image.f img
  rw [edits_upright_eq]
  simp only [Option.bind_some]
  by_cases h : upr s e t.size = true
  · rw [if_pos h]
    by_cases h0 : f < 0
    · rw [if_pos h0, if_neg (by omega)]
      rfl
    · rw [if_neg h0]
      by_cases h1 : f > g
      · rw [if_pos h1, if_neg (by omega)]
        rfl
      · rw [if_neg h1]
        by_cases h2 : g > 65536
        · rw [decide_eq_true h2, if_neg (by omega)]
          rfl
        · rw [decide_eq_false h2, if_pos ⟨h, by omega, by omega, by omega⟩]
          simp only [edits_Image.j0]
          rw [if_neg (by decide), edits_moved_eq s e f t h (by omega) (by omega), edits_moved_eq s e g t h (by omega) (by omega)]
          rfl
  · rw [if_neg h, if_neg (fun c => h c.1)]
    rfl

theorem ref_Long_eq (t : ByteArray) : rootstockref01_Long.f t = some (decide ((t.size : Int) > 65536)) := rfl
theorem ref_Upright_eq (s e : Int) (t : ByteArray) : rootstockref01_Upright.f s e t = some (upr s e t.size) := by
  unfold rootstockref01_Upright.f upr
  simp only [ref_Long_eq, Option.bind_some]
  repeat' split
  all_goals (congr 1; rw [Bool.eq_iff_iff]; simp only [Bool.and_eq_true, decide_eq_true_eq, Bool.not_eq_true', decide_eq_false_iff_not]; first | (simp only [Bool.false_eq_true, false_iff]; omega) | omega)
theorem ref_At_eq (k : Nat) (s e a : Int) (t : ByteArray) : rootstockref01_At.f (k + 1) s e t a = some (atf s e t.size a) := by
  unfold rootstockref01_At.f atf
  rw [ref_Upright_eq]
  simp only [Option.bind_some]
  by_cases h : upr s e t.size = true
  · rw [if_pos h]
    obtain ⟨u0, u1, u2, u3⟩ := upr_of h
    by_cases h0 : a < 0
    · rw [if_pos h0, if_neg (by omega)]
      rfl
    · rw [if_neg h0]
      by_cases h1 : a > 65536
      · rw [decide_eq_true h1, if_neg (by omega)]
        rfl
      · rw [decide_eq_false h1, if_pos ⟨h, by omega, by omega⟩]
        simp only [rootstockref01_At.j0, mov, wrap64]
        rw [if_neg (by decide)]
        repeat' split
        all_goals first | rfl | (congr 1; omega) | omega
  · rw [if_neg h, if_neg (fun c => h c.1)]
    rfl
theorem ref_Image_eq (k : Nat) (s e f g : Int) (t : ByteArray) : rootstockref01_Image.f (k + 2) s e t f g = some (img s e t.size f g) := by
  unfold rootstockref01_Image.f img
  rw [ref_Upright_eq]
  simp only [Option.bind_some]
  by_cases h : upr s e t.size = true
  · rw [if_pos h]
    by_cases h0 : f < 0
    · rw [if_pos h0, if_neg (by omega)]
      rfl
    · rw [if_neg h0]
      by_cases h1 : g < f
      · rw [if_pos h1, if_neg (by omega)]
        rfl
      · rw [if_neg h1]
        by_cases h2 : g > 65536
        · rw [decide_eq_true h2, if_neg (by omega)]
          rfl
        · rw [decide_eq_false h2, if_pos ⟨h, by omega, by omega, by omega⟩]
          simp only [rootstockref01_Image.j0]
          rw [if_neg (by decide), ref_At_eq, ref_At_eq]
          simp only [Option.bind_some, atf]
          rw [if_pos ⟨h, by omega, by omega⟩, if_pos ⟨h, by omega, by omega⟩]
  · rw [if_neg h, if_neg (fun c => h c.1)]
    rfl

end EditsImagesOwn
open EditsImagesOwn
theorem EditsImages (s e : Int) (t : ByteArray) (a f g : Int) (_ : (Lit.int .i64 s).wf = true) (_ : (Lit.int .i64 e).wf = true) (_ : t.size ≤ maxLen) (_ : (Lit.int .i64 a).wf = true) (_ : (Lit.int .i64 f).wf = true) (_ : (Lit.int .i64 g).wf = true) : ∃ k, rootstocklaw01_EditsImages.f k s e t a f g = some true := by
  refine ⟨2, ?_⟩
  unfold rootstocklaw01_EditsImages.f
  rw [edits_At_eq, ref_At_eq 1, edits_Image_eq 1, ref_Image_eq 0]
  simp only [Option.bind_some]
  rw [if_pos trivial, if_pos (by simp), alive_eq 0]
  rfl

end Go.Proofs.Ytncnloaclpaefaa.Pure
