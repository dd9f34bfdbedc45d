/- Of two edits of one text, of which the one ends ahead of where the other one starts, it makes no difference which is done first. No condition. -/
import Derived.Test.YtncnloaclpaefaaPEditsApartx
import Derived.Test.YtncnloaclpaefaaPl
namespace Go.Proofs.Ytncnloaclpaefaa.Pure
open Go.RowKit Go.Proofs.Ytncnloaclpaefaa.Pl Go.Proofs.Ytncnloaclpaefaa.PEditsApart Go.Proofs.YtncnloaclpaefaaW.PrintWords Go.Proofs.YtncnloaclpaefaaW.PrintLast
namespace EditsApartOwn
theorem edits_Check_eq (k : Nat) (n s e : Int) (t : ByteArray) : edits_Check.f (k + 2) n s e t = some (chk n s e t.size) := by
  simp only [edits_Check.f, edits_Check.j0, edits_Check.j1, chk, wrap64]
  repeat' split
  all_goals (simp_all <;> omega)

theorem edits_Apply_eq (k : Nat) (x : ByteArray) (s e : Int) (t : ByteArray) : edits_Apply.f (k + 2) x s e t = some (ans x s e t) := by
  unfold edits_Apply.f ans
  rw [edits_Check_eq]
  simp only [Option.bind_some]
  by_cases h : chk x.size s e t.size = 0
  · obtain ⟨h1, h2, h3, h4, h5, h6⟩ := chk_zero.1 h
    rw [if_pos h, if_pos h, if_pos h3, if_pos (by omega), if_pos (by simp only [ByteArray.size_extract]; omega), if_pos (by omega), if_pos (by omega), if_pos (by simp only [ByteArray.size_append, ByteArray.size_extract]; omega)]
    rfl
  · rw [if_neg h, if_neg h]

theorem edits_upright_eq (s e : Int) (t : ByteArray) : edits_upright.f s e t = some (upr s e t.size) := by
  unfold edits_upright.f upr
  repeat' split
  all_goals (congr 1; rw [Bool.eq_iff_iff]; simp only [Bool.and_eq_true, decide_eq_true_eq]; first | (simp only [Bool.false_eq_true, false_iff]; omega) | omega)
theorem upr_of {s e m : Int} (h : upr s e m = true) : 0 ≤ s ∧ s ≤ e ∧ e ≤ 65536 ∧ m ≤ 65536 := by
  simp only [upr, Bool.and_eq_true, decide_eq_true_eq] at h
  omega
theorem edits_moved_eq (s e a : Int) (t : ByteArray) (h : upr s e t.size = true) (h0 : 0 ≤ a) (h1 : a ≤ 65536) : edits_moved.f s e t a = some (mov s e t.size a) := by
  obtain ⟨u0, u1, u2, u3⟩ := upr_of h
  unfold edits_moved.f mov mn wrap64
  repeat' split
  all_goals first | rfl | (congr 1; omega) | omega
theorem edits_At_eq (s e a : Int) (t : ByteArray) : edits_At.f s e t a = some (atf s e t.size a) := by
  unfold edits_At.f atf
  rw [edits_upright_eq]
  simp only [Option.bind_some]
  by_cases h : upr s e t.size = true
  · rw [if_pos h]
    by_cases h0 : a < 0
    · rw [if_pos h0, if_neg (by omega)]
    · rw [if_neg h0]
      by_cases h1 : a > 65536
      · rw [if_pos h1, if_neg (by omega)]
      · rw [if_neg h1, edits_moved_eq s e a t h (by omega) (by omega), if_pos ⟨h, by omega, by omega⟩]
        rfl
  · rw [if_neg h, if_neg (fun c => h c.1)]

theorem alive_eq (k : Nat) : rootstocklaw01_alive.f (k + 2) = some true := by
  unfold rootstocklaw01_alive.f
  rw [edits_Apply_eq, edits_Apply_eq]
  decide +kernel

theorem edits_Image_eq (k : Nat) (s e f g : Int) (t : ByteArray) : edits_Image.f (k + 1) s e t f g = some (img s e t.size f g) := by
  unfold edits_Image.f img
  rw [edits_upright_eq]
  simp only [Option.bind_some]
  by_cases h : upr s e t.size = true
  · rw [if_pos h]
    by_cases h0 : f < 0
    · rw [if_pos h0, if_neg (by omega)]
      rfl
    · rw [if_neg h0]
      by_cases h1 : f > g
      · rw [if_pos h1, if_neg (by omega)]
        rfl
      · rw [if_neg h1]
        by_cases h2 : g > 65536
        · rw [decide_eq_true h2, if_neg (by omega)]
          rfl
        · rw [decide_eq_false h2, if_pos ⟨h, by omega, by omega, by omega⟩]
          simp only [edits_Image.j0]
          rw [if_neg (by decide), edits_moved_eq s e f t h (by omega) (by omega), edits_moved_eq s e g t h (by omega) (by omega)]
          rfl
  · rw [if_neg h, if_neg (fun c => h c.1)]
    rfl

end EditsApartOwn
open EditsApartOwn
theorem EditsApart (x : ByteArray) (s e : Int) (t : ByteArray) (p q : Int) (u : ByteArray) (_ : x.size ≤ 140737488351232) (_ : (Lit.int .i64 s).wf = true) (_ : (Lit.int .i64 e).wf = true) (_ : t.size ≤ maxLen) (_ : (Lit.int .i64 p).wf = true) (_ : (Lit.int .i64 q).wf = true) (_ : u.size ≤ maxLen) : ∃ k, rootstocklaw01_EditsApart.f k x s e t p q u = some true := by
  have yes : ∀ y z : ByteArray, rootstocklaw01_EditsApart.j0 3 y z true s e t p q u = some true := by
    intro y z
    simp only [rootstocklaw01_EditsApart.j0]
    rw [if_pos trivial, alive_eq 0]
    rfl
  refine ⟨3, ?_⟩
  unfold rootstocklaw01_EditsApart.f
  by_cases ho : e ≥ p
  · rw [if_pos ho, alive_eq 1]
    rfl
  rw [if_neg ho, edits_Apply_eq 1, edits_Apply_eq 1]
  simp only [Option.bind_some]
  by_cases h : chk x.size s e t.size = 0
  · obtain ⟨h1, h2, h3, h4, h5, h6⟩ := chk_zero.1 h
    have d1 : ans x s e t = (app x s e t, 0) := if_pos h
    rw [d1]
    simp only []
    rw [if_pos trivial]
    by_cases g : chk x.size p q u.size = 0
    · obtain ⟨g1, g2, g3, g4, g5, g6⟩ := chk_zero.1 g
      have d2 : ans x p q u = (app x p q u, 0) := if_pos g
      rw [d2]
      have hb : ((0 : Int) != 0) = false := by decide
      simp only [hb]
      simp only [rootstocklaw01_EditsApart.j0]
      rw [if_neg (by decide), edits_Image_eq 1]
      simp only [Option.bind_some]
      have hu : upr s e t.size = true := by simp only [upr, Bool.and_eq_true, decide_eq_true_eq]; omega
      have m1 : mov s e t.size p = p - (e - s) + t.size := by unfold mov; rw [if_neg (by omega), if_pos (by omega)]
      have m2 : mov s e t.size q = q - (e - s) + t.size := by unfold mov; rw [if_neg (by omega), if_pos (by omega)]
      have i1 : img s e t.size p q = (p - (e - s) + t.size, q - (e - s) + t.size) := by
        unfold img
        rw [if_pos ⟨hu, by omega, by omega, by omega⟩, m1, m2]
      rw [i1]
      simp only []
      rw [edits_Apply_eq 0, edits_Apply_eq 0]
      simp only [Option.bind_some]
      have s1 := size_app (t := t) h3 h4 h5
      have s2 := size_app (t := u) g3 g4 g5
      by_cases hc : (x.size : Int) - (e - s) + t.size - (q - p) + u.size ≤ 65536
      · have c1 : chk (app x s e t).size (p - (e - s) + t.size) (q - (e - s) + t.size) u.size = 0 := chk_zero.2 ⟨by omega, by omega, by omega, by omega, by omega, by omega⟩
        have c2 : chk (app x p q u).size s e t.size = 0 := chk_zero.2 ⟨by omega, by omega, by omega, by omega, by omega, by omega⟩
        have k1 : ans (app x s e t) (p - (e - s) + t.size) (q - (e - s) + t.size) u = (app (app x s e t) (p - (e - s) + t.size) (q - (e - s) + t.size) u, 0) := if_pos c1
        have k2 : ans (app x p q u) s e t = (app (app x p q u) s e t, 0) := if_pos c2
        rw [k1, k2, app_apart h3 h4 (by omega) g4 g5]
        simp only []
        rw [if_pos trivial, if_pos trivial, if_pos trivial, if_pos trivial, alive_eq 0]
        rfl
      · have c1 : chk (app x s e t).size (p - (e - s) + t.size) (q - (e - s) + t.size) u.size = 3 := by
          unfold chk
          rw [if_neg (by omega), if_neg (by omega), if_pos (by omega)]
        have c2 : chk (app x p q u).size s e t.size = 3 := by
          unfold chk
          rw [if_neg (by omega), if_neg (by omega), if_pos (by omega)]
        have k1 : ans (app x s e t) (p - (e - s) + t.size) (q - (e - s) + t.size) u = ((⟨#[]⟩ : ByteArray), 3) := by unfold ans; rw [c1]; rfl
        have k2 : ans (app x p q u) s e t = ((⟨#[]⟩ : ByteArray), 3) := by unfold ans; rw [c2]; rfl
        rw [k1, k2]
        simp only []
        rw [if_neg (by decide), if_pos trivial, alive_eq 0]
        rfl
    · have d2 : ans x p q u = ((⟨#[]⟩ : ByteArray), chk x.size p q u.size) := if_neg g
      rw [d2]
      simp only [bne_iff_ne.2 g, yes]
  · have d1 : ans x s e t = ((⟨#[]⟩ : ByteArray), chk x.size s e t.size) := if_neg h
    rw [d1]
    simp only []
    rw [if_neg h, yes]

end Go.Proofs.Ytncnloaclpaefaa.Pure
