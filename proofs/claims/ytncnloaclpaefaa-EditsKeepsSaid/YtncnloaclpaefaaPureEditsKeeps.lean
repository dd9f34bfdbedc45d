/- Behind an edit there are as many bytes as it says; those ahead of it, and those behind it, are the old ones, where At says that they are. No condition. -/
import Derived.Test.YtncnloaclpaefaaOwnKeepsB
import Derived.Test.YtncnloaclpaefaaPl
namespace Go.Proofs.Ytncnloaclpaefaa.Pure
open Go.RowKit Go.Proofs.Ytncnloaclpaefaa.Pl Go.Proofs.Ytncnloaclpaefaa.PEditsKeeps Go.Proofs.YtncnloaclpaefaaW.PrintWords Go.Proofs.YtncnloaclpaefaaW.PrintLast
namespace EditsKeepsOwn
theorem edits_Check_eq (k : Nat) (n s e : Int) (t : ByteArray) : edits_Check.f (k + 2) n s e t = some (chk n s e t.size) := by
  simp only [edits_Check.f, edits_Check.j0, edits_Check.j1, chk, wrap64]
  repeat' split
  all_goals (simp_all <;> omega)

theorem edits_Apply_eq (k : Nat) (x : ByteArray) (s e : Int) (t : ByteArray) : edits_Apply.f (k + 2) x s e t = some (ans x s e t) := by
  unfold edits_Apply.f ans
  rw [edits_Check_eq]
  simp only [Option.bind_some]
  by_cases h : chk x.size s e t.size = 0
  · obtain ⟨h1, h2, h3, h4, h5, h6⟩ := chk_zero.1 h
    rw [if_pos h, if_pos h, if_pos h3, if_pos (by omega), if_pos (by simp only [ByteArray.size_extract]; omega), if_pos (by omega), if_pos (by omega), if_pos (by simp only [ByteArray.size_append, ByteArray.size_extract]; omega)]
    rfl
  · rw [if_neg h, if_neg h]

theorem edits_upright_eq (s e : Int) (t : ByteArray) : edits_upright.f s e t = some (upr s e t.size) := by
  unfold edits_upright.f upr
  repeat' split
  all_goals (congr 1; rw [Bool.eq_iff_iff]; simp only [Bool.and_eq_true, decide_eq_true_eq]; first | (simp only [Bool.false_eq_true, false_iff]; omega) | omega)
theorem upr_of {s e m : Int} (h : upr s e m = true) : 0 ≤ s ∧ s ≤ e ∧ e ≤ 65536 ∧ m ≤ 65536 := by
  simp only [upr, Bool.and_eq_true, decide_eq_true_eq] at h
  omega
theorem edits_moved_eq (s e a : Int) (t : ByteArray) (h : upr s e t.size = true) (h0 : 0 ≤ a) (h1 : a ≤ 65536) : edits_moved.f s e t a = some (mov s e t.size a) := by
  obtain ⟨u0, u1, u2, u3⟩ := upr_of h
  unfold edits_moved.f mov mn wrap64
  repeat' split
  all_goals first | rfl | (congr 1; omega) | omega
theorem edits_At_eq (s e a : Int) (t : ByteArray) : edits_At.f s e t a = some (atf s e t.size a) := by
  unfold edits_At.f atf
  rw [edits_upright_eq]
  simp only [Option.bind_some]
  by_cases h : upr s e t.size = true
  · rw [if_pos h]
    by_cases h0 : a < 0
    · rw [if_pos h0, if_neg (by omega)]
    · rw [if_neg h0]
      by_cases h1 : a > 65536
      · rw [if_pos h1, if_neg (by omega)]
      · rw [if_neg h1, edits_moved_eq s e a t h (by omega) (by omega), if_pos ⟨h, by omega, by omega⟩]
        rfl
  · rw [if_neg h, if_neg (fun c => h c.1)]

theorem alive_eq (k : Nat) : rootstocklaw01_alive.f (k + 2) = some true := by
  unfold rootstocklaw01_alive.f
  rw [edits_Apply_eq, edits_Apply_eq]
  decide +kernel

end EditsKeepsOwn
open EditsKeepsOwn
theorem bt_ext (x y : ByteArray) (i j : Int) (a b c d : Nat) (h : x.extract a b = y.extract c d) (ha : a ≤ i.toNat) (hb : i.toNat < b) (hx : b ≤ x.size) (hc : c + (i.toNat - a) = j.toNat) (hy : d ≤ y.size) (hj : j.toNat < d) : bt x i = bt y j := by
  have e1 : i.toNat < x.size := by omega
  have e2 : j.toNat < y.size := by omega
  have l1 : i.toNat - a < (x.extract a b).size := by rw [ByteArray.size_extract]; omega
  have l2 : i.toNat - a < (y.extract c d).size := by rw [ByteArray.size_extract]; omega
  have k1 : (x.extract a b)[i.toNat - a]'l1 = x[i.toNat]'e1 := by
    rw [ByteArray.getElem_extract]
    congr 1
    omega
  have k2 : (y.extract c d)[i.toNat - a]'l2 = y[j.toNat]'e2 := by
    rw [ByteArray.getElem_extract]
    congr 1
  have k3 : (x.extract a b)[i.toNat - a]'l1 = (y.extract c d)[i.toNat - a]'l2 := by simp only [h]
  rw [k1, k2] at k3
  unfold bt
  rw [dif_pos e1, dif_pos e2, k3]

theorem at_low {s e m i : Int} (hu : upr s e m = true) (h0 : 0 ≤ i) (h1 : i ≤ s) (h2 : s ≤ 65536) : atf s e m i = i := by
  unfold atf mov
  rw [if_pos ⟨hu, h0, by omega⟩, if_pos h1]
theorem at_high {s e m i : Int} (hu : upr s e m = true) (h0 : 0 ≤ i) (h1 : s < i) (h3 : e ≤ i) (h2 : i ≤ 65536) : atf s e m i = i - (e - s) + m := by
  unfold atf mov
  rw [if_pos ⟨hu, h0, by omega⟩, if_neg (by omega), if_pos h3]

theorem end_ok (x t : ByteArray) (s e : Int) (h : chk x.size s e t.size = 0) (k : Nat) (i : Int) :
    rootstocklaw01_EditsKeeps.j3 (k + 3) x (app x s e t) i false s e t = some true := by
  obtain ⟨h1, h2, h3, h4, h5, h6⟩ := chk_zero.1 h
  have hs := size_app (t := t) h3 h4 h5
  have w : wrap64 (s + (t.size : Int)) = s + t.size := by unfold wrap64; omega
  simp only [rootstocklaw01_EditsKeeps.j3]
  rw [if_neg (by decide), w, if_pos h3, if_pos (by omega), if_pos (by omega), if_pos (by rw [app_pre (by omega)]), if_pos (by omega), if_pos (by omega), if_pos (by omega), if_pos (by omega), if_pos (by rw [app_suf h3 (by omega)]), alive_eq]
  rfl

theorem l1_ok (x t : ByteArray) (s e : Int) (h : chk x.size s e t.size = 0) : ∀ (d k : Nat) (i : Int), e ≤ i → i ≤ x.size → x.size - i = d → 2 * d + 5 ≤ k →
    rootstocklaw01_EditsKeeps.l1 k x (app x s e t) i s e t = some true := by
  obtain ⟨h1, h2, h3, h4, h5, h6⟩ := chk_zero.1 h
  have hs := size_app (t := t) h3 h4 h5
  have hu : upr s e t.size = true := by simp only [upr, Bool.and_eq_true, decide_eq_true_eq]; omega
  intro d
  induction d with
  | zero =>
    intro k i g0 g1 gd gk
    obtain ⟨k, rfl⟩ : ∃ m, k = m + 4 := ⟨k - 4, by omega⟩
    simp only [rootstocklaw01_EditsKeeps.l1]
    rw [if_neg (by omega)]
    exact end_ok x t s e h k i
  | succ d ih =>
    intro k i g0 g1 gd gk
    obtain ⟨k, rfl⟩ : ∃ m, k = m + 4 := ⟨k - 4, by omega⟩
    simp only [rootstocklaw01_EditsKeeps.l1]
    rw [if_pos (by omega)]
    have w : wrap64 (e + 200) = e + 200 := by unfold wrap64; omega
    rw [w]
    by_cases hb : i < e + 200
    · rw [decide_eq_true hb]
      have next : rootstocklaw01_EditsKeeps.l1 (k + 2) x (app x s e t) (i + 1) s e t = some true := ih (k + 2) (i + 1) (by omega) (by omega) (by omega) (by omega)
      have w2 : wrap64 (i + 1) = i + 1 := by unfold wrap64; omega
      simp only [rootstocklaw01_EditsKeeps.j3]
      rw [if_pos trivial, edits_At_eq]
      simp only [Option.bind_some]
      rw [w2]
      by_cases hi : i > s
      · rw [if_pos hi, at_high hu (by omega) hi g0 (by omega), if_neg (by omega), if_neg (by omega), if_pos (by omega), if_pos (by omega), if_pos (by omega), if_pos (by omega)]
        have hb : bt (app x s e t) (i - (e - s) + t.size) = bt x i := bt_ext _ _ _ _ _ _ _ _ (app_suf h3 (by omega)) (by omega) (by omega) (by omega) (by omega) (by omega) (by omega)
        rw [if_pos hb, next]
      · rw [if_neg hi, next]
    · rw [decide_eq_false hb]
      exact end_ok x t s e h k i

theorem l0_ok (x t : ByteArray) (s e : Int) (h : chk x.size s e t.size = 0) (K : Nat) (hK : 2 * x.size + 5 ≤ K) : ∀ (d k : Nat) (i : Int), 0 ≤ i → i ≤ s → s - i = d → K + d + 1 ≤ k →
    rootstocklaw01_EditsKeeps.l0 k x (app x s e t) i s e t = some true := by
  obtain ⟨h1, h2, h3, h4, h5, h6⟩ := chk_zero.1 h
  have hs := size_app (t := t) h3 h4 h5
  have hu : upr s e t.size = true := by simp only [upr, Bool.and_eq_true, decide_eq_true_eq]; omega
  intro d
  induction d with
  | zero =>
    intro k i g0 g1 gd gk
    obtain ⟨k, rfl⟩ : ∃ m, k = m + 1 := ⟨k - 1, by omega⟩
    simp only [rootstocklaw01_EditsKeeps.l0]
    rw [if_neg (by omega)]
    exact l1_ok x t s e h (x.size - e).toNat k e (Int.le_refl e) h5 (by omega) (by omega)
  | succ d ih =>
    intro k i g0 g1 gd gk
    obtain ⟨k, rfl⟩ : ∃ m, k = m + 1 := ⟨k - 1, by omega⟩
    have next := ih k (i + 1) (by omega) (by omega) (by omega) (by omega)
    have w2 : wrap64 (i + 1) = i + 1 := by unfold wrap64; omega
    simp only [rootstocklaw01_EditsKeeps.l0]
    rw [if_pos (by omega), edits_At_eq]
    simp only [Option.bind_some]
    have hb : bt (app x s e t) i = bt x i := bt_ext _ _ _ _ _ _ _ _ (app_pre (by omega)) (by omega) (by omega) (by omega) (by omega) (by omega) (by omega)
    rw [at_low hu g0 g1 (by omega), if_pos rfl, if_pos g0, if_pos (by omega), if_pos (by omega), if_pos hb, w2, next]

theorem EditsKeeps (x : ByteArray) (s e : Int) (t : ByteArray) (_ : x.size ≤ 140737488351232) (_ : (Lit.int .i64 s).wf = true) (_ : (Lit.int .i64 e).wf = true) (_ : t.size ≤ maxLen) : ∃ k, rootstocklaw01_EditsKeeps.f k x s e t = some true := by
  refine ⟨3 * x.size + 10, ?_⟩
  unfold rootstocklaw01_EditsKeeps.f
  rw [edits_Apply_eq (3 * x.size + 8)]
  simp only [Option.bind_some]
  by_cases h : chk x.size s e t.size = 0
  · obtain ⟨h1, h2, h3, h4, h5, h6⟩ := chk_zero.1 h
    have hs := size_app (t := t) h3 h4 h5
    have d1 : ans x s e t = (app x s e t, 0) := if_pos h
    have w : wrap64 (s + (t.size : Int)) = s + t.size := by unfold wrap64; omega
    have w2 : wrap64 (wrap64 ((x.size : Int) - wrap64 (e - s)) + (t.size : Int)) = x.size - (e - s) + t.size := by unfold wrap64; omega
    have w3 : wrap64 (s - 200) = s - 200 := by unfold wrap64; omega
    rw [d1]
    simp only []
    rw [if_pos trivial, w, w2, if_pos hs, if_pos h3, if_pos (by omega), if_pos (by omega), app_mid h3 (by omega)]
    have hb : (t.toList != t.toList) = false := by simp
    rw [hb]
    simp only [rootstocklaw01_EditsKeeps.j0]
    rw [if_neg (by decide), w3]
    have hm : mx 0 (s - 200) = 0 ∨ mx 0 (s - 200) = s - 200 ∧ 0 ≤ s - 200 := by
      unfold mx
      split <;> omega
    refine l0_ok x t s e h (2 * x.size + 5) (Nat.le_refl _) (s - mx 0 (s - 200)).toNat _ _ ?_ ?_ ?_ ?_
    · omega
    · omega
    · omega
    · omega
  · have d1 : ans x s e t = ((⟨#[]⟩ : ByteArray), chk x.size s e t.size) := if_neg h
    rw [d1]
    simp only []
    rw [if_neg h, alive_eq (3 * x.size + 8)]
    rfl

end Go.Proofs.Ytncnloaclpaefaa.Pure
