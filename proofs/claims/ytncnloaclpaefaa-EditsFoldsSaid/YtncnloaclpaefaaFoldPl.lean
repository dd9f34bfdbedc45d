/- What folding edits comes to, plainly: the program's and the reference's, and what the law's helpers say of equal lists. -/
import Derived.Test.YtncnloaclpaefaaFoldTwin
import Derived.Test.YtncnloaclpaefaaPl
set_option linter.unusedVariables false
set_option linter.unusedSimpArgs false
namespace Go.Proofs.Ytncnloaclpaefaa.Folds
open Go Go.RowKit Go.Proofs.Ytncnloaclpaefaa.Pl Go.Proofs.Ytncnloaclpaefaa.PEditsFolds
open Go.Proofs.YtncnloaclpaefaaW.PrintWords
theorem edits_Check_eq (k : Nat) (n s e : Int) (t : ByteArray) : edits_Check.f (k + 2) n s e t = some (chk n s e t.size) := by
  simp only [edits_Check.f, edits_Check.j0, edits_Check.j1, chk, wrap64]
  repeat' split
  all_goals (simp_all <;> omega)
theorem edits_Apply_eq (k : Nat) (x : ByteArray) (s e : Int) (t : ByteArray) : edits_Apply.f (k + 2) x s e t = some (ans x s e t) := by
  unfold edits_Apply.f ans
  rw [edits_Check_eq]
  simp only [Option.bind_some]
  by_cases h : chk x.size s e t.size = 0
  · obtain ⟨h1, h2, h3, h4, h5, h6⟩ := chk_zero.1 h
    rw [if_pos h, if_pos h, if_pos h3, if_pos (by omega), if_pos (by simp only [ByteArray.size_extract]; omega), if_pos (by omega), if_pos (by omega), if_pos (by simp only [ByteArray.size_append, ByteArray.size_extract]; omega)]
    rfl
  · rw [if_neg h, if_neg h]
theorem ref_Long_eq (t : ByteArray) : rootstockref01_Long.f t = some (decide ((t.size : Int) > 65536)) := rfl
theorem ref_Check_eq (k : Nat) (n s e : Int) (t : ByteArray) : rootstockref01_Check.f (k + 2) n s e t = some (chk n s e t.size) := by
  simp only [rootstockref01_Check.f, rootstockref01_Check.j0, rootstockref01_Check.j1, ref_Long_eq, Option.bind_some, chk, wrap64]
  repeat' split
  all_goals (simp_all <;> omega)
theorem ref_Apply_eq (k : Nat) (x : ByteArray) (s e : Int) (t : ByteArray) : rootstockref01_Apply.f (k + 2) x s e t = some (ans x s e t) := by
  unfold rootstockref01_Apply.f ans
  rw [ref_Long_eq]
  simp only [Option.bind_some]
  by_cases hl : (x.size : Int) > 65536
  · have hc : chk x.size s e t.size = 2 := by unfold chk; rw [if_pos (Or.inr hl)]
    rw [if_pos (decide_eq_true hl), hc]
    rfl
  · rw [if_neg (by simpa using hl), ref_Check_eq]
    simp only [Option.bind_some]
    by_cases h : chk x.size s e t.size = 0
    · obtain ⟨h1, h2, h3, h4, h5, h6⟩ := chk_zero.1 h
      rw [if_pos h, if_pos h, if_pos h3, if_pos (by omega), if_pos (by simp only [ByteArray.size_extract]; omega), if_pos (by omega), if_pos (by omega), if_pos (by simp only [ByteArray.size_append, ByteArray.size_extract]; omega)]
      rfl
    · rw [if_neg h, if_neg h]
theorem alive_eq (k : Nat) : rootstocklaw01_alive.f (k + 2) = some true := by
  unfold rootstocklaw01_alive.f
  rw [edits_Apply_eq, edits_Apply_eq]
  decide +kernel
/-- the n-th edit -/
def ed (l : List S23) (n : Nat) : S23 := l.getD n z23
/-- what an edit is told -/
def er1 (x : ByteArray) (e : S23) : Int := chk x.size e.f0 e.f1 e.f2.size
/-- the text behind an edit -/
def tx1 (x : ByteArray) (e : S23) : ByteArray := if er1 x e = 0 then app x e.f0 e.f1 e.f2 else x
/-- the text behind n edits -/
def tx (x : ByteArray) (l : List S23) : Nat → ByteArray
  | 0 => x
  | n + 1 => tx1 (tx x l n) (ed l n)
def er (x : ByteArray) (l : List S23) (n : Nat) : Int := er1 (tx x l n) (ed l n)
theorem ans_ok {x : ByteArray} {e : S23} (h : er1 x e = 0) : (ans x e.f0 e.f1 e.f2).1 = tx1 x e := by
  unfold er1 at h
  unfold ans tx1 er1
  rw [if_pos h, if_pos h]
theorem ans_er {x : ByteArray} {e : S23} : (ans x e.f0 e.f1 e.f2).2 = er1 x e := by
  unfold ans er1
  split
  · rename_i hc; exact hc.symm
  · rfl
theorem tx1_no {x : ByteArray} {e : S23} (h : er1 x e ≠ 0) : tx1 x e = x := by
  unfold tx1
  rw [if_neg h]
theorem tx1_ok {x : ByteArray} {e : S23} (h : er1 x e = 0) : tx1 x e = app x e.f0 e.f1 e.f2 := by
  unfold tx1
  rw [if_pos h]
theorem tx1_size {x : ByteArray} {e : S23} (h : x.size ≤ 65536) : (tx1 x e).size ≤ 65536 := by
  unfold tx1
  split
  · rename_i hc
    obtain ⟨_, _, hs0, hse, hex, hm⟩ := chk_zero.1 (show chk _ _ _ _ = 0 from hc)
    have := size_app (t := e.f2) hs0 hse hex
    omega
  · exact h
theorem tx_size {x : ByteArray} {l : List S23} (h : x.size ≤ 65536) : ∀ n, (tx x l n).size ≤ 65536
  | 0 => h
  | n + 1 => tx1_size (tx_size h n)
def ers (x : ByteArray) (l : List S23) (n : Nat) : List Int := (List.range n).map (er x l)
theorem ers_length (x : ByteArray) (l : List S23) (n : Nat) : (ers x l n).length = n := by simp [ers]
theorem ers_succ (x : ByteArray) (l : List S23) (n : Nat) : ers x l (n + 1) = ers x l n ++ [er x l n] := by simp [ers, List.range_succ]
theorem set_mid (A R : List Int) (v w : Int) : (A ++ w :: R).set A.length v = A ++ v :: R := by
  rw [List.set_append_right _ _ (Nat.le_refl _), Nat.sub_self]
  rfl
theorem fold_l (x : ByteArray) (l : List S23) (hl : l.length ≤ 1048576) : ∀ (d k i : Nat), i ≤ l.length → l.length - i = d → d + 3 ≤ k →
    edits_Fold.l0 k (tx x l i) (ers x l i ++ List.replicate (l.length - i) 0) l (l.length : Int) (i : Int) = some (tx x l l.length, ers x l l.length) := by
  intro d
  induction d with
  | zero =>
    intro k i h1 h2 h3
    obtain ⟨k, rfl⟩ : ∃ m, k = m + 1 := ⟨k - 1, by omega⟩
    have : i = l.length := by omega
    subst this
    unfold edits_Fold.l0
    rw [if_neg (by omega), Nat.sub_self, List.replicate_zero, List.append_nil]
  | succ d ih =>
    intro k i h1 h2 h3
    obtain ⟨k, rfl⟩ : ∃ m, k = m + 1 := ⟨k - 1, by omega⟩
    have q1 : i + 1 ≤ l.length := by omega
    have q2 : l.length - (i + 1) = d := by omega
    have q3 : d + 3 ≤ k := by omega
    have hlen : (ers x l i ++ List.replicate (l.length - i) (0 : Int)).length = l.length := by rw [List.length_append, ers_length, List.length_replicate]; omega
    unfold edits_Fold.l0
    rw [if_pos (by omega), if_pos (by omega), if_pos (by omega)]
    obtain ⟨k', hk'⟩ : ∃ m, k = m + 2 := ⟨k - 2, by omega⟩
    have ea : edits_Apply.f k (tx x l i) (rd_T23 l (i : Int)).f0 (rd_T23 l (i : Int)).f1 (rd_T23 l (i : Int)).f2 = some (ans (tx x l i) (ed l i).f0 (ed l i).f1 (ed l i).f2) := by
      rw [hk']
      exact edits_Apply_eq k' _ _ _ _
    rw [ea, Option.bind_some, if_pos (by rw [hlen]; omega), Option.bind_some]
    have hi : (i : Int).toNat = i := by omega
    rw [hi]
    have hrep : List.replicate (l.length - i) (0 : Int) = 0 :: List.replicate (l.length - (i + 1)) 0 := by
      have : l.length - i = (l.length - (i + 1)) + 1 := by omega
      rw [this]
      rfl
    have hset : (ers x l i ++ List.replicate (l.length - i) (0 : Int)).set i (ans (tx x l i) (ed l i).f0 (ed l i).f1 (ed l i).f2).2 = ers x l (i + 1) ++ List.replicate (l.length - (i + 1)) 0 := by
      rw [hrep]
      have h5 := set_mid (ers x l i) (List.replicate (l.length - (i + 1)) 0) (ans (tx x l i) (ed l i).f0 (ed l i).f1 (ed l i).f2).2 0
      rw [ers_length] at h5
      rw [h5, ers_succ]
      have h6 : (ans (tx x l i) (ed l i).f0 (ed l i).f1 (ed l i).f2).2 = er x l i := ans_er
      rw [h6, List.append_assoc]
      rfl
    rw [hset]
    have hrd : rd (ers x l (i + 1) ++ List.replicate (l.length - (i + 1)) 0) (i : Int) = er x l i := by
      unfold Go.Proofs.YtncnloaclpaefaaW.PrintWords.rd
      rw [hi, ers_succ, List.append_assoc, List.getD_eq_getElem?_getD, List.getElem?_append_right (by rw [ers_length]; exact Nat.le_refl _), ers_length, Nat.sub_self]
      rfl
    rw [hrd]
    have hw : wrap64 ((i : Int) + 1) = ((i + 1 : Nat) : Int) := by unfold wrap64; omega
    rw [hw]
    have next := ih k (i + 1) q1 q2 q3
    by_cases hc : er x l i = 0
    · have ht : (ans (tx x l i) (ed l i).f0 (ed l i).f1 (ed l i).f2).1 = tx x l (i + 1) := ans_ok hc
      rw [if_pos hc, ht]
      exact next
    · have ht : tx x l (i + 1) = tx x l i := tx1_no hc
      rw [if_neg hc]
      rw [ht] at next
      exact next
theorem fold_eq (x : ByteArray) (l : List S23) (hl : l.length ≤ 1048576) : edits_Fold.f (l.length + 3) x l = some (tx x l l.length, ers x l l.length) := by
  unfold edits_Fold.f
  have h : (l.length : Int).toNat = l.length := by omega
  rw [if_pos (by omega), h, if_pos (by omega)]
  have := fold_l x l hl l.length (l.length + 3) 0 (by omega) (by omega) (by omega)
  rw [Nat.sub_zero] at this
  exact this
theorem rfold_l (x : ByteArray) (l : List S23) (hl : l.length ≤ 1048576) : ∀ (d k i : Nat), i ≤ l.length → l.length - i = d → d + 3 ≤ k →
    rootstockref01_Fold.l0 k (tx x l i) l (ers x l i) (i : Int) = some (tx x l l.length, ers x l l.length) := by
  intro d
  induction d with
  | zero =>
    intro k i h1 h2 h3
    obtain ⟨k, rfl⟩ : ∃ m, k = m + 1 := ⟨k - 1, by omega⟩
    have : i = l.length := by omega
    subst this
    unfold rootstockref01_Fold.l0
    rw [if_neg (by omega)]
  | succ d ih =>
    intro k i h1 h2 h3
    obtain ⟨k, rfl⟩ : ∃ m, k = m + 1 := ⟨k - 1, by omega⟩
    have q1 : i + 1 ≤ l.length := by omega
    have q2 : l.length - (i + 1) = d := by omega
    have q3 : d + 3 ≤ k := by omega
    have hlen := ers_length x l i
    have next := ih k (i + 1) q1 q2 q3
    have hlt : (ers x l i).length < 17592186044416 := by omega
    unfold rootstockref01_Fold.l0
    rw [if_pos (by omega), if_pos (by omega)]
    obtain ⟨k', hk'⟩ : ∃ m, k = m + 2 := ⟨k - 2, by omega⟩
    have ea : rootstockref01_Apply.f k (tx x l i) (rd_T23 l (i : Int)).f0 (rd_T23 l (i : Int)).f1 (rd_T23 l (i : Int)).f2 = some (ans (tx x l i) (ed l i).f0 (ed l i).f1 (ed l i).f2) := by
      rw [hk']
      exact ref_Apply_eq k' _ _ _ _
    have h6 : (ans (tx x l i) (ed l i).f0 (ed l i).f1 (ed l i).f2).2 = er x l i := ans_er
    have hw : wrap64 ((i : Int) + 1) = ((i + 1 : Nat) : Int) := by unfold wrap64; omega
    rw [ea, Option.bind_some, h6, hw, ← ers_succ]
    by_cases hc : er x l i = 0
    · have ht : (ans (tx x l i) (ed l i).f0 (ed l i).f1 (ed l i).f2).1 = tx x l (i + 1) := ans_ok hc
      rw [if_pos hc, if_pos hlt, ht]
      exact next
    · have ht : tx x l (i + 1) = tx x l i := tx1_no hc
      rw [if_neg hc, if_pos hlt]
      rw [ht] at next
      exact next
theorem rfold_eq (x : ByteArray) (l : List S23) (hl : l.length ≤ 1048576) : rootstockref01_Fold.f (l.length + 3) x l = some (tx x l l.length, ers x l l.length) :=
  rfold_l x l hl l.length (l.length + 3) 0 (by omega) (by omega) (by omega)
theorem serr_l (z : List Int) (hz : z.length ≤ 1048576) : ∀ (d k i : Nat), i ≤ z.length → z.length - i = d → d < k → rootstocklaw01_SameErrnos.l0 k z z (i : Int) = some true := by
  intro d
  induction d with
  | zero =>
    intro k i h1 h2 h3
    obtain ⟨k, rfl⟩ : ∃ m, k = m + 1 := ⟨k - 1, by omega⟩
    unfold rootstocklaw01_SameErrnos.l0
    rw [if_neg (by omega)]
  | succ d ih =>
    intro k i h1 h2 h3
    obtain ⟨k, rfl⟩ : ∃ m, k = m + 1 := ⟨k - 1, by omega⟩
    have next := ih k (i + 1) (by omega) (by omega) (by omega)
    unfold rootstocklaw01_SameErrnos.l0
    rw [if_pos (by omega), if_pos (by omega), if_pos (by omega), if_pos rfl]
    have hw : wrap64 ((i : Int) + 1) = ((i + 1 : Nat) : Int) := by unfold wrap64; omega
    rw [hw]
    exact next
theorem serr_eq (z : List Int) (hz : z.length ≤ 1048576) : rootstocklaw01_SameErrnos.f (z.length + 1) z z = some true := by
  unfold rootstocklaw01_SameErrnos.f
  rw [if_pos rfl]
  exact serr_l z hz z.length (z.length + 1) 0 (by omega) (by omega) (by omega)
theorem seds_l (z : List S23) (hz : z.length ≤ 1048576) : ∀ (d k i : Nat), i ≤ z.length → z.length - i = d → d < k → rootstocklaw01_SameEdits.l0 k z z (i : Int) = some true := by
  intro d
  induction d with
  | zero =>
    intro k i h1 h2 h3
    obtain ⟨k, rfl⟩ : ∃ m, k = m + 1 := ⟨k - 1, by omega⟩
    unfold rootstocklaw01_SameEdits.l0
    rw [if_neg (by omega)]
  | succ d ih =>
    intro k i h1 h2 h3
    obtain ⟨k, rfl⟩ : ∃ m, k = m + 1 := ⟨k - 1, by omega⟩
    have next := ih k (i + 1) (by omega) (by omega) (by omega)
    unfold rootstocklaw01_SameEdits.l0
    have hw : wrap64 ((i : Int) + 1) = ((i + 1 : Nat) : Int) := by unfold wrap64; omega
    rw [if_pos (by omega), if_pos (by omega), if_pos (by omega), if_neg (by simp), hw]
    exact next
theorem seds_eq (z : List S23) (hz : z.length ≤ 1048576) : rootstocklaw01_SameEdits.f (z.length + 1) z z = some true := by
  unfold rootstocklaw01_SameEdits.f
  rw [if_pos rfl]
  exact seds_l z hz z.length (z.length + 1) 0 (by omega) (by omega) (by omega)
/-- the marks -/
def marks : List S23 := [⟨-7000, 0, (⟨#[]⟩ : ByteArray)⟩, ⟨-7001, 0, (⟨#[]⟩ : ByteArray)⟩, ⟨-7002, 0, (⟨#[]⟩ : ByteArray)⟩]
theorem twin_eq (l : List S23) (hl : l.length ≤ 1048576) : twin.f 4 l = some (l ++ marks) := by
  unfold twin.f
  rw [Option.bind_some, if_pos (by simp; omega), List.nil_append]
  have w1 : wrap64 ((0 : Int) + 1) = 1 := by unfold wrap64; omega
  have w2 : wrap64 ((1 : Int) + 1) = 2 := by unfold wrap64; omega
  have w3 : wrap64 ((2 : Int) + 1) = 3 := by unfold wrap64; omega
  have v0 : wrap64 ((-7000 : Int) - 0) = -7000 := by unfold wrap64; omega
  have v1 : wrap64 ((-7000 : Int) - 1) = -7001 := by unfold wrap64; omega
  have v2 : wrap64 ((-7000 : Int) - 2) = -7002 := by unfold wrap64; omega
  have z0 : l.length < 4398046511104 := by omega
  have z1 : l.length + 1 < 4398046511104 := by omega
  have z2 : l.length + 1 + 1 < 4398046511104 := by omega
  unfold twin.l0
  rw [if_pos (by decide), if_pos z0, w1, v0]
  unfold twin.l0
  rw [if_pos (by decide), if_pos (by rw [List.length_append]; exact z1), w2, v1]
  unfold twin.l0
  rw [if_pos (by decide), if_pos (by rw [List.length_append, List.length_append]; exact z2), w3, v2]
  unfold twin.l0
  rw [if_neg (by decide), if_pos (by omega), if_pos (by simp; omega)]
  simp [marks]
end Go.Proofs.Ytncnloaclpaefaa.Folds
