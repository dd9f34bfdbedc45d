/- What edits, one behind the other, make of a text, and what each is told: plainly, and that edits.Fold comes to it. -/
import Derived.Test.YthjbkiomnipjiaaEds
set_option linter.unusedVariables false
set_option linter.unusedSimpArgs false
namespace Go.Proofs.Ythjbkiomnipjiaa
open Go Go.RowKit Pl PAux
open Go.Proofs.YthjbkiomnipjiaaW.PrintWords (Kd rd)
/-- the n-th edit -/
def ed (l : List S36) (n : Nat) : S36 := l.getD n z36
/-- what an edit is told -/
def er1 (x : ByteArray) (e : S36) : Int := chk x.size e.f0 e.f1 e.f2.size
/-- the text behind an edit -/
def tx1 (x : ByteArray) (e : S36) : ByteArray := if er1 x e = 0 then app x e.f0 e.f1 e.f2 else x
/-- the text behind n edits -/
def tx (x : ByteArray) (l : List S36) : Nat → ByteArray
  | 0 => x
  | n + 1 => tx1 (tx x l n) (ed l n)
def er (x : ByteArray) (l : List S36) (n : Nat) : Int := er1 (tx x l n) (ed l n)
theorem ans_ok {x : ByteArray} {e : S36} (h : er1 x e = 0) : (ans x e.f0 e.f1 e.f2).1 = tx1 x e := by
  unfold er1 at h
  unfold ans tx1 er1
  rw [if_pos h, if_pos h]
theorem ans_er {x : ByteArray} {e : S36} : (ans x e.f0 e.f1 e.f2).2 = er1 x e := by
  unfold ans er1
  split
  · rename_i hc; exact hc.symm
  · rfl
theorem tx1_no {x : ByteArray} {e : S36} (h : er1 x e ≠ 0) : tx1 x e = x := by
  unfold tx1
  rw [if_neg h]
theorem tx1_ok {x : ByteArray} {e : S36} (h : er1 x e = 0) : tx1 x e = app x e.f0 e.f1 e.f2 := by
  unfold tx1
  rw [if_pos h]
theorem tx1_size {x : ByteArray} {e : S36} (h : x.size ≤ 65536) : (tx1 x e).size ≤ 65536 := by
  unfold tx1
  split
  · rename_i hc
    obtain ⟨_, _, hs0, hse, hex, hm⟩ := chk_zero.1 (show chk _ _ _ _ = 0 from hc)
    have := size_app (t := e.f2) hs0 hse hex
    omega
  · exact h
theorem tx_size {x : ByteArray} {l : List S36} (h : x.size ≤ 65536) : ∀ n, (tx x l n).size ≤ 65536
  | 0 => h
  | n + 1 => tx1_size (tx_size h n)
def ers (x : ByteArray) (l : List S36) (n : Nat) : List Int := (List.range n).map (er x l)
theorem ers_length (x : ByteArray) (l : List S36) (n : Nat) : (ers x l n).length = n := by simp [ers]
theorem ers_succ (x : ByteArray) (l : List S36) (n : Nat) : ers x l (n + 1) = ers x l n ++ [er x l n] := by simp [ers, List.range_succ]
theorem set_mid (A R : List Int) (v w : Int) : (A ++ w :: R).set A.length v = A ++ v :: R := by
  rw [List.set_append_right _ _ (Nat.le_refl _), Nat.sub_self]
  rfl
theorem fold_l (x : ByteArray) (l : List S36) (hl : l.length ≤ 1048576) : ∀ (d k i : Nat), i ≤ l.length → l.length - i = d → d + 3 ≤ k →
    edits_Fold.l0 k (tx x l i) (ers x l i ++ List.replicate (l.length - i) 0) l (l.length : Int) (i : Int) = some (tx x l l.length, ers x l l.length) := by
  intro d
  induction d with
  | zero =>
    intro k i h1 h2 h3
    obtain ⟨k, rfl⟩ : ∃ m, k = m + 1 := ⟨k - 1, by omega⟩
    have : i = l.length := by omega
    subst this
    unfold edits_Fold.l0
    rw [if_neg (by omega), Nat.sub_self, List.replicate_zero, List.append_nil]
  | succ d ih =>
    intro k i h1 h2 h3
    obtain ⟨k, rfl⟩ : ∃ m, k = m + 1 := ⟨k - 1, by omega⟩
    have q1 : i + 1 ≤ l.length := by omega
    have q2 : l.length - (i + 1) = d := by omega
    have q3 : d + 3 ≤ k := by omega
    have hlen : (ers x l i ++ List.replicate (l.length - i) (0 : Int)).length = l.length := by rw [List.length_append, ers_length, List.length_replicate]; omega
    unfold edits_Fold.l0
    rw [if_pos (by omega), if_pos (by omega), if_pos (by omega)]
    obtain ⟨k', hk'⟩ : ∃ m, k = m + 2 := ⟨k - 2, by omega⟩
    have ea : edits_Apply.f k (tx x l i) (rd_T36 l (i : Int)).f0 (rd_T36 l (i : Int)).f1 (rd_T36 l (i : Int)).f2 = some (ans (tx x l i) (ed l i).f0 (ed l i).f1 (ed l i).f2) := by
      rw [hk']
      exact Aux.edits_Apply_eq k' _ _ _ _
    rw [ea, Option.bind_some, if_pos (by rw [hlen]; omega), Option.bind_some]
    have hi : (i : Int).toNat = i := by omega
    rw [hi]
    have hrep : List.replicate (l.length - i) (0 : Int) = 0 :: List.replicate (l.length - (i + 1)) 0 := by
      have : l.length - i = (l.length - (i + 1)) + 1 := by omega
      rw [this]
      rfl
    have hset : (ers x l i ++ List.replicate (l.length - i) (0 : Int)).set i (ans (tx x l i) (ed l i).f0 (ed l i).f1 (ed l i).f2).2 = ers x l (i + 1) ++ List.replicate (l.length - (i + 1)) 0 := by
      rw [hrep]
      have h5 := set_mid (ers x l i) (List.replicate (l.length - (i + 1)) 0) (ans (tx x l i) (ed l i).f0 (ed l i).f1 (ed l i).f2).2 0
      rw [ers_length] at h5
      rw [h5, ers_succ]
      have h6 : (ans (tx x l i) (ed l i).f0 (ed l i).f1 (ed l i).f2).2 = er x l i := ans_er
      rw [h6, List.append_assoc]
      rfl
    rw [hset]
    have hrd : rd (ers x l (i + 1) ++ List.replicate (l.length - (i + 1)) 0) (i : Int) = er x l i := by
      unfold Go.Proofs.YthjbkiomnipjiaaW.PrintWords.rd
      rw [hi, ers_succ, List.append_assoc, List.getD_eq_getElem?_getD, List.getElem?_append_right (by rw [ers_length]; exact Nat.le_refl _), ers_length, Nat.sub_self]
      rfl
    rw [hrd]
    have hw : wrap64 ((i : Int) + 1) = ((i + 1 : Nat) : Int) := by unfold wrap64; omega
    rw [hw]
    have next := ih k (i + 1) q1 q2 q3
    by_cases hc : er x l i = 0
    · have ht : (ans (tx x l i) (ed l i).f0 (ed l i).f1 (ed l i).f2).1 = tx x l (i + 1) := ans_ok hc
      rw [if_pos hc, ht]
      exact next
    · have ht : tx x l (i + 1) = tx x l i := tx1_no hc
      rw [if_neg hc]
      rw [ht] at next
      exact next
theorem fold_eq (x : ByteArray) (l : List S36) (hl : l.length ≤ 1048576) : edits_Fold.f (l.length + 3) x l = some (tx x l l.length, ers x l l.length) := by
  unfold edits_Fold.f
  have h : (l.length : Int).toNat = l.length := by omega
  rw [if_pos (by omega), h, if_pos (by omega)]
  have := fold_l x l hl l.length (l.length + 3) 0 (by omega) (by omega) (by omega)
  rw [Nat.sub_zero] at this
  exact this
theorem fold_g (x : ByteArray) (l : List S36) (hl : l.length ≤ 1048576) (A : Option Addr) (cap : Nat) (w : World) (hr : Kd.C k36 w A l.length l) (hc : l.length ≤ cap) :
    Calls Try.prog 16 #[.string x, .slice A l.length cap] w fun e w' => ∃ B c, e = .returned (.tuple #[.string (tx x l l.length), .slice B l.length c]) ∧ Kd.C (Kd.int .i64) w' B l.length (ers x l l.length) ∧ Below w.heap.size w w' := by
  refine (edits_Fold.calls _ x A cap l _ _ w hr hc (fold_eq x l hl)).mono ?_
  rintro e w' ⟨v, rfl, hR, hb⟩
  obtain ⟨B, c, rfl, _, hC⟩ := Kd.R_reads hR
  rw [ers_length] at hC ⊢
  exact ⟨B, c, rfl, hC, hb⟩
/-- a number of a row of them -/
theorem int_at {w : World} {B : Option Addr} {zs : List Int} {n : Nat} (h : Kd.C (Kd.int .i64) w B n zs) (i : Nat) (hi : i < n) : ∃ ad, B = some ad ∧ w.cell? (ad.add i) = some (.int .i64 (zs.getD i 0)) := by
  obtain ⟨ad, c, e, _, hK, hc⟩ := Kd.C_get h 0 (i : Int) (by omega) (by omega)
  have hz : (i : Int).toNat = i := by omega
  rw [hz] at hK hc
  have hK' : c = [.int .i64 (zs.getD i 0)] := hK
  subst hK'
  refine ⟨ad, e, ?_⟩
  have := hc 0 _ rfl
  have hs : (Kd.int .i64).sz = 1 := rfl
  rw [hs] at this
  simpa using this
end Go.Proofs.Ythjbkiomnipjiaa
