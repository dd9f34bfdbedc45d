/- Stacks, plain: one state laid on the other is one way down. -/
import Derived.Test.YteeiidkbihhekaaSkN
set_option linter.unusedVariables false
set_option linter.unusedSimpArgs false
namespace Go.Proofs.Yteeiidkbihhekaa
open Go Go.RowKit
def rowFrom : Nat → List Int → List N
  | _, [] => []
  | k, z :: zs => ⟨z % 7, ((k + 1 : Nat) : Int), [((k : Int), z)]⟩ :: rowFrom (k + 1) zs
def rowNs (r : List Int) : List N := ⟨0, 0, []⟩ :: rowFrom 0 r
theorem rowFrom_len : ∀ (r : List Int) (k : Nat), (rowFrom k r).length = r.length
  | [], k => rfl
  | z :: zs, k => by
    show (rowFrom (k + 1) zs).length + 1 = zs.length + 1
    rw [rowFrom_len zs]
theorem rowNs_len (r : List Int) : (rowNs r).length = r.length + 1 := by
  show (rowFrom 0 r).length + 1 = _
  rw [rowFrom_len]
theorem rowFrom_snoc : ∀ (r : List Int) (k : Nat) (z : Int), rowFrom k (r ++ [z]) = rowFrom k r ++ [⟨z % 7, ((k + r.length + 1 : Nat) : Int), [(((k + r.length : Nat) : Int), z)]⟩]
  | [], k, z => rfl
  | y :: ys, k, z => by
    show _ :: rowFrom (k + 1) (ys ++ [z]) = _ :: (rowFrom (k + 1) ys ++ _)
    rw [rowFrom_snoc ys (k + 1) z]
    have e : k + 1 + ys.length = k + (y :: ys).length := by simp; omega
    rw [e]
theorem rowNs_snoc (r : List Int) (z : Int) : rowNs (r ++ [z]) = rowNs r ++ [⟨z % 7, ((r.length + 1 : Nat) : Int), [((r.length : Int), z)]⟩] := by
  show _ :: rowFrom 0 (r ++ [z]) = _ :: (rowFrom 0 r ++ _)
  rw [rowFrom_snoc, Nat.zero_add]
theorem rowFrom_at : ∀ (r : List Int) (k i : Nat) (h : i < r.length), (rowFrom k r)[i]? = some ⟨r[i] % 7, ((k + i + 1 : Nat) : Int), [(((k + i : Nat) : Int), r[i])]⟩
  | [], k, i, h => absurd h (by simp)
  | z :: zs, k, 0, h => rfl
  | z :: zs, k, i + 1, h => by
    have ih := rowFrom_at zs (k + 1) i (by simpa using h)
    have e : k + 1 + i = k + (i + 1) := by omega
    rw [e] at ih
    exact ih
theorem rowNs_at (r : List Int) (i : Nat) (h : i < r.length) : (rowNs r)[i + 1]? = some ⟨r[i] % 7, ((i + 1 : Nat) : Int), [((i : Int), r[i])]⟩ := by
  have := rowFrom_at r 0 i h
  rw [Nat.zero_add] at this
  exact this
theorem rowNs_lk0 (r : List Int) : lkOf (rowNs r) 0 = [] := rfl
theorem rowNs_lk (r : List Int) (i : Nat) (h : i < r.length) : lkOf (rowNs r) (i + 1) = [((i : Int), r[i])] := by
  unfold lkOf
  rw [rowNs_at r i h]
  rfl
theorem rowNs_lv (r : List Int) (i : Nat) (h : i ≤ r.length) : lvOf (rowNs r) i = i := by
  match i with
  | 0 => rfl
  | i + 1 =>
    unfold lvOf
    rw [rowNs_at r i (by omega)]
    rfl
theorem rowNs_idx (r : List Int) (a : Int) (l : Int) (h : (r.length : Int) < l) : idx (rowNs r) a l = 0 := by
  rw [idx_zero]
  intro n hn hc
  obtain ⟨i, hi, rfl⟩ := List.getElem_of_mem hn
  rw [rowNs_len] at hi
  have h1 : (rowNs r)[i]? = some (rowNs r)[i] := List.getElem?_eq_getElem _
  have h2 := rowNs_lv r i (by omega)
  unfold lvOf at h2
  rw [h1] at h2
  have : ((rowNs r)[i]).lv = i := h2
  omega
theorem linkUp_last : ∀ (ns : List N) (a b : Int) (x : Int × Int), linkUp (ns ++ [⟨a, b, []⟩]) ns.length x = ns ++ [⟨a, b, [x]⟩]
  | [], a, b, x => rfl
  | n :: ns, a, b, x => by
    have ih := linkUp_last ns a b x
    show n :: linkUp (ns ++ [⟨a, b, []⟩]) ns.length x = n :: (ns ++ [⟨a, b, [x]⟩])
    rw [ih]
theorem linkP_last (ns : List N) (a b : Int) (x : Int × Int) : linkP (ns ++ [⟨a, b, []⟩]) ns.length x = (ns ++ [⟨a, b, [x]⟩], (ns.length : Int), true, 0) := by
  unfold linkP
  have e : lkOf (ns ++ [(⟨a, b, []⟩ : N)]) ns.length = [] := by simp [lkOf]
  rw [e, if_neg (by simp)]
  have e2 : linkUp (ns ++ [(⟨a, b, []⟩ : N)]) ns.length x = ns ++ [⟨a, b, [x]⟩] := by
    exact linkUp_last ns a b x
  rw [e2]
theorem push_row (r : List Int) (z : Int) (hz : 0 ≤ z) : pushP (rowNs r) r.length (z % 7) ((r.length : Int) + 1) z = (rowNs (r ++ [z]), (r.length : Int) + 1, true, 0) := by
  unfold pushP
  rw [if_pos ⟨by omega, by rw [rowNs_len]; omega⟩, Int.toNat_natCast, rowNs_lv r _ (Nat.le_refl _), if_neg (by omega), if_pos (rowNs_idx r _ _ (by omega)), linkP_last, rowNs_snoc, rowNs_len]
  have e : (r.length : Int) + 1 = ((r.length + 1 : Nat) : Int) := by omega
  rw [e]
theorem rowNs_linked (r : List Int) : Linked (rowNs r) := by
  intro n hn l hl
  obtain ⟨i, hi, rfl⟩ := List.getElem_of_mem hn
  have hlen := rowNs_len r
  rw [hlen] at hi
  match i, hi with
  | 0, _ => exact absurd hl (by simp [rowNs])
  | i + 1, hi =>
    have h1 := rowNs_at r i (by omega)
    rw [List.getElem?_eq_getElem (by omega)] at h1
    have h2 := Option.some.inj h1
    rw [h2] at hl
    simp at hl
    subst hl
    rw [hlen]
    constructor
    · show (0 : Int) ≤ (i : Int)
      omega
    · show (i : Int) < _
      omega
theorem down_row (r : List Int) : ∀ (k n : Nat) (met : Bool) (ov : List Int) (out : List Wy), n ≤ r.length → out.length < 4096 → downP (rowNs r) (-1) (-1) k n met ov out = if k ≤ n then (out ++ [(((n - k : Nat) : Int), (r.drop (n - k)).take k ++ ov.reverse)], true) else (out, true)
  | 0, n, met, ov, out, hn, ho => by
    have e : (-1 : Int) < 0 ∨ met = true := Or.inl (by omega)
    have e2 : (if (-1 : Int) < 0 ∨ met = true then out ++ [((n : Int), ov.reverse)] else out) = out ++ [((n : Int), ov.reverse)] := if_pos e
    show ((if (-1 : Int) < 0 ∨ met = true then out ++ [((n : Int), ov.reverse)] else out), decide ((if (-1 : Int) < 0 ∨ met = true then out ++ [((n : Int), ov.reverse)] else out).length ≤ 4096)) = _
    rw [e2, if_pos (Nat.zero_le _), decide_eq_true (by simp; omega)]
    simp
  | k + 1, 0, met, ov, out, hn, ho => by
    show byLinks (downP (rowNs r) (-1) (-1) k) 0 (-1) (-1) met ov 0 (lkOf (rowNs r) 0) out = _
    rw [rowNs_lk0, if_neg (by omega)]
    rfl
  | k + 1, n + 1, met, ov, out, hn, ho => by
    show byLinks (downP (rowNs r) (-1) (-1) k) (n + 1) (-1) (-1) met ov 0 (lkOf (rowNs r) (n + 1)) out = _
    rw [rowNs_lk r n (by omega)]
    have ih := down_row r k n (met || (decide (((n + 1 : Nat) : Int) = -1) && decide (((0 : Nat) : Int) = -1))) (ov ++ [r[n]]) out (by omega) ho
    show (if (downP (rowNs r) (-1) (-1) k (Int.toNat (n : Int)) _ (ov ++ [r[n]]) out).2 = true then _ else _) = _
    rw [Int.toNat_natCast, ih]
    by_cases hk : k ≤ n
    · rw [if_pos hk, if_pos rfl, if_pos (by omega)]
      have e : n + 1 - (k + 1) = n - k := by omega
      rw [e]
      have e3 : (r.drop (n - k)).take (k + 1) = (r.drop (n - k)).take k ++ [r[n]] := by
        have hlt : k < (r.drop (n - k)).length := by simp; omega
        rw [List.take_succ_eq_append_getElem hlt]
        congr 2
        rw [List.getElem_drop]
        congr 1
        omega
      rw [e3]
      show (out ++ [(((n - k : Nat) : Int), (r.drop (n - k)).take k ++ (ov ++ [r[n]]).reverse)], true) = _
      simp
    · rw [if_neg hk, if_pos rfl, if_neg (by omega)]
      rfl
theorem ways_row (r : List Int) (k : Nat) (hk : k ≤ 8) : waysP (rowNs r) r.length k (-1) (-1) = (0, if k ≤ r.length then [(((r.length - k : Nat) : Int), r.drop (r.length - k))] else []) := by
  unfold waysP
  rw [if_pos ⟨by omega, by rw [rowNs_len]; omega⟩, if_pos ⟨by omega, by omega⟩, Int.toNat_natCast, Int.toNat_natCast, down_row r k r.length false [] [] (Nat.le_refl _) (by simp)]
  by_cases h : k ≤ r.length
  · rw [if_pos h, if_pos rfl, if_pos h]
    have e : (r.drop (r.length - k)).take k = r.drop (r.length - k) := List.take_of_length_le (by simp; omega)
    rw [e]
    simp
  · rw [if_neg h, if_pos rfl, if_neg h]
end Go.Proofs.Yteeiidkbihhekaa
