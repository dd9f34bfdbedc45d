/- Doubles that hold natural numbers below 2^53: what they stand for, their sums, how they compare, what they are as integers. No program. -/
import Derived.Laws.FloatArith
namespace Go.Proofs.Ythjbkiomnipjiaa.Fl
open Ieee

def fl (n : Nat) : Nat := double.nearest false n 0

theorem log2_mul_pow (n d : Nat) (hn : n ≠ 0) : (n * 2 ^ d).log2 = n.log2 + d := by
  have hp : n * 2 ^ d ≠ 0 := Nat.mul_ne_zero hn (Nat.ne_of_gt (Nat.two_pow_pos d))
  have h1 : n.log2 + d ≤ (n * 2 ^ d).log2 := by
    rw [Nat.le_log2 hp, Nat.pow_add]
    exact Nat.mul_le_mul_right _ (Nat.log2_self_le hn)
  have h2 : (n * 2 ^ d).log2 < n.log2 + d + 1 := by
    rw [Nat.log2_lt hp]
    have : n < 2 ^ (n.log2 + 1) := Nat.lt_log2_self
    calc n * 2 ^ d < 2 ^ (n.log2 + 1) * 2 ^ d := Nat.mul_lt_mul_of_pos_right this (Nat.two_pow_pos d)
      _ = 2 ^ (n.log2 + d + 1) := by rw [← Nat.pow_add]; congr 1; omega
  omega

theorem cut_exact (way : Toward) (neg : Bool) (n d : Nat) (hw : way = .even ∨ way = .zero) : way.cut neg (n * 2 ^ d) d = n := by
  by_cases hn : n = 0
  · subst hn
    rcases hw with rfl | rfl <;> simp [Toward.cut, Nat.zero_mod]
  · have hl := log2_mul_pow n d hn
    have hm : min d ((n * 2 ^ d).log2 + 2) = d := by omega
    have hp : 0 < 2 ^ d := Nat.two_pow_pos d
    have h1 : n * 2 ^ d / 2 ^ d = n := Nat.mul_div_cancel _ hp
    have h2 : n * 2 ^ d % 2 ^ d = 0 := Nat.mul_mod_left _ _
    rcases hw with rfl | rfl
    · simp only [Toward.cut, hm, Nat.one_shiftLeft, h1, h2, Nat.mul_zero]
      have a1 : (2 ^ d == 0) = false := by simp
      have a2 : decide (2 ^ d < 0) = false := by simp
      rw [a1, a2]
      simp
    · simp only [Toward.cut, hm, Nat.one_shiftLeft, h1]
      simp

theorem log2_le (n : Nat) (h : n < 2 ^ 53) : n.log2 ≤ 52 := by
  by_cases hn : n = 0
  · subst hn; decide
  · have := (Nat.log2_lt hn).2 h
    omega

theorem least : double.leastPlace = -1074 := by decide
theorem fbits : double.fractionBits = 52 := rfl

theorem full_lt (n : Nat) (hL : n.log2 ≤ 52) : n * 2 ^ (52 - n.log2) < 2 ^ 53 := by
  have : n < 2 ^ (n.log2 + 1) := Nat.lt_log2_self
  calc n * 2 ^ (52 - n.log2) < 2 ^ (n.log2 + 1) * 2 ^ (52 - n.log2) := Nat.mul_lt_mul_of_pos_right this (Nat.two_pow_pos _)
    _ = 2 ^ 53 := by rw [← Nat.pow_add]; congr 1; omega
theorem full_ge (n : Nat) (hn : n ≠ 0) (hL : n.log2 ≤ 52) : 2 ^ 52 ≤ n * 2 ^ (52 - n.log2) := by
  have := Nat.log2_self_le hn
  calc 2 ^ 52 = 2 ^ n.log2 * 2 ^ (52 - n.log2) := by rw [← Nat.pow_add]; congr 1; omega
    _ ≤ n * 2 ^ (52 - n.log2) := Nat.mul_le_mul_right _ this

/-- The word of n * 2 ^ d, at the place -d. -/
theorem nearest_scaled (n d : Nat) (hn : n ≠ 0) (h : n < 2 ^ 53) : double.nearest false (n * 2 ^ d) (-(d : Int)) = (n.log2 + 1022) * 2 ^ 52 + n * 2 ^ (52 - n.log2) := by
  have hL := log2_le n h
  have hp : n * 2 ^ d ≠ 0 := Nat.mul_ne_zero hn (Nat.ne_of_gt (Nat.two_pow_pos d))
  unfold Format.nearest
  rw [if_neg hp]
  simp only [log2_mul_pow n d hn, least, fbits]
  have hlast : max (-(d : Int) + ((n.log2 + d : Nat) : Int) - ((52 : Nat) : Int)) (-1074) = (n.log2 : Int) - 52 := by omega
  rw [hlast]
  have hk : Toward.even.cut false ((n * 2 ^ d) <<< (-(d : Int) - ((n.log2 : Int) - 52)).toNat) ((n.log2 : Int) - 52 - -(d : Int)).toNat = n * 2 ^ (52 - n.log2) := by
    by_cases hd : d ≤ 52 - n.log2
    · have e1 : (-(d : Int) - ((n.log2 : Int) - 52)).toNat = 52 - n.log2 - d := by omega
      have e2 : ((n.log2 : Int) - 52 - -(d : Int)).toNat = 0 := by omega
      rw [e1, e2, Nat.shiftLeft_eq, Nat.mul_assoc, ← Nat.pow_add]
      have e3 : d + (52 - n.log2 - d) = 52 - n.log2 := by omega
      rw [e3]
      have := cut_exact .even false (n * 2 ^ (52 - n.log2)) 0 (Or.inl rfl)
      rwa [Nat.pow_zero, Nat.mul_one] at this
    · have e1 : (-(d : Int) - ((n.log2 : Int) - 52)).toNat = 0 := by omega
      have e2 : ((n.log2 : Int) - 52 - -(d : Int)).toNat = d - (52 - n.log2) := by omega
      rw [e1, e2, Nat.shiftLeft_zero]
      have e3 : n * 2 ^ d = (n * 2 ^ (52 - n.log2)) * 2 ^ (d - (52 - n.log2)) := by
        rw [Nat.mul_assoc, ← Nat.pow_add]
        congr 2
        omega
      rw [e3]
      exact cut_exact .even false _ _ (Or.inl rfl)
  rw [hk]
  have hb : double.binade = 2 ^ 52 := rfl
  have hi : double.infRung = 2047 * 2 ^ 52 := by decide
  have e4 : ((n.log2 : Int) - 52 - -1074).toNat = n.log2 + 1022 := by omega
  rw [e4, hb, hi]
  have hlt := full_lt n hL
  have hle : (n.log2 + 1022) * 2 ^ 52 + n * 2 ^ (52 - n.log2) ≤ 2047 * 2 ^ 52 := by omega
  rw [Nat.min_eq_left hle]
  rfl

theorem fl_eq (n : Nat) (hn : n ≠ 0) (h : n < 2 ^ 53) : fl n = (n.log2 + 1022) * 2 ^ 52 + n * 2 ^ (52 - n.log2) := by
  have := nearest_scaled n 0 hn h
  rwa [Nat.pow_zero, Nat.mul_one] at this

theorem nearest_fl (n d : Nat) (h : n < 2 ^ 53) : double.nearest false (n * 2 ^ d) (-(d : Int)) = fl n := by
  by_cases hn : n = 0
  · subst hn
    simp [fl, Format.nearest]
  · rw [nearest_scaled n d hn h, fl_eq n hn h]

/-- What the word stands for: some multiple of a power of two that is just n. -/
theorem read_fl (n : Nat) (h : n < 2 ^ 53) : ∃ d : Nat, d ≤ 1074 ∧ double.read (fl n) = .number false (n * 2 ^ d) (-(d : Int)) ∧ (n ≠ 0 → d = 52 - n.log2) := by
  by_cases hn : n = 0
  · subst hn
    obtain ⟨d, hd⟩ : ∃ d : Nat, d = 1074 := ⟨_, rfl⟩
    refine ⟨d, by omega, ?_, fun c => absurd rfl c⟩
    rw [Nat.zero_mul, show -(d : Int) = -1074 by omega]
    decide
  · have hL := log2_le n h
    refine ⟨52 - n.log2, by omega, ?_, fun _ => rfl⟩
    rw [fl_eq n hn h]
    have hlt := full_lt n hL
    have hge := full_ge n hn hL
    generalize hm : n * 2 ^ (52 - n.log2) = m at hlt hge ⊢
    have hs : double.signWeight = 2 ^ 63 := rfl
    have hb : double.binade = 2 ^ 52 := rfl
    have hi : double.infRung = 2047 * 2 ^ 52 := by decide
    unfold Format.read
    simp only [hs, hb, hi, least]
    have e1 : ((n.log2 + 1022) * 2 ^ 52 + m) / 2 ^ 63 = 0 := by omega
    have e2 : ((n.log2 + 1022) * 2 ^ 52 + m) % 2 ^ 63 = (n.log2 + 1022) * 2 ^ 52 + m := by omega
    have e3 : ((n.log2 + 1022) * 2 ^ 52 + m) % 2 ^ 52 = m - 2 ^ 52 := by omega
    have e4 : ((n.log2 + 1022) * 2 ^ 52 + m) / 2 ^ 52 = n.log2 + 1023 := by omega
    rw [e1, e2, if_neg (by omega), if_pos (by omega), e3, e4]
    have e5 : 2 ^ 52 + (m - 2 ^ 52) = m := by omega
    have e6 : (-1074 : Int) + ((n.log2 + 1023 - 1 : Nat) : Int) = -((52 - n.log2 : Nat) : Int) := by omega
    rw [e5, e6]
    rfl

theorem signed_pos (m u : Nat) : signed false m u = ((m * 2 ^ u : Nat) : Int) := by
  simp [signed, Nat.shiftLeft_eq]

theorem up (n d b : Nat) (h : d ≤ b) : signed false (n * 2 ^ d) (-(d : Int) - (-(b : Int))).toNat = ((n * 2 ^ b : Nat) : Int) := by
  rw [signed_pos, Nat.mul_assoc, ← Nat.pow_add]
  congr 3
  omega

theorem add_fl (m n : Nat) (hm : m + n < 2 ^ 53) : double.add (fl m) (fl n) = some (fl (m + n)) := by
  obtain ⟨d, _, hd, _⟩ := read_fl m (by omega)
  obtain ⟨e, _, he, _⟩ := read_fl n (by omega)
  unfold Format.add
  rw [hd, he]
  have hb : min (-(d : Int)) (-(e : Int)) = -((max d e : Nat) : Int) := by omega
  simp only [Datum.sum, hb, Option.map_some]
  rw [up m d (max d e) (by omega), up n e (max d e) (by omega)]
  have ht : ((m * 2 ^ (max d e) : Nat) : Int) + ((n * 2 ^ (max d e) : Nat) : Int) = (((m + n) * 2 ^ (max d e) : Nat) : Int) := by
    rw [← Int.natCast_add, Nat.add_mul]
  rw [ht, Int.natAbs_natCast]
  have hf : (if (((m + n) * 2 ^ (max d e) : Nat) : Int) = 0 then (false && false) else decide ((((m + n) * 2 ^ (max d e) : Nat) : Int) < 0)) = false := by
    split
    · rfl
    · exact decide_eq_false (Int.not_lt.2 (Int.natCast_nonneg _))
  rw [hf]
  show some (double.nearest false ((m + n) * 2 ^ (max d e)) (-((max d e : Nat) : Int))) = _
  rw [nearest_fl _ _ hm]

theorem order_fl (m n : Nat) (hm : m < 2 ^ 53) (hn : n < 2 ^ 53) : (double.read (fl m)).order (double.read (fl n)) = some (compare (m : Int) (n : Int)) := by
  obtain ⟨d, _, hd, _⟩ := read_fl m hm
  obtain ⟨e, _, he, _⟩ := read_fl n hn
  rw [hd, he]
  have hb : min (-(d : Int)) (-(e : Int)) = -((max d e : Nat) : Int) := by omega
  simp only [Datum.order, hb]
  rw [up m d (max d e) (by omega), up n e (max d e) (by omega)]
  congr 1
  generalize hp : 2 ^ (max d e) = p
  have hpos : 0 < p := by rw [← hp]; exact Nat.two_pow_pos _
  simp only [compare, compareOfLessAndEq]
  have h1 : (((m * p : Nat) : Int) < ((n * p : Nat) : Int)) ↔ ((m : Int) < (n : Int)) := by
    rw [Int.ofNat_lt, Int.ofNat_lt]
    exact Nat.mul_lt_mul_right hpos
  have h2 : (((m * p : Nat) : Int) = ((n * p : Nat) : Int)) ↔ ((m : Int) = (n : Int)) := by
    rw [Int.ofNat_inj, Int.ofNat_inj]
    exact ⟨fun h => Nat.eq_of_mul_eq_mul_right hpos h, fun h => by rw [h]⟩
  simp only [h1, h2]

theorem toInt_fl (n : Nat) (h : n < 2 ^ 53) : (double.read (fl n)).toInt .zero = some (n : Int) := by
  obtain ⟨d, _, hd, _⟩ := read_fl n h
  rw [hd]
  simp only [Datum.toInt, Datum.integral]
  have e1 : (-(d : Int)).toNat = 0 := by omega
  have e2 : (- -(d : Int)).toNat = d := by omega
  rw [e1, e2, Nat.shiftLeft_zero, cut_exact .zero false n d (Or.inr rfl), signed_pos]
  simp

theorem fl_zero : fl 0 = 0 := by decide
theorem fl_one : fl 1 = 4607182418800017408 := by decide
end Go.Proofs.Ythjbkiomnipjiaa.Fl
