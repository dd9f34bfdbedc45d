/- The program's three functions over lines, walked: lines.Count, lines.Of, lines.At come to plain functions of the text's bytes. Condition: the text has at most 2^48 bytes (else the plain functions tell nothing). -/
import Derived.Test.YthjbkiomnipjiaaProg
import Derived.Test.YthjbkiomnipjiaaFl
import Derived.Test.YthjbkiomnipjiaaLn
import Derived.Test.YthjbkiomnipjiaaShelf
import Derived.Test.YthjbkiomnipjiaaWWords
import Derived.Laws.ComplexArith
import Derived.Laws.Cover3
import Derived.WalkKit
import Derived.Below
import Derived.WalkSmall
import Derived.IntWalk
import Derived.Deep.LoopGhost
import Derived.Deep.QuietTactic
import Derived.BigQuiet
import Derived.Lib.Hide
namespace Go.Proofs.Ythjbkiomnipjiaa
open Go.RowKit Fl Go.Proofs.YthjbkiomnipjiaaW.PrintWords

def cz (l c : Nat) : Value := .complex .f64 (fl l) (fl c)

theorem add_one (n : Nat) (h : n + 1 < 2 ^ 53) : floatBits .add .f64 (fl n) 4607182418800017408 = some (fl (n + 1)) := by
  rw [← fl_one]
  exact add_fl n 1 h
theorem add_zero (n : Nat) (h : n < 2 ^ 53) : floatBits .add .f64 (fl n) 0 = some (fl n) := by
  have := add_fl n 0 h
  rwa [fl_zero] at this

theorem behind_nl (l c : Nat) (h : l + 1 < 2 ^ 53) (w : World) :
    Calls Try.prog 55 #[cz l c, .int .u8 10] w fun e w' => e = .returned (cz (l + 1) 0) ∧ w = w' := by
  have k1 := fun (w : World) => run_float_arith (P := Try.prog) w .add 101 .f64 _ _ _ (add_one l h)
  have k2 : cz (l + 1) 0 = .complex .f64 (fl (l + 1)) 0 := by unfold cz; rw [fl_zero]
  rw [k2]
  clear k2
  unfold cz
  go_enter Try.func55, Try.ntmps55
  go_wp2
  go_ret
  exact ⟨rfl, rfl⟩
theorem behind_col (l c : Nat) (b : Int) (hl : l < 2 ^ 53) (h : c + 1 < 2 ^ 53) (hb : b ≠ 10) (w : World) :
    Calls Try.prog 55 #[cz l c, .int .u8 b] w fun e w' => e = .returned (cz l (c + 1)) ∧ w = w' := by
  have k0 : cSumBits .add .f64 (fl l) (fl c) 0 4607182418800017408 = some (fl l, fl (c + 1)) := by
    unfold cSumBits
    rw [add_zero l hl, add_one c h]
    rfl
  have k1 := fun (w : World) => run_complex_sum (P := Try.prog) w .add (Or.inl rfl) 99 .f64 _ _ _ _ _ _ k0
  clear k0
  have k2 : (b == 10) = false := by simpa using hb
  unfold cz
  go_enter Try.func55, Try.ntmps55
  go_wp2
  go_ret
  exact ⟨rfl, rfl⟩

theorem to_int (n : Nat) (h : n < 4503599627370496) : floatToIntVal .f64 (fl n) .i64 = some (n : Int) := by
  unfold floatToIntVal
  show (match (Ieee.double.read (fl n)).toInt .zero with | some n => if IntKind.i64.min ≤ n ∧ n ≤ IntKind.i64.max then some n else none | none => none) = _
  rw [toInt_fl n (by omega)]
  simp only
  rw [if_pos]
  have h1 : IntKind.i64.min = -9223372036854775808 := by decide
  have h2 : IntKind.i64.max = 9223372036854775807 := by decide
  rw [h1, h2]
  omega
def cp (p : Nat × Nat) : Value := cz p.1 p.2
theorem step (x : ByteArray) (k : Nat) (h : k < x.size) (hx : x.size ≤ 281474976710656) (w : World) :
    Calls Try.prog 55 #[cp (plc x k), .int .u8 (x[k].toNat : Int)] w fun e w' => e = .returned (cp (plc x (k + 1))) ∧ w = w' := by
  have hle := plc_le x k
  by_cases hb : x[k] = 10
  · rw [plc_nl x k h hb, hb]
    exact behind_nl _ _ (by omega) w
  · rw [plc_col x k h hb]
    refine behind_col _ _ _ (by omega) (by omega) ?_ w
    intro c
    apply hb
    apply UInt8.toNat.inj
    show x[k].toNat = 10
    omega
set_option maxHeartbeats 400000 in
theorem of_ok (x : ByteArray) (n : Nat) (hn : n ≤ x.size) (hx : x.size ≤ 281474976710656) (w : World) :
    Calls Try.prog 24 #[.string x, .int .i64 n] w fun e w' => e = .returned (.tuple #[.agg #[.int .i64 (plc x n).1, .int .i64 (plc x n).2], .int .i64 0]) ∧ Below w.heap.size w w' := by
  have z0 : Value.complex .f64 0 0 = cp (plc x 0) := by rw [plc_zero]; unfold cp cz; rw [fl_zero]
  have d1 : decide ((n : Int) < 0) = false := by simp
  have d2 : decide (x.size < n) = false := by simp; omega
  go_enter Try.func24, Try.ntmps24
  go_wp2
  clear d1 d2
  go_loop [6, 18] (fun z i => ∃ k : Nat, k ≤ n ∧ i = .int .i64 k ∧ z = cp (plc x k)) (fun _ i => n - (intOf i).toNat)
  case atStart => exact ⟨0, Nat.zero_le _, rfl, z0⟩
  case round =>
    obtain ⟨k, hk, rfl, rfl⟩ := hrel
    by_cases hlt : k < n
    · have hkx : k < x.size := by omega
      have hst := step x k hkx hx
      go_wp2_with (go_at_call 55; refine (hst _).mono ?_; rintro e w' ⟨rfl, rfl⟩)
      go_round
      case rel => exact ⟨k + 1, by omega, by go_num, rfl⟩
      case measure => simp [intOf]; omega
    · have : k = n := by omega
      subst this
      have hr : floatToIntVal .f64 (fl (plc x k).1) .i64 = some ((plc x k).1 : Int) := to_int _ (by have := plc_le x k; omega)
      have hc : floatToIntVal .f64 (fl (plc x k).2) .i64 = some ((plc x k).2 : Int) := to_int _ (by have := plc_le x k; omega)
      have k1 := fun (w : World) => run_convert_float_int (P := Try.prog) w 101 3 .f64 .i64 _ _ (by kernel_rfl) Try.underlying3 hr
      have k2 := fun (w : World) => run_convert_float_int (P := Try.prog) w 101 3 .f64 .i64 _ _ (by kernel_rfl) Try.underlying3 hc
      clear hr hc
      unfold cp cz
      go_wp2
      refine bodyPost_ret (v := .tuple #[.agg #[.int .i64 (plc x k).1, .int .i64 (plc x k).2], .int .i64 0]) (by simp [results, Try.results24, go_sem]) rfl ⟨rfl, ?_⟩
      exact (Below.refl _ _).alloc (Nat.le_refl _) _
theorem of_bad (x : ByteArray) (n : Int) (hn : n < 0 ∨ (x.size : Int) < n) (w : World) :
    Calls Try.prog 24 #[.string x, .int .i64 n] w fun e w' => e = .returned (.tuple #[.agg #[.int .i64 0, .int .i64 0], .int .i64 4]) ∧ Below w.heap.size w w' := by
  by_cases h0 : n < 0
  · have d1 : decide (n < 0) = true := decide_eq_true h0
    go_enter Try.func24, Try.ntmps24
    go_wp2
    refine bodyPost_ret (v := .tuple #[.agg #[.int .i64 0, .int .i64 0], .int .i64 4]) (by simp [results, Try.results24, go_sem]) rfl ⟨rfl, ?_⟩
    exact (Below.refl _ _).alloc (Nat.le_refl _) _
  · have d1 : decide (n < 0) = false := decide_eq_false h0
    have d2 : decide ((x.size : Int) < n) = true := decide_eq_true (by omega)
    go_enter Try.func24, Try.ntmps24
    go_wp2
    refine bodyPost_ret (v := .tuple #[.agg #[.int .i64 0, .int .i64 0], .int .i64 4]) (by simp [results, Try.results24, go_sem]) rfl ⟨rfl, ?_⟩
    exact (Below.refl _ _).alloc (Nat.le_refl _) _

theorem count_ok (x : ByteArray) (hx : x.size ≤ 281474976710656) (w : World) :
    Calls Try.prog 28 #[.string x] w fun e w' => e = .returned (.int .i64 ((Lib.countByte x.data.toList 10 : Nat) + 1)) ∧ w' = w := by
  have h1 := count_le x
  have hc := Try.strings_Count_one x 10
  generalize Lib.countByte x.data.toList 10 = c at h1 hc ⊢
  go_enter Try.func28, Try.ntmps28
  go_wp2_with (go_at_call 56; refine (hc _).mono ?_; rintro e w' ⟨rfl, rfl⟩)
  go_ret
  exact ⟨rfl, rfl⟩
set_option maxHeartbeats 400000 in
theorem at_l0 (x : ByteArray) (l c : Int) (hl : l < 0) (w : World) :
    Calls Try.prog 26 #[.string x, .agg #[.int .i64 l, .int .i64 c]] w fun e w' => e = .returned (.tuple #[.int .i64 0, .int .i64 4]) ∧ Below w.heap.size w w' := by
  have d1 : decide (l < 0) = true := decide_eq_true hl
  go_enter Try.func26, Try.ntmps26
  go_wp2
  go_quiet (fail)
  go_wp2
  go_ret2
  exact ⟨rfl, below_drewN ((Below.refl _ _).alloc (Nat.le_refl _) _) _⟩
set_option maxHeartbeats 400000 in
theorem at_l1 (x : ByteArray) (l c : Int) (hx : x.size ≤ 281474976710656) (hl : 0 ≤ l) (hm : (Lib.countByte x.data.toList 10 : Int) + 1 ≤ l) (w : World) :
    Calls Try.prog 26 #[.string x, .agg #[.int .i64 l, .int .i64 c]] w fun e w' => e = .returned (.tuple #[.int .i64 0, .int .i64 4]) ∧ Below w.heap.size w w' := by
  have d1 : decide (l < 0) = false := decide_eq_false (by omega)
  have hc := count_ok x hx
  have hcl := count_le x
  generalize Lib.countByte x.data.toList 10 = m at hc hcl hm
  have d2 : decide ((m : Int) + 1 ≤ l) = true := decide_eq_true hm
  go_enter Try.func26, Try.ntmps26
  go_wp2
  go_quiet ((go_at_call 28; exact Calls.quiet_of_same (hc _)))
  go_wp2
  go_ret2
  exact ⟨rfl, below_drewN ((Below.refl _ _).alloc (Nat.le_refl _) _) _⟩
set_option maxHeartbeats 400000 in
theorem at_c0 (x : ByteArray) (l c : Int) (hx : x.size ≤ 281474976710656) (hl : 0 ≤ l) (hm : l < (Lib.countByte x.data.toList 10 : Int) + 1) (h0 : c < 0) (w : World) :
    Calls Try.prog 26 #[.string x, .agg #[.int .i64 l, .int .i64 c]] w fun e w' => e = .returned (.tuple #[.int .i64 0, .int .i64 4]) ∧ Below w.heap.size w w' := by
  have d1 : decide (l < 0) = false := decide_eq_false (by omega)
  have hc := count_ok x hx
  have hcl := count_le x
  generalize Lib.countByte x.data.toList 10 = m at hc hcl hm
  have d2 : decide ((m : Int) + 1 ≤ l) = false := decide_eq_false (by omega)
  have d3 : decide (c < 0) = true := decide_eq_true h0
  go_enter Try.func26, Try.ntmps26
  go_wp2
  go_quiet ((go_at_call 28; exact Calls.quiet_of_same (hc _)))
  go_wp2
  go_ret2
  exact ⟨rfl, below_drewN ((Below.refl _ _).alloc (Nat.le_refl _) _) _⟩
set_option maxHeartbeats 400000 in
theorem at_c1 (x : ByteArray) (l c : Int) (hx : x.size ≤ 281474976710656) (hl : 0 ≤ l) (hm : l < (Lib.countByte x.data.toList 10 : Int) + 1) (h0 : 0 ≤ c) (h1 : (x.size : Int) < c) (w : World) :
    Calls Try.prog 26 #[.string x, .agg #[.int .i64 l, .int .i64 c]] w fun e w' => e = .returned (.tuple #[.int .i64 0, .int .i64 4]) ∧ Below w.heap.size w w' := by
  have d1 : decide (l < 0) = false := decide_eq_false (by omega)
  have hc := count_ok x hx
  have hcl := count_le x
  generalize Lib.countByte x.data.toList 10 = m at hc hcl hm
  have d2 : decide ((m : Int) + 1 ≤ l) = false := decide_eq_false (by omega)
  have d3 : decide (c < 0) = false := decide_eq_false (by omega)
  have d4 : decide ((x.size : Int) < c) = true := decide_eq_true h1
  go_enter Try.func26, Try.ntmps26
  go_wp2
  go_quiet ((go_at_call 28; exact Calls.quiet_of_same (hc _)))
  go_wp2
  go_ret2
  exact ⟨rfl, below_drewN ((Below.refl _ _).alloc (Nat.le_refl _) _) _⟩
theorem foi (n : Nat) : floatOfInt .f64 (n : Int) = fl n := by
  have h : decide ((n : Int) < 0) = false := by simp
  show Ieee.double.nearest (decide ((n : Int) < 0)) (n : Int).natAbs 0 = _
  rw [h, Int.natAbs_natCast]
  rfl
theorem cmp_eq (a b : Int) : (some (compare a b) == some Ordering.eq) = decide (a = b) := by
  simp only [compare, compareOfLessAndEq]
  by_cases h1 : a < b
  · rw [if_pos h1, decide_eq_false (by omega)]
    rfl
  · rw [if_neg h1]
    by_cases h2 : a = b
    · rw [if_pos h2, decide_eq_true h2]
      rfl
    · rw [if_neg h2, decide_eq_false h2]
      rfl
theorem run_same (p : Nat × Nat) (l c : Nat) (h1 : p.1 < 4503599627370496) (h2 : p.2 < 4503599627370496) (h3 : l < 4503599627370496) (h4 : c < 4503599627370496) (w : World) :
    (binOp .eql 99 (cp p) (.complex .f64 (fl l) (fl c))).run Try.prog w = .ok (.bool (decide (p = (l, c)))) w := by
  have e1 : FloatKind.f64.format.order (fl p.1) (fl l) = some (compare (p.1 : Int) (l : Int)) := order_fl _ _ (by omega) (by omega)
  have e2 : FloatKind.f64.format.order (fl p.2) (fl c) = some (compare (p.2 : Int) (c : Int)) := order_fl _ _ (by omega) (by omega)
  unfold cp cz
  rw [run_eql_complex, e1, e2, cmp_eq, cmp_eq]
  congr 2
  rw [Bool.eq_iff_iff, Bool.and_eq_true, decide_eq_true_eq, decide_eq_true_eq, decide_eq_true_eq]
  constructor
  · rintro ⟨a, b⟩
    exact Prod.ext (Int.ofNat_inj.1 a) (Int.ofNat_inj.1 b)
  · intro a
    rw [a]
    exact ⟨rfl, rfl⟩
set_option maxHeartbeats 800000 in
theorem at_lt (x : ByteArray) (l c : Nat) (hx : x.size ≤ 281474976710656) (hm : l ≤ Lib.countByte x.data.toList 10) (h1 : c ≤ x.size) (k0 : Nat) (hk0 : k0 < x.size) (hy : plc x k0 = (l, c)) (hno : ∀ j, j < k0 → plc x j ≠ (l, c)) (w : World) :
    Calls Try.prog 26 #[.string x, .agg #[.int .i64 l, .int .i64 c]] w fun e w' => e = .returned (.tuple #[.int .i64 k0, .int .i64 0]) ∧ Below w.heap.size w w' := by
  have z0 : Value.complex .f64 0 0 = cp (plc x 0) := by rw [plc_zero]; unfold cp cz; rw [fl_zero]
  have d1 : decide ((l : Int) < 0) = false := decide_eq_false (by omega)
  have hc := count_ok x hx
  have hcl := count_le x
  generalize Lib.countByte x.data.toList 10 = m at hc hcl hm
  have d2 : decide ((m : Int) + 1 ≤ (l : Int)) = false := decide_eq_false (by omega)
  have d3 : decide ((c : Int) < 0) = false := decide_eq_false (by omega)
  have d4 : decide (x.size < c) = false := decide_eq_false (by omega)
  have f1 := foi l
  have f2 := foi c
  go_enter Try.func26, Try.ntmps26
  go_wp2
  go_quiet ((go_at_call 28; exact Calls.quiet_of_same (hc _)))
  clear hc
  go_wp2
  clear d1 d2 d3 d4 f1 f2
  go_loop [7, 40] (fun z i => ∃ k : Nat, k ≤ k0 ∧ i = .int .i64 k ∧ z = cp (plc x k)) (fun _ i => x.size - (intOf i).toNat)
  case atStart => exact ⟨0, Nat.zero_le _, rfl, z0⟩
  case round =>
    obtain ⟨k, hk, rfl, rfl⟩ := hrel
    have hpl := plc_le x k
    have hsame := run_same (plc x k) l c (by omega) (by omega) (by omega) (by omega)
    clear hpl
    by_cases hlt : k < k0
    · have hkx : k < x.size := by omega
      rw [decide_eq_false (hno k hlt)] at hsame
      have hst := step x k hkx hx
      unfold cp cz at hsame hst ⊢
      go_wp2_with (go_at_call 55; refine (hst _).mono ?_; rintro e w' ⟨rfl, rfl⟩)
      go_round
      case rel => exact ⟨k + 1, by omega, by go_num, rfl⟩
      case measure => simp [intOf]; omega
    · have : k = k0 := by omega
      subst this
      rw [decide_eq_true hy] at hsame
      have hkx : k < x.size := by omega
      clear hno hy
      unfold cp cz at hsame ⊢
      go_wp2
      go_ret2
      exact ⟨rfl, below_drewN ((Below.refl _ _).alloc (Nat.le_refl _) _) _⟩

set_option maxHeartbeats 800000 in
theorem at_end (x : ByteArray) (l c : Nat) (hx : x.size ≤ 281474976710656) (hm : l ≤ Lib.countByte x.data.toList 10) (h1 : c ≤ x.size) (hy : plc x x.size = (l, c)) (hno : ∀ j, j < x.size → plc x j ≠ (l, c)) (w : World) :
    Calls Try.prog 26 #[.string x, .agg #[.int .i64 l, .int .i64 c]] w fun e w' => e = .returned (.tuple #[.int .i64 x.size, .int .i64 0]) ∧ Below w.heap.size w w' := by
  have z0 : Value.complex .f64 0 0 = cp (plc x 0) := by rw [plc_zero]; unfold cp cz; rw [fl_zero]
  have d1 : decide ((l : Int) < 0) = false := decide_eq_false (by omega)
  have hc := count_ok x hx
  have hcl := count_le x
  generalize Lib.countByte x.data.toList 10 = m at hc hcl hm
  have d2 : decide ((m : Int) + 1 ≤ (l : Int)) = false := decide_eq_false (by omega)
  have d3 : decide ((c : Int) < 0) = false := decide_eq_false (by omega)
  have d4 : decide (x.size < c) = false := decide_eq_false (by omega)
  have f1 := foi l
  have f2 := foi c
  go_enter Try.func26, Try.ntmps26
  go_wp2
  go_quiet ((go_at_call 28; exact Calls.quiet_of_same (hc _)))
  clear hc
  go_wp2
  clear d1 d2 d3 d4 f1 f2
  go_loop [7, 40] (fun z i => ∃ k : Nat, k ≤ x.size ∧ i = .int .i64 k ∧ z = cp (plc x k)) (fun _ i => x.size - (intOf i).toNat)
  case atStart => exact ⟨0, Nat.zero_le _, rfl, z0⟩
  case round =>
    obtain ⟨k, hk, rfl, rfl⟩ := hrel
    have hpl := plc_le x k
    have hsame := run_same (plc x k) l c (by omega) (by omega) (by omega) (by omega)
    clear hpl
    by_cases hlt : k < x.size
    · have hkx : k < x.size := by omega
      rw [decide_eq_false (hno k hlt)] at hsame
      have hst := step x k hkx hx
      unfold cp cz at hsame hst ⊢
      go_wp2_with (go_at_call 55; refine (hst _).mono ?_; rintro e w' ⟨rfl, rfl⟩)
      go_round
      case rel => exact ⟨k + 1, by omega, by go_num, rfl⟩
      case measure => simp [intOf]; omega
    · have : k = x.size := by omega
      subst this
      rw [decide_eq_true hy] at hsame
      clear hno hy
      unfold cp cz at hsame ⊢
      go_wp2
      go_ret2
      exact ⟨rfl, below_drewN ((Below.refl _ _).alloc (Nat.le_refl _) _) _⟩

set_option maxHeartbeats 800000 in
theorem at_no (x : ByteArray) (l c : Nat) (hx : x.size ≤ 281474976710656) (hm : l ≤ Lib.countByte x.data.toList 10) (h1 : c ≤ x.size) (hy : plc x x.size ≠ (l, c)) (hno : ∀ j, j < x.size → plc x j ≠ (l, c)) (w : World) :
    Calls Try.prog 26 #[.string x, .agg #[.int .i64 l, .int .i64 c]] w fun e w' => e = .returned (.tuple #[.int .i64 0, .int .i64 4]) ∧ Below w.heap.size w w' := by
  have z0 : Value.complex .f64 0 0 = cp (plc x 0) := by rw [plc_zero]; unfold cp cz; rw [fl_zero]
  have d1 : decide ((l : Int) < 0) = false := decide_eq_false (by omega)
  have hc := count_ok x hx
  have hcl := count_le x
  generalize Lib.countByte x.data.toList 10 = m at hc hcl hm
  have d2 : decide ((m : Int) + 1 ≤ (l : Int)) = false := decide_eq_false (by omega)
  have d3 : decide ((c : Int) < 0) = false := decide_eq_false (by omega)
  have d4 : decide (x.size < c) = false := decide_eq_false (by omega)
  have f1 := foi l
  have f2 := foi c
  go_enter Try.func26, Try.ntmps26
  go_wp2
  go_quiet ((go_at_call 28; exact Calls.quiet_of_same (hc _)))
  clear hc
  go_wp2
  clear d1 d2 d3 d4 f1 f2
  go_loop [7, 40] (fun z i => ∃ k : Nat, k ≤ x.size ∧ i = .int .i64 k ∧ z = cp (plc x k)) (fun _ i => x.size - (intOf i).toNat)
  case atStart => exact ⟨0, Nat.zero_le _, rfl, z0⟩
  case round =>
    obtain ⟨k, hk, rfl, rfl⟩ := hrel
    have hpl := plc_le x k
    have hsame := run_same (plc x k) l c (by omega) (by omega) (by omega) (by omega)
    clear hpl
    by_cases hlt : k < x.size
    · have hkx : k < x.size := by omega
      rw [decide_eq_false (hno k hlt)] at hsame
      have hst := step x k hkx hx
      unfold cp cz at hsame hst ⊢
      go_wp2_with (go_at_call 55; refine (hst _).mono ?_; rintro e w' ⟨rfl, rfl⟩)
      go_round
      case rel => exact ⟨k + 1, by omega, by go_num, rfl⟩
      case measure => simp [intOf]; omega
    · have : k = x.size := by omega
      subst this
      rw [decide_eq_false hy] at hsame
      clear hno hy
      unfold cp cz at hsame ⊢
      go_wp2
      go_ret2
      exact ⟨rfl, below_drewN ((Below.refl _ _).alloc (Nat.le_refl _) _) _⟩


def lines_Count.f (_ : Nat) (x : ByteArray) : Option Int := if x.size ≤ 281474976710656 then some ((Lib.countByte x.data.toList 10 : Nat) + 1) else none
theorem lines_Count.mono : ∀ x k, LeO (lines_Count.f k x) (lines_Count.f (k + 1) x) := fun _ _ => LeO.refl _
theorem lines_Count.calls (k : Nat) (x : ByteArray) (r : Int) (w : World) (h : lines_Count.f k x = some r) :
    Calls Try.prog 28 #[.string x] w fun e w' => e = .returned (.int .i64 r) ∧ Below w.heap.size w w' := by
  unfold lines_Count.f at h
  by_cases hx : x.size ≤ 281474976710656
  · rw [if_pos hx] at h
    obtain rfl := Option.some.inj h
    exact (count_ok x hx w).mono fun e w' ⟨he, hw⟩ => ⟨he, by rw [hw]; exact Below.refl _ _⟩
  · rw [if_neg hx] at h
    cases h

def lines_Of.f (_ : Nat) (x : ByteArray) (n : Int) : Option (Int × Int × Int) := if x.size ≤ 281474976710656 then some (ofP x n) else none
theorem lines_Of.mono : ∀ x n k, LeO (lines_Of.f k x n) (lines_Of.f (k + 1) x n) := fun _ _ _ => LeO.refl _
theorem lines_Of.calls (k : Nat) (x : ByteArray) (n : Int) (r1 : Int) (r2 : Int) (r3 : Int) (w : World) (h : lines_Of.f k x n = some (r1, r2, r3)) :
    Calls Try.prog 24 #[.string x, .int .i64 n] w fun e w' => e = .returned (.tuple #[.agg #[.int .i64 r1, .int .i64 r2], .int .i64 r3]) ∧ Below w.heap.size w w' := by
  unfold lines_Of.f ofP at h
  by_cases hx : x.size ≤ 281474976710656
  · rw [if_pos hx] at h
    by_cases hn : n < 0 ∨ (x.size : Int) < n
    · rw [if_pos hn] at h
      cases h
      exact of_bad x n hn w
    · rw [if_neg hn] at h
      cases h
      have hz : ((n.toNat : Nat) : Int) = n := by omega
      have := of_ok x n.toNat (by omega) hx w
      rw [hz] at this
      exact this
  · rw [if_neg hx] at h
    cases h

def lines_At.f (_ : Nat) (x : ByteArray) (l c : Int) : Option (Int × Int) := if x.size ≤ 281474976710656 then some (atP x l c) else none
theorem lines_At.mono : ∀ x l c k, LeO (lines_At.f k x l c) (lines_At.f (k + 1) x l c) := fun _ _ _ _ => LeO.refl _
theorem lines_At.calls (k : Nat) (x : ByteArray) (l : Int) (c : Int) (r1 : Int) (r2 : Int) (w : World) (h : lines_At.f k x l c = some (r1, r2)) :
    Calls Try.prog 26 #[.string x, .agg #[.int .i64 l, .int .i64 c]] w fun e w' => e = .returned (.tuple #[.int .i64 r1, .int .i64 r2]) ∧ Below w.heap.size w w' := by
  unfold lines_At.f atP at h
  by_cases hx : x.size ≤ 281474976710656
  · rw [if_pos hx] at h
    by_cases hb : l < 0 ∨ (Lib.countByte x.data.toList 10 : Int) + 1 ≤ l ∨ c < 0 ∨ (x.size : Int) < c
    · rw [if_pos hb] at h
      cases h
      by_cases b1 : l < 0
      · exact at_l0 x l c b1 w
      by_cases b2 : (Lib.countByte x.data.toList 10 : Int) + 1 ≤ l
      · exact at_l1 x l c hx (by omega) b2 w
      by_cases b3 : c < 0
      · exact at_c0 x l c hx (by omega) (by omega) b3 w
      · exact at_c1 x l c hx (by omega) (by omega) (by omega) (by omega) w
    · rw [if_neg hb] at h
      have hl : ((l.toNat : Nat) : Int) = l := by omega
      have hc : ((c.toNat : Nat) : Int) = c := by omega
      cases hf : findP x l.toNat c.toNat with
      | some j =>
        rw [hf] at h
        cases h
        obtain ⟨h1, h2, h3⟩ := List.find?_range_eq_some.1 hf
        have hy : plc x j = (l.toNat, c.toNat) := by simpa using h1
        have hj : j < x.size + 1 := by simpa using h2
        have hno : ∀ i, i < j → plc x i ≠ (l.toNat, c.toNat) := fun i hi => by simpa using h3 i hi
        by_cases hlt : j < x.size
        · have := at_lt x l.toNat c.toNat hx (by omega) (by omega) j hlt hy hno w
          rw [hl, hc] at this
          exact this
        · obtain rfl : j = x.size := by omega
          have := at_end x l.toNat c.toNat hx (by omega) (by omega) hy hno w
          rw [hl, hc] at this
          exact this
      | none =>
        rw [hf] at h
        cases h
        have hn := List.find?_eq_none.1 hf
        have hno : ∀ i, i ≤ x.size → plc x i ≠ (l.toNat, c.toNat) := fun i hi => by simpa using hn i (by simp; omega)
        have := at_no x l.toNat c.toNat hx (by omega) (by omega) (hno x.size (Nat.le_refl _)) (fun i hi => hno i (by omega)) w
        rw [hl, hc] at this
        exact this
  · rw [if_neg hx] at h
    cases h
end Go.Proofs.Ythjbkiomnipjiaa
