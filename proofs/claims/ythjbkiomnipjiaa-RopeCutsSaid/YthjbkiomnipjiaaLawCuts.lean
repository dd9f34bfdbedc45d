/- The law RopeCuts, walked: it returns true, for every text, span and place between. -/
import Derived.Test.YthjbkiomnipjiaaRx3
set_option linter.unusedVariables false
set_option linter.unusedSimpArgs false
namespace Go.Proofs.Ythjbkiomnipjiaa
open Go Go.RowKit Pl

set_option maxRecDepth 100000 in
set_option maxHeartbeats 4000000 in
theorem cuts_long (x : ByteArray) (f t m : Int) (w : World) (hx : 65536 < x.size) : Calls Try.prog 6 #[.string x, .agg #[.int .i64 f, .int .i64 t], .int .i64 m] w (AllTrue w) := by
  have b1 := below_al w (.cells #[.int .i64 f, .int .i64 t] 45)
  have l0 := acell w #[.int .i64 f, .int .i64 t] 45 0
  have l1 := acell w #[.int .i64 f, .int .i64 t] 45 1
  go_enter Try.func6, Try.ntmps6
  go_wp2
  go_quiet (fail)
  generalize hw2 : World.drewN (w.alloc (.cells #[.int .i64 f, .int .i64 t] 45)) _ = w2
  have b2 : Below w.heap.size w w2 := hw2 ▸ below_drewN b1 _
  clear hw2 b1 l0 l1
  go_wp2_with (first
    | (go_at_call 12; (with_reducible refine (new_long x _ hx).mono ?_); rintro en w1 ⟨rfl, rfl⟩)
    | (go_at_call 13; (with_reducible refine (alive_yes _).mono ?_); rintro en w4 ⟨rfl, b4⟩))
  go_ret
  exact ⟨rfl, b2.trans (b4.mono b2.size)⟩
set_option maxRecDepth 100000 in
set_option maxHeartbeats 4000000 in
theorem cuts_0 (x : ByteArray) (f t m : Int) (w : World) (hx : x.size ≤ 65536)  (h0 : f < 0) : Calls Try.prog 6 #[.string x, .agg #[.int .i64 f, .int .i64 t], .int .i64 m] w (AllTrue w) := by
  have d0 : decide (f < 0) = true := decide_eq_true h0
  have b1 := below_al w (.cells #[.int .i64 f, .int .i64 t] 45)
  have l0 := acell w #[.int .i64 f, .int .i64 t] 45 0
  have l1 := acell w #[.int .i64 f, .int .i64 t] 45 1
  go_enter Try.func6, Try.ntmps6
  go_wp2
  go_quiet (fail)
  generalize hw2 : World.drewN (w.alloc (.cells #[.int .i64 f, .int .i64 t] 45)) _ = w2
  have b2 : Below w.heap.size w w2 := hw2 ▸ below_drewN b1 _
  clear hw2 b1 l0 l1
  go_wp2_with (first
    | (go_at_call 12; (with_reducible refine (new_g x _ hx).mono ?_); rintro en w3 ⟨g, r, rfl, hr, q, _, b3⟩)
    | (go_at_call 13; (with_reducible refine (alive_yes _).mono ?_); rintro en w4 ⟨rfl, b4⟩))
  go_ret
  exact ⟨rfl, b2.trans ((b3.trans (b4.mono b3.size)).mono b2.size)⟩

set_option maxRecDepth 100000 in
set_option maxHeartbeats 4000000 in
theorem cuts_1 (x : ByteArray) (f t m : Int) (w : World) (hx : x.size ≤ 65536) (h0 : ¬ (f < 0)) (h1 : m < f) : Calls Try.prog 6 #[.string x, .agg #[.int .i64 f, .int .i64 t], .int .i64 m] w (AllTrue w) := by
  have d0 : decide (f < 0) = false := decide_eq_false h0
  have d1 : decide (m < f) = true := decide_eq_true h1
  have b1 := below_al w (.cells #[.int .i64 f, .int .i64 t] 45)
  have l0 := acell w #[.int .i64 f, .int .i64 t] 45 0
  have l1 := acell w #[.int .i64 f, .int .i64 t] 45 1
  go_enter Try.func6, Try.ntmps6
  go_wp2
  go_quiet (fail)
  generalize hw2 : World.drewN (w.alloc (.cells #[.int .i64 f, .int .i64 t] 45)) _ = w2
  have b2 : Below w.heap.size w w2 := hw2 ▸ below_drewN b1 _
  clear hw2 b1 l0 l1
  go_wp2_with (first
    | (go_at_call 12; (with_reducible refine (new_g x _ hx).mono ?_); rintro en w3 ⟨g, r, rfl, hr, q, _, b3⟩)
    | (go_at_call 13; (with_reducible refine (alive_yes _).mono ?_); rintro en w4 ⟨rfl, b4⟩))
  go_ret
  exact ⟨rfl, b2.trans ((b3.trans (b4.mono b3.size)).mono b2.size)⟩

set_option maxRecDepth 100000 in
set_option maxHeartbeats 4000000 in
theorem cuts_2 (x : ByteArray) (f t m : Int) (w : World) (hx : x.size ≤ 65536) (h0 : ¬ (f < 0)) (h1 : ¬ (m < f)) (h2 : t < m) : Calls Try.prog 6 #[.string x, .agg #[.int .i64 f, .int .i64 t], .int .i64 m] w (AllTrue w) := by
  have d0 : decide (f < 0) = false := decide_eq_false h0
  have d1 : decide (m < f) = false := decide_eq_false h1
  have d2 : decide (t < m) = true := decide_eq_true h2
  have b1 := below_al w (.cells #[.int .i64 f, .int .i64 t] 45)
  have l0 := acell w #[.int .i64 f, .int .i64 t] 45 0
  have l1 := acell w #[.int .i64 f, .int .i64 t] 45 1
  go_enter Try.func6, Try.ntmps6
  go_wp2
  go_quiet (fail)
  generalize hw2 : World.drewN (w.alloc (.cells #[.int .i64 f, .int .i64 t] 45)) _ = w2
  have b2 : Below w.heap.size w w2 := hw2 ▸ below_drewN b1 _
  clear hw2 b1 l0 l1
  go_wp2_with (first
    | (go_at_call 12; (with_reducible refine (new_g x _ hx).mono ?_); rintro en w3 ⟨g, r, rfl, hr, q, _, b3⟩)
    | (go_at_call 13; (with_reducible refine (alive_yes _).mono ?_); rintro en w4 ⟨rfl, b4⟩))
  go_ret
  exact ⟨rfl, b2.trans ((b3.trans (b4.mono b3.size)).mono b2.size)⟩

set_option maxRecDepth 100000 in
set_option maxHeartbeats 4000000 in
theorem cuts_3 (x : ByteArray) (f t m : Int) (w : World) (hx : x.size ≤ 65536) (h0 : ¬ (f < 0)) (h1 : ¬ (m < f)) (h2 : ¬ (t < m)) (h3 : (x.size : Int) < t) : Calls Try.prog 6 #[.string x, .agg #[.int .i64 f, .int .i64 t], .int .i64 m] w (AllTrue w) := by
  have d0 : decide (f < 0) = false := decide_eq_false h0
  have d1 : decide (m < f) = false := decide_eq_false h1
  have d2 : decide (t < m) = false := decide_eq_false h2
  have d3 : decide ((x.size : Int) < t) = true := decide_eq_true h3
  have b1 := below_al w (.cells #[.int .i64 f, .int .i64 t] 45)
  have l0 := acell w #[.int .i64 f, .int .i64 t] 45 0
  have l1 := acell w #[.int .i64 f, .int .i64 t] 45 1
  go_enter Try.func6, Try.ntmps6
  go_wp2
  go_quiet (fail)
  generalize hw2 : World.drewN (w.alloc (.cells #[.int .i64 f, .int .i64 t] 45)) _ = w2
  have b2 : Below w.heap.size w w2 := hw2 ▸ below_drewN b1 _
  clear hw2 b1 l0 l1
  go_wp2_with (first
    | (go_at_call 12; (with_reducible refine (new_g x _ hx).mono ?_); rintro en w3 ⟨g, r, rfl, hr, q, _, b3⟩)
    | (go_at_call 13; (with_reducible refine (alive_yes _).mono ?_); rintro en w4 ⟨rfl, b4⟩))
  go_ret
  exact ⟨rfl, b2.trans ((b3.trans (b4.mono b3.size)).mono b2.size)⟩

theorem ext_split (x : ByteArray) (f m t : Nat) (h1 : f ≤ m) (h2 : m ≤ t) : x.extract f t = x.extract f m ++ x.extract m t := by
  rw [ByteArray.extract_append_extract, Nat.min_eq_left h1, Nat.max_eq_right h2]
set_option maxRecDepth 100000 in
set_option maxHeartbeats 8000000 in
theorem cuts_in (x : ByteArray) (f t m : Nat) (w : World) (hx : x.size ≤ 65536) (h1 : f ≤ m) (h2 : m ≤ t) (h3 : t ≤ x.size) : Calls Try.prog 6 #[.string x, .agg #[.int .i64 f, .int .i64 t], .int .i64 m] w (AllTrue w) := by
  have d0 : decide ((f : Int) < 0) = false := decide_eq_false (by omega)
  have d1 : decide (m < f) = false := decide_eq_false (by omega)
  have d2 : decide (t < m) = false := decide_eq_false (by omega)
  have d3 : decide (x.size < t) = false := decide_eq_false (by omega)
  have d1' : decide ((m : Int) < f) = false := decide_eq_false (by omega)
  have d2' : decide ((t : Int) < m) = false := decide_eq_false (by omega)
  have d3' : decide ((x.size : Int) < t) = false := decide_eq_false (by omega)
  have sl : ∀ a b : Nat, a ≤ b → b ≤ x.size → slP x a b = (x.extract a b, 0) := fun a b h1 h2 => if_neg (by omega)
  have sA := fun w g r (h : Rope w g r) (q : Good x r) => slice_g h q hx (f : Int) (t : Int)
  have sB := fun w g r (h : Rope w g r) (q : Good x r) => slice_g h q hx (f : Int) (m : Int)
  have sC := fun w g r (h : Rope w g r) (q : Good x r) => slice_g h q hx (m : Int) (t : Int)
  rw [sl f t (by omega) h3] at sA
  rw [sl f m h1 (by omega)] at sB
  rw [sl m t h2 h3] at sC
  have hsp := ext_split x f m t h1 h2
  have hsz : (x.extract f t).size = t - f := by rw [ByteArray.size_extract]; omega
  have hse : ((x.extract f m ++ x.extract m t).size : Int) = (t : Int) - f := by rw [← hsp, hsz]; omega
  have hix : ∀ i, (h : i < (x.extract f t).size) → (((x.extract f t)[i]'h).toNat : Int) = byteOf x (f + i) := by
    intro i h
    rw [ByteArray.getElem_extract, ← byteOf_in x (f + i) (by omega)]
  rw [hsp] at sA hix hsz
  generalize x.extract f m = A at sA sB hse hix hsz
  generalize x.extract m t = B at sA sC hse hix hsz
  clear hsp sl
  have hAB : ¬ (9223372036854775807 < A.size + B.size) := by rw [ByteArray.size_append] at hsz; omega
  have hne : ((((t - f : Nat) : Int)) != (t : Int) - (f : Int)) = false := by rw [bne_eq_false_iff_eq]; omega
  have b1 := below_al w (.cells #[.int .i64 f, .int .i64 t] 45)
  have l0 := acell w #[.int .i64 f, .int .i64 t] 45 0
  have l1 := acell w #[.int .i64 f, .int .i64 t] 45 1
  go_enter Try.func6, Try.ntmps6
  go_wp2
  go_quiet (fail)
  generalize hw2 : World.drewN (w.alloc (.cells #[.int .i64 f, .int .i64 t] 45)) _ = w2
  have b2 : Below w.heap.size w w2 := hw2 ▸ below_drewN b1 _
  clear hw2 b1 l0 l1
  go_wp2_with (first
    | (go_at_call 12; (with_reducible refine (new_g x _ hx).mono ?_); rintro en w3 ⟨g, r, rfl, hr, q, _, b3⟩)
    | (go_at_call 21; (with_reducible refine (sA _ g r hr q).mono ?_); rintro en w4 ⟨rfl, b4⟩; have hr4 := hr.below b4; have B4 := b3.trans (b4.mono b3.size); clear b3 b4)
    | (go_at_call 21; (with_reducible refine (sB _ g r hr4 q).mono ?_); rintro en w5 ⟨rfl, b5⟩; have hr5 := hr4.below b5; have B5 := B4.trans (b5.mono B4.size); clear B4 b5)
    | (go_at_call 21; (with_reducible refine (sC _ g r hr5 q).mono ?_); rintro en w6 ⟨rfl, b6⟩; have hr6 := hr5.below b6; have B6 := B5.trans (b6.mono B5.size); clear B5 b6))
  clear sA sB sC d0 d1 d2 d3 d1' d2' d3'
  go_loopg [17] 300 (fun gk i wr => wr = w6 ∧ ∃ k : Nat, i = .int .i64 k ∧ Kept (k + gk = 300))
  case atStart => exact ⟨rfl, 0, rfl, ⟨by omega⟩⟩
  case round =>
    obtain ⟨rfl, k, rfl, hk⟩ := hrel
    have hk' := hk.out
    by_cases h4 : k < (A ++ B).size ∧ k < 300
    · have e1 : decide (k < (A ++ B).size) = true := decide_eq_true h4.1
      have e2 : decide (k < 300) = true := decide_eq_true h4.2
      have hb := byte_g hr6 q hx ((f : Int) + k)
      have e3 : byP x ((f : Int) + k) = (byteOf x (f + k), 0) := by
        unfold byP
        rw [if_neg (by omega)]
        rfl
      rw [e3] at hb
      have hk2 : k < (A ++ B).size := h4.1
      have hb2 := hix k hk2
      have hkf : f + k ≤ 65536 := by omega
      have hq : (byteOf x (f + k) != (((A ++ B)[k]'hk2).toNat : Int)) = false := by rw [bne_eq_false_iff_eq]; exact hb2.symm
      clear hb2 hix e3
      go_wp2_with (first | (go_at_call 22; (with_reducible refine hb.mono ?_); rintro en w7 ⟨rfl, rfl⟩))
      go_roundg (gk - 1)
      case measure => omega
      case rel => exact ⟨rfl, k + 1, rfl, ⟨by omega⟩⟩
    · have hout : ¬ (k < (A ++ B).size) ∨ ¬ (k < 300) := by omega
      by_cases h5 : k < (A ++ B).size
      · have e1 : decide (k < (A ++ B).size) = true := decide_eq_true h5
        have e2 : decide (k < 300) = false := decide_eq_false (by omega)
        go_wp2_with (first | (go_at_call 13; (with_reducible refine (alive_yes _).mono ?_); rintro en w8 ⟨rfl, b8⟩))
        go_ret
        exact ⟨rfl, b2.trans ((B6.trans (b8.mono B6.size)).mono b2.size)⟩
      · have e1 : decide (k < (A ++ B).size) = false := decide_eq_false h5
        go_wp2_with (first | (go_at_call 13; (with_reducible refine (alive_yes _).mono ?_); rintro en w8 ⟨rfl, b8⟩))
        go_ret
        exact ⟨rfl, b2.trans ((B6.trans (b8.mono B6.size)).mono b2.size)⟩
/-- RopeCuts returns true, whatever it is asked. -/
theorem law_cuts (x : ByteArray) (f t m : Int) (w : World) : Calls Try.prog 6 #[.string x, .agg #[.int .i64 f, .int .i64 t], .int .i64 m] w (AllTrue w) := by
  by_cases hx : 65536 < x.size
  · exact cuts_long x f t m w hx
  · by_cases h0 : f < 0
    · exact cuts_0 x f t m w (by omega) h0
    · by_cases h1 : m < f
      · exact cuts_1 x f t m w (by omega) h0 h1
      · by_cases h2 : t < m
        · exact cuts_2 x f t m w (by omega) h0 h1 h2
        · by_cases h3 : (x.size : Int) < t
          · exact cuts_3 x f t m w (by omega) h0 h1 h2 h3
          · obtain ⟨f', rfl⟩ : ∃ n : Nat, f = n := ⟨f.toNat, by omega⟩
            obtain ⟨t', rfl⟩ : ∃ n : Nat, t = n := ⟨t.toNat, by omega⟩
            obtain ⟨m', rfl⟩ : ∃ n : Nat, m = n := ⟨m.toNat, by omega⟩
            exact cuts_in x f' t' m' w (by omega) (by omega) (by omega) (by omega)
end Go.Proofs.Ythjbkiomnipjiaa
