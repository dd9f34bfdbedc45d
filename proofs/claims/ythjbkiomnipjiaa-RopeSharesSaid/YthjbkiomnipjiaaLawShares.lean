/- The law RopeShares, walked: it returns true, for every text and edit. -/
import Derived.Test.YthjbkiomnipjiaaRs
set_option linter.unusedVariables false
set_option linter.unusedSimpArgs false
namespace Go.Proofs.Ythjbkiomnipjiaa
open Go Go.RowKit Pl
theorem Good.count {x : ByteArray} {t : Option Nd} (q : Good x t) : (optLv t).length ≤ x.size := by
  have h1 := q.size
  have h2 := q.ok
  cases t with
  | none => exact Nat.zero_le _
  | some t =>
    have h3 : t.sh.lv.length = t.sh.leaves := Sh.lv_length _
    have h4 := Sh.leaves_le t.sh h2
    have h5 : t.sh.size = x.size := h1
    show t.sh.lv.length ≤ x.size
    omega
/-- Leaves, as a slice whose length is told -/
theorem leaves_n {x : ByteArray} {t : Option Nd} {g : Nat} {w : World} (h : Rope w g t) (q : Good x t) (hx : x.size ≤ 65536) : Calls Try.prog 15 #[.pointer (some ⟨g, 0, none⟩)] w fun e w' => ∃ A cap, e = .returned (.slice A (optLv t).length cap) ∧ Texts w.heap.size w' (.slice A (optLv t).length cap) (optLv t) ∧ Below w.heap.size w w' := by
  refine (leaves_g h q hx).mono ?_
  rintro e w' ⟨v, rfl, ho, hb⟩
  obtain ⟨A, n, cap, rfl⟩ := own_slice ho
  have hn : n = (optLv t).length := by
    rcases ho.2 with ⟨hv, h0⟩ | ⟨_, _, _, hv, _⟩
    · simp only [Value.slice.injEq] at hv
      omega
    · simp only [Value.slice.injEq] at hv
      exact hv.2.1
  subst hn
  exact ⟨A, cap, rfl, ho, hb⟩
theorem shared_g {x y : ByteArray} {t u : Option Nd} {g f : Nat} {w : World} (h : Rope w g t) (q : Good x t) (hx : x.size ≤ 65536) (h' : Rope w f u) (q' : Good y u) (hy : y.size ≤ 65536) : Calls Try.prog 20 #[.pointer (some ⟨g, 0, none⟩), .pointer (some ⟨f, 0, none⟩)] w fun e w' => e = .returned (.int .i64 (shared (lvAddrs (optLv t)) (lvAddrs (optLv u)))) ∧ Below w.heap.size w w' :=
  shared_any _ _ t u w (Root.of_rope h) (Root.of_rope h') (q.many hx) (q'.many hy)
theorem shared_back {x y : ByteArray} {t u : Option Nd} {g f : Nat} {w : World} (h : Rope w g t) (q : Good x t) (hx : x.size ≤ 65536) (h' : Rope w f u) (q' : Good y u) (hy : y.size ≤ 65536) : Calls Try.prog 20 #[.pointer (some ⟨f, 0, none⟩), .pointer (some ⟨g, 0, none⟩)] w fun e w' => e = .returned (.int .i64 (shared (lvAddrs (optLv t)) (lvAddrs (optLv u)))) ∧ Below w.heap.size w w' := by
  rw [shared_symm]
  exact shared_g h' q' hy h q hx
theorem shared_own {x : ByteArray} {t : Option Nd} {g : Nat} {w : World} (h : Rope w g t) (q : Good x t) (hx : x.size ≤ 65536) : Calls Try.prog 20 #[.pointer (some ⟨g, 0, none⟩), .pointer (some ⟨g, 0, none⟩)] w fun e w' => e = .returned (.int .i64 (optLv t).length) ∧ Below w.heap.size w w' := by
  have := shared_g h q hx h q hx
  rw [shared_self] at this
  have e : (lvAddrs (optLv t)).length = (optLv t).length := by simp [lvAddrs]
  rw [e] at this
  exact this
theorem lvAddrs_sh (t : Option Nd) : lvAddrs (optLv t) = (Sh.lvO (optSh t)).map fun x => x.1 := by rw [optLv_sh]; rfl
set_option maxRecDepth 100000 in
set_option maxHeartbeats 4000000 in
theorem shares_long (x u : ByteArray) (s e : Int) (w : World) (hx : 65536 < x.size) : Calls Try.prog 5 #[.string x, .agg #[.int .i64 s, .int .i64 e, .string u]] w (AllTrue w) := by
  have b1 := below_al w (.cells #[.int .i64 s, .int .i64 e, .string u] 36)
  go_enter Try.func5, Try.ntmps5
  go_wp2_with (first
    | (go_at_call 12; (with_reducible refine (new_long x _ hx).mono ?_); rintro en w1 ⟨rfl, rfl⟩)
    | (go_at_call 13; (with_reducible refine (alive_yes _).mono ?_); rintro en w4 ⟨rfl, b4⟩))
  go_ret
  exact ⟨rfl, b1.trans (b4.mono b1.size)⟩
set_option maxRecDepth 100000 in
set_option maxHeartbeats 8000000 in
theorem shares_ok (x u : ByteArray) (s e : Int) (w : World) (hx : x.size ≤ 65536) : Calls Try.prog 5 #[.string x, .agg #[.int .i64 s, .int .i64 e, .string u]] w (AllTrue w) := by
  have b1 := below_al w (.cells #[.int .i64 s, .int .i64 e, .string u] 36)
  have l0 := acell w #[.int .i64 s, .int .i64 e, .string u] 36 0
  have l1 := acell w #[.int .i64 s, .int .i64 e, .string u] 36 1
  have l2 := acell w #[.int .i64 s, .int .i64 e, .string u] 36 2
  have z1 := size_al w (.cells #[.int .i64 s, .int .i64 e, .string u] 36)
  have lta : w.heap.size < (w.alloc (.cells #[.int .i64 s, .int .i64 e, .string u] 36)).heap.size := by omega
  by_cases hc : chk x.size s e u.size = 0
  · have hsp := fun (w : World) (g : Nat) (t : Option Nd) (h : Rope w g t) (q : Good x t) => splice_g h q s e u hc
    have hsz : (app x s e u).size ≤ 65536 := by
      obtain ⟨_, _, hs0, hse, hex, hm⟩ := chk_zero.1 hc
      have := size_app (t := u) hs0 hse hex
      omega
    have hu : u.size ≤ 131072 := by
      obtain ⟨_, _, hs0, hse, hex, hm⟩ := chk_zero.1 hc
      omega
    generalize app x s e u = X at hsp hsz
    go_enter Try.func5, Try.ntmps5
    go_wp2_with (first
      | (go_at_call 12; (with_reducible refine (new_g x _ hx).mono ?_); rintro en w3 ⟨g, t, rfl, hr, q, _, b3⟩; have m0 := (b3.cell (p := ⟨w.heap.size, 0, none⟩) lta).trans l0; have m1 := (b3.cell (p := ⟨w.heap.size, 1, none⟩) lta).trans l1; have m2 := (b3.cell (p := ⟨w.heap.size, 2, none⟩) lta).trans l2)
      | (go_at_call 18; (with_reducible refine (hsp _ g t hr q).mono ?_); rintro en w4 ⟨f, r, rfl, hf, q', hsl, b4⟩; have hr4 := hr.below b4; have B4 := b3.trans (b4.mono b3.size))
      | (go_at_call 15; (with_reducible refine (leaves_n hf q' hsz).mono ?_); rintro en w5 ⟨A, cap, rfl, _, b5⟩; have hr5 := hr4.below b5; have hf5 := hf.below b5; have B5 := B4.trans (b5.mono B4.size))
      | (go_at_call 20; (with_reducible refine (shared_g hr5 q hx hf5 q' hsz).mono ?_); rintro en w6 ⟨rfl, b6⟩; have hr6 := hr5.below b6; have hf6 := hf5.below b6; have B6 := B5.trans (b6.mono B5.size); have n2 := (B6.cell (p := ⟨w.heap.size, 2, none⟩) lta).trans l2; have hge := hsl.shared_ge; have hcn := q'.count; have hsm := shared_le (lvAddrs (optLv t)) (lvAddrs (optLv r)); rw [← lvAddrs_sh, ← lvAddrs_sh, ← optLv_sh] at hge; have hel : (lvAddrs (optLv r)).length = (optLv r).length := (by simp [lvAddrs]); rw [hel] at hsm; have e1 : decide (((optLv r).length : Int) - 2 - ((u.size : Int) + 64 - 1) / 64 ≤ (shared (lvAddrs (optLv t)) (lvAddrs (optLv r)) : Int)) = true := decide_eq_true (by omega); have e2 : decide (shared (lvAddrs (optLv t)) (lvAddrs (optLv r)) ≤ (optLv r).length) = true := decide_eq_true hsm; have e3 : decide ((shared (lvAddrs (optLv t)) (lvAddrs (optLv r)) : Int) ≤ ((optLv r).length : Int)) = true := decide_eq_true (by omega); have e4 : wrap64 (((optLv r).length : Int) - 2) = ((optLv r).length : Int) - 2 := Aux.w64 (by omega) (by omega); have e5 : wrap64 (((optLv r).length : Int) - 2 - ((u.size : Int) + 64 - 1) / 64) = ((optLv r).length : Int) - 2 - ((u.size : Int) + 64 - 1) / 64 := Aux.w64 (by omega) (by omega))
      | (go_at_call 20; (with_reducible refine (shared_back hr6 q hx hf6 q' hsz).mono ?_); rintro en w7 ⟨rfl, b7⟩; have hr7 := hr6.below b7; have hf7 := hf6.below b7; have B7 := B6.trans (b7.mono B6.size))
      | (go_at_call 20; (with_reducible refine (shared_own hf7 q' hsz).mono ?_); rintro en w8 ⟨rfl, b8⟩; have hr8 := hr7.below b8; have B8 := B7.trans (b8.mono B7.size))
      | (go_at_call 20; (with_reducible refine (shared_own hr8 q hx).mono ?_); rintro en w9 ⟨rfl, b9⟩; have hr9 := hr8.below b9; have B9 := B8.trans (b9.mono B8.size))
      | (go_at_call 15; (with_reducible refine (leaves_n hr9 q hx).mono ?_); rintro en w10 ⟨A2, cap2, rfl, _, b10⟩; have B10 := B9.trans (b10.mono B9.size))
      | (go_at_call 13; (with_reducible refine (alive_yes _).mono ?_); rintro en w11 ⟨rfl, b11⟩))
    go_ret
    exact ⟨rfl, b1.trans ((B10.trans (b11.mono B10.size)).mono b1.size)⟩
  · have hcb : (chk x.size s e u.size != 0) = true := bne_iff_ne.2 hc
    have hsp := fun (w : World) (g : Nat) (t : Option Nd) (h : Rope w g t) (q : Good x t) => splice_bad_g h q s e u hc
    generalize chk x.size s e u.size = C at hsp hcb hc
    go_enter Try.func5, Try.ntmps5
    go_wp2_with (first
      | (go_at_call 12; (with_reducible refine (new_g x _ hx).mono ?_); rintro en w3 ⟨g, t, rfl, hr, q, _, b3⟩; have m0 := (b3.cell (p := ⟨w.heap.size, 0, none⟩) lta).trans l0; have m1 := (b3.cell (p := ⟨w.heap.size, 1, none⟩) lta).trans l1; have m2 := (b3.cell (p := ⟨w.heap.size, 2, none⟩) lta).trans l2)
      | (go_at_call 18; (with_reducible refine (hsp _ g t hr q).mono ?_); rintro en w4 ⟨rfl, b4⟩; have B4 := b3.trans (b4.mono b3.size))
      | (go_at_call 13; (with_reducible refine (alive_yes _).mono ?_); rintro en w11 ⟨rfl, b11⟩))
    go_ret
    exact ⟨rfl, b1.trans ((B4.trans (b11.mono B4.size)).mono b1.size)⟩
/-- RopeShares returns true, whatever it is asked. -/
theorem law_shares (x : ByteArray) (s e : Int) (u : ByteArray) (w : World) : Calls Try.prog 5 #[.string x, .agg #[.int .i64 s, .int .i64 e, .string u]] w (AllTrue w) := by
  by_cases hx : 65536 < x.size
  · exact shares_long x u s e w hx
  · exact shares_ok x u s e w (by omega)
end Go.Proofs.Ythjbkiomnipjiaa
