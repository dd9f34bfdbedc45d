/- The law RopeGoes, walked: it returns true, for every text and list of edits. -/
import Derived.Test.YthjbkiomnipjiaaRx3
import Derived.Test.YthjbkiomnipjiaaGo
set_option linter.unusedVariables false
set_option linter.unusedSimpArgs false
namespace Go.Proofs.Ythjbkiomnipjiaa
open Go Go.RowKit Pl PAux
open Go.Proofs.YthjbkiomnipjiaaW.PrintWords (Kd rd)
theorem ed_at {w : World} {A : Option Addr} {l : List S36} {n : Nat} (h : Kd.C k36 w A l.length l) (hn : n < l.length) : ∃ ad, A = some ad ∧ w.cell? (ad.add (n * 3)) = some (.int .i64 (ed l n).f0) ∧ w.cell? ⟨(ad.add (n * 3)).block, (ad.add (n * 3)).off + 1, none⟩ = some (.int .i64 (ed l n).f1) ∧ w.cell? ⟨(ad.add (n * 3)).block, (ad.add (n * 3)).off + 2, none⟩ = some (.string (ed l n).f2) :=
  at_T36 h (n : Int) (by omega) (by omega)
theorem ers_get (x : ByteArray) (l : List S36) (m n : Nat) (h : n < m) : (ers x l m).getD n 0 = er x l n := by
  unfold ers
  simp [h]
theorem back_ok {x : ByteArray} {e : S36} (h : er1 x e = 0) : und x e.f0 e.f1 e.f2 = (e.f0, e.f0 + e.f2.size, x.extract e.f0.toNat e.f1.toNat, 0) := by
  unfold er1 at h
  unfold und
  rw [if_pos h]
theorem back_chk {x : ByteArray} {e : S36} (h : er1 x e = 0) : chk (tx1 x e).size e.f0 (e.f0 + e.f2.size) (x.extract e.f0.toNat e.f1.toNat).size = 0 := by
  have h' := h
  unfold er1 at h
  obtain ⟨h1, h2, hs0, hse, hex, hm⟩ := chk_zero.1 h
  have hz := size_app (t := e.f2) hs0 hse hex
  rw [tx1_ok h', chk_zero, ByteArray.size_extract, hz]
  omega
theorem back_app {x : ByteArray} {e : S36} (h : er1 x e = 0) : app (tx1 x e) e.f0 (e.f0 + e.f2.size) (x.extract e.f0.toNat e.f1.toNat) = x := by
  have h' := h
  unfold er1 at h
  obtain ⟨h1, h2, hs0, hse, hex, hm⟩ := chk_zero.1 h
  rw [tx1_ok h']
  exact app_back hs0 hse hex
set_option maxRecDepth 100000 in
set_option maxHeartbeats 4000000 in
theorem goes_long (x : ByteArray) (A : Option Addr) (n cap : Nat) (w : World) (hx : 65536 < x.size) : Calls Try.prog 4 #[.string x, .slice A n cap] w (AllTrue w) := by
  go_enter Try.func4, Try.ntmps4
  go_wp2_with (first
    | (go_at_call 12; (with_reducible refine (new_long x _ hx).mono ?_); rintro en w1 ⟨rfl, rfl⟩)
    | (go_at_call 13; (with_reducible refine (alive_yes _).mono ?_); rintro en w4 ⟨rfl, b4⟩))
  go_ret
  exact ⟨rfl, b4⟩
set_option maxRecDepth 100000 in
set_option maxHeartbeats 4000000 in
theorem goes_big (x : ByteArray) (A : Option Addr) (n cap : Nat) (w : World) (hx : x.size ≤ 65536) (h : 3000 < x.size ∨ 40 < n) : Calls Try.prog 4 #[.string x, .slice A n cap] w (AllTrue w) := by
  by_cases h1 : 3000 < x.size
  · have d1 : decide (3000 < x.size) = true := decide_eq_true h1
    have d1' : decide ((3000 : Int) < (x.size : Int)) = true := decide_eq_true (by omega)
    go_enter Try.func4, Try.ntmps4
    go_wp2_with (first
      | (go_at_call 12; (with_reducible refine (new_g x _ hx).mono ?_); rintro en w3 ⟨g, t, rfl, hr, q, _, b3⟩)
      | (go_at_call 13; (with_reducible refine (alive_yes _).mono ?_); rintro en w4 ⟨rfl, b4⟩))
    go_ret
    exact ⟨rfl, b3.trans (b4.mono b3.size)⟩
  · have d1 : decide (3000 < x.size) = false := decide_eq_false h1
    have d1' : decide ((3000 : Int) < (x.size : Int)) = false := decide_eq_false (by omega)
    have d2 : decide (40 < n) = true := decide_eq_true (by omega)
    have d2' : decide ((40 : Int) < (n : Int)) = true := decide_eq_true (by omega)
    go_enter Try.func4, Try.ntmps4
    go_wp2_with (first
      | (go_at_call 12; (with_reducible refine (new_g x _ hx).mono ?_); rintro en w3 ⟨g, t, rfl, hr, q, _, b3⟩)
      | (go_at_call 13; (with_reducible refine (alive_yes _).mono ?_); rintro en w4 ⟨rfl, b4⟩))
    go_ret
    exact ⟨rfl, b3.trans (b4.mono b3.size)⟩
set_option maxRecDepth 100000 in
set_option maxHeartbeats 8000000 in
theorem goes_main (x : ByteArray) (A : Option Addr) (l : List S36) (cap : Nat) (w : World) (hx : x.size ≤ 3000) (hl : l.length ≤ 40) (hA : Kd.C k36 w A l.length l) (hcap : l.length ≤ cap) : Calls Try.prog 4 #[.string x, .slice A l.length cap] w (AllTrue w) := by
  have hx' : x.size ≤ 65536 := by omega
  have d1 : decide (3000 < x.size) = false := decide_eq_false (by omega)
  have d1' : decide ((3000 : Int) < (x.size : Int)) = false := decide_eq_false (by omega)
  have d2 : decide (40 < l.length) = false := decide_eq_false (by omega)
  have d2' : decide ((40 : Int) < (l.length : Int)) = false := decide_eq_false (by omega)
  go_enter Try.func4, Try.ntmps4
  go_wp2_with (first
    | (go_at_call 12; (with_reducible refine (new_g x _ hx').mono ?_); rintro en w3 ⟨g0, t0, rfl, hr0, q0, _, b3⟩; have hA3 := Kd.C_below hA b3)
    | (go_at_call 16; (with_reducible refine (fold_g x l (by omega) A cap _ hA3 hcap).mono ?_); rintro en w4 ⟨B, c, rfl, hT, b4⟩; have hr4 := hr0.below b4; have hA4 := Kd.C_below hA3 b4; have B4 := b3.trans (b4.mono b3.size)))
  clear d1 d1' d2 d2' hA hA3 hr0 b3 b4
  go_loopg [5, 9] l.length (fun gk r i wr => ∃ (n g : Nat) (t : Option Nd), i = .int .i64 n ∧ r = .pointer (some ⟨g, 0, none⟩) ∧ Kept (n + gk = l.length) ∧ Kept (Rope wr g t ∧ Good (tx x l n) t ∧ Below w4.heap.size w4 wr))
  case atStart => exact ⟨0, g0, t0, rfl, rfl, ⟨by omega⟩, ⟨hr4, q0, Below.refl _ _⟩⟩
  case round =>
    obtain ⟨n, g, t, rfl, rfl, hn, hK⟩ := hrel
    have hn' := hn.out
    obtain ⟨hr, q, hB⟩ := hK.out
    have hts := tx_size (l := l) hx' n
    by_cases hlt : n < l.length
    · have e1 : decide (n < l.length) = true := decide_eq_true hlt
      have e1' : decide ((n : Int) < (l.length : Int)) = true := decide_eq_true (by omega)
      have e2 : decide (l.length ≤ n) = false := decide_eq_false (by omega)
      have e2' : decide ((l.length : Int) ≤ (n : Int)) = false := decide_eq_false (by omega)
      have CA := Lib.hid (fun w' (hb : Below w4.heap.size w4 w') => ed_at (Kd.C_below hA4 hb) hlt)
      have CT := Lib.hid (fun w' (hb : Below w4.heap.size w4 w') => int_at (Kd.C_below hT hb) n hlt)
      obtain ⟨ad, hAd, k0, k1, k2⟩ := CA.out wr hB
      obtain ⟨at_, hBt, m0⟩ := CT.out wr hB
      subst hAd hBt
      rw [ers_get x l l.length n hlt] at m0
      have nz : n < 2097152 := by omega
      have her : er x l n = er1 (tx x l n) (ed l n) := rfl
      have hnx : tx x l (n + 1) = tx1 (tx x l n) (ed l n) := rfl
      have CB := Lib.hid (fun w' (hb : Below wr.heap.size wr w') => CA.out w' (hB.trans (hb.mono hB.size)))
      have CU := Lib.hid (fun w' (hb : Below wr.heap.size wr w') => CT.out w' (hB.trans (hb.mono hB.size)))
      clear CA CT hK hn
      rw [her] at m0
      generalize tx x l n = X at *
      generalize ed l n = u at *
      by_cases hbig : 3000 < u.f2.size
      · have e3 : decide (3000 < u.f2.size) = true := decide_eq_true hbig
        have e3' : decide ((3000 : Int) < (u.f2.size : Int)) = true := decide_eq_true (by omega)
        go_wp2_with (first
          | (go_at_call 13; (with_reducible refine (alive_yes _).mono ?_); rintro en w5 ⟨rfl, b5⟩))
        go_ret
        have B5 := B4.trans (hB.mono B4.size)
        exact ⟨rfl, B5.trans (b5.mono B5.size)⟩
      · have e3 : decide (3000 < u.f2.size) = false := decide_eq_false hbig
        have e3' : decide ((3000 : Int) < (u.f2.size : Int)) = false := decide_eq_false (by omega)
        by_cases hc : er1 X u = 0
        · have hsp := fun (w : World) (h : Rope w g t) => splice_g h q u.f0 u.f1 u.f2 (show chk X.size u.f0 u.f1 u.f2.size = 0 from hc)
          rw [← tx1_ok hc] at hsp
          have hun := fun w => undo_g X u.f0 u.f1 u.f2 w
          rw [back_ok hc] at hun
          have hsb := fun (w : World) (g : Nat) (t : Option Nd) (h : Rope w g t) (q : Good (tx1 X u) t) => splice_g h q u.f0 (u.f0 + u.f2.size) (X.extract u.f0.toNat u.f1.toNat) (back_chk hc)
          rw [back_app hc] at hsb
          rw [hc] at m0
          go_wp2_with (first
            | (go_at_call 17; (with_reducible refine (text_g hr q hts).mono ?_); rintro en w5 ⟨rfl, b5⟩; have hr5 := hr.below b5; obtain ⟨ad5, h5, k0, k1, k2⟩ := CB.out w5 b5; cases h5)
            | (go_at_call 18; (with_reducible refine (hsp _ hr5).mono ?_); rintro en w6 ⟨g6, t6, rfl, hr6, q6, _, b6⟩; have B6 := b5.trans (b6.mono b5.size); obtain ⟨ad6, h6, k0, k1, k2⟩ := CB.out w6 B6; cases h6; obtain ⟨at6, h7, m0⟩ := CU.out w6 B6; cases h7; rw [ers_get x l l.length n hlt, her, hc] at m0)
            | (go_at_call 19; (with_reducible refine (hun _).mono ?_); rintro en w7 ⟨rfl, b7⟩; have B7 := B6.trans (b7.mono B6.size); have z7 := size_al w7 (.cells #[.int .i64 u.f0, .int .i64 (u.f0 + u.f2.size), .string (X.extract u.f0.toNat u.f1.toNat)] 36); have hr7 := (hr6.below b7).alloc (.cells #[.int .i64 u.f0, .int .i64 (u.f0 + u.f2.size), .string (X.extract u.f0.toNat u.f1.toNat)] 36); have B8 := B7.alloc B7.size (.cells #[.int .i64 u.f0, .int .i64 (u.f0 + u.f2.size), .string (X.extract u.f0.toNat u.f1.toNat)] 36); have c0 := acell w7 #[.int .i64 u.f0, .int .i64 (u.f0 + u.f2.size), .string (X.extract u.f0.toNat u.f1.toNat)] 36 0; have c1 := acell w7 #[.int .i64 u.f0, .int .i64 (u.f0 + u.f2.size), .string (X.extract u.f0.toNat u.f1.toNat)] 36 1; have c2 := acell w7 #[.int .i64 u.f0, .int .i64 (u.f0 + u.f2.size), .string (X.extract u.f0.toNat u.f1.toNat)] 36 2)
            | (go_at_call 18; (with_reducible refine (hsb _ g6 t6 hr7 q6).mono ?_); rintro en w9 ⟨g9, t9, rfl, hr9, q9, _, b9⟩; have B9 := B8.trans (b9.mono B8.size); have hs9 := hr7.below b9)
            | (go_at_call 17; (with_reducible refine (text_g hr9 q9 hts).mono ?_); rintro en w10 ⟨rfl, b10⟩; have B10 := B9.trans (b10.mono B9.size); have hs10 := hs9.below b10))
          go_roundg (gk - 1)
          case measure => omega
          case rel =>
            exact ⟨n + 1, g6, t6, rfl, rfl, ⟨by omega⟩, ⟨hs10, by rw [hnx]; exact q6, hB.trans (B10.mono hB.size)⟩⟩
        · have hsp : ∀ (w : World), Rope w g t → Calls Try.prog 18 #[.pointer (some ⟨g, 0, none⟩), .agg #[.int .i64 u.f0, .int .i64 u.f1, .string u.f2]] w fun en w' => en = .returned (.tuple #[.pointer none, .int .i64 (er1 X u)]) ∧ Below w.heap.size w w' := fun w h => splice_bad_g h q u.f0 u.f1 u.f2 hc
          have hbne : (er1 X u != 0) = true := bne_iff_ne.2 hc
          rw [tx1_no hc] at hnx
          generalize er1 X u = C at *
          go_wp2_with (first
            | (go_at_call 17; (with_reducible refine (text_g hr q hts).mono ?_); rintro en w5 ⟨rfl, b5⟩; have hr5 := hr.below b5; obtain ⟨ad5, h5, k0, k1, k2⟩ := CB.out w5 b5; cases h5)
            | (go_at_call 18; (with_reducible refine (hsp _ hr5).mono ?_); rintro en w6 ⟨rfl, b6⟩; have B6 := b5.trans (b6.mono b5.size); have hr6 := hr5.below b6; obtain ⟨at6, h7, m0⟩ := CU.out w6 B6; cases h7; rw [ers_get x l l.length n hlt, her] at m0))
          go_roundg (gk - 1)
          case measure => omega
          case rel =>
            exact ⟨n + 1, g, t, rfl, rfl, ⟨by omega⟩, ⟨hr6, by rw [hnx]; exact q, hB.trans (B6.mono hB.size)⟩⟩
    · have en : n = l.length := by omega
      have e1 : decide (n < l.length) = false := decide_eq_false hlt
      have e1' : decide ((n : Int) < (l.length : Int)) = false := decide_eq_false (by omega)
      rw [en] at q hts
      clear hK hn hT hA4
      go_wp2_with (first
        | (go_at_call 17; (with_reducible refine (text_g hr q hts).mono ?_); rintro en w5 ⟨rfl, b5⟩)
        | (go_at_call 13; (with_reducible refine (alive_yes _).mono ?_); rintro en w6 ⟨rfl, b6⟩))
      go_ret
      have B5 := B4.trans ((hB.trans (b5.mono hB.size)).mono B4.size)
      exact ⟨rfl, B5.trans (b6.mono B5.size)⟩
/-- RopeGoes returns true, whatever it is asked. -/
theorem law_goes (x : ByteArray) (A : Option Addr) (cap : Nat) (l : List S36) (w : World) (hA : Kd.C k36 w A l.length l) (hcap : l.length ≤ cap) : Calls Try.prog 4 #[.string x, .slice A l.length cap] w (AllTrue w) := by
  by_cases h0 : 65536 < x.size
  · exact goes_long x A _ cap w h0
  · by_cases h1 : 3000 < x.size ∨ 40 < l.length
    · exact goes_big x A _ cap w (by omega) h1
    · exact goes_main x A l cap w (by omega) (by omega) hA hcap
end Go.Proofs.Ythjbkiomnipjiaa
