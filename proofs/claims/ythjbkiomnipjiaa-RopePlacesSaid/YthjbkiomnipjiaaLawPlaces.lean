/- The law RopePlaces, walked: it returns true, for every text, edit and place. -/
import Derived.Test.YthjbkiomnipjiaaRx3
set_option linter.unusedVariables false
set_option linter.unusedSimpArgs false
namespace Go.Proofs.Ythjbkiomnipjiaa
open Go Go.RowKit Pl
set_option maxRecDepth 100000 in
set_option maxHeartbeats 4000000 in
theorem places_long (x u : ByteArray) (s e k f t l c : Int) (w : World) (hx : 65536 < x.size) :
    Calls Try.prog 7 #[.string x, .agg #[.int .i64 s, .int .i64 e, .string u], .agg #[.int .i64 k, .int .i64 f, .int .i64 t, .int .i64 l, .int .i64 c]] w (AllTrue w) := by
  have hb1 := below_al w (.cells #[.int .i64 s, .int .i64 e, .string u] 36)
  generalize hW1 : w.alloc (.cells #[.int .i64 s, .int .i64 e, .string u] 36) = W1 at hb1
  have hb2 := hb1.trans ((below_al W1 (.cells #[.int .i64 k, .int .i64 f, .int .i64 t, .int .i64 l, .int .i64 c] 54)).mono hb1.size)
  have hn := new_long x (W1.alloc (.cells #[.int .i64 k, .int .i64 f, .int .i64 t, .int .i64 l, .int .i64 c] 54)) hx
  subst hW1
  go_enter Try.func7, Try.ntmps7
  go_wp2_with (first
    | (go_at_call 12; (with_reducible refine hn.mono ?_); rintro en w1 ⟨rfl, rfl⟩)
    | (go_at_call 13; (with_reducible refine (alive_yes _).mono ?_); rintro en w2 ⟨rfl, b2⟩))
  go_ret
  exact ⟨rfl, hb2.trans (b2.mono hb2.size)⟩
set_option maxRecDepth 100000 in
set_option maxHeartbeats 8000000 in
theorem places_short (x u : ByteArray) (s e k f t l c : Int) (w : World) (hx : x.size ≤ 65536) :
    Calls Try.prog 7 #[.string x, .agg #[.int .i64 s, .int .i64 e, .string u], .agg #[.int .i64 k, .int .i64 f, .int .i64 t, .int .i64 l, .int .i64 c]] w (AllTrue w) := by
  have hb1 := below_al w (.cells #[.int .i64 s, .int .i64 e, .string u] 36)
  have ca0 := acell w #[.int .i64 s, .int .i64 e, .string u] 36 0
  have ca1 := acell w #[.int .i64 s, .int .i64 e, .string u] 36 1
  have ca2 := acell w #[.int .i64 s, .int .i64 e, .string u] 36 2
  have sz1 := size_al w (.cells #[.int .i64 s, .int .i64 e, .string u] 36)
  generalize hW1 : w.alloc (.cells #[.int .i64 s, .int .i64 e, .string u] 36) = W1 at hb1 ca0 ca1 ca2 sz1
  have hb2 := hb1.trans ((below_al W1 (.cells #[.int .i64 k, .int .i64 f, .int .i64 t, .int .i64 l, .int .i64 c] 54)).mono hb1.size)
  have hb3 := below_al W1 (.cells #[.int .i64 k, .int .i64 f, .int .i64 t, .int .i64 l, .int .i64 c] 54)
  have cb0 := acell W1 #[.int .i64 k, .int .i64 f, .int .i64 t, .int .i64 l, .int .i64 c] 54 0
  have cb3 := acell W1 #[.int .i64 k, .int .i64 f, .int .i64 t, .int .i64 l, .int .i64 c] 54 3
  have cb4 := acell W1 #[.int .i64 k, .int .i64 f, .int .i64 t, .int .i64 l, .int .i64 c] 54 4
  have sz2 := size_al W1 (.cells #[.int .i64 k, .int .i64 f, .int .i64 t, .int .i64 l, .int .i64 c] 54)
  have lta : w.heap.size < W1.heap.size := by omega
  have da0 := (hb3.cell (p := ⟨w.heap.size, 0, none⟩) lta).trans ca0
  have da1 := (hb3.cell (p := ⟨w.heap.size, 1, none⟩) lta).trans ca1
  have da2 := (hb3.cell (p := ⟨w.heap.size, 2, none⟩) lta).trans ca2
  clear ca0 ca1 ca2 hb3 hb1
  have hn := new_g x (W1.alloc (.cells #[.int .i64 k, .int .i64 f, .int .i64 t, .int .i64 l, .int .i64 c] 54)) hx
  have hal := fun w => alive_yes w
  rw [sz1] at cb0 cb3 cb4
  rw [← hW1] at hn da0 da1 da2 cb0 cb3 cb4 sz1 sz2 hb2
  clear hW1 lta W1
  by_cases c1 : 3000 < x.size ∨ 3000 < u.size
  · by_cases c2 : 3000 < x.size
    · have d1 : decide (3000 < x.size) = true := decide_eq_true c2
      go_enter Try.func7, Try.ntmps7
      go_wp2_with (first
        | (go_at_call 12; (with_reducible refine hn.mono ?_); rintro en w1 ⟨g, t, rfl, hr, q, _, b1⟩)
        | (go_at_call 13; (with_reducible refine (hal _).mono ?_); rintro en w2 ⟨rfl, b2⟩))
      go_ret
      exact ⟨rfl, hb2.trans ((b1.trans (b2.mono b1.size)).mono hb2.size)⟩
    · have d1 : decide (3000 < x.size) = false := decide_eq_false c2
      have d2 : decide (3000 < u.size) = true := decide_eq_true (by omega)
      have lta : w.heap.size < ((w.alloc (.cells #[.int .i64 s, .int .i64 e, .string u] 36)).alloc (.cells #[.int .i64 k, .int .i64 f, .int .i64 t, .int .i64 l, .int .i64 c] 54)).heap.size := by omega
      go_enter Try.func7, Try.ntmps7
      go_wp2_with (first
        | (go_at_call 12; (with_reducible refine hn.mono ?_); rintro en w1 ⟨g, t, rfl, hr, q, _, b1⟩; have e2 := (b1.cell (p := ⟨w.heap.size, 2, none⟩) lta).trans da2)
        | (go_at_call 13; (with_reducible refine (hal _).mono ?_); rintro en w2 ⟨rfl, b2⟩))
      go_ret
      exact ⟨rfl, hb2.trans ((b1.trans (b2.mono b1.size)).mono hb2.size)⟩
  · have d1 : decide (3000 < x.size) = false := decide_eq_false (by omega)
    have d2 : decide (3000 < u.size) = false := decide_eq_false (by omega)
    have lta : w.heap.size < ((w.alloc (.cells #[.int .i64 s, .int .i64 e, .string u] 36)).alloc (.cells #[.int .i64 k, .int .i64 f, .int .i64 t, .int .i64 l, .int .i64 c] 54)).heap.size := by omega
    have ltb : w.heap.size + 1 < ((w.alloc (.cells #[.int .i64 s, .int .i64 e, .string u] 36)).alloc (.cells #[.int .i64 k, .int .i64 f, .int .i64 t, .int .i64 l, .int .i64 c] 54)).heap.size := by omega
    clear sz1 sz2
    by_cases hc : chk x.size s e u.size = 0
    · have hsp := fun (w : World) (g : Nat) (t : Option Nd) (h : Rope w g t) (q : Good x t) => splice_g h q s e u hc
      have hsz : (app x s e u).size ≤ 65536 := by
        obtain ⟨_, _, hs0, hse, hex, hm⟩ := chk_zero.1 hc
        have := size_app (t := u) hs0 hse hex
        omega
      generalize app x s e u = X at hsp hsz
      have hof := linesOf_g X k hsz
      have hat := linesAt_g X l c hsz
      have hct := linesCount_g X hsz
      have hra := fun (w : World) (g : Nat) (t : Option Nd) (h : Rope w g t) (q : Good X t) => at_g h q hsz l c
      have hro := fun (w : World) (g : Nat) (t : Option Nd) (h : Rope w g t) (q : Good X t) => of_g h q hsz k
      have hrl := fun (w : World) (g : Nat) (t : Option Nd) (h : Rope w g t) (q : Good X t) => lines_g h q hsz
      have hrt := fun (w : World) (g : Nat) (t : Option Nd) (h : Rope w g t) (q : Good X t) => text_g h q hsz
      generalize ofP X k = A at hof hro
      generalize atP X l c = E at hat hra
      generalize (Lib.countByte X.data.toList 10 : Int) + 1 = N at hct hrl
      obtain ⟨A1, A2, A3⟩ := A
      obtain ⟨E1, E2⟩ := E
      go_enter Try.func7, Try.ntmps7
      go_wp2_with (first
        | (go_at_call 12; (with_reducible refine hn.mono ?_); rintro en w1 ⟨g, t, rfl, hr, q, _, b1⟩; have e0 := (b1.cell (p := ⟨w.heap.size, 0, none⟩) lta).trans da0; have e1 := (b1.cell (p := ⟨w.heap.size, 1, none⟩) lta).trans da1; have e2 := (b1.cell (p := ⟨w.heap.size, 2, none⟩) lta).trans da2)
        | (go_at_call 18; (with_reducible refine (hsp _ g t hr q).mono ?_); rintro en w3 ⟨g3, t3, rfl, hr3, q3, _, b3⟩; have B3 := b1.trans (b3.mono b1.size); clear b1 b3)
        | (go_at_call 17; (with_reducible refine (hrt _ g3 t3 hr3 q3).mono ?_); rintro en w4 ⟨rfl, b4⟩; have B4 := B3.trans (b4.mono B3.size); have hr4 := hr3.below b4; have f0 := (B4.cell (p := ⟨_, 0, none⟩) ltb).trans cb0; clear B3 b4)
        | (go_at_call 23; (with_reducible refine (hro _ g3 t3 hr4 q3).mono ?_); rintro en w5 ⟨rfl, b5⟩; have B5 := B4.trans (b5.mono B4.size); have hr5 := hr4.below b5; clear B4 b5; have hr6 := hr5.alloc (.cells #[.int .i64 A1, .int .i64 A2] 52); have B6 := B5.alloc B5.size (.cells #[.int .i64 A1, .int .i64 A2] 52); have sz6 := size_al w5 (.cells #[.int .i64 A1, .int .i64 A2] 52); have p0 := acell w5 #[.int .i64 A1, .int .i64 A2] 52 0; have p1 := acell w5 #[.int .i64 A1, .int .i64 A2] 52 1; have f0 := (B6.cell (p := ⟨_, 0, none⟩) ltb).trans cb0; clear B5 hr5)
        | (go_at_call 24; go_loud ((with_reducible refine (hof _).mono ?_); rintro en w7 ⟨rfl, b7⟩; have B7 := B6.trans (b7.mono B6.size); have hr7 := (hr6.below b7).alloc (.cells #[.int .i64 A1, .int .i64 A2] 52); have sz8 := size_al w7 (.cells #[.int .i64 A1, .int .i64 A2] 52); have b8 := b7.alloc b7.size (.cells #[.int .i64 A1, .int .i64 A2] 52); have B8 := B7.alloc B7.size (.cells #[.int .i64 A1, .int .i64 A2] 52); have lt5 : w5.heap.size < (w7.alloc (.cells #[.int .i64 A1, .int .i64 A2] 52)).heap.size := (by have := b7.size; omega); have lt7 : w7.heap.size < (w7.alloc (.cells #[.int .i64 A1, .int .i64 A2] 52)).heap.size := (by omega); have lt6 : w5.heap.size < (w5.alloc (.cells #[.int .i64 A1, .int .i64 A2] 52)).heap.size := (by omega); have P0 := (b8.cell (p := ⟨w5.heap.size, 0, none⟩) lt6).trans p0; have P1 := (b8.cell (p := ⟨w5.heap.size, 1, none⟩) lt6).trans p1; have Q0 := acell w7 #[.int .i64 A1, .int .i64 A2] 52 0; have Q1 := acell w7 #[.int .i64 A1, .int .i64 A2] 52 1; have f3 := (B8.cell (p := ⟨_, 3, none⟩) ltb).trans cb3; have f4 := (B8.cell (p := ⟨_, 4, none⟩) ltb).trans cb4; clear b7 b8 B7 hr6 p0 p1 B6))
        | (go_at_call 25; (with_reducible refine (hra _ g3 t3 hr7 q3).mono ?_); rintro en w9 ⟨rfl, b9⟩; have B9 := B8.trans (b9.mono B8.size); have hr9 := hr7.below b9; have f3 := (B9.cell (p := ⟨_, 3, none⟩) ltb).trans cb3; have f4 := (B9.cell (p := ⟨_, 4, none⟩) ltb).trans cb4; clear B8)
        | (go_at_call 26; (with_reducible refine (hat _).mono ?_); rintro en w10 ⟨rfl, b10⟩; have B10 := B9.trans (b10.mono B9.size); have bb := b9.trans (b10.mono b9.size); have hr10 := hr9.below b10; clear B9 b9 b10)
        | (go_at_call 27; (with_reducible refine (hrl _ g3 t3 hr10 q3).mono ?_); rintro en w11 ⟨rfl, rfl⟩)
        | (go_at_call 28; (with_reducible refine (hct _).mono ?_); rintro en w12 ⟨rfl, b12⟩; have B12 := B10.trans (b12.mono B10.size); have bc := bb.trans (b12.mono bb.size); have R0 := (bc.cell (p := ⟨w5.heap.size, 0, none⟩) lt5).trans P0; have R1 := (bc.cell (p := ⟨w5.heap.size, 1, none⟩) lt5).trans P1; have S0 := (bc.cell (p := ⟨w7.heap.size, 0, none⟩) lt7).trans Q0; have S1 := (bc.cell (p := ⟨w7.heap.size, 1, none⟩) lt7).trans Q1)
        | (go_at_call 13; (with_reducible refine (hal _).mono ?_); rintro en w13 ⟨rfl, b13⟩))
      go_ret
      exact ⟨rfl, hb2.trans ((B12.trans (b13.mono B12.size)).mono hb2.size)⟩
    · have hcb : (chk x.size s e u.size != 0) = true := bne_iff_ne.2 hc
      have hsp := fun (w : World) (g : Nat) (t : Option Nd) (h : Rope w g t) (q : Good x t) => splice_bad_g h q s e u hc
      generalize chk x.size s e u.size = C at hsp hcb hc
      go_enter Try.func7, Try.ntmps7
      go_wp2_with (first
        | (go_at_call 12; (with_reducible refine hn.mono ?_); rintro en w1 ⟨g, t, rfl, hr, q, _, b1⟩; have e0 := (b1.cell (p := ⟨w.heap.size, 0, none⟩) lta).trans da0; have e1 := (b1.cell (p := ⟨w.heap.size, 1, none⟩) lta).trans da1; have e2 := (b1.cell (p := ⟨w.heap.size, 2, none⟩) lta).trans da2)
        | (go_at_call 18; (with_reducible refine (hsp _ g t hr q).mono ?_); rintro en w3 ⟨rfl, b3⟩)
        | (go_at_call 13; (with_reducible refine (hal _).mono ?_); rintro en w2 ⟨rfl, b2⟩))
      go_ret
      have B := b1.trans (b3.mono b1.size)
      exact ⟨rfl, hb2.trans ((B.trans (b2.mono B.size)).mono hb2.size)⟩
end Go.Proofs.Ythjbkiomnipjiaa
namespace Go.Proofs.Ythjbkiomnipjiaa
/-- RopePlaces returns true, whatever it is asked. -/
theorem law_places (x : ByteArray) (s e : Int) (u : ByteArray) (k f t l c : Int) (w : World) :
    Calls Try.prog 7 #[.string x, .agg #[.int .i64 s, .int .i64 e, .string u], .agg #[.int .i64 k, .int .i64 f, .int .i64 t, .int .i64 l, .int .i64 c]] w (AllTrue w) := by
  by_cases h : 65536 < x.size
  · exact places_long x u s e k f t l c w h
  · exact places_short x u s e k f t l c w (by omega)
end Go.Proofs.Ythjbkiomnipjiaa
