/- The law RopeNil, walked: it returns true, for every look and edit. -/
import Derived.Test.YthjbkiomnipjiaaRopeW
set_option linter.unusedVariables false
set_option linter.unusedSimpArgs false
namespace Go.Proofs.Ythjbkiomnipjiaa
open Go Go.RowKit Pl
open Go.Proofs.YthjbkiomnipjiaaW.PrintWords (Drawn0 Kd)
theorem same_nil (cap : Nat) (w : World) : Calls Try.prog 38 #[.slice none 0 0, .slice none 0 0] w fun e w' => e = .returned (.bool true) ∧ Drawn0 w w' := by
  refine PAux.rootstocklaw01_SameTexts.calls 1 none 0 [] none 0 [] true w (Kd.C_nil _ _) (Nat.le_refl _) (Kd.C_nil _ _) (Nat.le_refl _) ?_
  unfold PAux.rootstocklaw01_SameTexts.f
  rw [if_pos rfl]
  unfold PAux.rootstocklaw01_SameTexts.l0
  rw [if_neg (by decide)]
set_option maxRecDepth 100000 in
set_option maxHeartbeats 16000000 in
/-- RopeNil returns true, whatever it is asked. -/
theorem law_nil (k f t l c s e : Int) (u : ByteArray) (w : World) : Calls Try.prog 11 #[.agg #[.int .i64 k, .int .i64 f, .int .i64 t, .int .i64 l, .int .i64 c], .agg #[.int .i64 s, .int .i64 e, .string u]] w (AllTrue w) := by
  have b1 := below_al w (.cells #[.int .i64 k, .int .i64 f, .int .i64 t, .int .i64 l, .int .i64 c] 54)
  have z1 := size_al w (.cells #[.int .i64 k, .int .i64 f, .int .i64 t, .int .i64 l, .int .i64 c] 54)
  have b2 := b1.trans ((below_al (w.alloc (.cells #[.int .i64 k, .int .i64 f, .int .i64 t, .int .i64 l, .int .i64 c] 54)) (.cells #[.int .i64 s, .int .i64 e, .string u] 36)).mono b1.size)
  have z2 := size_al (w.alloc (.cells #[.int .i64 k, .int .i64 f, .int .i64 t, .int .i64 l, .int .i64 c] 54)) (.cells #[.int .i64 s, .int .i64 e, .string u] 36)
  have A0 := ((below_al (w.alloc (.cells #[.int .i64 k, .int .i64 f, .int .i64 t, .int .i64 l, .int .i64 c] 54)) (.cells #[.int .i64 s, .int .i64 e, .string u] 36)).cell (p := ⟨w.heap.size, 0, none⟩) (show w.heap.size < _ by omega)).trans (acell w #[.int .i64 k, .int .i64 f, .int .i64 t, .int .i64 l, .int .i64 c] 54 0)
  have A1 := ((below_al (w.alloc (.cells #[.int .i64 k, .int .i64 f, .int .i64 t, .int .i64 l, .int .i64 c] 54)) (.cells #[.int .i64 s, .int .i64 e, .string u] 36)).cell (p := ⟨w.heap.size, 1, none⟩) (show w.heap.size < _ by omega)).trans (acell w #[.int .i64 k, .int .i64 f, .int .i64 t, .int .i64 l, .int .i64 c] 54 1)
  have A2 := ((below_al (w.alloc (.cells #[.int .i64 k, .int .i64 f, .int .i64 t, .int .i64 l, .int .i64 c] 54)) (.cells #[.int .i64 s, .int .i64 e, .string u] 36)).cell (p := ⟨w.heap.size, 2, none⟩) (show w.heap.size < _ by omega)).trans (acell w #[.int .i64 k, .int .i64 f, .int .i64 t, .int .i64 l, .int .i64 c] 54 2)
  have A3 := ((below_al (w.alloc (.cells #[.int .i64 k, .int .i64 f, .int .i64 t, .int .i64 l, .int .i64 c] 54)) (.cells #[.int .i64 s, .int .i64 e, .string u] 36)).cell (p := ⟨w.heap.size, 3, none⟩) (show w.heap.size < _ by omega)).trans (acell w #[.int .i64 k, .int .i64 f, .int .i64 t, .int .i64 l, .int .i64 c] 54 3)
  have A4 := ((below_al (w.alloc (.cells #[.int .i64 k, .int .i64 f, .int .i64 t, .int .i64 l, .int .i64 c] 54)) (.cells #[.int .i64 s, .int .i64 e, .string u] 36)).cell (p := ⟨w.heap.size, 4, none⟩) (show w.heap.size < _ by omega)).trans (acell w #[.int .i64 k, .int .i64 f, .int .i64 t, .int .i64 l, .int .i64 c] 54 4)
  have E0 := acell (w.alloc (.cells #[.int .i64 k, .int .i64 f, .int .i64 t, .int .i64 l, .int .i64 c] 54)) #[.int .i64 s, .int .i64 e, .string u] 36 0
  have E1 := acell (w.alloc (.cells #[.int .i64 k, .int .i64 f, .int .i64 t, .int .i64 l, .int .i64 c] 54)) #[.int .i64 s, .int .i64 e, .string u] 36 1
  have E2 := acell (w.alloc (.cells #[.int .i64 k, .int .i64 f, .int .i64 t, .int .i64 l, .int .i64 c] 54)) #[.int .i64 s, .int .i64 e, .string u] 36 2
  have la : w.heap.size < ((w.alloc (.cells #[.int .i64 k, .int .i64 f, .int .i64 t, .int .i64 l, .int .i64 c] 54)).alloc (.cells #[.int .i64 s, .int .i64 e, .string u] 36)).heap.size := by omega
  have lb : w.heap.size + 1 < ((w.alloc (.cells #[.int .i64 k, .int .i64 f, .int .i64 t, .int .i64 l, .int .i64 c] 54)).alloc (.cells #[.int .i64 s, .int .i64 e, .string u] 36)).heap.size := by omega
  rw [z1] at E0 E1 E2
  clear b1 z1 z2
  go_enter Try.func11, Try.ntmps11
  go_wp2
  generalize ((w.alloc (.cells #[.int .i64 k, .int .i64 f, .int .i64 t, .int .i64 l, .int .i64 c] 54)).alloc (.cells #[.int .i64 s, .int .i64 e, .string u] 36)) = W2 at *
  go_loopg [5] 2 (fun gk i wr => ∃ n : Nat, i = .int .i64 n ∧ Kept (n + gk = 2) ∧ Kept (Below W2.heap.size W2 wr))
  case atStart => exact ⟨0, rfl, ⟨rfl⟩, ⟨Below.refl _ _⟩⟩
  case round =>
    obtain ⟨n, rfl, hn, hB⟩ := hrel
    have hn' := hn.out
    have B0 := hB.out
    have hc : n = 0 ∨ n = 1 ∨ n = 2 := by omega
    rcases hc with rfl | rfl | rfl
    · have hD := dead_nil wr
      have a0 := ((B0.cell (p := ⟨w.heap.size, 0, none⟩) la).trans A0)
      have a1 := ((B0.cell (p := ⟨w.heap.size, 1, none⟩) la).trans A1)
      have a2 := ((B0.cell (p := ⟨w.heap.size, 2, none⟩) la).trans A2)
      have a3 := ((B0.cell (p := ⟨w.heap.size, 3, none⟩) la).trans A3)
      have a4 := ((B0.cell (p := ⟨w.heap.size, 4, none⟩) la).trans A4)
      go_wp2_with (first
        | (go_at_call 22; (with_reducible refine (byte_no hD k).mono ?_); rintro en w1 ⟨rfl, rfl⟩)
        | (go_at_call 21; (with_reducible refine (slice_no hD f t).mono ?_); rintro en w2 ⟨rfl, b2⟩; have hD2 := hD.below b2; have B2 := B0.trans (b2.mono B0.size); have c0 := ((B2.cell (p := ⟨w.heap.size + 1, 0, none⟩) lb).trans E0); have c1 := ((B2.cell (p := ⟨w.heap.size + 1, 1, none⟩) lb).trans E1); have c2 := ((B2.cell (p := ⟨w.heap.size + 1, 2, none⟩) lb).trans E2))
        | (go_at_call 18; (with_reducible refine (splice_no hD2 s e u).mono ?_); rintro en w3 ⟨rfl, b3⟩; have hD3 := hD2.below b3; have B3 := B2.trans (b3.mono B2.size); have a0 := ((B3.cell (p := ⟨w.heap.size, 0, none⟩) la).trans A0); have a1 := ((B3.cell (p := ⟨w.heap.size, 1, none⟩) la).trans A1); have a2 := ((B3.cell (p := ⟨w.heap.size, 2, none⟩) la).trans A2); have a3 := ((B3.cell (p := ⟨w.heap.size, 3, none⟩) la).trans A3); have a4 := ((B3.cell (p := ⟨w.heap.size, 4, none⟩) la).trans A4); )
        | (go_at_call 23; (with_reducible refine (of_no hD3 k).mono ?_); rintro en w4 ⟨rfl, b4⟩; have hD5 := (hD3.below b4).below (below_al w4 (.cells #[.int .i64 0, .int .i64 0] 52)); have B4 := B3.trans (b4.mono B3.size); have B5 := B4.alloc B4.size (.cells #[.int .i64 0, .int .i64 0] 52); have z5 := size_al w4 (.cells #[.int .i64 0, .int .i64 0] 52); have l5 : w4.heap.size < (w4.alloc (.cells #[.int .i64 0, .int .i64 0] 52)).heap.size := (by omega); have v0 := acell w4 #[.int .i64 0, .int .i64 0] 52 0; have v1 := acell w4 #[.int .i64 0, .int .i64 0] 52 1; have a0 := ((B5.cell (p := ⟨w.heap.size, 0, none⟩) la).trans A0); have a1 := ((B5.cell (p := ⟨w.heap.size, 1, none⟩) la).trans A1); have a2 := ((B5.cell (p := ⟨w.heap.size, 2, none⟩) la).trans A2); have a3 := ((B5.cell (p := ⟨w.heap.size, 3, none⟩) la).trans A3); have a4 := ((B5.cell (p := ⟨w.heap.size, 4, none⟩) la).trans A4); )
        | (go_at_call 25; (with_reducible refine (rat_no hD5 l c).mono ?_); rintro en w6 ⟨rfl, b6⟩; have hD6 := hD5.below b6; have B6 := B5.trans (b6.mono B5.size); have v0 := (b6.cell (p := ⟨w4.heap.size, 0, none⟩) l5).trans v0; have v1 := (b6.cell (p := ⟨w4.heap.size, 1, none⟩) l5).trans v1)
        | (go_at_call 29; (with_reducible refine (len_no hD6).mono ?_); rintro en w7 ⟨rfl, rfl⟩)
        | (go_at_call 17; (with_reducible refine (text_no hD6).mono ?_); rintro en w8 ⟨rfl, b8⟩; have hD8 := hD6.below b8; have B8 := B6.trans (b8.mono B6.size))
        | (go_at_call 37; (with_reducible refine (height_no hD8).mono ?_); rintro en w9 ⟨rfl, rfl⟩)
        | (go_at_call 15; (with_reducible refine (leaves_no hD8).mono ?_); rintro en w10 ⟨rfl, b10⟩; have hD10 := hD8.below b10; have B10 := B8.trans (b10.mono B8.size))
        | (go_at_call 38; (with_reducible refine (same_nil 0 _).mono ?_); rintro en w11 ⟨rfl, dr⟩; have b11 : Below w10.heap.size w10 w11 := (by obtain ⟨n, hn⟩ := dr.out; rw [hn]; exact below_drewN (Below.refl _ _) n); have hD11 := hD10.below b11; have B11 := B10.trans (b11.mono B10.size); clear dr)
        | (go_at_call 27; (with_reducible refine (lines_no hD11).mono ?_); rintro en w12 ⟨rfl, rfl⟩)
        | (go_at_call 20; (with_reducible refine (shared_no hD11).mono ?_); rintro en w13 ⟨rfl, b13⟩; have B13 := B11.trans (b13.mono B11.size)))
      go_roundg (gk - 1)
      case measure => omega
      case rel => exact ⟨1, rfl, ⟨by omega⟩, ⟨B13⟩⟩
    · have hD := dead_zero (wr.alloc (.cells #[.bool false, .pointer none] 73)) wr.heap.size (alloc_here wr _)
      have B0 := B0.alloc B0.size (.cells #[.bool false, .pointer none] 73)
      have a0 := ((B0.cell (p := ⟨w.heap.size, 0, none⟩) la).trans A0)
      have a1 := ((B0.cell (p := ⟨w.heap.size, 1, none⟩) la).trans A1)
      have a2 := ((B0.cell (p := ⟨w.heap.size, 2, none⟩) la).trans A2)
      have a3 := ((B0.cell (p := ⟨w.heap.size, 3, none⟩) la).trans A3)
      have a4 := ((B0.cell (p := ⟨w.heap.size, 4, none⟩) la).trans A4)
      go_wp2_with (first
        | (go_at_call 22; (with_reducible refine (byte_no hD k).mono ?_); rintro en w1 ⟨rfl, rfl⟩)
        | (go_at_call 21; (with_reducible refine (slice_no hD f t).mono ?_); rintro en w2 ⟨rfl, b2⟩; have hD2 := hD.below b2; have B2 := B0.trans (b2.mono B0.size); have c0 := ((B2.cell (p := ⟨w.heap.size + 1, 0, none⟩) lb).trans E0); have c1 := ((B2.cell (p := ⟨w.heap.size + 1, 1, none⟩) lb).trans E1); have c2 := ((B2.cell (p := ⟨w.heap.size + 1, 2, none⟩) lb).trans E2))
        | (go_at_call 18; (with_reducible refine (splice_no hD2 s e u).mono ?_); rintro en w3 ⟨rfl, b3⟩; have hD3 := hD2.below b3; have B3 := B2.trans (b3.mono B2.size); have a0 := ((B3.cell (p := ⟨w.heap.size, 0, none⟩) la).trans A0); have a1 := ((B3.cell (p := ⟨w.heap.size, 1, none⟩) la).trans A1); have a2 := ((B3.cell (p := ⟨w.heap.size, 2, none⟩) la).trans A2); have a3 := ((B3.cell (p := ⟨w.heap.size, 3, none⟩) la).trans A3); have a4 := ((B3.cell (p := ⟨w.heap.size, 4, none⟩) la).trans A4); )
        | (go_at_call 23; (with_reducible refine (of_no hD3 k).mono ?_); rintro en w4 ⟨rfl, b4⟩; have hD5 := (hD3.below b4).below (below_al w4 (.cells #[.int .i64 0, .int .i64 0] 52)); have B4 := B3.trans (b4.mono B3.size); have B5 := B4.alloc B4.size (.cells #[.int .i64 0, .int .i64 0] 52); have z5 := size_al w4 (.cells #[.int .i64 0, .int .i64 0] 52); have l5 : w4.heap.size < (w4.alloc (.cells #[.int .i64 0, .int .i64 0] 52)).heap.size := (by omega); have v0 := acell w4 #[.int .i64 0, .int .i64 0] 52 0; have v1 := acell w4 #[.int .i64 0, .int .i64 0] 52 1; have a0 := ((B5.cell (p := ⟨w.heap.size, 0, none⟩) la).trans A0); have a1 := ((B5.cell (p := ⟨w.heap.size, 1, none⟩) la).trans A1); have a2 := ((B5.cell (p := ⟨w.heap.size, 2, none⟩) la).trans A2); have a3 := ((B5.cell (p := ⟨w.heap.size, 3, none⟩) la).trans A3); have a4 := ((B5.cell (p := ⟨w.heap.size, 4, none⟩) la).trans A4); )
        | (go_at_call 25; (with_reducible refine (rat_no hD5 l c).mono ?_); rintro en w6 ⟨rfl, b6⟩; have hD6 := hD5.below b6; have B6 := B5.trans (b6.mono B5.size); have v0 := (b6.cell (p := ⟨w4.heap.size, 0, none⟩) l5).trans v0; have v1 := (b6.cell (p := ⟨w4.heap.size, 1, none⟩) l5).trans v1)
        | (go_at_call 29; (with_reducible refine (len_no hD6).mono ?_); rintro en w7 ⟨rfl, rfl⟩)
        | (go_at_call 17; (with_reducible refine (text_no hD6).mono ?_); rintro en w8 ⟨rfl, b8⟩; have hD8 := hD6.below b8; have B8 := B6.trans (b8.mono B6.size))
        | (go_at_call 37; (with_reducible refine (height_no hD8).mono ?_); rintro en w9 ⟨rfl, rfl⟩)
        | (go_at_call 15; (with_reducible refine (leaves_no hD8).mono ?_); rintro en w10 ⟨rfl, b10⟩; have hD10 := hD8.below b10; have B10 := B8.trans (b10.mono B8.size))
        | (go_at_call 38; (with_reducible refine (same_nil 0 _).mono ?_); rintro en w11 ⟨rfl, dr⟩; have b11 : Below w10.heap.size w10 w11 := (by obtain ⟨n, hn⟩ := dr.out; rw [hn]; exact below_drewN (Below.refl _ _) n); have hD11 := hD10.below b11; have B11 := B10.trans (b11.mono B10.size); clear dr)
        | (go_at_call 27; (with_reducible refine (lines_no hD11).mono ?_); rintro en w12 ⟨rfl, rfl⟩)
        | (go_at_call 20; (with_reducible refine (shared_no hD11).mono ?_); rintro en w13 ⟨rfl, b13⟩; have B13 := B11.trans (b13.mono B11.size)))
      go_roundg (gk - 1)
      case measure => omega
      case rel => exact ⟨2, rfl, ⟨by omega⟩, ⟨B13⟩⟩
    · go_wp2_with (first
        | (go_at_call 13; (with_reducible refine (alive_yes _).mono ?_); rintro en w15 ⟨rfl, b15⟩))
      go_ret
      exact ⟨rfl, b2.trans ((B0.trans (b15.mono B0.size)).mono b2.size)⟩
end Go.Proofs.Ythjbkiomnipjiaa
