/- The laws' asked, walked: what a rope says of some places is what the document says. -/
import Derived.Test.YthjbkiomnipjiaaRopeU
set_option linter.unusedVariables false
set_option linter.unusedSimpArgs false
namespace Go.Proofs.Ythjbkiomnipjiaa
open Go Go.RowKit Pl
set_option maxRecDepth 100000 in
set_option maxHeartbeats 8000000 in
theorem asked_yes {x : ByteArray} {t : Option Nd} {g : Nat} (w : World) (h : Rope w g t) (q : Good x t) (hx : x.size ≤ 65536) (k : Int) : Calls Try.prog 31 #[.pointer (some ⟨g, 0, none⟩), .string x, .int .i64 k] w (AllTrue w) := by
  have rOf := of_g h q hx k
  have fOf := fun w => refOf_g x k hx w
  have fBy := fun w => refByte_g x k w
  have fLn := fun w => refCount_g x hx w
  have rBy := fun w (h : Rope w g t) => byte_g h q hx k
  have rLn := fun w (h : Rope w g t) => lines_g h q hx
  generalize (Lib.countByte x.data.toList 10 : Int) + 1 = N at rLn fLn
  generalize byP x k = By at rBy fBy
  generalize ofP x k = A at rOf fOf
  obtain ⟨A1, A2, A3⟩ := A
  obtain ⟨By1, By2⟩ := By
  have rAt := fun w (h : Rope w g t) => at_g h q hx A1 A2
  have fAt := fun w => refAt_g x A1 A2 hx w
  generalize atP x A1 A2 = E at rAt fAt
  obtain ⟨E1, E2⟩ := E
  go_enter Try.func31, Try.ntmps31
  go_wp2_with (first
    | (go_at_call 23; (with_reducible refine rOf.mono ?_); rintro en w10 ⟨rfl, b10⟩; have hr11 := (h.below b10).alloc (.cells #[.int .i64 A1, .int .i64 A2] 52); have B11 := b10.alloc b10.size (.cells #[.int .i64 A1, .int .i64 A2] 52); have z11 := size_al w10 (.cells #[.int .i64 A1, .int .i64 A2] 52); have p0 := acell w10 #[.int .i64 A1, .int .i64 A2] 52 0; have p1 := acell w10 #[.int .i64 A1, .int .i64 A2] 52 1; have lt10 : w10.heap.size < (w10.alloc (.cells #[.int .i64 A1, .int .i64 A2] 52)).heap.size := (by omega))
    | (go_at_call 35; (with_reducible refine (fOf _).mono ?_); rintro en w12 ⟨rfl, b12⟩; have B12 := B11.trans (b12.mono B11.size); have hr13 := (hr11.below b12).alloc (.cells #[.int .i64 A1, .int .i64 A2] 52); have B13 := B12.alloc B12.size (.cells #[.int .i64 A1, .int .i64 A2] 52); have bp := b12.alloc b12.size (.cells #[.int .i64 A1, .int .i64 A2] 52); have z13 := size_al w12 (.cells #[.int .i64 A1, .int .i64 A2] 52); have lt12 : w12.heap.size < (w12.alloc (.cells #[.int .i64 A1, .int .i64 A2] 52)).heap.size := (by omega); have lt10' : w10.heap.size < (w12.alloc (.cells #[.int .i64 A1, .int .i64 A2] 52)).heap.size := (by have := b12.size; omega); have P0 := (bp.cell (p := ⟨w10.heap.size, 0, none⟩) lt10).trans p0; have P1 := (bp.cell (p := ⟨w10.heap.size, 1, none⟩) lt10).trans p1; have Q0 := acell w12 #[.int .i64 A1, .int .i64 A2] 52 0; have Q1 := acell w12 #[.int .i64 A1, .int .i64 A2] 52 1; clear B11 B12 b12 bp p0 p1 hr11)
    | (go_at_call 25; (with_reducible refine (rAt _ hr13).mono ?_); rintro en w14 ⟨rfl, b14⟩; have B14 := B13.trans (b14.mono B13.size); have hr14 := hr13.below b14; have S0 := (b14.cell (p := ⟨w12.heap.size, 0, none⟩) lt12).trans Q0; have S1 := (b14.cell (p := ⟨w12.heap.size, 1, none⟩) lt12).trans Q1; clear B13)
    | (go_at_call 36; (with_reducible refine (fAt _).mono ?_); rintro en w15 ⟨rfl, b15⟩; have B15 := B14.trans (b15.mono B14.size); have hr15 := hr14.below b15; have bc := b14.trans (b15.mono b14.size); clear B14)
    | (go_at_call 22; (with_reducible refine (rBy _ hr15).mono ?_); rintro en w16 ⟨rfl, rfl⟩)
    | (go_at_call 32; (with_reducible refine (fBy _).mono ?_); rintro en w17 ⟨rfl, dr⟩; obtain ⟨n5, e5⟩ := dr.out; have b17 : Below w16.heap.size w16 w17 := (by rw [e5]; exact below_drewN (Below.refl _ _) n5); have B17 := B15.trans (b17.mono B15.size); have hr17 := hr15.below b17; have bd := bc.trans (b17.mono bc.size); have R0 := (bd.cell (p := ⟨w10.heap.size, 0, none⟩) lt10').trans P0; have R1 := (bd.cell (p := ⟨w10.heap.size, 1, none⟩) lt10').trans P1; have S0 := (bd.cell (p := ⟨w12.heap.size, 0, none⟩) lt12).trans Q0; have S1 := (bd.cell (p := ⟨w12.heap.size, 1, none⟩) lt12).trans Q1; clear e5 dr)
    | (go_at_call 27; (with_reducible refine (rLn _ hr17).mono ?_); rintro en w18 ⟨rfl, rfl⟩)
    | (go_at_call 34; (with_reducible refine (fLn _).mono ?_); rintro en w19 ⟨rfl, b19⟩; have B19 := B17.trans (b19.mono B17.size)))
  go_ret
  exact ⟨rfl, B19⟩
end Go.Proofs.Ythjbkiomnipjiaa
