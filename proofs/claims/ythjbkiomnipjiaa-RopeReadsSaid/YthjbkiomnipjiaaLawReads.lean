/- The law RopeReads, walked: it returns true, for every text and look. -/
import Derived.Test.YthjbkiomnipjiaaRx3
set_option linter.unusedVariables false
set_option linter.unusedSimpArgs false
namespace Go.Proofs.Ythjbkiomnipjiaa
open Go Go.RowKit Pl
theorem two_new (w : World) (A S P : Array Value) (ta ts tp : TypeId) : Below w.heap.size w (((w.alloc (.cells A ta)).alloc (.cells S ts)).alloc (.cells P tp)).drew ∧ (((w.alloc (.cells A ta)).alloc (.cells S ts)).alloc (.cells P tp)).drew.heap.size = w.heap.size + 1 + 1 + 1 ∧
    (∀ i, (((w.alloc (.cells A ta)).alloc (.cells S ts)).alloc (.cells P tp)).drew.cell? ⟨w.heap.size + 1, i, none⟩ = S[i]?) ∧ (∀ i, (((w.alloc (.cells A ta)).alloc (.cells S ts)).alloc (.cells P tp)).drew.cell? ⟨w.heap.size + 1 + 1, i, none⟩ = P[i]?) := by
  have s1 := size_al w (.cells A ta)
  have s2 := size_al (w.alloc (.cells A ta)) (.cells S ts)
  have s3 := size_al ((w.alloc (.cells A ta)).alloc (.cells S ts)) (.cells P tp)
  have b1 := below_al w (.cells A ta)
  have b2 := b1.alloc b1.size (.cells S ts)
  have b3 := b2.alloc b2.size (.cells P tp)
  refine ⟨b3.drew, ?_, ?_, ?_⟩
  · show (((w.alloc (.cells A ta)).alloc (.cells S ts)).alloc (.cells P tp)).heap.size = _
    rw [s3, s2, s1]
  · intro i
    show (((w.alloc (.cells A ta)).alloc (.cells S ts)).alloc (.cells P tp)).cell? ⟨w.heap.size + 1, i, none⟩ = _
    rw [(below_al ((w.alloc (.cells A ta)).alloc (.cells S ts)) (.cells P tp)).cell (p := ⟨w.heap.size + 1, i, none⟩) (by show w.heap.size + 1 < _; omega), ← s1]
    exact acell (w.alloc (.cells A ta)) S ts i
  · intro i
    show (((w.alloc (.cells A ta)).alloc (.cells S ts)).alloc (.cells P tp)).cell? ⟨w.heap.size + 1 + 1, i, none⟩ = _
    have := acell ((w.alloc (.cells A ta)).alloc (.cells S ts)) P tp i
    rw [s2, s1] at this
    exact this
set_option maxRecDepth 100000 in
set_option maxHeartbeats 8000000 in
theorem reads_long (x : ByteArray) (k f t l c : Int) (w : World) (hx : 65536 < x.size) : Calls Try.prog 10 #[.string x, .agg #[.int .i64 k, .int .i64 f, .int .i64 t, .int .i64 l, .int .i64 c]] w (AllTrue w) := by
  have l0 := acell w #[.int .i64 k, .int .i64 f, .int .i64 t, .int .i64 l, .int .i64 c] 54 0
  have l1 := acell w #[.int .i64 k, .int .i64 f, .int .i64 t, .int .i64 l, .int .i64 c] 54 1
  have l2 := acell w #[.int .i64 k, .int .i64 f, .int .i64 t, .int .i64 l, .int .i64 c] 54 2
  have l3 := acell w #[.int .i64 k, .int .i64 f, .int .i64 t, .int .i64 l, .int .i64 c] 54 3
  have l4 := acell w #[.int .i64 k, .int .i64 f, .int .i64 t, .int .i64 l, .int .i64 c] 54 4
  go_enter Try.func10, Try.ntmps10
  go_wp2
  go_region
  · obtain ⟨b2, z2, q1, q2⟩ := two_new w #[.int .i64 k, .int .i64 f, .int .i64 t, .int .i64 l, .int .i64 c] #[.int .i64 f, .int .i64 t] #[.int .i64 l, .int .i64 c] 54 45 52
    generalize (((w.alloc (.cells #[.int .i64 k, .int .i64 f, .int .i64 t, .int .i64 l, .int .i64 c] 54)).alloc (.cells #[.int .i64 f, .int .i64 t] 45)).alloc (.cells #[.int .i64 l, .int .i64 c] 52)).drew = w2 at b2 z2 q1 q2 ⊢
    clear l0 l1 l2 l3 l4
    have sp := q1
    have pp := q2
    have lsp : w.heap.size + 1 < w2.heap.size := by omega
    have lpp : w.heap.size + 1 + 1 < w2.heap.size := by omega
    clear q1 q2
    go_wp2_with (first
      | (go_at_call 12; (with_reducible refine (new_long x _ hx).mono ?_); rintro en w1 ⟨rfl, rfl⟩)
      | (go_at_call 13; (with_reducible refine (alive_yes _).mono ?_); rintro en w4 ⟨rfl, b4⟩))
    go_ret
    exact ⟨rfl, b2.trans (b4.mono b2.size)⟩
  · obtain ⟨b2, z2, q1, q2⟩ := two_new w #[.int .i64 k, .int .i64 f, .int .i64 t, .int .i64 l, .int .i64 c] #[.int .i64 l, .int .i64 c] #[.int .i64 f, .int .i64 t] 54 52 45
    generalize (((w.alloc (.cells #[.int .i64 k, .int .i64 f, .int .i64 t, .int .i64 l, .int .i64 c] 54)).alloc (.cells #[.int .i64 l, .int .i64 c] 52)).alloc (.cells #[.int .i64 f, .int .i64 t] 45)).drew = w2 at b2 z2 q1 q2 ⊢
    clear l0 l1 l2 l3 l4
    have sp := q2
    have pp := q1
    have lsp : w.heap.size + 1 + 1 < w2.heap.size := by omega
    have lpp : w.heap.size + 1 < w2.heap.size := by omega
    clear q1 q2
    go_wp2_with (first
      | (go_at_call 12; (with_reducible refine (new_long x _ hx).mono ?_); rintro en w1 ⟨rfl, rfl⟩)
      | (go_at_call 13; (with_reducible refine (alive_yes _).mono ?_); rintro en w4 ⟨rfl, b4⟩))
    go_ret
    exact ⟨rfl, b2.trans (b4.mono b2.size)⟩

set_option maxRecDepth 100000 in
set_option maxHeartbeats 8000000 in
theorem reads_ok (x : ByteArray) (k f t l c : Int) (w : World) (hx : x.size ≤ 65536) : Calls Try.prog 10 #[.string x, .agg #[.int .i64 k, .int .i64 f, .int .i64 t, .int .i64 l, .int .i64 c]] w (AllTrue w) := by
  have rSl := fun w g r (h : Rope w g r) (q : Good x r) => slice_g h q hx f t
  have fSl := fun w => refSlice_g x f t w
  have rBy := fun w => refByte_g x k w
  have rLn := fun w g r (h : Rope w g r) (q : Good x r) => lines_g h q hx
  have fLn := fun w => refCount_g x hx w
  have rOf := fun w g r (h : Rope w g r) (q : Good x r) => of_g h q hx k
  have fOf := fun w => refOf_g x k hx w
  have rAt := fun w g r (h : Rope w g r) (q : Good x r) => at_g h q hx l c
  have fAt := fun w => refAt_g x l c hx w
  obtain ⟨B, hB⟩ : ∃ B, byP x k = B := ⟨_, rfl⟩
  rw [hB] at rBy
  generalize slP x f t = S at rSl fSl
  generalize ofP x k = A at rOf fOf
  generalize atP x l c = E at rAt fAt
  generalize (Lib.countByte x.data.toList 10 : Int) + 1 = N at rLn fLn
  obtain ⟨A1, A2, A3⟩ := A
  obtain ⟨E1, E2⟩ := E
  obtain ⟨S1, S2⟩ := S
  obtain ⟨By1, By2⟩ := B
  have l0 := acell w #[.int .i64 k, .int .i64 f, .int .i64 t, .int .i64 l, .int .i64 c] 54 0
  have l1 := acell w #[.int .i64 k, .int .i64 f, .int .i64 t, .int .i64 l, .int .i64 c] 54 1
  have l2 := acell w #[.int .i64 k, .int .i64 f, .int .i64 t, .int .i64 l, .int .i64 c] 54 2
  have l3 := acell w #[.int .i64 k, .int .i64 f, .int .i64 t, .int .i64 l, .int .i64 c] 54 3
  have l4 := acell w #[.int .i64 k, .int .i64 f, .int .i64 t, .int .i64 l, .int .i64 c] 54 4
  go_enter Try.func10, Try.ntmps10
  go_wp2
  go_region
  · obtain ⟨b2, z2, q1, q2⟩ := two_new w #[.int .i64 k, .int .i64 f, .int .i64 t, .int .i64 l, .int .i64 c] #[.int .i64 f, .int .i64 t] #[.int .i64 l, .int .i64 c] 54 45 52
    generalize (((w.alloc (.cells #[.int .i64 k, .int .i64 f, .int .i64 t, .int .i64 l, .int .i64 c] 54)).alloc (.cells #[.int .i64 f, .int .i64 t] 45)).alloc (.cells #[.int .i64 l, .int .i64 c] 52)).drew = w2 at b2 z2 q1 q2 ⊢
    clear l0 l1 l2 l3 l4
    have sp := q1
    have pp := q2
    have lsp : w.heap.size + 1 < w2.heap.size := by omega
    have lpp : w.heap.size + 1 + 1 < w2.heap.size := by omega
    clear q1 q2
    go_wp2_with (first
      | (go_at_call 12; (with_reducible refine (new_g x _ hx).mono ?_); rintro en w3 ⟨g, r, rfl, hr, q, _, b3⟩; have hby := byte_g hr q hx k; rw [hB] at hby)
      | (go_at_call 22; (with_reducible refine hby.mono ?_); rintro en w4 ⟨rfl, rfl⟩)
      | (go_at_call 32; go_loud ((with_reducible refine (rBy _).mono ?_); rintro en w5 ⟨rfl, dr⟩; obtain ⟨n5, e5⟩ := dr.out; have b5 : Below w4.heap.size w4 w5 := (by rw [e5]; exact below_drewN (Below.refl _ _) n5); have B5 := b3.trans (b5.mono b3.size); have hr5 := hr.below b5; have s0 := (B5.cell (p := ⟨_, 0, none⟩) lsp).trans (sp 0); have s1 := (B5.cell (p := ⟨_, 1, none⟩) lsp).trans (sp 1); clear b3 b5 hby e5 dr))
      | (go_at_call 21; (with_reducible refine (rSl _ g r hr5 q).mono ?_); rintro en w6 ⟨rfl, b6⟩; have B6 := B5.trans (b6.mono B5.size); have hr6 := hr5.below b6; have s0 := (B6.cell (p := ⟨_, 0, none⟩) lsp).trans (sp 0); have s1 := (B6.cell (p := ⟨_, 1, none⟩) lsp).trans (sp 1); clear B5 b6)
      | (go_at_call 33; (with_reducible refine (fSl _).mono ?_); rintro en w7 ⟨rfl, b7⟩; have B7 := B6.trans (b7.mono B6.size); have hr7 := hr6.below b7; clear B6 b7)
      | (go_at_call 27; (with_reducible refine (rLn _ g r hr7 q).mono ?_); rintro en w8 ⟨rfl, rfl⟩)
      | (go_at_call 34; (with_reducible refine (fLn _).mono ?_); rintro en w9 ⟨rfl, b9⟩; have B9 := B7.trans (b9.mono B7.size); have hr9 := hr7.below b9; clear B7 b9)
      | (go_at_call 23; (with_reducible refine (rOf _ g r hr9 q).mono ?_); rintro en w10 ⟨rfl, b10⟩; have B10 := B9.trans (b10.mono B9.size); have hr11 := (hr9.below b10).alloc (.cells #[.int .i64 A1, .int .i64 A2] 52); have B11 := B10.alloc B10.size (.cells #[.int .i64 A1, .int .i64 A2] 52); have z11 := size_al w10 (.cells #[.int .i64 A1, .int .i64 A2] 52); have p0 := acell w10 #[.int .i64 A1, .int .i64 A2] 52 0; have p1 := acell w10 #[.int .i64 A1, .int .i64 A2] 52 1; have lt10 : w10.heap.size < (w10.alloc (.cells #[.int .i64 A1, .int .i64 A2] 52)).heap.size := (by omega); clear B9 B10 b10)
      | (go_at_call 35; (with_reducible refine (fOf _).mono ?_); rintro en w12 ⟨rfl, b12⟩; have B12 := B11.trans (b12.mono B11.size); have hr13 := (hr11.below b12).alloc (.cells #[.int .i64 A1, .int .i64 A2] 52); have B13 := B12.alloc B12.size (.cells #[.int .i64 A1, .int .i64 A2] 52); have bp := b12.alloc b12.size (.cells #[.int .i64 A1, .int .i64 A2] 52); have z13 := size_al w12 (.cells #[.int .i64 A1, .int .i64 A2] 52); have lt12 : w12.heap.size < (w12.alloc (.cells #[.int .i64 A1, .int .i64 A2] 52)).heap.size := (by omega); have lt10' : w10.heap.size < (w12.alloc (.cells #[.int .i64 A1, .int .i64 A2] 52)).heap.size := (by have := b12.size; omega); have P0 := (bp.cell (p := ⟨w10.heap.size, 0, none⟩) lt10).trans p0; have P1 := (bp.cell (p := ⟨w10.heap.size, 1, none⟩) lt10).trans p1; have Q0 := acell w12 #[.int .i64 A1, .int .i64 A2] 52 0; have Q1 := acell w12 #[.int .i64 A1, .int .i64 A2] 52 1; have s0 := (B13.cell (p := ⟨_, 0, none⟩) lpp).trans (pp 0); have s1 := (B13.cell (p := ⟨_, 1, none⟩) lpp).trans (pp 1); clear B11 B12 b12 bp p0 p1 hr11)
      | (go_at_call 25; (with_reducible refine (rAt _ g r hr13 q).mono ?_); rintro en w14 ⟨rfl, b14⟩; have B14 := B13.trans (b14.mono B13.size); have s0 := (B14.cell (p := ⟨_, 0, none⟩) lpp).trans (pp 0); have s1 := (B14.cell (p := ⟨_, 1, none⟩) lpp).trans (pp 1); clear B13)
      | (go_at_call 36; (with_reducible refine (fAt _).mono ?_); rintro en w15 ⟨rfl, b15⟩; have B15 := B14.trans (b15.mono B14.size); have bc := b14.trans (b15.mono b14.size); have R0 := (bc.cell (p := ⟨w10.heap.size, 0, none⟩) lt10').trans P0; have R1 := (bc.cell (p := ⟨w10.heap.size, 1, none⟩) lt10').trans P1; have S0 := (bc.cell (p := ⟨w12.heap.size, 0, none⟩) lt12).trans Q0; have S1 := (bc.cell (p := ⟨w12.heap.size, 1, none⟩) lt12).trans Q1; clear B14)
      | (go_at_call 13; (with_reducible refine (alive_yes _).mono ?_); rintro en w16 ⟨rfl, b16⟩))
    go_ret
    exact ⟨rfl, b2.trans ((B15.trans (b16.mono B15.size)).mono b2.size)⟩
  · obtain ⟨b2, z2, q1, q2⟩ := two_new w #[.int .i64 k, .int .i64 f, .int .i64 t, .int .i64 l, .int .i64 c] #[.int .i64 l, .int .i64 c] #[.int .i64 f, .int .i64 t] 54 52 45
    generalize (((w.alloc (.cells #[.int .i64 k, .int .i64 f, .int .i64 t, .int .i64 l, .int .i64 c] 54)).alloc (.cells #[.int .i64 l, .int .i64 c] 52)).alloc (.cells #[.int .i64 f, .int .i64 t] 45)).drew = w2 at b2 z2 q1 q2 ⊢
    clear l0 l1 l2 l3 l4
    have sp := q2
    have pp := q1
    have lsp : w.heap.size + 1 + 1 < w2.heap.size := by omega
    have lpp : w.heap.size + 1 < w2.heap.size := by omega
    clear q1 q2
    go_wp2_with (first
      | (go_at_call 12; (with_reducible refine (new_g x _ hx).mono ?_); rintro en w3 ⟨g, r, rfl, hr, q, _, b3⟩; have hby := byte_g hr q hx k; rw [hB] at hby)
      | (go_at_call 22; (with_reducible refine hby.mono ?_); rintro en w4 ⟨rfl, rfl⟩)
      | (go_at_call 32; go_loud ((with_reducible refine (rBy _).mono ?_); rintro en w5 ⟨rfl, dr⟩; obtain ⟨n5, e5⟩ := dr.out; have b5 : Below w4.heap.size w4 w5 := (by rw [e5]; exact below_drewN (Below.refl _ _) n5); have B5 := b3.trans (b5.mono b3.size); have hr5 := hr.below b5; have s0 := (B5.cell (p := ⟨_, 0, none⟩) lsp).trans (sp 0); have s1 := (B5.cell (p := ⟨_, 1, none⟩) lsp).trans (sp 1); clear b3 b5 hby e5 dr))
      | (go_at_call 21; (with_reducible refine (rSl _ g r hr5 q).mono ?_); rintro en w6 ⟨rfl, b6⟩; have B6 := B5.trans (b6.mono B5.size); have hr6 := hr5.below b6; have s0 := (B6.cell (p := ⟨_, 0, none⟩) lsp).trans (sp 0); have s1 := (B6.cell (p := ⟨_, 1, none⟩) lsp).trans (sp 1); clear B5 b6)
      | (go_at_call 33; (with_reducible refine (fSl _).mono ?_); rintro en w7 ⟨rfl, b7⟩; have B7 := B6.trans (b7.mono B6.size); have hr7 := hr6.below b7; clear B6 b7)
      | (go_at_call 27; (with_reducible refine (rLn _ g r hr7 q).mono ?_); rintro en w8 ⟨rfl, rfl⟩)
      | (go_at_call 34; (with_reducible refine (fLn _).mono ?_); rintro en w9 ⟨rfl, b9⟩; have B9 := B7.trans (b9.mono B7.size); have hr9 := hr7.below b9; clear B7 b9)
      | (go_at_call 23; (with_reducible refine (rOf _ g r hr9 q).mono ?_); rintro en w10 ⟨rfl, b10⟩; have B10 := B9.trans (b10.mono B9.size); have hr11 := (hr9.below b10).alloc (.cells #[.int .i64 A1, .int .i64 A2] 52); have B11 := B10.alloc B10.size (.cells #[.int .i64 A1, .int .i64 A2] 52); have z11 := size_al w10 (.cells #[.int .i64 A1, .int .i64 A2] 52); have p0 := acell w10 #[.int .i64 A1, .int .i64 A2] 52 0; have p1 := acell w10 #[.int .i64 A1, .int .i64 A2] 52 1; have lt10 : w10.heap.size < (w10.alloc (.cells #[.int .i64 A1, .int .i64 A2] 52)).heap.size := (by omega); clear B9 B10 b10)
      | (go_at_call 35; (with_reducible refine (fOf _).mono ?_); rintro en w12 ⟨rfl, b12⟩; have B12 := B11.trans (b12.mono B11.size); have hr13 := (hr11.below b12).alloc (.cells #[.int .i64 A1, .int .i64 A2] 52); have B13 := B12.alloc B12.size (.cells #[.int .i64 A1, .int .i64 A2] 52); have bp := b12.alloc b12.size (.cells #[.int .i64 A1, .int .i64 A2] 52); have z13 := size_al w12 (.cells #[.int .i64 A1, .int .i64 A2] 52); have lt12 : w12.heap.size < (w12.alloc (.cells #[.int .i64 A1, .int .i64 A2] 52)).heap.size := (by omega); have lt10' : w10.heap.size < (w12.alloc (.cells #[.int .i64 A1, .int .i64 A2] 52)).heap.size := (by have := b12.size; omega); have P0 := (bp.cell (p := ⟨w10.heap.size, 0, none⟩) lt10).trans p0; have P1 := (bp.cell (p := ⟨w10.heap.size, 1, none⟩) lt10).trans p1; have Q0 := acell w12 #[.int .i64 A1, .int .i64 A2] 52 0; have Q1 := acell w12 #[.int .i64 A1, .int .i64 A2] 52 1; have s0 := (B13.cell (p := ⟨_, 0, none⟩) lpp).trans (pp 0); have s1 := (B13.cell (p := ⟨_, 1, none⟩) lpp).trans (pp 1); clear B11 B12 b12 bp p0 p1 hr11)
      | (go_at_call 25; (with_reducible refine (rAt _ g r hr13 q).mono ?_); rintro en w14 ⟨rfl, b14⟩; have B14 := B13.trans (b14.mono B13.size); have s0 := (B14.cell (p := ⟨_, 0, none⟩) lpp).trans (pp 0); have s1 := (B14.cell (p := ⟨_, 1, none⟩) lpp).trans (pp 1); clear B13)
      | (go_at_call 36; (with_reducible refine (fAt _).mono ?_); rintro en w15 ⟨rfl, b15⟩; have B15 := B14.trans (b15.mono B14.size); have bc := b14.trans (b15.mono b14.size); have R0 := (bc.cell (p := ⟨w10.heap.size, 0, none⟩) lt10').trans P0; have R1 := (bc.cell (p := ⟨w10.heap.size, 1, none⟩) lt10').trans P1; have S0 := (bc.cell (p := ⟨w12.heap.size, 0, none⟩) lt12).trans Q0; have S1 := (bc.cell (p := ⟨w12.heap.size, 1, none⟩) lt12).trans Q1; clear B14)
      | (go_at_call 13; (with_reducible refine (alive_yes _).mono ?_); rintro en w16 ⟨rfl, b16⟩))
    go_ret
    exact ⟨rfl, b2.trans ((B15.trans (b16.mono B15.size)).mono b2.size)⟩

/-- RopeReads returns true, whatever it is asked. -/
theorem law_reads (x : ByteArray) (k f t l c : Int) (w : World) : Calls Try.prog 10 #[.string x, .agg #[.int .i64 k, .int .i64 f, .int .i64 t, .int .i64 l, .int .i64 c]] w (AllTrue w) := by
  by_cases hx : 65536 < x.size
  · exact reads_long x k f t l c w hx
  · exact reads_ok x k f t l c w (by omega)
end Go.Proofs.Ythjbkiomnipjiaa
