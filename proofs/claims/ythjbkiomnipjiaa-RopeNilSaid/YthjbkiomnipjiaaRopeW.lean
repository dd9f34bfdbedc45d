/- The rope's methods, walked at a rope that is not there. -/
import Derived.Test.YthjbkiomnipjiaaRs
set_option linter.unusedVariables false
set_option linter.unusedSimpArgs false
namespace Go.Proofs.Ythjbkiomnipjiaa
open Go Go.RowKit Pl
/-- a pointer to no rope -/
def Dead (w : World) (p : Value) : Prop := ∀ w', Below w.heap.size w w' → Calls Try.prog 48 #[p] w' fun e w'' => e = .returned (.bool false) ∧ w'' = w'
theorem Dead.below {w w' : World} {p : Value} (h : Dead w p) (hb : Below w.heap.size w w') : Dead w' p := fun w'' hb' => h w'' (hb.trans (hb'.mono hb.size))
theorem dead_nil (w : World) : Dead w (.pointer none) := by
  intro w' hb
  go_enter Try.func48, Try.ntmps48
  go_wp2
  go_ret
  exact ⟨rfl, rfl⟩
theorem dead_zero (w : World) (g : Nat) (h : w.heap[g]? = some (.cells #[.bool false, .pointer none] 73 (0, 0))) : Dead w (.pointer (some ⟨g, 0, none⟩)) := by
  intro w' hb
  have hg : w'.heap[g]? = some (.cells #[.bool false, .pointer none] 73 (0, 0)) := (hb.block g (Array.getElem?_eq_some_iff.1 h).1).trans h
  have c0 : w'.cell? ⟨g, 0, none⟩ = some (.bool false) := by simp [World.cell?, hg]
  go_enter Try.func48, Try.ntmps48
  go_wp2
  go_ret
  exact ⟨rfl, rfl⟩
variable {w : World} {p : Value}
theorem tree_no (h : Dead w p) (w' : World) (hb : Below w.heap.size w w') : Calls Try.prog 42 #[p] w' fun e w'' => e = .returned (.pointer none) ∧ w' = w'' := by
  have ht := h w' hb
  go_enter Try.func42, Try.ntmps42
  go_wp2_with (go_at_call 48; (with_reducible refine ht.mono ?_); rintro e w2 ⟨rfl, rfl⟩)
  go_ret
  exact ⟨rfl, rfl⟩
theorem Root.dead (h : Dead w p) : Root w p none := ⟨trivial, fun w' hb => tree_no h w' hb⟩
theorem byte_no (h : Dead w p) (k : Int) : Calls Try.prog 22 #[p, .int .i64 k] w fun e w' => e = .returned (.tuple #[.int .u8 0, .int .i64 1]) ∧ w' = w := by
  have ht := h w (Below.refl _ _)
  go_enter Try.func22, Try.ntmps22
  go_wp2_with (go_at_call 48; (with_reducible refine ht.mono ?_); rintro e w2 ⟨rfl, rfl⟩)
  go_ret2
  exact ⟨rfl, rfl⟩
theorem slice_no (h : Dead w p) (f t : Int) : Calls Try.prog 21 #[p, .agg #[.int .i64 f, .int .i64 t]] w fun e w' => e = .returned (.tuple #[.string ⟨#[]⟩, .int .i64 1]) ∧ Below w.heap.size w w' := by
  have hb := below_al w (.cells #[.int .i64 f, .int .i64 t] 45)
  have ht := h _ hb
  go_enter Try.func21, Try.ntmps21
  go_wp2_with (go_at_call 48; (with_reducible refine ht.mono ?_); rintro e w2 ⟨rfl, rfl⟩)
  go_ret2
  exact ⟨rfl, hb⟩
theorem splice_no (h : Dead w p) (s e : Int) (u : ByteArray) : Calls Try.prog 18 #[p, .agg #[.int .i64 s, .int .i64 e, .string u]] w fun en w' => en = .returned (.tuple #[.pointer none, .int .i64 1]) ∧ Below w.heap.size w w' := by
  have hb := below_al w (.cells #[.int .i64 s, .int .i64 e, .string u] 36)
  have ht := h _ hb
  go_enter Try.func18, Try.ntmps18
  go_wp2_with (go_at_call 48; (with_reducible refine ht.mono ?_); rintro e w2 ⟨rfl, rfl⟩)
  go_ret2
  exact ⟨rfl, hb⟩
theorem of_no (h : Dead w p) (k : Int) : Calls Try.prog 23 #[p, .int .i64 k] w fun e w' => e = .returned (.tuple #[.agg #[.int .i64 0, .int .i64 0], .int .i64 1]) ∧ Below w.heap.size w w' := by
  have hb := below_al w (.cells #[.int .i64 0, .int .i64 0] 52)
  have ht := h _ hb
  go_enter Try.func23, Try.ntmps23
  go_wp2_with (go_at_call 48; (with_reducible refine ht.mono ?_); rintro e w2 ⟨rfl, rfl⟩)
  refine bodyPost_ret (v := .tuple #[.agg #[.int .i64 0, .int .i64 0], .int .i64 1]) (by simp [results, Try.results23, go_sem]) rfl ⟨rfl, ?_⟩
  exact hb
theorem rat_no (h : Dead w p) (l c : Int) : Calls Try.prog 25 #[p, .agg #[.int .i64 l, .int .i64 c]] w fun e w' => e = .returned (.tuple #[.int .i64 0, .int .i64 1]) ∧ Below w.heap.size w w' := by
  have hb := below_al w (.cells #[.int .i64 l, .int .i64 c] 52)
  have ht := h _ hb
  go_enter Try.func25, Try.ntmps25
  go_wp2_with (go_at_call 48; (with_reducible refine ht.mono ?_); rintro e w2 ⟨rfl, rfl⟩)
  go_ret2
  exact ⟨rfl, hb⟩
theorem len_no (h : Dead w p) : Calls Try.prog 29 #[p] w fun e w' => e = .returned (.int .i64 0) ∧ w' = w := by
  have ht := tree_no h w (Below.refl _ _)
  go_enter Try.func29, Try.ntmps29
  go_wp2_with (go_at_call 42; (with_reducible refine ht.mono ?_); rintro e w2 ⟨rfl, rfl⟩)
  go_ret
  exact ⟨rfl, rfl⟩
theorem height_no (h : Dead w p) : Calls Try.prog 37 #[p] w fun e w' => e = .returned (.int .i64 0) ∧ w' = w := by
  have ht := tree_no h w (Below.refl _ _)
  go_enter Try.func37, Try.ntmps37
  go_wp2_with (go_at_call 42; (with_reducible refine ht.mono ?_); rintro e w2 ⟨rfl, rfl⟩)
  go_ret
  exact ⟨rfl, rfl⟩
theorem lines_no (h : Dead w p) : Calls Try.prog 27 #[p] w fun e w' => e = .returned (.int .i64 0) ∧ w' = w := by
  have ht := h w (Below.refl _ _)
  go_enter Try.func27, Try.ntmps27
  go_wp2_with (go_at_call 48; (with_reducible refine ht.mono ?_); rintro e w2 ⟨rfl, rfl⟩)
  go_ret
  exact ⟨rfl, rfl⟩
theorem text_no (h : Dead w p) : Calls Try.prog 17 #[p] w fun e w' => e = .returned (.string ⟨#[]⟩) ∧ Below w.heap.size w w' := by
  have b1 : Below w.heap.size w (w.alloc (.cells #[.pointer none, .slice none 0 0] 86)) := (Below.refl _ _).alloc (Nat.le_refl _) _
  have ht := tree_no h _ b1
  have i0 : Holds w [] (w.alloc (.cells #[.pointer none, .slice none 0 0] 86)) := ⟨Lib.fresh_isBuilder 86 5 w, b1⟩
  have hs := Try.Builder_String_any w.heap.size w.heap.size [] (w.alloc (.cells #[.pointer none, .slice none 0 0] 86)) i0.1 b1.size
  go_enter Try.func17, Try.ntmps17
  go_wp2_with (first | (go_at_call 42; refine ht.mono ?_; rintro e w1 ⟨rfl, rfl⟩) | (go_at_call 44; refine (each_none _ _).mono ?_; rintro e w1 ⟨rfl, rfl⟩) | (go_at_call 47; refine hs.mono ?_; rintro e w3 ⟨rfl, b3⟩))
  go_ret
  exact ⟨rfl, b1.trans b3⟩
set_option maxRecDepth 100000 in
theorem leaves_no (h : Dead w p) : Calls Try.prog 15 #[p] w fun e w' => e = .returned (.slice none 0 0) ∧ Below w.heap.size w w' := by
  have ht := tree_no h w (Below.refl _ _)
  have hl := list_any none w trivial (show NotMany (optLv none) from Nat.zero_le _)
  rw [optPtr_none] at hl
  go_enter Try.func15, Try.ntmps15
  go_wp2_with (first
    | (go_at_call 42; refine ht.mono ?_; rintro e w1 ⟨rfl, rfl⟩)
    | (go_at_call 41; refine hl.mono ?_; rintro e w2 ⟨v, rfl, ho, hb⟩; obtain ⟨ao, n', cap, rfl⟩ := own_slice ho; have hv : n' = 0 := (by rcases ho.2 with ⟨hv, h0⟩ | ⟨_, _, _, hv, _⟩ <;> (simp only [Value.slice.injEq] at hv; exact hv.2.1)); subst hv))
  go_loopg [3, 10] 0 (fun gk o i wr => o = .slice none 0 0 ∧ i = .int .i64 0 ∧ wr = w2)
  case atStart => exact ⟨rfl, rfl, rfl⟩
  case round =>
    obtain ⟨rfl, rfl, rfl⟩ := hrel
    go_wp2
    go_ret
    exact ⟨rfl, hb⟩
theorem shared_no (h : Dead w p) : Calls Try.prog 20 #[p, p] w fun e w' => e = .returned (.int .i64 0) ∧ Below w.heap.size w w' :=
  shared_any p p none none w (Root.dead h) (Root.dead h) (Nat.zero_le _) (Nat.zero_le _)
end Go.Proofs.Ythjbkiomnipjiaa
