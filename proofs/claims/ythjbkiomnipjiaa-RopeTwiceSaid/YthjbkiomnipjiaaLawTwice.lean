/- The law RopeTwice, walked: it returns true, for every text and span. -/
import Derived.Test.YthjbkiomnipjiaaRs
set_option linter.unusedVariables false
set_option linter.unusedSimpArgs false
namespace Go.Proofs.Ythjbkiomnipjiaa.Twice
open Go Go.RowKit Pl
theorem Good.count {x : ByteArray} {t : Option Nd} (q : Good x t) : (optLv t).length ≤ x.size := by
  have h1 := q.size
  have h2 := q.ok
  cases t with
  | none => exact Nat.zero_le _
  | some t =>
    have h3 : t.sh.lv.length = t.sh.leaves := Sh.lv_length _
    have h4 := Sh.leaves_le t.sh h2
    have h5 : t.sh.size = x.size := h1
    show t.sh.lv.length ≤ x.size
    omega
/-- Leaves, as a slice whose length is told -/
theorem leaves_n {x : ByteArray} {t : Option Nd} {g : Nat} {w : World} (h : Rope w g t) (q : Good x t) (hx : x.size ≤ 65536) : Calls Try.prog 15 #[.pointer (some ⟨g, 0, none⟩)] w fun e w' => ∃ A cap, e = .returned (.slice A (optLv t).length cap) ∧ Below w.heap.size w w' := by
  refine (leaves_g h q hx).mono ?_
  rintro e w' ⟨v, rfl, ho, hb⟩
  obtain ⟨A, n, cap, rfl⟩ := own_slice ho
  have hn : n = (optLv t).length := by
    rcases ho.2 with ⟨hv, h0⟩ | ⟨_, _, _, hv, _⟩
    · simp only [Value.slice.injEq] at hv
      omega
    · simp only [Value.slice.injEq] at hv
      exact hv.2.1
  subst hn
  exact ⟨A, cap, rfl, hb⟩
theorem shared_own {x : ByteArray} {t : Option Nd} {g : Nat} {w : World} (h : Rope w g t) (q : Good x t) (hx : x.size ≤ 65536) : Calls Try.prog 20 #[.pointer (some ⟨g, 0, none⟩), .pointer (some ⟨g, 0, none⟩)] w fun e w' => e = .returned (.int .i64 (optLv t).length) ∧ Below w.heap.size w w' := by
  have := shared_any _ _ t t w (Root.of_rope h) (Root.of_rope h) (q.many hx) (q.many hx)
  rw [shared_self] at this
  have e : (lvAddrs (optLv t)).length = (optLv t).length := by simp [lvAddrs]
  rw [e] at this
  exact this
theorem run_front (s : ByteArray) (y : Nat) (hy : y ≤ s.size) (w : World) : (Instr.slice 9 (.string s) none (some (.int .i64 y)) none).run Try.prog w = .ok (.string (s.extract 0 y)) w := by
  simp [Instr.slice, run_underlying Try.underlying9, Instr.sliceBounds, run_sliceBound, hy, go_sem]
theorem run_back (s : ByteArray) (x : Nat) (hx : x ≤ s.size) (w : World) : (Instr.slice 9 (.string s) (some (.int .i64 x)) none none).run Try.prog w = .ok (.string (s.extract x s.size)) w := by
  simp [Instr.slice, run_underlying Try.underlying9, Instr.sliceBounds, run_sliceBound, hx, go_sem]
theorem app_twice (x : ByteArray) (f t : Nat) (h1 : f ≤ t) (h2 : t ≤ x.size) : app (x.extract 0 f ++ x.extract t x.size) f f (x.extract f t) = x := by
  have hz : (x.extract 0 f).size = f := by rw [ByteArray.size_extract]; omega
  have hc : (x.extract t x.size).size = x.size - t := by rw [ByteArray.size_extract]; omega
  unfold app
  have e : ((f : Int)).toNat = f := by omega
  rw [e, ← ba_toList x]
  rw [ByteArray.size_append, hz, hc]
  refine ByteArray.ext ?_
  apply Array.toList_inj.1
  rw [ByteArray.data_append, ByteArray.data_append, Array.toList_append, Array.toList_append, ba_toList]
  have a1 : ((x.extract 0 f ++ x.extract t x.size).extract 0 f).data.toList = x.data.toList.take f := by
    rw [Sh.ext_take, ByteArray.data_append, Array.toList_append, List.take_append_of_le_length (by rw [Array.length_toList]; exact Nat.le_of_eq hz.symm), Sh.ext_take, List.take_take, Nat.min_self]
  have a2 : ((x.extract 0 f ++ x.extract t x.size).extract f (f + (x.size - t))).data.toList = x.data.toList.drop t := by
    have : f + (x.size - t) = (x.extract 0 f ++ x.extract t x.size).size := by rw [ByteArray.size_append, hz, hc]
    rw [this, Sh.ext_drop, ByteArray.data_append, Array.toList_append]
    have hl : (x.extract 0 f).data.toList.length = f := by rw [Array.length_toList]; exact hz
    rw [List.drop_append, hl, List.drop_eq_nil_of_le (Nat.le_of_eq hl), Nat.sub_self, List.drop_zero, List.nil_append, Sh.ext_drop]
  have a3 : (x.extract f t).data.toList = (x.data.toList.take t).drop f := by rw [cutB_extract]; rfl
  rw [a1, a2, a3]
  show _ = x.data.toList
  have : x.data.toList.take f = (x.data.toList.take t).take f := by rw [List.take_take, Nat.min_eq_left h1]
  rw [this, List.take_append_drop, List.take_append_drop]

set_option maxRecDepth 100000 in
set_option maxHeartbeats 8000000 in
theorem out_0 (x : ByteArray) (f t : Int) (w : World)  (h0 : 3000 < x.size) : Calls Try.prog 8 #[.string x, .agg #[.int .i64 f, .int .i64 t]] w (AllTrue w) := by
  have d0 : decide (3000 < x.size) = true := decide_eq_true h0
  have d0z : decide ((3000 : Int) < (x.size : Int)) = true := decide_eq_true (by omega)
  have b1 := below_al w (.cells #[.int .i64 f, .int .i64 t] 45)
  have l0 := acell w #[.int .i64 f, .int .i64 t] 45 0
  have l1 := acell w #[.int .i64 f, .int .i64 t] 45 1
  go_enter Try.func8, Try.ntmps8
  go_wp2_with (first
    | (go_at_call 13; (with_reducible refine (alive_yes _).mono ?_); rintro en w4 ⟨rfl, b4⟩))
  go_ret
  exact ⟨rfl, b1.trans (b4.mono b1.size)⟩
set_option maxRecDepth 100000 in
set_option maxHeartbeats 8000000 in
theorem out_1 (x : ByteArray) (f t : Int) (w : World) (h0 : ¬ (3000 < x.size)) (h1 : f < 0) : Calls Try.prog 8 #[.string x, .agg #[.int .i64 f, .int .i64 t]] w (AllTrue w) := by
  have d0 : decide (3000 < x.size) = false := decide_eq_false h0
  have d0z : decide ((3000 : Int) < (x.size : Int)) = false := decide_eq_false (by omega)
  have d1 : decide (f < 0) = true := decide_eq_true h1
  have b1 := below_al w (.cells #[.int .i64 f, .int .i64 t] 45)
  have l0 := acell w #[.int .i64 f, .int .i64 t] 45 0
  have l1 := acell w #[.int .i64 f, .int .i64 t] 45 1
  go_enter Try.func8, Try.ntmps8
  go_wp2_with (first
    | (go_at_call 13; (with_reducible refine (alive_yes _).mono ?_); rintro en w4 ⟨rfl, b4⟩))
  go_ret
  exact ⟨rfl, b1.trans (b4.mono b1.size)⟩
set_option maxRecDepth 100000 in
set_option maxHeartbeats 8000000 in
theorem out_2 (x : ByteArray) (f t : Int) (w : World) (h0 : ¬ (3000 < x.size)) (h1 : ¬ (f < 0)) (h2 : t < f) : Calls Try.prog 8 #[.string x, .agg #[.int .i64 f, .int .i64 t]] w (AllTrue w) := by
  have d0 : decide (3000 < x.size) = false := decide_eq_false h0
  have d0z : decide ((3000 : Int) < (x.size : Int)) = false := decide_eq_false (by omega)
  have d1 : decide (f < 0) = false := decide_eq_false h1
  have d2 : decide (t < f) = true := decide_eq_true h2
  have b1 := below_al w (.cells #[.int .i64 f, .int .i64 t] 45)
  have l0 := acell w #[.int .i64 f, .int .i64 t] 45 0
  have l1 := acell w #[.int .i64 f, .int .i64 t] 45 1
  go_enter Try.func8, Try.ntmps8
  go_wp2_with (first
    | (go_at_call 13; (with_reducible refine (alive_yes _).mono ?_); rintro en w4 ⟨rfl, b4⟩))
  go_ret
  exact ⟨rfl, b1.trans (b4.mono b1.size)⟩
set_option maxRecDepth 100000 in
set_option maxHeartbeats 8000000 in
theorem out_3 (x : ByteArray) (f t : Int) (w : World) (h0 : ¬ (3000 < x.size)) (h1 : ¬ (f < 0)) (h2 : ¬ (t < f)) (h3 : (x.size : Int) < t) : Calls Try.prog 8 #[.string x, .agg #[.int .i64 f, .int .i64 t]] w (AllTrue w) := by
  have d0 : decide (3000 < x.size) = false := decide_eq_false h0
  have d0z : decide ((3000 : Int) < (x.size : Int)) = false := decide_eq_false (by omega)
  have d1 : decide (f < 0) = false := decide_eq_false h1
  have d2 : decide (t < f) = false := decide_eq_false h2
  have d3 : decide ((x.size : Int) < t) = true := decide_eq_true h3
  have b1 := below_al w (.cells #[.int .i64 f, .int .i64 t] 45)
  have l0 := acell w #[.int .i64 f, .int .i64 t] 45 0
  have l1 := acell w #[.int .i64 f, .int .i64 t] 45 1
  go_enter Try.func8, Try.ntmps8
  go_wp2_with (first
    | (go_at_call 13; (with_reducible refine (alive_yes _).mono ?_); rintro en w4 ⟨rfl, b4⟩))
  go_ret
  exact ⟨rfl, b1.trans (b4.mono b1.size)⟩
set_option maxRecDepth 100000 in
set_option maxHeartbeats 8000000 in
theorem main (x : ByteArray) (f t : Nat) (w : World) (hx : x.size ≤ 3000) (h1 : f ≤ t) (h2 : t ≤ x.size) : Calls Try.prog 8 #[.string x, .agg #[.int .i64 f, .int .i64 t]] w (AllTrue w) := by
  have d0 : decide (3000 < x.size) = false := decide_eq_false (by omega)
  have d0z : decide ((3000 : Int) < (x.size : Int)) = false := decide_eq_false (by omega)
  have d1 : decide ((f : Int) < 0) = false := decide_eq_false (by omega)
  have d2 : decide (t < f) = false := decide_eq_false (by omega)
  have d2z : decide ((t : Int) < (f : Int)) = false := decide_eq_false (by omega)
  have d3 : decide (x.size < t) = false := decide_eq_false (by omega)
  have d3z : decide ((x.size : Int) < (t : Int)) = false := decide_eq_false (by omega)
  have hx' : x.size ≤ 65536 := by omega
  have sl : slP x f t = (x.extract f t, 0) := if_neg (by omega)
  have sA := fun w g r (h : Rope w g r) (q : Good x r) => slice_g h q hx' (f : Int) (t : Int)
  rw [sl] at sA
  have hF := fun w => run_front x f (by omega) w
  have hB := fun w => run_back x t h2 w
  have hM := fun w => run_cut x f t h1 h2 w
  have happ := app_twice x f t h1 h2
  have zF : (x.extract 0 f).size = f := by rw [ByteArray.size_extract]; omega
  have zB : (x.extract t x.size).size = x.size - t := by rw [ByteArray.size_extract]; omega
  have zM : (x.extract f t).size = t - f := by rw [ByteArray.size_extract]; omega
  generalize x.extract 0 f = F at hF happ zF
  generalize x.extract t x.size = B at hB happ zB
  generalize x.extract f t = M at hM happ sA zM
  have hcat : ¬ (9223372036854775807 < F.size + B.size) := by omega
  have hbz : (F ++ B).size ≤ 65536 := by rw [ByteArray.size_append]; omega
  have hchk : chk (F ++ B).size f f M.size = 0 := by
    rw [chk_zero, ByteArray.size_append]
    omega
  have hnB := fun w => new_g (F ++ B) w hbz
  have hsp := fun (w : World) (g : Nat) (t : Option Nd) (h : Rope w g t) (q : Good (F ++ B) t) => splice_g h q f f M hchk
  rw [happ] at hsp
  have hla := fun (w : World) (g : Nat) (t : Option Nd) (h : Rope w g t) (q : Good x t) => lines_g h q hx'
  generalize (Lib.countByte x.data.toList 10 : Int) + 1 = N at hla
  clear happ hchk hbz zF zB zM sl
  have b1 := below_al w (.cells #[.int .i64 f, .int .i64 t] 45)
  have l0 := acell w #[.int .i64 f, .int .i64 t] 45 0
  have l1 := acell w #[.int .i64 f, .int .i64 t] 45 1
  have z1 := size_al w (.cells #[.int .i64 f, .int .i64 t] 45)
  have lta : w.heap.size < (w.alloc (.cells #[.int .i64 f, .int .i64 t] 45)).heap.size := by omega
  go_enter Try.func8, Try.ntmps8
  go_wp2_with (first
    | (go_at_call 12; (with_reducible refine (new_g x _ hx').mono ?_); rintro en w2 ⟨g, t2, rfl, hr, q, _, b2⟩))
  have m0 := (b2.cell (p := ⟨w.heap.size, 0, none⟩) lta).trans l0
  have m1 := (b2.cell (p := ⟨w.heap.size, 1, none⟩) lta).trans l1
  have C0 := Lib.hid l0
  have C1 := Lib.hid l1
  clear d0 d0z d1 d2 d2z d3 d3z l0 l1
  have bd : Below w2.heap.size w2 w2.drew := (Below.refl _ _).drew
  go_region_held3 (fun w' => w'.cell? ⟨w.heap.size, 0, none⟩ = some (.int .i64 f) ∧ w'.cell? ⟨w.heap.size, 1, none⟩ = some (.int .i64 t))
    (first
      | exact ⟨m0, m1⟩
      | exact ⟨((b2.trans ((bd.trans b3).mono b2.size)).cell (p := ⟨w.heap.size, 0, none⟩) lta).trans C0.out, ((b2.trans ((bd.trans b3).mono b2.size)).cell (p := ⟨w.heap.size, 1, none⟩) lta).trans C1.out⟩
      | fail)
    (first
      | ((with_reducible refine (hnB _).mono ?_)
         rintro en w3 ⟨g3, t3, rfl, hr3, q3, _, b3⟩)
      | fail)
  all_goals
    have B3 := b2.trans ((bd.trans b3).mono b2.size)
    have hr' := hr.below (bd.trans b3)
    clear m0 m1 hnB hF hB hcat
    have m0 := (B3.cell (p := ⟨w.heap.size, 0, none⟩) lta).trans C0.out
    have m1 := (B3.cell (p := ⟨w.heap.size, 1, none⟩) lta).trans C1.out
    go_wp2
    have be : Below w3.heap.size w3 w3.drew := (Below.refl _ _).drew
    have hr3' := hr3.below be
    go_region_held3 (fun w' => w'.cell? ⟨w.heap.size, 0, none⟩ = some (.int .i64 f) ∧ w'.cell? ⟨w.heap.size, 1, none⟩ = some (.int .i64 t))
      (first
        | exact ⟨m0, m1⟩
        | exact ⟨((B3.trans ((be.trans b4).mono B3.size)).cell (p := ⟨w.heap.size, 0, none⟩) lta).trans C0.out, ((B3.trans ((be.trans b4).mono B3.size)).cell (p := ⟨w.heap.size, 1, none⟩) lta).trans C1.out⟩
        | fail)
      (first
        | ((with_reducible refine (hsp _ g3 t3 hr3' q3).mono ?_)
           rintro en w4 ⟨g4, t4, rfl, hr4, q4, _, b4⟩)
        | fail)
  all_goals
    have B4 := B3.trans ((be.trans b4).mono B3.size)
    have hq4 := hr'.below (be.trans b4)
    clear m0 m1 hsp hM
    have m0 := (B4.cell (p := ⟨w.heap.size, 0, none⟩) lta).trans C0.out
    have m1 := (B4.cell (p := ⟨w.heap.size, 1, none⟩) lta).trans C1.out
    go_wp2_with (first
      | (go_at_call 21; (with_reducible refine (sA _ g t2 hq4 q).mono ?_); rintro en w5 ⟨rfl, b5⟩; have B5 := B4.trans (b5.mono B4.size); have ha5 := hq4.below b5; have hc5 := hr4.below b5; have m0 := (B5.cell (p := ⟨w.heap.size, 0, none⟩) lta).trans C0.out; have m1 := (B5.cell (p := ⟨w.heap.size, 1, none⟩) lta).trans C1.out)
      | (go_at_call 21; (with_reducible refine (sA _ g4 t4 hc5 q4).mono ?_); rintro en w6 ⟨rfl, b6⟩; have B6 := B5.trans (b6.mono B5.size); have ha6 := ha5.below b6; have hc6 := hc5.below b6)
      | (go_at_call 17; (with_reducible refine (text_g ha6 q hx').mono ?_); rintro en w7 ⟨rfl, b7⟩; have B7 := B6.trans (b7.mono B6.size); have ha7 := ha6.below b7; have hc7 := hc6.below b7)
      | (go_at_call 17; (with_reducible refine (text_g hc7 q4 hx').mono ?_); rintro en w8 ⟨rfl, b8⟩; have B8 := B7.trans (b8.mono B7.size); have ha8 := ha7.below b8; have hc8 := hc7.below b8)
      | (go_at_call 29; (with_reducible refine (len_g ha8 q).mono ?_); rintro en w9 ⟨rfl, rfl⟩)
      | (go_at_call 29; (with_reducible refine (len_g hc8 q4).mono ?_); rintro en w10 ⟨rfl, rfl⟩)
      | (go_at_call 27; (with_reducible refine (hla _ g t2 ha8 q).mono ?_); rintro en w11 ⟨rfl, rfl⟩)
      | (go_at_call 27; (with_reducible refine (hla _ g4 t4 hc8 q4).mono ?_); rintro en w12 ⟨rfl, rfl⟩)
      | (go_at_call 20; (with_reducible refine (shared_own hc8 q4 hx').mono ?_); rintro en w13 ⟨rfl, b13⟩; have B13 := B8.trans (b13.mono B8.size); have hc13 := hc8.below b13)
      | (go_at_call 15; (with_reducible refine (leaves_n hc13 q4 hx').mono ?_); rintro en w14 ⟨A2, cap2, rfl, b14⟩; have B14 := B13.trans (b14.mono B13.size))
      | (go_at_call 13; (with_reducible refine (alive_yes _).mono ?_); rintro en w15 ⟨rfl, b15⟩))
    go_ret
    exact ⟨rfl, b1.trans ((B14.trans (b15.mono B14.size)).mono b1.size)⟩
end Go.Proofs.Ythjbkiomnipjiaa.Twice
namespace Go.Proofs.Ythjbkiomnipjiaa
open Go Go.RowKit
/-- RopeTwice returns true, whatever it is asked. -/
theorem law_twice (x : ByteArray) (f t : Int) (w : World) : Calls Try.prog 8 #[.string x, .agg #[.int .i64 f, .int .i64 t]] w (AllTrue w) := by
  by_cases h0 : 3000 < x.size
  · exact Twice.out_0 x f t w h0
  · by_cases h1 : f < 0
    · exact Twice.out_1 x f t w h0 h1
    · by_cases h2 : t < f
      · exact Twice.out_2 x f t w h0 h1 h2
      · by_cases h3 : (x.size : Int) < t
        · exact Twice.out_3 x f t w h0 h1 h2 h3
        · obtain ⟨f', rfl⟩ : ∃ n : Nat, f = n := ⟨f.toNat, by omega⟩
          obtain ⟨t', rfl⟩ : ∃ n : Nat, t = n := ⟨t.toNat, by omega⟩
          exact Twice.main x f' t' w (by omega) (by omega) (by omega)
end Go.Proofs.Ythjbkiomnipjiaa
