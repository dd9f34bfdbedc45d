/- The law EditsFolds, walked: it returns true, for every text and list of edits. -/
import Derived.Test.YtncnloaclpaefaaFoldLeft
import Derived.Lib.SmallJoins
set_option linter.unusedVariables false
set_option linter.unusedSimpArgs false
namespace Go.Proofs.Ytncnloaclpaefaa.Folds
open Go Go.RowKit Go.Proofs.Ytncnloaclpaefaa.Pl Go.Proofs.Ytncnloaclpaefaa.PEditsFolds
open Go.Proofs.YtncnloaclpaefaaW.PrintWords
def AllTrue (w : World) (e : Ending) (w' : World) : Prop := e = .returned (.bool true) ∧ Below w.heap.size w w'
theorem below_drawn {w w' : World} (h : Drawn0 w w') : Below w.heap.size w w' := by
  obtain ⟨n, hn⟩ := h.out
  rw [hn]
  exact pw_below_drewN (Below.refl _ _) n
/-- a row of numbers, its length told -/
theorem row_n {w : World} {base n : Nat} {v : Value} {zs : List Int} (h : Kd.R (Kd.int .i64) 24 w base (fun _ => True) v zs) (hz : zs.length = n) : ∃ A c, v = .slice A n c ∧ n ≤ c ∧ Kd.C (Kd.int .i64) w A zs.length zs := by
  obtain ⟨A, c, rfl, hc, hC⟩ := Kd.R_reads h
  subst hz
  exact ⟨A, c, rfl, hc, hC⟩
set_option maxRecDepth 100000 in
set_option maxHeartbeats 4000000 in
theorem folds_many (x : ByteArray) (A0 : Option Addr) (n c0 : Nat) (w : World) (h : 300 < n) : Calls Try.prog 13 #[.string x, .slice A0 n c0] w (AllTrue w) := by
  have d1 : decide (300 < n) = true := decide_eq_true h
  have d1' : decide ((300 : Int) < (n : Int)) = true := decide_eq_true (by omega)
  go_enter Try.func13, Try.ntmps13
  go_wp2
  go_ret
  exact ⟨rfl, Below.refl _ _⟩
set_option maxRecDepth 100000 in
set_option maxHeartbeats 16000000 in
theorem folds_main (x : ByteArray) (A0 : Option Addr) (c0 : Nat) (l : List S23) (w : World) (hl : l.length ≤ 300) (hA : Kd.C k23 w A0 l.length l) (hc0 : l.length ≤ c0) : Calls Try.prog 13 #[.string x, .slice A0 l.length c0] w (AllTrue w) := by
  have d1 : decide (300 < l.length) = false := decide_eq_false (by omega)
  have d1' : decide ((300 : Int) < (l.length : Int)) = false := decide_eq_false (by omega)
  have hlm : (l ++ marks).length = l.length + 3 := by simp [marks]
  have hez := ers_length x l l.length
  have hl' : l.length ≤ 1048576 := by omega
  go_enter Try.func13, Try.ntmps13
  go_wp2_with (first
    | (go_at_call 25; (with_reducible refine (twin.calls 4 A0 c0 l (l ++ marks) _ hA hc0 (twin_eq l hl')).mono ?_); rintro en w1 ⟨A, cap, rfl, hR, _, b1⟩; have hM := Kd.R_reads' hR; have hCl := Kd.C_take (m := l.length) hM.2.2 (by omega); rw [take_self] at hCl; have hA1 := Kd.C_below hA b1)
    | (go_at_call 26; (with_reducible refine (edits_Fold.calls _ x A cap l _ _ _ hCl (by omega) (fold_eq x l hl')).mono ?_); rintro en w2 ⟨va, rfl, hRa, b2⟩; obtain ⟨Ba, ca, rfl, hca, hCa⟩ := row_n hRa hez; have hA2 := Kd.C_below hA1 b2; have hM2 := Kd.C_below hM.2.2 b2)
    | (go_at_call 27; (with_reducible refine (rootstockref01_Fold.calls _ x A0 c0 l _ _ _ hA2 hc0 (rfold_eq x l hl')).mono ?_); rintro en w3 ⟨vb, rfl, hRb, b3⟩; obtain ⟨Bb, cb, rfl, hcb, hCb⟩ := row_n hRb hez; have hA3 := Kd.C_below hA2 b3; have hM3 := Kd.C_below hM2 b3; have hCa3 := Kd.C_below hCa b3; have hse := rootstocklaw01_SameErrnos.calls _ Ba ca (ers x l l.length) Bb cb (ers x l l.length) true w3 hCa3 (by omega) hCb (by omega) (serr_eq _ (by omega)); rw [hez] at hse)
    | (go_at_call 28; (with_reducible refine hse.mono ?_); rintro en w4 ⟨rfl, dr4⟩; have b4 := below_drawn dr4; have hA4 := Kd.C_below hA3 b4; have hM4 := Kd.C_below hM3 b4)
    | (go_at_call 29; (with_reducible refine (left_yes A A0 cap c0 l _ hl hM4 hM.2.1 hA4 hc0).mono ?_); rintro en w5 ⟨rfl, dr5⟩; have b5 := below_drawn dr5))
  have hz1 : (Kd.int .i64).sz = 1 := rfl
  obtain ⟨inner, hown⟩ := Kd.R_own hRa
  rw [hez, hz1] at hown
  have hblk : (Ba = none ∧ l.length = 0) ∨ ∃ g, Ba = some ⟨g, 0, none⟩ ∧ w1.heap.size ≤ g ∧ g < w2.heap.size ∧ ∃ cur, w2.heap[g]? = some (.cells cur 24 (0, 0)) ∧ l.length ≤ cur.size := by
    rcases hown.2 with ⟨hv, h0⟩ | ⟨g, cap', cur, hv, hB, hg, hc, _, hz, _⟩
    · simp only [Value.slice.injEq] at hv
      exact Or.inl ⟨hv.1, h0⟩
    · simp only [Value.slice.injEq] at hv
      exact Or.inr ⟨g, hv.1, hB, (Array.getElem?_eq_some_iff.1 hg).1, cur, hg, by omega⟩
  have b25 := b3.trans ((b4.trans (b5.mono b4.size)).mono b3.size)
  have b15 := b2.trans (b25.mono b2.size)
  have b35 := b4.trans (b5.mono b4.size)
  clear hse d1 d1' hA2 hM2 hA3 hM3 hA4 hM4 hCa3 hown
  go_loopg [10] l.length (fun gk i wr => ∃ k : Nat, i = .int .i64 k ∧ Aside0 (k + gk = l.length) ∧ Aside0 (Below w1.heap.size w1 wr ∧ (∀ k, w2.heap.size ≤ k → wr.heap[k]? = w5.heap[k]?) ∧ ∀ g, Ba = some ⟨g, 0, none⟩ → ∃ cur, wr.heap[g]? = some (.cells cur 24 (0, 0)) ∧ l.length ≤ cur.size))
  case atStart =>
    refine ⟨0, rfl, ⟨by omega⟩, ⟨b15, fun _ _ => rfl, ?_⟩⟩
    intro g hg
    rcases hblk with ⟨h0, _⟩ | ⟨g', h1, _, h3, cur, h4, h5⟩
    · rw [h0] at hg
      cases hg
    · rw [h1] at hg
      cases hg
      exact ⟨cur, (b25.block _ h3).trans h4, h5⟩
  case round =>
    obtain ⟨k, rfl, hk, hI⟩ := hrel
    have hk' := hk.out
    obtain ⟨hB, hhi, hcu⟩ := hI.out
    by_cases hlt : k < l.length
    · have e1 : decide (k < l.length) = true := decide_eq_true hlt
      have e1' : decide ((k : Int) < (l.length : Int)) = true := decide_eq_true (by omega)
      rcases hblk with ⟨_, h0⟩ | ⟨g, rfl, h2, h3, _⟩
      · omega
      · obtain ⟨cur, h4, h5⟩ := hcu g rfl
        have hkc : k < cur.size := by omega
        have cc0 : wr.cell? ⟨g, k, none⟩ = some cur[k] := by rw [Joins.cell_of_block h4, Array.getElem?_eq_getElem hkc]
        have ff0 : wr.frozen? ⟨g, k, none⟩ = false := Joins.unfrozen_of_block h4 k
        have kz : k < 2097152 := by omega
        go_wp2
        go_roundg (gk - 1)
        case measure => omega
        case rel =>
          refine ⟨k + 1, rfl, ⟨by omega⟩, ⟨hB.setCell (p := ⟨g, k, none⟩) h2 _, ?_, ?_⟩⟩
          · intro j hj
            rw [Below.heap_setCell wr ⟨g, k, none⟩ _ j (show j ≠ g by omega)]
            exact hhi j hj
          · intro g' hg'
            cases hg'
            exact ⟨_, Joins.block_setCell h4 _, by rw [Array.size_setIfInBounds]; exact h5⟩
    · have e1 : decide (k < l.length) = false := decide_eq_false hlt
      have e1' : decide ((k : Int) < (l.length : Int)) = false := decide_eq_false (by omega)
      have hMr := Kd.C_below hM.2.2 hB
      have hClr := Kd.C_below hCl hB
      have hRbr : Kd.R (Kd.int .i64) 24 wr w2.heap.size (fun k => True ∧ w2.heap.size ≤ k ∧ k < w3.heap.size ∧ ∃ q, q ∈ 24 :: (Kd.int .i64).E ∧ ∃ cells, w3.heap[k]? = some (.cells cells q (0, 0))) (.slice Bb l.length cb) (ers x l l.length) := by
        refine Kd.R_move (Kd.R_bound hRb) ?_
        intro j hj
        rw [hhi j hj.2.1]
        exact b35.block j hj.2.2.1
      have hCbr : Kd.C (Kd.int .i64) wr Bb (ers x l l.length).length (ers x l l.length) := (Kd.R_reads' hRbr).2.2
      have hfo := edits_Fold.calls _ x A cap l _ _ wr hClr (by omega) (fold_eq x l hl')
      have Bw := b1.trans (hB.mono b1.size)
      clear hk hI hblk hcu hhi hRb hRa hR hA hA1
      go_wp2_with (first
        | (go_at_call 26; (with_reducible refine hfo.mono ?_); rintro en w6 ⟨vc, rfl, hRc, b6⟩; obtain ⟨Bc, cc, rfl, hcc, hCc⟩ := row_n hRc hez; have hCb6 := Kd.C_below hCbr b6; have hse := rootstocklaw01_SameErrnos.calls _ Bc cc (ers x l l.length) Bb cb (ers x l l.length) true w6 hCc (by omega) hCb6 (by omega) (serr_eq _ (by omega)); rw [hez] at hse)
        | (go_at_call 28; (with_reducible refine hse.mono ?_); rintro en w7 ⟨rfl, dr7⟩; have b7 := below_drawn dr7)
        | (go_at_call 16; (with_reducible refine (rootstocklaw01_alive.calls 2 true _ (alive_eq 0)).mono ?_); rintro en w8 ⟨rfl, b8⟩))
      go_ret
      have B6 := Bw.trans (b6.mono Bw.size)
      have B7 := B6.trans (b7.mono B6.size)
      exact ⟨rfl, B7.trans (b8.mono B7.size)⟩
/-- EditsFolds returns true, whatever it is asked. -/
theorem law_folds (x : ByteArray) (A0 : Option Addr) (c0 : Nat) (l : List S23) (w : World) (hA : Kd.C k23 w A0 l.length l) (hc0 : l.length ≤ c0) : Calls Try.prog 13 #[.string x, .slice A0 l.length c0] w (AllTrue w) := by
  by_cases h : 300 < l.length
  · exact folds_many x A0 _ c0 w h
  · exact folds_main x A0 c0 l w (by omega) hA hc0
end Go.Proofs.Ytncnloaclpaefaa.Folds
