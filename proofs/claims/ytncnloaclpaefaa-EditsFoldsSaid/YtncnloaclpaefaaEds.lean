/- A slice of edits that comes in: what memory holds of it. -/
import Derived.Test.YtncnloaclpaefaaPEditsFoldsx
import Derived.Lib.SmallJoins
namespace Go.Proofs.Ytncnloaclpaefaa
open Go Go.ChangeShapes Go.WideShapes Go.RowKit Go.Deep Go.Joins
open Go.Proofs.YtncnloaclpaefaaW.PrintWords (Kd ReadsRow)
theorem cells36 : Try.prog.cellsOf 23 = 3 := by kernel_rfl
theorem one3 : Try.prog.cellsOf 3 = 1 := by kernel_rfl
theorem one9 : Try.prog.cellsOf 9 = 1 := by kernel_rfl
set_option maxRecDepth 100000 in
theorem open_edits {H : Type} {enc : TypeId × Value → H} {w : World} {base : Nat} {spare : Nat → Bool} {held : Bool} {r : Reach} {b0 : Nat} {v : Value} {d : DataW H} {p : List MemPlace} (hv : Value.okWide Try.prog w r b0 44 v) (h : DataW.Trod enc Try.prog w base spare held 44 v d p) :
    ∃ A cap l, v = .slice A l.length cap ∧ Kd.C PEditsFolds.k23 w A l.length l ∧ l.length ≤ cap := by
  obtain ⟨a, len, cap, rfl⟩ := okWide_slice Try.underlying44 hv
  obtain ⟨fuel, hf⟩ := h
  have hf' : DataW.trod enc Try.prog w base spare held fuel 44 [.slice a len cap] = some (d, p) := by simpa [Value.cells] using hf
  rcases open_slice Try.underlying44 hf' with ⟨h1, _⟩ | ⟨a', len', cap', m, n, D, Pl, h1, hb, hl, hm, hmm, _, hx⟩
  · simp only [List.cons.injEq, Value.slice.injEq] at h1
    obtain ⟨⟨rfl, rfl, rfl⟩, _⟩ := h1
    exact ⟨none, 0, [], rfl, Kd.C_nil _ _, Nat.le_refl _⟩
  · simp only [List.cons.injEq, Value.slice.injEq] at h1
    obtain ⟨⟨rfl, rfl, rfl⟩, _⟩ := h1
    have hlm : len ≤ m := by rw [hmm]; split <;> omega
    have each : ∀ i, i < len → ∃ x : PEditsFolds.S23, ∀ j u, ([Value.int .i64 x.f0, .int .i64 x.f1, .string x.f2])[j]? = some u → w.cell? (a'.add (i * 3 + j)) = some u := by
      intro i hi
      obtain ⟨cs', g1, g2⟩ := hx i (by omega)
      rw [cells36] at g1
      obtain ⟨_, hlen, hcell⟩ := World.cells?_some g1
      obtain ⟨y0, y1, y2, n', _, _, k0, k1, k2⟩ := trod_struct3 Try.underlying23 g2
      match cs', hlen with
      | [v0, v1, v2], _ =>
        have e0 : DataW.trod enc Try.prog w base spare held n' 3 [v0] = some y0 := by simpa [one3] using k0
        have e1 : DataW.trod enc Try.prog w base spare held n' 3 [v1] = some y1 := by simpa [one3] using k1
        have e2 : DataW.trod enc Try.prog w base spare held n' 9 [v2] = some y2 := by simpa [one9] using k2
        obtain ⟨x0, f0, rfl, _⟩ := DataW.trod_int Try.underlying3 e0
        obtain ⟨x1, f1, rfl, _⟩ := DataW.trod_int Try.underlying3 e1
        obtain ⟨x2, f2, rfl, _⟩ := DataW.trod_string Try.underlying9 e2
        obtain rfl : v0 = .int .i64 x0 := by simpa using f0
        obtain rfl : v1 = .int .i64 x1 := by simpa using f1
        obtain rfl : v2 = .string x2 := by simpa using f2
        refine ⟨⟨x0, x1, x2⟩, ?_⟩
        intro j u hj
        have hj3 : j < 3 := by
          rcases Nat.lt_or_ge j 3 with h | h
          · exact h
          · rw [List.getElem?_eq_none (by simpa using h)] at hj
            cases hj
        have hc := hcell j hj3
        rw [add_add] at hc
        rw [hc]
        exact hj
    haveI : Inhabited PEditsFolds.S23 := ⟨PEditsFolds.z23⟩
    obtain ⟨q, hq⟩ := choose_lt each
    refine ⟨some a', cap, (List.range len).map q, ?_, ⟨rfl, ?_, ?_⟩, ?_⟩
    · simp
    · simp only [List.length_map, List.length_range]
      have : maxLen ≤ 9223372036854775807 := by unfold maxLen; omega
      omega
    · intro _
      refine ⟨a', rfl, ?_⟩
      intro j p hp
      have hj : j < len := by
        rcases Nat.lt_or_ge j len with h | h
        · exact h
        · rw [List.getElem?_eq_none (by simpa using h)] at hp
          cases hp
      have : p = q j := by simpa [hj] using hp.symm
      subst this
      exact ⟨_, rfl, PEditsFolds.k23_mk w (q j), fun i u hu => hq j hj i u hu⟩
    · simpa using hl
end Go.Proofs.Ytncnloaclpaefaa
