/- A Look by value, opened and shut: five numbers; it reads alike in every world. -/
import Derived.Test.YthjbkiomnipjiaaProg
import Derived.Lib.SmallJoins
set_option linter.unusedVariables false
set_option linter.unusedSimpArgs false
namespace Go.Proofs.Ythjbkiomnipjiaa
open Go Go.ChangeShapes Go.WideShapes Go.RowKit Go.Deep Go.Joins
theorem cells54 : Try.prog.cellsOf 54 = 5 := by kernel_rfl
theorem cells45 : Try.prog.cellsOf 45 = 2 := by kernel_rfl
theorem cells52 : Try.prog.cellsOf 52 = 2 := by kernel_rfl
theorem cells3 : Try.prog.cellsOf 3 = 1 := by kernel_rfl
theorem array5 {α : Type} {cs : Array α} (h : cs.size = 5) : ∃ c0 c1 c2 c3 c4, cs = #[c0, c1, c2, c3, c4] := by
  obtain ⟨l⟩ := cs
  match l, h with
  | [c0, c1, c2, c3, c4], _ => exact ⟨c0, c1, c2, c3, c4, rfl⟩
section
variable {H : Type} {enc : TypeId × Value → H} {w : World} {base : Nat} {spare : Nat → Bool} {held : Bool}
set_option maxRecDepth 100000 in
theorem open_look {r : Reach} {b0 : Nat} {v : Value} {d : DataW H} {p : List MemPlace} (hv : Value.okWide Try.prog w r b0 54 v) (h : DataW.Trod enc Try.prog w base spare held 54 v d p) :
    ∃ a b c l m : Int, v = .agg #[.int .i64 a, .int .i64 b, .int .i64 c, .int .i64 l, .int .i64 m] ∧ p = [] ∧
      d = .agg [.lit (.int .i64 a), .agg [.lit (.int .i64 b), .lit (.int .i64 c)], .agg [.lit (.int .i64 l), .lit (.int .i64 m)]] ∧
      (Lit.int .i64 a).wf = true ∧ (Lit.int .i64 b).wf = true ∧ (Lit.int .i64 c).wf = true ∧ (Lit.int .i64 l).wf = true ∧ (Lit.int .i64 m).wf = true := by
  obtain ⟨cs, rfl, hsz⟩ := okWide_struct Try.underlying54 hv
  rw [cells54] at hsz
  obtain ⟨c0, c1, c2, c3, c4, rfl⟩ := array5 hsz
  obtain ⟨fuel, hf⟩ := h
  obtain ⟨y0, y1, y2, n, hx, _, h0, h1, h2⟩ := trod_struct3 Try.underlying54 hf
  simp only [Prod.mk.injEq] at hx
  obtain ⟨z0, z1, n1, g1, _, k0, k1⟩ := trod_struct2 Try.underlying45 h1
  obtain ⟨z2, z3, n2, g2, _, k2, k3⟩ := trod_struct2 Try.underlying52 h2
  have e0 : DataW.trod enc Try.prog w base spare held n 3 [c0] = some y0 := by simpa [Value.cells, cells3] using h0
  have e1 : DataW.trod enc Try.prog w base spare held n1 3 [c1] = some z0 := by simpa [Value.cells, cells3, cells45] using k0
  have e2 : DataW.trod enc Try.prog w base spare held n1 3 [c2] = some z1 := by simpa [Value.cells, cells3, cells45] using k1
  have e3 : DataW.trod enc Try.prog w base spare held n2 3 [c3] = some z2 := by simpa [Value.cells, cells3, cells52] using k2
  have e4 : DataW.trod enc Try.prog w base spare held n2 3 [c4] = some z3 := by simpa [Value.cells, cells3, cells52] using k3
  obtain ⟨a, f0, rfl, w0⟩ := DataW.trod_int Try.underlying3 e0
  obtain ⟨b, f1, rfl, w1⟩ := DataW.trod_int Try.underlying3 e1
  obtain ⟨c, f2, rfl, w2⟩ := DataW.trod_int Try.underlying3 e2
  obtain ⟨l, f3, rfl, w3⟩ := DataW.trod_int Try.underlying3 e3
  obtain ⟨m, f4, rfl, w4⟩ := DataW.trod_int Try.underlying3 e4
  obtain rfl : c0 = .int .i64 a := by simpa using f0
  obtain rfl : c1 = .int .i64 b := by simpa using f1
  obtain rfl : c2 = .int .i64 c := by simpa using f2
  obtain rfl : c3 = .int .i64 l := by simpa using f3
  obtain rfl : c4 = .int .i64 m := by simpa using f4
  refine ⟨a, b, c, l, m, rfl, ?_, ?_, w0, w1, w2, w3, w4⟩
  · rw [hx.2, g1, g2]; rfl
  · rw [hx.1, g1, g2]
theorem shut_look {a b c l m : Int} (w0 : (Lit.int .i64 a).wf = true) (w1 : (Lit.int .i64 b).wf = true) (w2 : (Lit.int .i64 c).wf = true) (w3 : (Lit.int .i64 l).wf = true) (w4 : (Lit.int .i64 m).wf = true) :
    DataW.Trod enc Try.prog w base spare held 54 (.agg #[.int .i64 a, .int .i64 b, .int .i64 c, .int .i64 l, .int .i64 m]) (.agg [.lit (.int .i64 a), .agg [.lit (.int .i64 b), .lit (.int .i64 c)], .agg [.lit (.int .i64 l), .lit (.int .i64 m)]]) [] := by
  have t1 := trod_struct2_mk (enc := enc) (w := w) (base := base) (spare := spare) (held := held) (n := 1) (cs := [.int .i64 b, .int .i64 c]) Try.underlying45 (by rw [cells45]; rfl) (y0 := (.lit (.int .i64 b), [])) (y1 := (.lit (.int .i64 c), []))
    (by simpa [cells3] using trod_int_mk (P := Try.prog) (t := 3) 0 Try.underlying3 w1) (by simpa [cells3] using trod_int_mk (P := Try.prog) (t := 3) 0 Try.underlying3 w2)
  have t2 := trod_struct2_mk (enc := enc) (w := w) (base := base) (spare := spare) (held := held) (n := 1) (cs := [.int .i64 l, .int .i64 m]) Try.underlying52 (by rw [cells52]; rfl) (y0 := (.lit (.int .i64 l), [])) (y1 := (.lit (.int .i64 m), []))
    (by simpa [cells3] using trod_int_mk (P := Try.prog) (t := 3) 0 Try.underlying3 w3) (by simpa [cells3] using trod_int_mk (P := Try.prog) (t := 3) 0 Try.underlying3 w4)
  have t0 := trod_struct3_mk (enc := enc) (w := w) (base := base) (spare := spare) (held := held) (n := 2) (cs := [.int .i64 a, .int .i64 b, .int .i64 c, .int .i64 l, .int .i64 m]) Try.underlying54 (by rw [cells54]; rfl)
    (y0 := (.lit (.int .i64 a), [])) (y1 := (.agg [.lit (.int .i64 b), .lit (.int .i64 c)], [])) (y2 := (.agg [.lit (.int .i64 l), .lit (.int .i64 m)], []))
    (by simpa [cells3] using trod_int_mk (P := Try.prog) (t := 3) 1 Try.underlying3 w0) (by simpa [cells45] using t1) (by simpa [cells52] using t2)
  exact ⟨_, by simpa [Value.cells] using t0⟩
end
end Go.Proofs.Ythjbkiomnipjiaa
