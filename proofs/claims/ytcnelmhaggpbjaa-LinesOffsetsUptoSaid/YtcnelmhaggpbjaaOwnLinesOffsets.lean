/- The row of LinesOffsets (its second form: the arguments hold at most 1048576 values and letters): the law returns true, and each argument reads behind the call as it read before. -/
import Derived.Test.YtcnelmhaggpbjaaRows
import Derived.Test.YtcnelmhaggpbjaaPLinesOffsetsx
import Derived.Test.YtcnelmhaggpbjaaPureLinesOffsets
import Derived.WalkKit
import Derived.ProofKit
import Derived.OpenShut
import Derived.ShutString
import Derived.ChangeOld
import Derived.Below
import Derived.SizedLaws
import Derived.Lib.SmallJoins
import Derived.JoinedCond
namespace Go.Proofs.Ytcnelmhaggpbjaa.linesOffsetsUpto
open Go.ChangeShapes Go.WideShapes Go.ChangeAt Go.RowKit
open Go.ChangeMaps (open_string shut_string)
set_option linter.unusedVariables false
theorem own : ownKnob Try.prog.godebug = none := by kernel_rfl
theorem cells26 : Try.prog.cellsOf 26 = 2 := by kernel_rfl
set_option maxRecDepth 100000 in
theorem lifted (os : Os) (started : os.Started) (H : Type) (enc : TypeId × Value → H) (F : Stop.Interp) :
    ReturnsInHanded {} Try.checked os 5 .any ((Rows.OpenSpec.upto Rows.linesOffsetsSpec).pre6 enc Try.prog Try.f5 Rows.linesOffsetsUptoRow.domain false) (((Rows.OpenSpec.upto Rows.linesOffsetsSpec).at F).post enc Try.prog Try.f5 false true false false) := by
  refine returnsInHanded_of_cond (C := Try.checked) (s := Rows.OpenSpec.upto Rows.linesOffsetsSpec) (k := Rows.uptoSmall) rfl own started (by kernel_rfl) Try.func5
    (OpenSpec.witness (enc := enc) (C := Try.checked) (s := Rows.OpenSpec.upto Rows.linesOffsetsSpec) (k := Rows.uptoSmall) rfl false ⟨#[], #[.string ByteArray.empty, .agg #[.int .i64 0, .int .i64 0]], []⟩ 8 (by kernel_rfl) (by kernel_rfl) (by kernel_rfl)
      (x := ([.lit (.string []), .agg [.lit (.int .i64 0), .lit (.int .i64 0)]], [], [])) (by kernel_rfl) rfl (by kernel_rfl)) ?_
  intro W base args ds gs before hval0 hW _ hk _
  have hval : ∀ (j : Nat) t v, Try.f5.params[j]? = some t → args[j]? = some v → Value.okWide Try.prog W .any base t v := hval0
  have hW' := hW
  obtain ⟨p, q, hA0, hV, rfl, hfz, hnd⟩ := hW
  have hA : DataW.TrodAll enc Try.prog W 0 (fun _ => true) true Try.f5.params.toList args.toList ds p := hA0
  rw [Try.params5] at hA hval
  obtain ⟨v0, vs0, d0, ds0, p0, q0, hargs, rfl, rfl, h0, r0⟩ := trodAll_cons hA
  obtain ⟨v1, vs1, d1, ds1, p1, q1, rfl, rfl, rfl, h1, r1⟩ := trodAll_cons r0
  obtain ⟨rfl, rfl, rfl⟩ := trodAll_nil r1
  obtain rfl : args = #[v0, v1] := by cases args; simp_all
  obtain ⟨rfl, rfl⟩ := trodVars_none hV
  obtain ⟨a0, rfl, rfl, rfl, y0⟩ := open_string Try.underlying9 (hval 0 9 v0 rfl rfl) h0
  obtain ⟨c10, c11, z10, z11, m1, rfl, rfl, rfl, k10, k11⟩ := Joins.open_agg2 Try.underlying26 (by kernel_rfl) cells26 (hval 1 26 v1 rfl rfl) h1
  obtain ⟨a10, e10, rfl, w10⟩ := DataW.trod_int Try.underlying3 k10
  obtain rfl : c10 = .int .i64 a10 := by simpa using e10
  obtain ⟨a11, e11, rfl, w11⟩ := DataW.trod_int Try.underlying3 k11
  obtain rfl : c11 = .int .i64 a11 := by simpa using e11
  have hb := of_decide_eq_true hk
  simp only [List.cons_append, List.nil_append, Rows.uptoBulkAll, Rows.uptoBulk, Array.length_toList] at hb
  have w0 : a0.size ≤ 1048576 := by
    have e : a0.data.size = a0.size := rfl
    omega
  clear hb hk
  clear hA0 hval0
  obtain ⟨k, hk⟩ := Pure.LinesOffsets a0 a10 a11 w0 w10 w11
  refine (PLinesOffsets.rootstocklaw02_LinesOffsets.calls k a0 a10 a11 true W hk).mono fun e W' ⟨he, bel⟩ => ?_
  subst he
  exact ⟨_, rfl, _, _, _, [], _, [], hW', trodAll_mk1 (shut_bool Try.underlying4 _), (trodAll_cons_mk (shut_string Try.underlying9 y0) (trodAll_cons_mk (Joins.shut_agg2 Try.underlying26 (by kernel_rfl) cells26 (Joins.field_of_Trod (shut_int Try.underlying3 w10) rfl) (Joins.field_of_Trod (shut_int Try.underlying3 w11) rfl)) trodAll_mk0)), rfl, bel.frame _, fun h => by cases h⟩
theorem over : Rows.linesOffsetsUptoRow.holds Try.pinned (Rows.OpenSpec.upto Rows.linesOffsetsSpec) :=
  OpenClaim.holds_of_cond 5 Try.f5 rfl rfl rfl rfl rfl rfl rfl ⟨rfl, rfl, rfl, rfl, rfl⟩ rfl rfl rfl rfl rfl (by kernel_rfl) Try.func5 (by kernel_rfl)
    (of_decide_eq_true (by kernel_rfl)) (by unfold Func.isWrapper; first | (rw [if_pos (by decide +kernel)]; kernel_rfl) | (rw [if_neg (by decide +kernel)]; exact ⟨rfl, rfl⟩))
    (fun os started H enc _ F => lifted os started H enc F)
theorem proved : Rows.LinesOffsetsUptoSaid := over
end Go.Proofs.Ytcnelmhaggpbjaa.linesOffsetsUpto
namespace Go.Proofs.Ytcnelmhaggpbjaa
/-- The row, under a short name, for the claim. -/
theorem linesOffsetsUpto_holds : Rows.LinesOffsetsUptoSaid := linesOffsetsUpto.proved
#print axioms linesOffsetsUpto_holds
end Go.Proofs.Ytcnelmhaggpbjaa
