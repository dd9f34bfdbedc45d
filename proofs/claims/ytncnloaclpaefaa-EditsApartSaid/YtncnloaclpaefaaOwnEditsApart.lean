/- The row of EditsApart: for every input the law returns true, and each argument reads behind the call as it read before. No condition. -/
import Derived.Test.YtncnloaclpaefaaRows
import Derived.Test.YtncnloaclpaefaaPEditsApartx
import Derived.Test.YtncnloaclpaefaaPureEditsApart
import Derived.WalkKit
import Derived.ProofKit
import Derived.OpenShut
import Derived.ShutString
import Derived.ChangeOld
import Derived.Below
import Derived.SizedLaws
import Derived.Lib.SmallJoins
namespace Go.Proofs.Ytncnloaclpaefaa.editsApart
open Go.ChangeShapes Go.WideShapes Go.ChangeAt Go.RowKit
open Go.ChangeMaps (open_string shut_string)
set_option linter.unusedVariables false
theorem own : ownKnob Try.prog.godebug = none := by kernel_rfl
theorem cells23 : Try.prog.cellsOf 23 = 3 := by kernel_rfl
set_option maxRecDepth 100000 in
theorem lifted (os : Os) (started : os.Started) (H : Type) (enc : TypeId × Value → H) :
    ReturnsInHanded {} Try.checked os 12 .any (Rows.editsApartSpec.pre6 enc Try.prog Try.f12 Rows.editsApartRow.domain false) (Rows.editsApartSpec.post enc Try.prog Try.f12 false true false false) := by
  refine returnsInHanded_of_change_sized (C := Try.checked) own started (by kernel_rfl) Try.func12
    (ChangeSpec.witness6 (enc := enc) (C := Try.checked) false ⟨#[], #[.string ByteArray.empty, .agg #[.int .i64 0, .int .i64 0, .string ByteArray.empty], .agg #[.int .i64 0, .int .i64 0, .string ByteArray.empty]], []⟩ 8 (by kernel_rfl) (by kernel_rfl) (by kernel_rfl) (by kernel_rfl)) ?_
  intro W base args ds gs before hval0 hW hcnd hsz0 _
  have hsz : (DataW.weightsEach Try.prog (Try.f12.params.toList ++ Rows.editsApartSpec.plain.varTypes Try.prog) (ds ++ gs)).all (· ≤ reachBytes) = true := hsz0
  have hval : ∀ (j : Nat) t v, Try.f12.params[j]? = some t → args[j]? = some v → Value.okWide Try.prog W .any base t v := hval0
  have hW' := hW
  obtain ⟨p, q, hA0, hV, rfl, hfz, hnd⟩ := hW
  have hA : DataW.TrodAll enc Try.prog W 0 (fun _ => true) true Try.f12.params.toList args.toList ds p := hA0
  rw [Try.params12] at hA hval hsz
  obtain ⟨v0, vs0, d0, ds0, p0, q0, hargs, rfl, rfl, h0, r0⟩ := trodAll_cons hA
  obtain ⟨v1, vs1, d1, ds1, p1, q1, rfl, rfl, rfl, h1, r1⟩ := trodAll_cons r0
  obtain ⟨v2, vs2, d2, ds2, p2, q2, rfl, rfl, rfl, h2, r2⟩ := trodAll_cons r1
  obtain ⟨rfl, rfl, rfl⟩ := trodAll_nil r2
  obtain rfl : args = #[v0, v1, v2] := by cases args; simp_all
  obtain ⟨rfl, rfl⟩ := trodVars_none hV
  obtain ⟨a0, rfl, rfl, rfl, y0⟩ := open_string Try.underlying9 (hval 0 9 v0 rfl rfl) h0
  have w0 : a0.size ≤ 140737488351232 := by
    have z := sized_string hsz (j := 0) (t := 9) rfl rfl
    rw [Array.length_toList] at z
    exact z
  obtain ⟨c10, c11, c12, z10, z11, z12, m1, rfl, rfl, rfl, k10, k11, k12⟩ := Joins.open_agg3 Try.underlying23 (by kernel_rfl) cells23 (hval 1 23 v1 rfl rfl) h1
  obtain ⟨a10, e10, rfl, w10⟩ := DataW.trod_int Try.underlying3 k10
  obtain rfl : c10 = .int .i64 a10 := by simpa using e10
  obtain ⟨a11, e11, rfl, w11⟩ := DataW.trod_int Try.underlying3 k11
  obtain rfl : c11 = .int .i64 a11 := by simpa using e11
  obtain ⟨a12, e12, rfl, w12⟩ := DataW.trod_string Try.underlying9 k12
  obtain rfl : c12 = .string a12 := by simpa using e12
  obtain ⟨c20, c21, c22, z20, z21, z22, m2, rfl, rfl, rfl, k20, k21, k22⟩ := Joins.open_agg3 Try.underlying23 (by kernel_rfl) cells23 (hval 2 23 v2 rfl rfl) h2
  obtain ⟨a20, e20, rfl, w20⟩ := DataW.trod_int Try.underlying3 k20
  obtain rfl : c20 = .int .i64 a20 := by simpa using e20
  obtain ⟨a21, e21, rfl, w21⟩ := DataW.trod_int Try.underlying3 k21
  obtain rfl : c21 = .int .i64 a21 := by simpa using e21
  obtain ⟨a22, e22, rfl, w22⟩ := DataW.trod_string Try.underlying9 k22
  obtain rfl : c22 = .string a22 := by simpa using e22
  clear hA0 hval0 hsz0 hsz
  obtain ⟨k, hk⟩ := Pure.EditsApart a0 a10 a11 a12 a20 a21 a22 w0 w10 w11 w12 w20 w21 w22
  refine (PEditsApart.rootstocklaw01_EditsApart.calls k a0 a10 a11 a12 a20 a21 a22 true W hk).mono fun e W' ⟨he, bel⟩ => ?_
  subst he
  exact ⟨_, rfl, _, _, _, [], _, [], hW', trodAll_mk1 (shut_bool Try.underlying4 _), (trodAll_cons_mk (shut_string Try.underlying9 y0) (trodAll_cons_mk (Joins.shut_agg3 Try.underlying23 (by kernel_rfl) cells23 (Joins.field_of_Trod (shut_int Try.underlying3 w10) rfl) (Joins.field_of_Trod (shut_int Try.underlying3 w11) rfl) (Joins.field_of_Trod (shut_string Try.underlying9 w12) rfl)) (trodAll_cons_mk (Joins.shut_agg3 Try.underlying23 (by kernel_rfl) cells23 (Joins.field_of_Trod (shut_int Try.underlying3 w20) rfl) (Joins.field_of_Trod (shut_int Try.underlying3 w21) rfl) (Joins.field_of_Trod (shut_string Try.underlying9 w22) rfl)) trodAll_mk0))), rfl, bel.frame _, fun h => by cases h⟩
theorem over : Rows.editsApartRow.holds Try.pinned (OpenSpec.ofChange Rows.editsApartSpec) :=
  OpenClaim.holds_of_wide 12 Try.f12 rfl rfl rfl rfl rfl rfl rfl ⟨rfl, rfl, rfl, rfl, rfl⟩ rfl rfl rfl rfl rfl (by kernel_rfl) Try.func12 (by kernel_rfl)
    (of_decide_eq_true (by kernel_rfl)) (by unfold Func.isWrapper; first | (rw [if_pos (by decide +kernel)]; kernel_rfl) | (rw [if_neg (by decide +kernel)]; exact ⟨rfl, rfl⟩))
    (fun os started H enc _ => lifted os started H enc)
theorem proved : Rows.EditsApartSaid := over
end Go.Proofs.Ytncnloaclpaefaa.editsApart
namespace Go.Proofs.Ytncnloaclpaefaa
/-- The row, under a short name, for the claim. -/
theorem editsApart_holds : Rows.EditsApartSaid := editsApart.proved
#print axioms editsApart_holds
end Go.Proofs.Ytncnloaclpaefaa
