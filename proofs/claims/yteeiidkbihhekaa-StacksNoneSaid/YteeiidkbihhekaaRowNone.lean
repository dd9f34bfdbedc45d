/- The row of StacksNone: the law returns true, and each argument reads behind the call as it read before. For every input; no condition. -/
import Derived.Test.YteeiidkbihhekaaRows
import Derived.Test.YteeiidkbihhekaaLawNone
import Derived.Test.YteeiidkbihhekaaSkR
import Derived.WalkKit
import Derived.ProofKit
import Derived.OpenShut
import Derived.ShutString
import Derived.ChangeOld
import Derived.Below
import Derived.SizedLaws
import Derived.Lib.SmallJoins
namespace Go.Proofs.Yteeiidkbihhekaa.stacksNone
open Go.ChangeShapes Go.WideShapes Go.ChangeAt Go.RowKit
open Go.ChangeMaps (open_string shut_string)
set_option linter.unusedVariables false
theorem own : ownKnob Try.prog.godebug = none := by kernel_rfl
set_option maxRecDepth 100000 in
theorem lifted (os : Os) (started : os.Started) (H : Type) (enc : TypeId × Value → H) :
    ReturnsInHanded {} Try.checked os 7 .any (Rows.stacksNoneSpec.pre6 enc Try.prog Try.f7 Rows.stacksNoneRow.domain false) (Rows.stacksNoneSpec.post enc Try.prog Try.f7 false true false false) := by
  refine returnsInHanded_of_change_sized (C := Try.checked) own started (by kernel_rfl) Try.func7
    (ChangeSpec.witness6 (enc := enc) (C := Try.checked) false ⟨#[], #[.agg #[.int .i64 0, .int .i64 0, .int .i64 0, .int .i64 0], .agg #[.int .i64 0, .int .i64 0, .int .i64 0, .int .i64 0]], []⟩ 8 (by kernel_rfl) (by kernel_rfl) (by kernel_rfl) (by kernel_rfl)) ?_
  intro W base args ds gs before hval0 hW hcnd hsz0 _
  have hsz : (DataW.weightsEach Try.prog (Try.f7.params.toList ++ Rows.stacksNoneSpec.plain.varTypes Try.prog) (ds ++ gs)).all (· ≤ reachBytes) = true := hsz0
  have hval : ∀ (j : Nat) t v, Try.f7.params[j]? = some t → args[j]? = some v → Value.okWide Try.prog W .any base t v := hval0
  have hW' := hW
  obtain ⟨p, q, hA0, hV, rfl, hfz, hnd⟩ := hW
  have hA : DataW.TrodAll enc Try.prog W 0 (fun _ => true) true Try.f7.params.toList args.toList ds p := hA0
  rw [Try.params7] at hA hval hsz
  obtain ⟨v0, vs0, d0, ds0, p0, q0, hargs, rfl, rfl, h0, r0⟩ := trodAll_cons hA
  obtain ⟨v1, vs1, d1, ds1, p1, q1, rfl, rfl, rfl, h1, r1⟩ := trodAll_cons r0
  obtain ⟨rfl, rfl, rfl⟩ := trodAll_nil r1
  obtain rfl : args = #[v0, v1] := by cases args; simp_all
  obtain ⟨rfl, rfl⟩ := trodVars_none hV
  obtain ⟨c00, c01, c02, c03, z00, z01, z02, z03, m0, rfl, rfl, rfl, k00, k01, k02, k03⟩ := Joins.open_agg4 Try.underlying48 (by kernel_rfl) cells48 (hval 0 48 v0 rfl rfl) h0
  obtain ⟨a00, e00, rfl, w00⟩ := DataW.trod_int Try.underlying3 k00
  obtain rfl : c00 = .int .i64 a00 := by simpa using e00
  obtain ⟨a01, e01, rfl, w01⟩ := DataW.trod_int Try.underlying3 k01
  obtain rfl : c01 = .int .i64 a01 := by simpa using e01
  obtain ⟨a02, e02, rfl, w02⟩ := DataW.trod_int Try.underlying3 k02
  obtain rfl : c02 = .int .i64 a02 := by simpa using e02
  obtain ⟨a03, e03, rfl, w03⟩ := DataW.trod_int Try.underlying3 k03
  obtain rfl : c03 = .int .i64 a03 := by simpa using e03
  obtain ⟨c10, c11, c12, c13, z10, z11, z12, z13, m1, rfl, rfl, rfl, k10, k11, k12, k13⟩ := Joins.open_agg4 Try.underlying70 (by kernel_rfl) cells70 (hval 1 70 v1 rfl rfl) h1
  obtain ⟨a10, e10, rfl, w10⟩ := DataW.trod_int Try.underlying3 k10
  obtain rfl : c10 = .int .i64 a10 := by simpa using e10
  obtain ⟨a11, e11, rfl, w11⟩ := DataW.trod_int Try.underlying3 k11
  obtain rfl : c11 = .int .i64 a11 := by simpa using e11
  obtain ⟨a12, e12, rfl, w12⟩ := DataW.trod_int Try.underlying3 k12
  obtain rfl : c12 = .int .i64 a12 := by simpa using e12
  obtain ⟨a13, e13, rfl, w13⟩ := DataW.trod_int Try.underlying3 k13
  obtain rfl : c13 = .int .i64 a13 := by simpa using e13
  clear hA0 hval0 hsz0 hsz
  refine (lawNone a00 a01 a02 a03 a10 a11 a12 a13 W w00 w01 w02 w03 w10 w11 w12 w13).mono fun e W' ⟨he, bel⟩ => ?_
  subst he
  exact ⟨_, rfl, _, _, _, [], _, [], hW', trodAll_mk1 (shut_bool Try.underlying4 _), (trodAll_cons_mk (Joins.shut_agg4 Try.underlying48 (by kernel_rfl) cells48 (Joins.field_of_Trod (shut_int Try.underlying3 w00) rfl) (Joins.field_of_Trod (shut_int Try.underlying3 w01) rfl) (Joins.field_of_Trod (shut_int Try.underlying3 w02) rfl) (Joins.field_of_Trod (shut_int Try.underlying3 w03) rfl)) (trodAll_cons_mk (Joins.shut_agg4 Try.underlying70 (by kernel_rfl) cells70 (Joins.field_of_Trod (shut_int Try.underlying3 w10) rfl) (Joins.field_of_Trod (shut_int Try.underlying3 w11) rfl) (Joins.field_of_Trod (shut_int Try.underlying3 w12) rfl) (Joins.field_of_Trod (shut_int Try.underlying3 w13) rfl)) trodAll_mk0)), rfl, bel.frame _, fun h => by cases h⟩
theorem over : Rows.stacksNoneRow.holds Try.pinned (OpenSpec.ofChange Rows.stacksNoneSpec) :=
  OpenClaim.holds_of_wide 7 Try.f7 rfl rfl rfl rfl rfl rfl rfl ⟨rfl, rfl, rfl, rfl, rfl⟩ rfl rfl rfl rfl rfl (by kernel_rfl) Try.func7 (by kernel_rfl)
    (of_decide_eq_true (by kernel_rfl)) (by unfold Func.isWrapper; first | (rw [if_pos (by decide +kernel)]; kernel_rfl) | (rw [if_neg (by decide +kernel)]; exact ⟨rfl, rfl⟩))
    (fun os started H enc _ => lifted os started H enc)
theorem proved : Rows.StacksNoneSaid := over
end Go.Proofs.Yteeiidkbihhekaa.stacksNone
namespace Go.Proofs.Yteeiidkbihhekaa
/-- The row, under a short name, for the claim. -/
theorem stacksNone_holds : Rows.StacksNoneSaid := stacksNone.proved
#print axioms stacksNone_holds
end Go.Proofs.Yteeiidkbihhekaa
