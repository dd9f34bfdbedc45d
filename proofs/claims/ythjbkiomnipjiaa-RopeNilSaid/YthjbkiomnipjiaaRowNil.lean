/- The row of RopeNil: the law returns true, and each argument reads behind the call as it read before. For every input; no condition. -/
import Derived.Test.YthjbkiomnipjiaaRows
import Derived.Test.YthjbkiomnipjiaaLawNil
import Derived.Test.YthjbkiomnipjiaaLook
import Derived.WalkKit
import Derived.ProofKit
import Derived.OpenShut
import Derived.ShutString
import Derived.ChangeOld
import Derived.Below
import Derived.SizedLaws
import Derived.Lib.SmallJoins
namespace Go.Proofs.Ythjbkiomnipjiaa.ropeNil
open Go.ChangeShapes Go.WideShapes Go.ChangeAt Go.RowKit
open Go.ChangeMaps (open_string shut_string)
set_option linter.unusedVariables false
theorem own : ownKnob Try.prog.godebug = none := by kernel_rfl
theorem cells36 : Try.prog.cellsOf 36 = 3 := by kernel_rfl
set_option maxRecDepth 100000 in
theorem lifted (os : Os) (started : os.Started) (H : Type) (enc : TypeId × Value → H) :
    ReturnsInHanded {} Try.checked os 11 .any (Rows.ropeNilSpec.pre6 enc Try.prog Try.f11 Rows.ropeNilRow.domain false) (Rows.ropeNilSpec.post enc Try.prog Try.f11 false true false false) := by
  refine returnsInHanded_of_change_sized (C := Try.checked) own started (by kernel_rfl) Try.func11
    (ChangeSpec.witness6 (enc := enc) (C := Try.checked) false ⟨#[], #[.agg #[.int .i64 0, .int .i64 0, .int .i64 0, .int .i64 0, .int .i64 0], .agg #[.int .i64 0, .int .i64 0, .string ByteArray.empty]], []⟩ 8 (by kernel_rfl) (by kernel_rfl) (by kernel_rfl) (by kernel_rfl)) ?_
  intro W base args ds gs before hval0 hW hcnd hsz0 _
  have hsz : (DataW.weightsEach Try.prog (Try.f11.params.toList ++ Rows.ropeNilSpec.plain.varTypes Try.prog) (ds ++ gs)).all (· ≤ reachBytes) = true := hsz0
  have hval : ∀ (j : Nat) t v, Try.f11.params[j]? = some t → args[j]? = some v → Value.okWide Try.prog W .any base t v := hval0
  have hW' := hW
  obtain ⟨p, q, hA0, hV, rfl, hfz, hnd⟩ := hW
  have hA : DataW.TrodAll enc Try.prog W 0 (fun _ => true) true Try.f11.params.toList args.toList ds p := hA0
  rw [Try.params11] at hA hval hsz
  obtain ⟨v0, vs0, d0, ds0, p0, q0, hargs, rfl, rfl, h0, r0⟩ := trodAll_cons hA
  obtain ⟨v1, vs1, d1, ds1, p1, q1, rfl, rfl, rfl, h1, r1⟩ := trodAll_cons r0
  obtain ⟨rfl, rfl, rfl⟩ := trodAll_nil r1
  obtain rfl : args = #[v0, v1] := by cases args; simp_all
  obtain ⟨rfl, rfl⟩ := trodVars_none hV
  obtain ⟨a00, a01, a02, a03, a04, rfl, rfl, rfl, w00, w01, w02, w03, w04⟩ := open_look (hval 0 54 v0 rfl rfl) h0
  obtain ⟨c10, c11, c12, z10, z11, z12, m1, rfl, rfl, rfl, k10, k11, k12⟩ := Joins.open_agg3 Try.underlying36 (by kernel_rfl) cells36 (hval 1 36 v1 rfl rfl) h1
  obtain ⟨a10, e10, rfl, w10⟩ := DataW.trod_int Try.underlying3 k10
  obtain rfl : c10 = .int .i64 a10 := by simpa using e10
  obtain ⟨a11, e11, rfl, w11⟩ := DataW.trod_int Try.underlying3 k11
  obtain rfl : c11 = .int .i64 a11 := by simpa using e11
  obtain ⟨a12, e12, rfl, w12⟩ := DataW.trod_string Try.underlying9 k12
  obtain rfl : c12 = .string a12 := by simpa using e12
  clear hA0 hval0 hsz0 hsz
  refine (law_nil a00 a01 a02 a03 a04 a10 a11 a12 W).mono fun e W' ⟨he, bel⟩ => ?_
  subst he
  exact ⟨_, rfl, _, _, _, [], _, [], hW', trodAll_mk1 (shut_bool Try.underlying4 _), (trodAll_cons_mk (shut_look w00 w01 w02 w03 w04) (trodAll_cons_mk (Joins.shut_agg3 Try.underlying36 (by kernel_rfl) cells36 (Joins.field_of_Trod (shut_int Try.underlying3 w10) rfl) (Joins.field_of_Trod (shut_int Try.underlying3 w11) rfl) (Joins.field_of_Trod (shut_string Try.underlying9 w12) rfl)) trodAll_mk0)), rfl, bel.frame _, fun h => by cases h⟩
theorem over : Rows.ropeNilRow.holds Try.pinned (OpenSpec.ofChange Rows.ropeNilSpec) :=
  OpenClaim.holds_of_wide 11 Try.f11 rfl rfl rfl rfl rfl rfl rfl ⟨rfl, rfl, rfl, rfl, rfl⟩ rfl rfl rfl rfl rfl (by kernel_rfl) Try.func11 (by kernel_rfl)
    (of_decide_eq_true (by kernel_rfl)) (by unfold Func.isWrapper; first | (rw [if_pos (by decide +kernel)]; kernel_rfl) | (rw [if_neg (by decide +kernel)]; exact ⟨rfl, rfl⟩))
    (fun os started H enc _ => lifted os started H enc)
theorem proved : Rows.RopeNilSaid := over
end Go.Proofs.Ythjbkiomnipjiaa.ropeNil
namespace Go.Proofs.Ythjbkiomnipjiaa
/-- The row, under a short name, for the claim. -/
theorem ropeNil_holds : Rows.RopeNilSaid := ropeNil.proved
#print axioms ropeNil_holds
end Go.Proofs.Ythjbkiomnipjiaa
