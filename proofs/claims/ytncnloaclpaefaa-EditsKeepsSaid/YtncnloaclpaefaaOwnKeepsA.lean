/- EditsKeeps, the function's own walk, first part: what it computes, and that more rounds tell the same. (Lines that the kit's print wrote, parted by hand, since one file would be too long for a claim.) -/
import Derived.Test.YtncnloaclpaefaaPEditsKeepsx0
import Derived.Test.YtncnloaclpaefaaPEditsKeepsx1
namespace Go.Proofs.Ytncnloaclpaefaa.PEditsKeeps
open Go.RowKit Go.Proofs.YtncnloaclpaefaaW.PrintWords Go.Proofs.YtncnloaclpaefaaW.PrintLast Go.Proofs.YtncnloaclpaefaaW.PrintMore
attribute [local go_sem] max2_int min2_int max_two min_two max_three min_three max_four min_four   -- for this text's walks alone
set_option linter.unusedVariables false
set_option linter.unusedSimpArgs false

/-! ### rootstocklaw01_EditsKeeps: function 5 -/
mutual
def rootstocklaw01_EditsKeeps.j0 : Nat → ByteArray → ByteArray → Bool → Int → Int → ByteArray → Option (Bool)
  | 0, _, _, _, _, _, _ => none
  | k + 1, x0, x5, x48, x115000, x115001, x115002 => if x48 = true then (some false) else (rootstocklaw01_EditsKeeps.l0 k x0 x5 (mx 0 (wrap64 (x115000 - 200))) x115000 x115001 x115002)
def rootstocklaw01_EditsKeeps.l0 : Nat → ByteArray → ByteArray → Int → Int → Int → ByteArray → Option (Bool)
  | 0, _, _, _, _, _, _ => none
  | k + 1, x0, x5, x7, x115000, x115001, x115002 => if x7 < x115000 then ((edits_At.f x115000 x115001 x115002 x7).bind fun t118 => (if t118 = x7 then (if 0 ≤ x7 then (if x7 < (x5.size : Int) then (if x7 < (x0.size : Int) then (if (bt x5 x7) = (bt x0 x7) then (rootstocklaw01_EditsKeeps.l0 k x0 x5 (wrap64 (x7 + 1)) x115000 x115001 x115002) else (some false)) else (none)) else (none)) else (none)) else (some false))) else (rootstocklaw01_EditsKeeps.l1 k x0 x5 x115001 x115000 x115001 x115002)
def rootstocklaw01_EditsKeeps.l1 : Nat → ByteArray → ByteArray → Int → Int → Int → ByteArray → Option (Bool)
  | 0, _, _, _, _, _, _ => none
  | k + 1, x0, x5, x8, x115000, x115001, x115002 => if x8 < (x0.size : Int) then (rootstocklaw01_EditsKeeps.j3 k x0 x5 x8 (decide (x8 < (wrap64 (x115001 + 200)))) x115000 x115001 x115002) else (rootstocklaw01_EditsKeeps.j3 k x0 x5 x8 false x115000 x115001 x115002)
def rootstocklaw01_EditsKeeps.j3 : Nat → ByteArray → ByteArray → Int → Bool → Int → Int → ByteArray → Option (Bool)
  | 0, _, _, _, _, _, _, _ => none
  | k + 1, x0, x5, x8, x85, x115000, x115001, x115002 => if x85 = true then ((edits_At.f x115000 x115001 x115002 x8).bind fun t119 => (if x8 > x115000 then (if t119 < 0 then (some false) else (if t119 ≥ (x5.size : Int) then (some false) else (if 0 ≤ t119 then (if t119 < (x5.size : Int) then (if 0 ≤ x8 then (if x8 < (x0.size : Int) then (if (bt x5 t119) = (bt x0 x8) then (rootstocklaw01_EditsKeeps.l1 k x0 x5 (wrap64 (x8 + 1)) x115000 x115001 x115002) else (some false)) else (none)) else (none)) else (none)) else (none)))) else (rootstocklaw01_EditsKeeps.l1 k x0 x5 (wrap64 (x8 + 1)) x115000 x115001 x115002))) else (if 0 ≤ x115000 then (if x115000 ≤ (x5.size : Int) then (if x115000 ≤ (x0.size : Int) then (if (x5.extract 0 (x115000 : Int).toNat).toList = (x0.extract 0 (x115000 : Int).toNat).toList then (if 0 ≤ (wrap64 (x115000 + (x115002.size : Int))) then (if (wrap64 (x115000 + (x115002.size : Int))) ≤ (x5.size : Int) then (if 0 ≤ x115001 then (if x115001 ≤ (x0.size : Int) then (if (x5.extract ((wrap64 (x115000 + (x115002.size : Int))) : Int).toNat x5.size).toList = (x0.extract (x115001 : Int).toNat x0.size).toList then ((rootstocklaw01_alive.f k).bind fun t120 => (some t120)) else (some false)) else (none)) else (none)) else (none)) else (none)) else (some false)) else (none)) else (none)) else (none))
end
def rootstocklaw01_EditsKeeps.f (k : Nat) (a0 : ByteArray) (a1_0 : Int) (a1_1 : Int) (a1_2 : ByteArray) : Option (Bool) := (edits_Apply.f k a0 a1_0 a1_1 a1_2).bind fun bt115 => (if bt115.2 = 0 then (if (bt115.1.size : Int) = (wrap64 ((wrap64 ((a0.size : Int) - (wrap64 (a1_1 - a1_0)))) + (a1_2.size : Int))) then (if 0 ≤ a1_0 then (if a1_0 ≤ (wrap64 (a1_0 + (a1_2.size : Int))) then (if (wrap64 (a1_0 + (a1_2.size : Int))) ≤ (bt115.1.size : Int) then (rootstocklaw01_EditsKeeps.j0 k a0 bt115.1 ((bt115.1.extract (a1_0 : Int).toNat ((wrap64 (a1_0 + (a1_2.size : Int))) : Int).toNat).toList != a1_2.toList) a1_0 a1_1 a1_2) else (none)) else (none)) else (none)) else (rootstocklaw01_EditsKeeps.j0 k a0 bt115.1 true a1_0 a1_1 a1_2)) else ((rootstocklaw01_alive.f k).bind fun t117 => (some t117)))
theorem rootstocklaw01_EditsKeeps.mono_l : ∀ k, (∀ y0 y1 y2 y3 y4 y5, LeO (rootstocklaw01_EditsKeeps.j0 k y0 y1 y2 y3 y4 y5) (rootstocklaw01_EditsKeeps.j0 (k + 1) y0 y1 y2 y3 y4 y5)) ∧ (∀ y0 y1 y2 y3 y4 y5, LeO (rootstocklaw01_EditsKeeps.l0 k y0 y1 y2 y3 y4 y5) (rootstocklaw01_EditsKeeps.l0 (k + 1) y0 y1 y2 y3 y4 y5)) ∧ (∀ y0 y1 y2 y3 y4 y5, LeO (rootstocklaw01_EditsKeeps.l1 k y0 y1 y2 y3 y4 y5) (rootstocklaw01_EditsKeeps.l1 (k + 1) y0 y1 y2 y3 y4 y5)) ∧ (∀ y0 y1 y2 y3 y4 y5 y6, LeO (rootstocklaw01_EditsKeeps.j3 k y0 y1 y2 y3 y4 y5 y6) (rootstocklaw01_EditsKeeps.j3 (k + 1) y0 y1 y2 y3 y4 y5 y6))
  | 0 => ⟨fun _ _ _ _ _ _ r h => by simp [rootstocklaw01_EditsKeeps.j0] at h, fun _ _ _ _ _ _ r h => by simp [rootstocklaw01_EditsKeeps.l0] at h, fun _ _ _ _ _ _ r h => by simp [rootstocklaw01_EditsKeeps.l1] at h, fun _ _ _ _ _ _ _ r h => by simp [rootstocklaw01_EditsKeeps.j3] at h⟩
  | k + 1 => by
    obtain ⟨ih0, ih1, ih2, ih3⟩ := rootstocklaw01_EditsKeeps.mono_l k
    refine ⟨?_, ?_, ?_, ?_⟩
    · intro y0 y1 y2 y3 y4 y5
      unfold rootstocklaw01_EditsKeeps.j0
      repeat' first
      | (with_reducible exact ih0 _ _ _ _ _ _)
      | (with_reducible exact ih1 _ _ _ _ _ _)
      | (with_reducible exact ih2 _ _ _ _ _ _)
      | (with_reducible exact ih3 _ _ _ _ _ _ _)
      | (with_reducible exact edits_Apply.mono _ _ _ _ _)
      | (with_reducible exact rootstocklaw01_alive.mono _)
      | (with_reducible exact LeO.refl _)
      | (with_reducible exact LeO.none _)
      | (with_reducible refine LeO.ite ?_ ?_)
      | (with_reducible refine LeO.bind ?_ (fun _ => ?_))
      | exact ih0 _ _ _ _ _ _
      | exact ih1 _ _ _ _ _ _
      | exact ih2 _ _ _ _ _ _
      | exact ih3 _ _ _ _ _ _ _
      | exact edits_Apply.mono _ _ _ _ _
      | exact rootstocklaw01_alive.mono _
      | exact LeO.none _
      | refine LeO.ite ?_ ?_
      | refine LeO.bind ?_ (fun _ => ?_)
    · intro y0 y1 y2 y3 y4 y5
      unfold rootstocklaw01_EditsKeeps.l0
      repeat' first
      | (with_reducible exact ih0 _ _ _ _ _ _)
      | (with_reducible exact ih1 _ _ _ _ _ _)
      | (with_reducible exact ih2 _ _ _ _ _ _)
      | (with_reducible exact ih3 _ _ _ _ _ _ _)
      | (with_reducible exact edits_Apply.mono _ _ _ _ _)
      | (with_reducible exact rootstocklaw01_alive.mono _)
      | (with_reducible exact LeO.refl _)
      | (with_reducible exact LeO.none _)
      | (with_reducible refine LeO.ite ?_ ?_)
      | (with_reducible refine LeO.bind ?_ (fun _ => ?_))
      | exact ih0 _ _ _ _ _ _
      | exact ih1 _ _ _ _ _ _
      | exact ih2 _ _ _ _ _ _
      | exact ih3 _ _ _ _ _ _ _
      | exact edits_Apply.mono _ _ _ _ _
      | exact rootstocklaw01_alive.mono _
      | exact LeO.none _
      | refine LeO.ite ?_ ?_
      | refine LeO.bind ?_ (fun _ => ?_)
    · intro y0 y1 y2 y3 y4 y5
      unfold rootstocklaw01_EditsKeeps.l1
      repeat' first
      | (with_reducible exact ih0 _ _ _ _ _ _)
      | (with_reducible exact ih1 _ _ _ _ _ _)
      | (with_reducible exact ih2 _ _ _ _ _ _)
      | (with_reducible exact ih3 _ _ _ _ _ _ _)
      | (with_reducible exact edits_Apply.mono _ _ _ _ _)
      | (with_reducible exact rootstocklaw01_alive.mono _)
      | (with_reducible exact LeO.refl _)
      | (with_reducible exact LeO.none _)
      | (with_reducible refine LeO.ite ?_ ?_)
      | (with_reducible refine LeO.bind ?_ (fun _ => ?_))
      | exact ih0 _ _ _ _ _ _
      | exact ih1 _ _ _ _ _ _
      | exact ih2 _ _ _ _ _ _
      | exact ih3 _ _ _ _ _ _ _
      | exact edits_Apply.mono _ _ _ _ _
      | exact rootstocklaw01_alive.mono _
      | exact LeO.none _
      | refine LeO.ite ?_ ?_
      | refine LeO.bind ?_ (fun _ => ?_)
    · intro y0 y1 y2 y3 y4 y5 y6
      unfold rootstocklaw01_EditsKeeps.j3
      repeat' first
      | (with_reducible exact ih0 _ _ _ _ _ _)
      | (with_reducible exact ih1 _ _ _ _ _ _)
      | (with_reducible exact ih2 _ _ _ _ _ _)
      | (with_reducible exact ih3 _ _ _ _ _ _ _)
      | (with_reducible exact edits_Apply.mono _ _ _ _ _)
      | (with_reducible exact rootstocklaw01_alive.mono _)
      | (with_reducible exact LeO.refl _)
      | (with_reducible exact LeO.none _)
      | (with_reducible refine LeO.ite ?_ ?_)
      | (with_reducible refine LeO.bind ?_ (fun _ => ?_))
      | exact ih0 _ _ _ _ _ _
      | exact ih1 _ _ _ _ _ _
      | exact ih2 _ _ _ _ _ _
      | exact ih3 _ _ _ _ _ _ _
      | exact edits_Apply.mono _ _ _ _ _
      | exact rootstocklaw01_alive.mono _
      | exact LeO.none _
      | refine LeO.ite ?_ ?_
      | refine LeO.bind ?_ (fun _ => ?_)
theorem rootstocklaw01_EditsKeeps.mono : ∀ a0 a1 a2 a3 k, LeO (rootstocklaw01_EditsKeeps.f k a0 a1 a2 a3) (rootstocklaw01_EditsKeeps.f (k + 1) a0 a1 a2 a3) := by
  intro a0 a1 a2 a3 k
  obtain ⟨ih0, ih1, ih2, ih3⟩ := rootstocklaw01_EditsKeeps.mono_l k
  unfold rootstocklaw01_EditsKeeps.f
  repeat' first
      | (with_reducible exact ih0 _ _ _ _ _ _)
      | (with_reducible exact ih1 _ _ _ _ _ _)
      | (with_reducible exact ih2 _ _ _ _ _ _)
      | (with_reducible exact ih3 _ _ _ _ _ _ _)
      | (with_reducible exact edits_Apply.mono _ _ _ _ _)
      | (with_reducible exact rootstocklaw01_alive.mono _)
      | (with_reducible exact LeO.refl _)
      | (with_reducible exact LeO.none _)
      | (with_reducible refine LeO.ite ?_ ?_)
      | (with_reducible refine LeO.bind ?_ (fun _ => ?_))
      | exact ih0 _ _ _ _ _ _
      | exact ih1 _ _ _ _ _ _
      | exact ih2 _ _ _ _ _ _
      | exact ih3 _ _ _ _ _ _ _
      | exact edits_Apply.mono _ _ _ _ _
      | exact rootstocklaw01_alive.mono _
      | exact LeO.none _
      | refine LeO.ite ?_ ?_
      | refine LeO.bind ?_ (fun _ => ?_)
def rootstocklaw01_EditsKeeps.T4 : Bool × List (List Nat × List Nat) := (true, [([], []), ([0], [0]), ([], []), ([2], [2]), ([], []), ([4], [4]), ([], []), ([6], [6]), ([5, 7], [5, 7]), ([3, 8], [3, 8]), ([], []), ([10], [10]), ([11], [11]), ([9, 12], [9, 12]), ([1, 13], [1, 13]), ([14], [14]), ([15], [15]), ([15], [15]), ([17, 15], [15, 17]), ([15], [15]), ([19, 15], [15, 19]), ([15], [15]), ([21, 15], [15, 21]), ([22, 15], [15, 22]), ([20, 23, 15], [15, 20, 23]), ([16, 18, 24, 15], [15, 16, 18, 24]), ([15], [15]), ([26, 15], [15, 26]), ([25, 27, 15], [15, 25, 27]), ([15, 28], [15, 28])])
def rootstocklaw01_EditsKeeps.B4 : List Nat := [0, 1, 0, 4, 0, 16, 0, 64, 240, 508, 0, 1024, 3072, 8188, 16383, 32767, 65535, 65535, 196607, 65535, 589823, 65535, 2162687, 6356991, 16318463, 33554431, 65535, 67174399, 268435455, 536870911]
theorem rootstocklaw01_EditsKeeps.tab4 : rtab .any (opsOf Try.f5 4) = rootstocklaw01_EditsKeeps.T4 := by kernel_rfl
theorem rootstocklaw01_EditsKeeps.bits4 : waitsOk rootstocklaw01_EditsKeeps.T4.2 rootstocklaw01_EditsKeeps.B4 = true := by kernel_rfl
def rootstocklaw01_EditsKeeps.T9 : Bool × List (List Nat × List Nat) := (true, [([], []), ([], []), ([0, 1], [0, 1]), ([], []), ([2, 3], [2, 3]), ([4, 2], [4]), ([5], [5]), ([5], [5]), ([6, 7, 5], [5, 6, 7]), ([5], [5]), ([5], [5]), ([9, 10, 5], [5, 9, 10]), ([8, 11, 5], [5, 8, 11]), ([5, 12], [5, 12])])
def rootstocklaw01_EditsKeeps.B9 : List Nat := [0, 0, 3, 0, 15, 31, 63, 63, 255, 63, 63, 1599, 4095, 8191]
theorem rootstocklaw01_EditsKeeps.tab9 : rtab .any (opsOf Try.f5 9) = rootstocklaw01_EditsKeeps.T9 := by kernel_rfl
theorem rootstocklaw01_EditsKeeps.bits9 : waitsOk rootstocklaw01_EditsKeeps.T9.2 rootstocklaw01_EditsKeeps.B9 = true := by kernel_rfl
def rootstocklaw01_EditsKeeps.T15 : Bool × List (List Nat × List Nat) := (true, [([], []), ([], []), ([1], [1]), ([0, 2], [0, 2]), ([3], [3]), ([4], [4]), ([5, 4], [4, 5]), ([6, 4, 4], [4, 6]), ([7], [7]), ([7], [7]), ([9, 7], [7, 9]), ([8, 10, 7], [7, 8, 10]), ([7, 11, 4], [4, 7, 11]), ([12, 7, 4], [4, 12]), ([13], [13]), ([13], [13]), ([14, 15, 13], [13, 14, 15]), ([13], [13]), ([13], [13]), ([17, 18, 13], [13, 17, 18]), ([16, 19, 13], [13, 16, 19]), ([13, 20, 4], [4, 13, 20]), ([4, 21], [4, 21])])
def rootstocklaw01_EditsKeeps.B15 : List Nat := [0, 0, 2, 7, 15, 31, 63, 127, 255, 255, 767, 2047, 4095, 8191, 16383, 16383, 65535, 16383, 16383, 409599, 1048575, 2097151, 4194303]
theorem rootstocklaw01_EditsKeeps.tab15 : rtab .any (opsOf Try.f5 15) = rootstocklaw01_EditsKeeps.T15 := by kernel_rfl
theorem rootstocklaw01_EditsKeeps.bits15 : waitsOk rootstocklaw01_EditsKeeps.T15.2 rootstocklaw01_EditsKeeps.B15 = true := by kernel_rfl
def rootstocklaw01_EditsKeeps.T17 : Bool × List (List Nat × List Nat) := (true, [([], []), ([], []), ([1], [1]), ([0, 2], [0, 2]), ([], []), ([], []), ([5], [5]), ([4, 6], [4, 6]), ([3, 7], [3, 7]), ([8], [8]), ([9], [9]), ([9], [9]), ([11, 9], [9, 11]), ([9], [9]), ([13, 9], [9, 13]), ([14, 9], [9, 14]), ([12, 15, 9], [9, 12, 15]), ([10, 16, 9], [9, 10, 16]), ([9], [9]), ([9], [9]), ([19, 9], [9, 19]), ([18, 20, 9], [9, 18, 20]), ([17, 21, 9], [9, 17, 21]), ([9, 22], [9, 22]), ([23, 9], [23]), ([24, 24], [24]), ([24, 25], [24, 25]), ([26, 25, 0, 1, 2, 3, 4, 5, 6, 7, 8, 9, 10, 11, 12, 13, 14, 15, 16, 17, 18, 19, 20, 21, 22, 23, 24, 25, 26], [26])])
def rootstocklaw01_EditsKeeps.B17 : List Nat := [0, 0, 2, 7, 0, 0, 32, 112, 255, 511, 1023, 1023, 3071, 1023, 9215, 25599, 64511, 131071, 1023, 1023, 525311, 1836031, 4194303, 8388607, 16777215, 33554431, 67108863, 134217727]
theorem rootstocklaw01_EditsKeeps.tab17 : rtab .any (opsOf Try.f5 17) = rootstocklaw01_EditsKeeps.T17 := by kernel_rfl
theorem rootstocklaw01_EditsKeeps.bits17 : waitsOk rootstocklaw01_EditsKeeps.T17.2 rootstocklaw01_EditsKeeps.B17 = true := by kernel_rfl
end Go.Proofs.Ytncnloaclpaefaa.PEditsKeeps
