/- Stacks: SameInts, Reverse. -/
import Derived.Test.YteeiidkbihhekaaSkG
set_option linter.unusedVariables false
set_option linter.unusedSimpArgs false
namespace Go.Proofs.Yteeiidkbihhekaa
open Go Go.RowKit Go.Maps Go.WideMaps
def ints (zs : List Int) : List Value := zs.map (Value.int .i64)
theorem int_read {w : World} {B : Nat} {v : Value} {zs : List Int} (h : w.ownsRow B 3 1 v zs.length (ints zs)) (hn : 0 < zs.length) : ∃ a cap, v = .slice (some ⟨a, 0, none⟩) zs.length cap ∧ B ≤ a ∧ a < w.heap.size ∧ zs.length ≤ cap ∧
    ∀ i (hi : i < zs.length), w.cell? ⟨a, i, none⟩ = some (.int .i64 (zs[i])) := by
  obtain ⟨a, cap, hv, hB, hlt, hc, hcell, _⟩ := own_cells h hn
  refine ⟨a, cap, hv, hB, hlt, hc, fun i hi => ?_⟩
  rw [hcell i (by omega), ints, List.getElem?_map, List.getElem?_eq_getElem hi]
  rfl
set_option maxRecDepth 100000 in
set_option maxHeartbeats 1000000 in
theorem sameInts {w : World} {B C : Nat} {u v : Value} {xs ys : List Int} (hu : w.ownsRow B 3 1 u xs.length (ints xs)) (hv : w.ownsRow C 3 1 v ys.length (ints ys)) (hl : xs.length ≤ 1099511627776) (hl' : ys.length ≤ 1099511627776) :
    Calls Try.prog 18 #[u, v] w fun e w' => e = .returned (.bool (decide (xs = ys))) ∧ ∃ n, w' = w.drewN n := by
  obtain ⟨A, cap, rfl⟩ := own_len hu
  obtain ⟨A', cap', rfl⟩ := own_len hv
  by_cases hlen : xs.length = ys.length
  · have e1 : decide (xs.length = ys.length) = true := decide_eq_true hlen
    have e1' : decide ((xs.length : Int) = (ys.length : Int)) = true := decide_eq_true (by omega)
    rw [← hlen] at hv ⊢
    go_enter Try.func18, Try.ntmps18
    go_wp2
    go_loopg [5] xs.length (fun gk i wr => ∃ k : Nat, i = .int .i64 k ∧ Kept (k + gk = xs.length) ∧ Kept (∃ n, wr = w.drewN n) ∧ Kept (∀ j (hj : j < xs.length) (hj' : j < ys.length), j < k → xs[j] = ys[j]))
    case atStart => exact ⟨0, rfl, ⟨by omega⟩, ⟨0, rfl⟩, ⟨by omega⟩⟩
    case round =>
      obtain ⟨k, rfl, hk, hw, hno⟩ := hrel
      have hk' := hk.out
      by_cases hlt : k < xs.length
      · have d1 : decide (k < xs.length) = true := decide_eq_true hlt
        have d1' : decide ((k : Int) < (xs.length : Int)) = true := decide_eq_true (by omega)
        have hlt' : k < ys.length := by omega
        obtain ⟨a, ca, hva, _, ha, _, hra⟩ := int_read hu (by omega)
        cases hva
        rw [hlen] at hv
        obtain ⟨b, cb, hvb, _, hb, _, hrb⟩ := int_read hv (by omega)
        rw [← hlen] at hvb
        cases hvb
        have y0 : wr.cell? ⟨a, k, none⟩ = some (.int .i64 (xs[k])) := by obtain ⟨n, rfl⟩ := hw.out; exact hra k hlt
        have y1 : wr.cell? ⟨b, k, none⟩ = some (.int .i64 (ys[k])) := by obtain ⟨n, rfl⟩ := hw.out; exact hrb k hlt'
        have wr1 : IntKind.i64.wrap ((k : Int) + 1) = (k : Int) + 1 := IntWalk.i64_in _ (by omega)
        have hq := Kept.mk (rfl : xs[k] = xs[k])
        clear hra hrb hu hv e1 e1'
        by_cases he : xs[k] = ys[k]
        · have he' := Kept.mk he
          rw [he] at y0
          clear he hq
          generalize ys[k] = z at y0 y1
          go_wp2
          go_quiet (fail)
          go_wp2
          go_roundg (gk - 1)
          case measure => omega
          case rel =>
            refine ⟨k + 1, rfl, ⟨by omega⟩, ?_, ⟨?_⟩⟩
            · obtain ⟨n, rfl⟩ := hw.out
              exact ⟨_, World.drewN_drewN _ _ _⟩
            · intro j hj hj2 hjk
              by_cases hjk' : j < k
              · exact hno.out j hj hj2 hjk'
              · have : j = k := by omega
                subst this
                exact he'.out
        · have he' := Kept.mk he
          have f1 : decide (xs[k] = ys[k]) = false := decide_eq_false he
          clear hq
          generalize xs[k] = x at y0 f1 he
          generalize ys[k] = z at y1 f1 he
          go_wp2
          go_quiet (fail)
          go_wp2
          go_ret
          refine ⟨?_, ?_⟩
          · have : xs ≠ ys := by
              rintro rfl
              exact he'.out rfl
            rw [decide_eq_false this]
            rfl
          · obtain ⟨n, rfl⟩ := hw.out
            exact ⟨_, World.drewN_drewN _ _ _⟩
      · have d1 : decide (k < xs.length) = false := decide_eq_false hlt
        have d1' : decide ((k : Int) < (xs.length : Int)) = false := decide_eq_false (by omega)
        clear e1 e1'
        go_wp2
        go_ret
        refine ⟨?_, hw.out⟩
        have : xs = ys := List.ext_getElem hlen (fun j h1 h2 => hno.out j h1 h2 (by omega))
        rw [decide_eq_true this]
        rfl
  · have e1 : decide (xs.length = ys.length) = false := decide_eq_false hlen
    have e1' : decide ((xs.length : Int) = (ys.length : Int)) = false := decide_eq_false (by omega)
    have e2 : decide (xs = ys) = false := decide_eq_false (by rintro rfl; exact hlen rfl)
    rw [e2]
    clear e2
    go_enter Try.func18, Try.ntmps18
    go_wp2
    go_ret
    exact ⟨rfl, 0, rfl⟩
set_option maxRecDepth 100000 in
set_option maxHeartbeats 1000000 in
theorem reverse_in {w : World} {B : Nat} {v : Value} {zs : List Int} (h : w.ownsRow B 3 1 v zs.length (ints zs)) (hl : zs.length ≤ 1099511627776) :
    Calls Try.prog 37 #[v] w fun e w' => e = .returned (.tuple #[]) ∧ w'.ownsRow B 3 1 v zs.length (ints zs.reverse) ∧ w.grownBy w' v.ownBlock := by
  obtain ⟨A, cap, rfl⟩ := own_len h
  have wr0 : IntKind.i64.wrap ((zs.length : Int) - 1) = (zs.length : Int) - 1 := IntWalk.i64_in _ (by omega)
  go_enter Try.func37, Try.ntmps37
  go_wp2
  go_loopg [2, 3] zs.length (fun gk i j wr => ∃ k : Nat, i = .int .i64 k ∧ j = .int .i64 ((zs.length : Int) - 1 - k) ∧ Kept (k + gk = zs.length) ∧ Kept (w.grownBy wr (Value.slice A zs.length cap).ownBlock) ∧
    Kept (∃ ys : List Int, ys.length = zs.length ∧ wr.ownsRow B 3 1 (.slice A zs.length cap) zs.length (ints ys) ∧ ∀ j (hj : j < zs.length) (hj' : j < ys.length), ys[j] = if j < k ∨ zs.length ≤ j + k then zs[zs.length - 1 - j] else zs[j]))
  case atStart =>
    refine ⟨0, rfl, by simp, ⟨by omega⟩, ⟨⟨rfl, rfl, rfl, Nat.le_refl _, fun _ _ _ => rfl⟩⟩, ⟨zs, rfl, h, fun j hj hj' => ?_⟩⟩
    rw [if_neg (by omega)]
  case round =>
    obtain ⟨k, rfl, rfl, hk, hw, ⟨ys, hyl, hy, hyz⟩⟩ := hrel
    have hk' := hk.out
    by_cases hlt : 2 * k + 1 < zs.length
    · obtain ⟨j, hj⟩ : ∃ j : Nat, j = zs.length - 1 - k := ⟨_, rfl⟩
      have ej : (zs.length : Int) - 1 - k = (j : Int) := by omega
      rw [ej]
      have hk1 : k < ys.length := by omega
      have hj1 : j < ys.length := by omega
      have d1 : decide (k < j) = true := decide_eq_true (by omega)
      have d1' : decide ((k : Int) < (j : Int)) = true := decide_eq_true (by omega)
      rw [← hyl] at hy
      obtain ⟨a, ca, hva, _, ha, _, hra⟩ := int_read hy (by omega)
      rw [hyl] at hva
      cases hva
      have y0 : wr.drew.cell? ⟨a, k, none⟩ = some (.int .i64 (ys[k]'hk1)) := hra k (by omega)
      have y1 : wr.drew.cell? ⟨a, j, none⟩ = some (.int .i64 (ys[j]'hj1)) := hra j (by omega)
      rw [hyl] at hy
      have hs1 := (hy.kept (w' := wr.drew) (row := none) ⟨rfl, rfl, rfl, Nat.le_refl _, fun _ _ _ => rfl⟩ (by simp [Value.ownBlock])).stored k (.int .i64 (ys[j]'hj1))
      have b1 : decide (k < zs.length) = true := decide_eq_true (by omega)
      have b2 : decide (j < zs.length) = true := decide_eq_true (by omega)
      have b1' : decide ((k : Int) < (zs.length : Int)) = true := decide_eq_true (by omega)
      have b2' : decide ((j : Int) < (zs.length : Int)) = true := decide_eq_true (by omega)
      have kj : k ≠ j := by omega
      have fz0 : wr.drew.frozen? ⟨a, k, none⟩ = false := hy.frozenAt k
      have fz1 : wr.drew.frozen? ⟨a, j, none⟩ = false := hy.frozenAt j
      have wr1 : IntKind.i64.wrap ((k : Int) + 1) = (k : Int) + 1 := IntWalk.i64_in _ (by omega)
      have wr2 : IntKind.i64.wrap ((j : Int) - 1) = (j : Int) - 1 := IntWalk.i64_in _ (by omega)
      clear hra ej
      replace hj := Kept.mk hj
      have vx := Kept.mk (rfl : ys[k]'hk1 = ys[k]'hk1)
      have vy := Kept.mk (rfl : ys[j]'hj1 = ys[j]'hj1)
      generalize hX : ys[k]'hk1 = X at y0 y1 hs1 vx
      generalize hY : ys[j]'hj1 = Y at y0 y1 hs1 vy
      replace hX := Kept.mk hX
      replace hY := Kept.mk hY
      have z1 : (wr.setCell ⟨a, k, none⟩ (.int .i64 Y)).drew.cell? ⟨a, j, none⟩ = some (.int .i64 Y) := (World.cell?_setCell_other wr ⟨a, k, none⟩ ⟨a, j, none⟩ _ (by intro e; cases e; exact kj rfl)).trans y1
      have z2 : (wr.setCell ⟨a, k, none⟩ (.int .i64 Y)).drew.frozen? ⟨a, j, none⟩ = false := hs1.1.frozenAt j
      go_wp2
      go_region
      go_wp2
      go_roundg (gk - 1)
      case measure => omega
      case rel =>
        refine ⟨k + 1, rfl, ?_, ⟨by omega⟩, ⟨?_⟩, ⟨(ys.set k Y).set j X, by simp [hyl], ?_, ?_⟩⟩
        · have := hj.out
          congr 1
          omega
        · have g1 := (hs1.1.stored j (.int .i64 X)).2
          exact World.grownBy.trans hw.out (World.grownBy.trans (World.grownBy.trans (show wr.grownBy wr.drew (some a) from ⟨rfl, rfl, rfl, Nat.le_refl _, fun _ _ _ => rfl⟩) hs1.2) g1)
        · have o1 := (hs1.1.stored j (.int .i64 X)).1
          have e1 : ints ((ys.set k Y).set j X) = ((ints ys).set k (.int .i64 Y)).set j (.int .i64 X) := by simp [ints, List.map_set]
          rw [e1]
          exact o1
        · intro m hm hm'
          have ej := hj.out
          have eX := hX.out
          have eY := hY.out
          have hyk := hyz k (by omega) hk1
          have hyj := hyz j (by omega) hj1
          rw [if_neg (by omega)] at hyk hyj
          rw [List.getElem_set]
          by_cases h1 : j = m
          · subst h1
            rw [if_pos rfl, if_pos (by omega), ← eX, hyk]
            congr 1
            omega
          · rw [if_neg h1, List.getElem_set]
            by_cases h2 : k = m
            · subst h2
              rw [if_pos rfl, if_pos (by omega), ← eY, hyj]
              congr 1
            · rw [if_neg h2, hyz m hm (by omega)]
              by_cases h3 : m < k ∨ zs.length ≤ m + k
              · rw [if_pos h3, if_pos (by omega)]
              · rw [if_neg h3, if_neg (by omega)]
    · have d1' : decide ((k : Int) < (zs.length : Int) - 1 - (k : Int)) = false := decide_eq_false (by omega)
      go_wp2
      go_end0
      refine ⟨rfl, ?_, hw.out⟩
      have : ys = zs.reverse := by
        refine List.ext_getElem (by simp [hyl]) (fun m h1 h2 => ?_)
        rw [hyz m (by omega) h1, List.getElem_reverse]
        by_cases h3 : m < k ∨ zs.length ≤ m + k
        · rw [if_pos h3]
        · rw [if_neg h3]
          congr 1
          omega
      rw [← this]
      exact hy
end Go.Proofs.Yteeiidkbihhekaa
