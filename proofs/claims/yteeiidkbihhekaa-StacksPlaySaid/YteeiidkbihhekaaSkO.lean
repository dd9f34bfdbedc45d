/- Stacks: comparing numbers, ways, links that memory holds wherever: SameInts, SameWays, SameLinks. -/
import Derived.Test.YteeiidkbihhekaaSkN
set_option linter.unusedVariables false
set_option linter.unusedSimpArgs false
namespace Go.Proofs.Yteeiidkbihhekaa
open Go Go.RowKit Go.Maps Go.WideMaps
/-- a slice that reads as these numbers -/
def IntsR (w : World) (v : Value) (zs : List Int) : Prop :=
  ∃ A cap, v = .slice A zs.length cap ∧ ∀ i (h : i < zs.length), ∃ a off, A = some ⟨a, off, none⟩ ∧ w.cell? ⟨a, off + i, none⟩ = some (.int .i64 zs[i])
def LinksR (w : World) (v : Value) (l : List (Int × Int)) : Prop :=
  ∃ A cap, v = .slice A l.length cap ∧ ∀ i (h : i < l.length), ∃ a off, A = some ⟨a, off, none⟩ ∧ w.cell? ⟨a, off + i * 2, none⟩ = some (.int .i64 (l[i]).1) ∧ w.cell? ⟨a, off + i * 2 + 1, none⟩ = some (.int .i64 (l[i]).2)
def WaysR (w : World) (v : Value) (l : List Wy) : Prop :=
  ∃ A cap us, v = .slice A l.length cap ∧ ∀ i (h : i < l.length), ∃ a off, A = some ⟨a, off, none⟩ ∧ w.cell? ⟨a, off + i * 2, none⟩ = some (.int .i64 (l[i]).1) ∧ w.cell? ⟨a, off + i * 2 + 1, none⟩ = some (vAt us i) ∧ IntsR w (vAt us i) (l[i]).2
theorem cell_below {w w' : World} {B : Nat} (b : Below B w w') {p : Addr} {u : Value} (hp : p.block < B) (h : w.cell? p = some u) : w'.cell? p = some u := (b.cell hp).trans h
theorem IntsR.below {w w' : World} {v : Value} {zs : List Int} (h : IntsR w v zs) (b : Below w.heap.size w w') : IntsR w' v zs := by
  obtain ⟨A, cap, hv, hr⟩ := h
  refine ⟨A, cap, hv, fun i hi => ?_⟩
  obtain ⟨a, off, hA, hc⟩ := hr i hi
  exact ⟨a, off, hA, cell_below b (World.block_lt_of_cell? _ _ hc) hc⟩
theorem LinksR.below {w w' : World} {v : Value} {l : List (Int × Int)} (h : LinksR w v l) (b : Below w.heap.size w w') : LinksR w' v l := by
  obtain ⟨A, cap, hv, hr⟩ := h
  refine ⟨A, cap, hv, fun i hi => ?_⟩
  obtain ⟨a, off, hA, hc, hd⟩ := hr i hi
  exact ⟨a, off, hA, cell_below b (World.block_lt_of_cell? _ _ hc) hc, cell_below b (World.block_lt_of_cell? _ _ hd) hd⟩
theorem WaysR.below {w w' : World} {v : Value} {l : List Wy} (h : WaysR w v l) (b : Below w.heap.size w w') : WaysR w' v l := by
  obtain ⟨A, cap, us, hv, hr⟩ := h
  refine ⟨A, cap, us, hv, fun i hi => ?_⟩
  obtain ⟨a, off, hA, hc, hd, hz⟩ := hr i hi
  exact ⟨a, off, hA, cell_below b (World.block_lt_of_cell? _ _ hc) hc, cell_below b (World.block_lt_of_cell? _ _ hd) hd, hz.below b⟩
theorem IntsR.of_row {w : World} {B : Nat} {v : Value} {zs : List Int} (h : w.ownsRow B 3 1 v zs.length (ints zs)) : IntsR w v zs := by
  obtain ⟨A, cap, rfl⟩ := own_len h
  refine ⟨A, cap, rfl, fun i hi => ?_⟩
  obtain ⟨a, c, hv, _, _, _, hr⟩ := int_read h (by omega)
  cases hv
  exact ⟨a, 0, rfl, by rw [Nat.zero_add]; exact hr i hi⟩
theorem LinksR.of_row {w : World} {B : Nat} {v : Value} {l : List (Int × Int)} (h : w.ownsRow B 46 2 v l.length (lkCells l)) : LinksR w v l := by
  obtain ⟨A, cap, rfl⟩ := own_len h
  refine ⟨A, cap, rfl, fun i hi => ?_⟩
  obtain ⟨a, c, hv, _, _, _, hr⟩ := lk_read h (by omega)
  cases hv
  exact ⟨a, 0, rfl, by rw [Nat.zero_add]; exact hr i hi⟩
theorem WaysM.reads {w : World} {S : Nat} {v : Value} {us : List Value} {l : List Wy} (h : WaysM w S v us l) : WaysR w v l := by
  obtain ⟨A, cap, rfl⟩ := own_len h.outr
  refine ⟨A, cap, us, rfl, fun i hi => ?_⟩
  obtain ⟨a, c, hv, _, _, _, hr, _⟩ := own_cells h.outr (by omega)
  cases hv
  obtain ⟨e0, e1⟩ := wayCells_at l us i h.len hi
  exact ⟨a, 0, rfl, by rw [Nat.zero_add]; exact (hr _ (by omega)).trans e0, by rw [Nat.zero_add]; exact (hr _ (by omega)).trans e1, IntsR.of_row (h.ways i hi)⟩
set_option maxRecDepth 100000 in
set_option maxHeartbeats 1000000 in
theorem sameInts_r {w : World} {u v : Value} {xs ys : List Int} (hu : IntsR w u xs) (hv : IntsR w v ys) (hl : xs.length ≤ 1099511627776) (hl' : ys.length ≤ 1099511627776) :
    Calls Try.prog 18 #[u, v] w fun e w' => e = .returned (.bool (decide (xs = ys))) ∧ ∃ n, w' = w.drewN n := by
  obtain ⟨A, cap, rfl, hra⟩ := hu
  obtain ⟨A', cap', rfl, hrb⟩ := hv
  by_cases hlen : xs.length = ys.length
  · have e1 : decide (xs.length = ys.length) = true := decide_eq_true hlen
    have e1' : decide ((xs.length : Int) = (ys.length : Int)) = true := decide_eq_true (by omega)
    rw [← hlen]
    have HA := Kept.mk hra
    have HB := Kept.mk hrb
    clear hra hrb
    go_enter Try.func18, Try.ntmps18
    go_wp2
    go_loopg [5] xs.length (fun gk i wr => ∃ k : Nat, i = .int .i64 k ∧ Kept (k + gk = xs.length) ∧ Kept (∃ n, wr = w.drewN n) ∧ Kept (∀ j (hj : j < xs.length) (hj' : j < ys.length), j < k → xs[j] = ys[j]))
    case atStart => exact ⟨0, rfl, ⟨by omega⟩, ⟨0, rfl⟩, ⟨by omega⟩⟩
    case round =>
      obtain ⟨k, rfl, hk, hw, hno⟩ := hrel
      have hk' := hk.out
      by_cases hlt : k < xs.length
      · have d1 : decide (k < xs.length) = true := decide_eq_true hlt
        have d1' : decide ((k : Int) < (xs.length : Int)) = true := decide_eq_true (by omega)
        have hlt' : k < ys.length := by omega
        obtain ⟨a, oa, rfl, ra⟩ := HA.out k hlt
        obtain ⟨b, ob, rfl, rb⟩ := HB.out k hlt'
        have y0 : wr.cell? ⟨a, oa + k, none⟩ = some (.int .i64 (xs[k])) := by obtain ⟨n, rfl⟩ := hw.out; exact ra
        have y1 : wr.cell? ⟨b, ob + k, none⟩ = some (.int .i64 (ys[k])) := by obtain ⟨n, rfl⟩ := hw.out; exact rb
        have wr1 : IntKind.i64.wrap ((k : Int) + 1) = (k : Int) + 1 := IntWalk.i64_in _ (by omega)
        have hq := Kept.mk (rfl : xs[k] = xs[k])
        clear ra rb e1 e1'
        by_cases he : xs[k] = ys[k]
        · have he' := Kept.mk he
          rw [he] at y0
          clear he hq
          generalize ys[k] = z at y0 y1
          go_wp2
          go_quiet (fail)
          go_wp2
          go_roundg (gk - 1)
          case measure => omega
          case rel =>
            refine ⟨k + 1, rfl, ⟨by omega⟩, ?_, ⟨?_⟩⟩
            · obtain ⟨n, rfl⟩ := hw.out
              exact ⟨_, World.drewN_drewN _ _ _⟩
            · intro j hj hj2 hjk
              by_cases hjk' : j < k
              · exact hno.out j hj hj2 hjk'
              · have : j = k := by omega
                subst this
                exact he'.out
        · have he' := Kept.mk he
          have f1 : decide (xs[k] = ys[k]) = false := decide_eq_false he
          clear hq
          generalize xs[k] = x at y0 f1 he
          generalize ys[k] = z at y1 f1 he
          go_wp2
          go_quiet (fail)
          go_wp2
          go_ret
          refine ⟨?_, ?_⟩
          · have : xs ≠ ys := by
              rintro rfl
              exact he'.out rfl
            rw [decide_eq_false this]
            rfl
          · obtain ⟨n, rfl⟩ := hw.out
            exact ⟨_, World.drewN_drewN _ _ _⟩
      · have d1 : decide (k < xs.length) = false := decide_eq_false hlt
        have d1' : decide ((k : Int) < (xs.length : Int)) = false := decide_eq_false (by omega)
        clear e1 e1'
        go_wp2
        go_ret
        refine ⟨?_, hw.out⟩
        have : xs = ys := List.ext_getElem hlen (fun j h1 h2 => hno.out j h1 h2 (by omega))
        rw [decide_eq_true this]
        rfl
  · have e1 : decide (xs.length = ys.length) = false := decide_eq_false hlen
    have e1' : decide ((xs.length : Int) = (ys.length : Int)) = false := decide_eq_false (by omega)
    have e2 : decide (xs = ys) = false := decide_eq_false (by rintro rfl; exact hlen rfl)
    rw [e2]
    clear e2 hra hrb
    go_enter Try.func18, Try.ntmps18
    go_wp2
    go_ret
    exact ⟨rfl, 0, rfl⟩
set_option maxRecDepth 100000 in
set_option maxHeartbeats 1000000 in
theorem sameLinks_r {w : World} {u v : Value} {xs ys : List (Int × Int)} (hu : LinksR w u xs) (hv : LinksR w v ys) (hl : xs.length ≤ 1099511627776) (hl' : ys.length ≤ 1099511627776) :
    Calls Try.prog 16 #[u, v] w fun e w' => e = .returned (.bool (decide (xs = ys))) ∧ ∃ n, w' = w.drewN n := by
  obtain ⟨A, cap, rfl, hra⟩ := hu
  obtain ⟨A', cap', rfl, hrb⟩ := hv
  by_cases hlen : xs.length = ys.length
  · have e1 : decide (xs.length = ys.length) = true := decide_eq_true hlen
    have e1' : decide ((xs.length : Int) = (ys.length : Int)) = true := decide_eq_true (by omega)
    rw [← hlen]
    have HA := Kept.mk hra
    have HB := Kept.mk hrb
    clear hra hrb
    go_enter Try.func16, Try.ntmps16
    go_wp2
    go_loopg [5] xs.length (fun gk i wr => ∃ k : Nat, i = .int .i64 k ∧ Kept (k + gk = xs.length) ∧ Kept (∃ n, wr = w.drewN n) ∧ Kept (∀ j (hj : j < xs.length) (hj' : j < ys.length), j < k → xs[j] = ys[j]))
    case atStart => exact ⟨0, rfl, ⟨by omega⟩, ⟨0, rfl⟩, ⟨by omega⟩⟩
    case round =>
      obtain ⟨k, rfl, hk, hw, hno⟩ := hrel
      have hk' := hk.out
      by_cases hlt : k < xs.length
      · have d1 : decide (k < xs.length) = true := decide_eq_true hlt
        have d1' : decide ((k : Int) < (xs.length : Int)) = true := decide_eq_true (by omega)
        have hlt' : k < ys.length := by omega
        obtain ⟨a, oa, rfl, ra, ra2⟩ := HA.out k hlt
        obtain ⟨b, ob, rfl, rb, rb2⟩ := HB.out k hlt'
        have y0 : wr.cell? ⟨a, oa + k * 2, none⟩ = some (.int .i64 (xs[k]).1) := by obtain ⟨n, rfl⟩ := hw.out; exact ra
        have y1 : wr.cell? ⟨b, ob + k * 2, none⟩ = some (.int .i64 (ys[k]).1) := by obtain ⟨n, rfl⟩ := hw.out; exact rb
        have y2 : wr.cell? ⟨a, oa + k * 2 + 1, none⟩ = some (.int .i64 (xs[k]).2) := by obtain ⟨n, rfl⟩ := hw.out; exact ra2
        have y3 : wr.cell? ⟨b, ob + k * 2 + 1, none⟩ = some (.int .i64 (ys[k]).2) := by obtain ⟨n, rfl⟩ := hw.out; exact rb2
        have wr1 : IntKind.i64.wrap ((k : Int) + 1) = (k : Int) + 1 := IntWalk.i64_in _ (by omega)
        clear ra rb ra2 rb2 e1 e1'
        obtain ⟨x1, x2, hx⟩ : ∃ a b, xs[k] = (a, b) := ⟨_, _, rfl⟩
        obtain ⟨z1, z2, hz⟩ : ∃ a b, ys[k] = (a, b) := ⟨_, _, rfl⟩
        rw [hx] at y0 y2
        rw [hz] at y1 y3
        dsimp only at y0 y1 y2 y3
        replace hx := Kept.mk hx
        replace hz := Kept.mk hz
        by_cases he : x1 = z1 ∧ x2 = z2
        · obtain ⟨rfl, rfl⟩ := he
          go_wp2
          go_quiet (fail)
          go_wp2
          go_roundg (gk - 1)
          case measure => omega
          case rel =>
            refine ⟨k + 1, rfl, ⟨by omega⟩, ?_, ⟨?_⟩⟩
            · obtain ⟨n, rfl⟩ := hw.out
              exact ⟨_, World.drewN_drewN _ _ _⟩
            · intro j hj hj2 hjk
              by_cases hjk' : j < k
              · exact hno.out j hj hj2 hjk'
              · have : j = k := by omega
                subst this
                exact hx.out.trans hz.out.symm
        · have ne : xs ≠ ys := by
            rintro rfl
            have := hx.out.symm.trans hz.out
            cases this
            exact he ⟨rfl, rfl⟩
          replace ne := Kept.mk ne
          by_cases h1 : x1 = z1
          · have h2 : ¬ x2 = z2 := fun e => he ⟨h1, e⟩
            subst h1
            have f1 : decide (x2 = z2) = false := decide_eq_false h2
            have f2 : (x2 == z2) = false := beq_eq_false_iff_ne.2 h2
            clear he h2
            go_wp2
            go_quiet (fail)
            go_wp2
            go_ret
            refine ⟨?_, ?_⟩
            · rw [decide_eq_false ne.out]
              rfl
            · obtain ⟨n, rfl⟩ := hw.out
              exact ⟨_, World.drewN_drewN _ _ _⟩
          · have f1 : decide (x1 = z1) = false := decide_eq_false h1
            have f2 : (x1 == z1) = false := beq_eq_false_iff_ne.2 h1
            clear he h1
            go_wp2
            go_quiet (fail)
            go_wp2
            go_ret
            refine ⟨?_, ?_⟩
            · rw [decide_eq_false ne.out]
              rfl
            · obtain ⟨n, rfl⟩ := hw.out
              exact ⟨_, World.drewN_drewN _ _ _⟩
      · have d1 : decide (k < xs.length) = false := decide_eq_false hlt
        have d1' : decide ((k : Int) < (xs.length : Int)) = false := decide_eq_false (by omega)
        clear e1 e1'
        go_wp2
        go_ret
        refine ⟨?_, hw.out⟩
        have : xs = ys := List.ext_getElem hlen (fun j h1 h2 => hno.out j h1 h2 (by omega))
        rw [decide_eq_true this]
        rfl
  · have e1 : decide (xs.length = ys.length) = false := decide_eq_false hlen
    have e1' : decide ((xs.length : Int) = (ys.length : Int)) = false := decide_eq_false (by omega)
    have e2 : decide (xs = ys) = false := decide_eq_false (by rintro rfl; exact hlen rfl)
    rw [e2]
    clear e2 hra hrb
    go_enter Try.func16, Try.ntmps16
    go_wp2
    go_ret
    exact ⟨rfl, 0, rfl⟩
/-- the things of all ways are few -/
def Short (l : List Wy) : Prop := l.length ≤ 1099511627776 ∧ ∀ y ∈ l, y.2.length ≤ 1099511627776
set_option maxRecDepth 100000 in
set_option maxHeartbeats 2000000 in
theorem sameWays_r {w : World} {u v : Value} {xs ys : List Wy} (hu : WaysR w u xs) (hv : WaysR w v ys) (hl : Short xs) (hl' : Short ys) :
    Calls Try.prog 20 #[u, v] w fun e w' => e = .returned (.bool (decide (xs = ys))) ∧ ∃ n, w' = w.drewN n := by
  obtain ⟨A, cap, us, rfl, hra⟩ := hu
  obtain ⟨A', cap', us', rfl, hrb⟩ := hv
  have hl1 := hl.1
  by_cases hlen : xs.length = ys.length
  · have e1 : decide (xs.length = ys.length) = true := decide_eq_true hlen
    have e1' : decide ((xs.length : Int) = (ys.length : Int)) = true := decide_eq_true (by omega)
    rw [← hlen]
    have HA := Kept.mk hra
    have HB := Kept.mk hrb
    replace hl := Kept.mk hl
    replace hl' := Kept.mk hl'
    clear hra hrb
    go_enter Try.func20, Try.ntmps20
    go_wp2
    go_loopg [5] xs.length (fun gk i wr => ∃ k : Nat, i = .int .i64 k ∧ Kept (k + gk = xs.length) ∧ Kept (∃ n, wr = w.drewN n) ∧ Kept (∀ j (hj : j < xs.length) (hj' : j < ys.length), j < k → xs[j] = ys[j]))
    case atStart => exact ⟨0, rfl, ⟨by omega⟩, ⟨0, rfl⟩, ⟨by omega⟩⟩
    case round =>
      obtain ⟨k, rfl, hk, hw, hno⟩ := hrel
      have hk' := hk.out
      by_cases hlt : k < xs.length
      · have d1 : decide (k < xs.length) = true := decide_eq_true hlt
        have d1' : decide ((k : Int) < (xs.length : Int)) = true := decide_eq_true (by omega)
        have hlt' : k < ys.length := by omega
        obtain ⟨a, oa, rfl, ra, ra2, ra3⟩ := HA.out k hlt
        obtain ⟨b, ob, rfl, rb, rb2, rb3⟩ := HB.out k hlt'
        have bw : Below w.heap.size w wr := by obtain ⟨n, rfl⟩ := hw.out; exact below_drewN (Below.refl _ _) _
        have y0 : wr.cell? ⟨a, oa + k * 2, none⟩ = some (.int .i64 (xs[k]).1) := by obtain ⟨n, rfl⟩ := hw.out; exact ra
        have y1 : wr.cell? ⟨b, ob + k * 2, none⟩ = some (.int .i64 (ys[k]).1) := by obtain ⟨n, rfl⟩ := hw.out; exact rb
        have y2 : wr.cell? ⟨a, oa + k * 2 + 1, none⟩ = some (vAt us k) := by obtain ⟨n, rfl⟩ := hw.out; exact ra2
        have y3 : wr.cell? ⟨b, ob + k * 2 + 1, none⟩ = some (vAt us' k) := by obtain ⟨n, rfl⟩ := hw.out; exact rb2
        have wr1 : IntKind.i64.wrap ((k : Int) + 1) = (k : Int) + 1 := IntWalk.i64_in _ (by omega)
        have hsi : ∀ n, Calls Try.prog 18 #[vAt us k, vAt us' k] (wr.drewN n) fun e w' => e = .returned (.bool (decide ((xs[k]).2 = (ys[k]).2))) ∧ ∃ m, w' = (wr.drewN n).drewN m := fun n =>
          sameInts_r ((ra3.below bw).below (below_drewN (Below.refl _ _) n)) ((rb3.below bw).below (below_drewN (Below.refl _ _) n)) (hl.out.2 _ (List.getElem_mem hlt)) (hl'.out.2 _ (List.getElem_mem hlt'))
        clear ra rb ra2 rb2 ra3 rb3 e1 e1' bw
        obtain ⟨x1, x2, hx⟩ : ∃ a b, xs[k] = (a, b) := ⟨_, _, rfl⟩
        obtain ⟨z1, z2, hz⟩ : ∃ a b, ys[k] = (a, b) := ⟨_, _, rfl⟩
        rw [hx] at y0 hsi
        rw [hz] at y1 hsi
        dsimp only at y0 y1 hsi
        generalize vAt us k = U at *
        generalize vAt us' k = V at *
        replace hx := Kept.mk hx
        replace hz := Kept.mk hz
        by_cases he : x1 = z1 ∧ x2 = z2
        · obtain ⟨rfl, rfl⟩ := he
          rw [decide_eq_true rfl] at hsi
          replace hsi := Kept.mk hsi
          go_wp2
          go_quiet ((go_at_call 18; exact Calls.quiet_of (hsi.out _)))
          go_wp2
          go_roundg (gk - 1)
          case measure => omega
          case rel =>
            refine ⟨k + 1, rfl, ⟨by omega⟩, ?_, ⟨?_⟩⟩
            · obtain ⟨n, rfl⟩ := hw.out
              exact ⟨_, World.drewN_drewN _ _ _⟩
            · intro j hj hj2 hjk
              by_cases hjk' : j < k
              · exact hno.out j hj hj2 hjk'
              · have : j = k := by omega
                subst this
                exact hx.out.trans hz.out.symm
        · have ne : xs ≠ ys := by
            rintro rfl
            have := hx.out.symm.trans hz.out
            cases this
            exact he ⟨rfl, rfl⟩
          replace ne := Kept.mk ne
          by_cases h1 : x1 = z1
          · have h2 : ¬ x2 = z2 := fun e => he ⟨h1, e⟩
            subst h1
            rw [decide_eq_false h2] at hsi
            replace hsi := Kept.mk hsi
            clear he h2
            go_wp2
            go_quiet ((go_at_call 18; exact Calls.quiet_of (hsi.out _)))
            go_wp2
            go_ret
            refine ⟨?_, ?_⟩
            · rw [decide_eq_false ne.out]
              rfl
            · obtain ⟨n, rfl⟩ := hw.out
              exact ⟨_, World.drewN_drewN _ _ _⟩
          · have f1 : decide (x1 = z1) = false := decide_eq_false h1
            have f2 : (x1 == z1) = false := beq_eq_false_iff_ne.2 h1
            have f3 : (x1 != z1) = true := bne_iff_ne.2 h1
            clear he h1
            replace hsi := Kept.mk hsi
            go_wp2
            go_quiet (fail)
            go_wp2
            go_ret
            refine ⟨?_, ?_⟩
            · rw [decide_eq_false ne.out]
              rfl
            · obtain ⟨n, rfl⟩ := hw.out
              exact ⟨_, World.drewN_drewN _ _ _⟩
      · have d1 : decide (k < xs.length) = false := decide_eq_false hlt
        have d1' : decide ((k : Int) < (xs.length : Int)) = false := decide_eq_false (by omega)
        clear e1 e1'
        go_wp2
        go_ret
        refine ⟨?_, hw.out⟩
        have : xs = ys := List.ext_getElem hlen (fun j h1 h2 => hno.out j h1 h2 (by omega))
        rw [decide_eq_true this]
        rfl
  · have e1 : decide (xs.length = ys.length) = false := decide_eq_false hlen
    have e1' : decide ((xs.length : Int) = (ys.length : Int)) = false := decide_eq_false (by omega)
    have e2 : decide (xs = ys) = false := decide_eq_false (by rintro rfl; exact hlen rfl)
    rw [e2]
    clear e2 hra hrb
    go_enter Try.func20, Try.ntmps20
    go_wp2
    go_ret
    exact ⟨rfl, 0, rfl⟩
end Go.Proofs.Yteeiidkbihhekaa
