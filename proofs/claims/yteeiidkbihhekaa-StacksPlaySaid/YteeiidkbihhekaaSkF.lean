/- Stacks: Push, on a node that is there. -/
import Derived.Test.YteeiidkbihhekaaSkF0
set_option linter.unusedVariables false
set_option linter.unusedSimpArgs false
namespace Go.Proofs.Yteeiidkbihhekaa
open Go Go.RowKit Go.Maps Go.WideMaps
variable {w : World} {B g bm br p : Nat} {nv : Value} {vs : List Value} {ns : List N}
set_option maxRecDepth 100000 in
set_option maxHeartbeats 4000000 in
theorem push_old (h : StM w B g nv bm br vs ns p) (hp : p ≤ 1073741824) (i : Nat) (hi : i < ns.length) (st lv ov : Int) (hst : Wf st) (hlv : Wf lv) (h1 : 0 ≤ st) (h2 : 0 ≤ ov) (h3 : (ns[i]).lv < lv) (j : Nat) (hj : j < ns.length) (hz : idx ns st lv = j + 1) : Calls Try.prog 10 #[.pointer (some ⟨g, 0, none⟩), .int .i64 i, .int .i64 st, .int .i64 lv, .int .i64 ov] w fun e w' =>
    (((i : Int), ov) ∈ (ns[j]).lk → e = answer j false 0 ∧ Below w.heap.size w w') ∧
    (((i : Int), ov) ∉ (ns[j]).lk → e = answer j true 0 ∧ ∃ vs', StM w' B g nv bm br vs' (linkUp ns j (i, ov)) (p + 1) ∧ Below B w w' ∧ Turn w g bm br nv vs w' nv vs') := by
  have ht := there_in h i
  have e0 : decide (0 ≤ (i : Int) ∧ (i : Int) < ns.length) = true := decide_eq_true ⟨by omega, by omega⟩
  rw [e0] at ht
  have hfi := find_in h st lv hst hlv
  rw [hz] at hfi
  have hz' : decide (0 < j + 1) = true := decide_eq_true (by omega)
  rw [hz', Nat.add_sub_cancel] at hfi
  have c0 := h.c0
  have c1 := h.c1
  have eq73 := eql73
  obtain ⟨a, cap, rfl, hBa, hlta, hcap, _, x1, _⟩ := h.node i hi
  have d1 : decide (i < ns.length) = true := decide_eq_true hi
  have d1' : decide ((i : Int) < (ns.length : Int)) = true := decide_eq_true (by omega)
  generalize hL : (ns[i]).lv = L at *
  have q1 : decide (st < 0) = false := decide_eq_false (by omega)
  have q2 : decide (ov < 0) = false := decide_eq_false (by omega)
  have q3 : decide (lv ≤ L) = false := decide_eq_false (by omega)
  go_enter Try.func10, Try.ntmps10
  go_wp2_with (first | (go_at_call 28; (with_reducible refine ht.mono ?_); rintro en w1 ⟨rfl, rfl⟩) | (go_at_call 23; (with_reducible refine hfi.mono ?_); rintro en w1 ⟨rfl, rfl⟩))
  clear x1 c0 c1 ht hfi eq73 hL q1 q2 q3 d1 d1' hz' e0
  -- the link's own variable; is it there already?
  have al := below_al w1 (.cells #[.int .i64 i, .int .i64 ov] 46)
  have hs := h.below al
  have s0 := hs.c0
  obtain ⟨a', cap', hv, _, hlta', _, _, _, s2⟩ := hs.node j hj
  cases hv
  have l0 : (w1.alloc (.cells #[.int .i64 i, .int .i64 ov] 46)).cell? ⟨w1.heap.size, 0, none⟩ = some (.int .i64 i) := acell w1 #[.int .i64 i, .int .i64 ov] 46 0
  have l1 : (w1.alloc (.cells #[.int .i64 i, .int .i64 ov] 46)).cell? ⟨w1.heap.size, 1, none⟩ = some (.int .i64 ov) := acell w1 #[.int .i64 i, .int .i64 ov] 46 1
  have f1 : decide (j < ns.length) = true := decide_eq_true hj
  have f1' : decide ((j : Int) < (ns.length : Int)) = true := decide_eq_true (by omega)
  have hlkl : (ns[j]).lk.length ≤ p := h.lkp _ (List.getElem_mem hj)
  have hco := contains_in (w := (w1.alloc (.cells #[.int .i64 i, .int .i64 ov] 46)).drew) (hs.lks j hj) (Nat.le_trans hlkl (by omega)) i ov
  have hh := Kept.mk h
  have hhs := Kept.mk hs
  clear h hs
  generalize hV : vAt vs j = V at *
  go_region_held3 (fun w' => w'.cell? ⟨g, 0, none⟩ = some (.slice (some ⟨a, 0, none⟩) ns.length cap) ∧ w'.cell? ⟨a, j * 3 + 2, none⟩ = some V ∧ w'.cell? ⟨w1.heap.size, 0, none⟩ = some (.int .i64 i) ∧ w'.cell? ⟨w1.heap.size, 1, none⟩ = some (.int .i64 ov)) (first | exact ⟨s0, s2, l0, l1⟩ | exact ⟨u0, u2, u3, u4⟩ | fail) (first
    | (go_at_call 29; (with_reducible refine hco.mono ?_); rintro en w5 ⟨rfl, b5⟩
       have u0 := (b5.cell (p := ⟨g, 0, none⟩) (Nat.lt_of_lt_of_le (Array.getElem?_eq_some_iff.1 hhs.out.hd).1 (Nat.le_refl _))).trans s0
       have u2 := (b5.cell (p := ⟨a, j * 3 + 2, none⟩) hlta').trans s2
       have u3 := (b5.cell (p := ⟨w1.heap.size, 0, none⟩) (by simp)).trans l0
       have u4 := (b5.cell (p := ⟨w1.heap.size, 1, none⟩) (by simp)).trans l1)
    | fail)
  have hw15 : w1.heap.size < w5.heap.size := Nat.lt_of_lt_of_le (by simp) b5.size
  have b15 : Below w1.heap.size w1 w5 := al.trans (((Below.refl _ _).drew.trans b5).mono (by simp))
  clear hhs s0 s2 l0 l1 hco b5
  by_cases hm : ((i : Int), ov) ∈ (ns[j]).lk
  · have dm : decide (((i : Int), ov) ∈ (ns[j]).lk) = true := decide_eq_true hm
    have hm := Kept.mk hm
    go_wp2
    refine bodyPost_ret (v := .tuple #[.int .i64 j, .bool false, .int .i64 0]) (by simp [results, Try.results10, go_sem]) rfl ⟨fun _ => ⟨rfl, b15⟩, fun hn => absurd hm.out hn⟩
  · have dm : decide (((i : Int), ov) ∈ (ns[j]).lk) = false := decide_eq_false hm
    have hm := Kept.mk hm
    go_wp2
    have al5 := below_al w5 (.cells #[.int .i64 i, .int .i64 ov] 46)
    have b16 : Below w1.heap.size w1 ((w5.alloc (.cells #[.int .i64 i, .int .i64 ov] 46)).drew) := (b15.trans (al5.mono b15.size)).drew
    have h6 := hh.out.below b16
    have hoV := h6.lks j hj
    rw [hV] at hoV
    obtain ⟨i46, hi46, z0, z1, z2⟩ := info_parts info46
    have nw0 : ∀ k u, [Value.int .i64 (i : Int), .int .i64 ov][k]? = some u → ((w5.alloc (.cells #[.int .i64 i, .int .i64 ov] 46)).drew).cell? ((⟨w5.heap.size, 0, none⟩ : Addr).add k) = some u :=
      World.news_of_block (cs := #[.int .i64 i, .int .i64 ov]) (MapKept.heap_alloc w5 _).1
    have one : ∀ u ∈ [Value.int .i64 (i : Int), .int .i64 ov], u.oneCell' = true := by
      intro u hu
      simp at hu
      rcases hu with rfl | rfl <;> rfl
    have gl := (Array.getElem?_eq_some_iff.1 hh.out.hd).1
    have u5 := (b16.cell (p := ⟨g, 0, none⟩) gl).trans hh.out.c0
    have u6 : ((w5.alloc (.cells #[.int .i64 i, .int .i64 ov] 46)).drew).cell? ⟨a, j * 3 + 2, none⟩ = some V := (al5.cell (p := ⟨a, j * 3 + 2, none⟩) (Nat.lt_of_lt_of_le hlta b15.size)).trans u2
    have u7 : ((w5.alloc (.cells #[.int .i64 i, .int .i64 ov] 46)).drew).cell? ⟨w1.heap.size, 0, none⟩ = some (.int .i64 i) := (al5.cell (p := ⟨w1.heap.size, 0, none⟩) hw15).trans u3
    have u8 : ((w5.alloc (.cells #[.int .i64 i, .int .i64 ov] 46)).drew).cell? ⟨w1.heap.size, 1, none⟩ = some (.int .i64 ov) := (al5.cell (p := ⟨w1.heap.size, 1, none⟩) hw15).trans u4
    have r2 : w5.drew.cell? ⟨a, j * 3 + 2, none⟩ = some V := u2
    have hB16 : B ≤ ((w5.alloc (.cells #[.int .i64 i, .int .i64 ov] 46)).drew).heap.size := Nat.le_trans hBa (Nat.le_of_lt (Nat.lt_of_lt_of_le hlta b16.size))
    have hV1 := hh.out.lks j hj
    rw [hV] at hV1
    have Vg : some g ≠ V.ownBlock := fun e => by
      obtain ⟨c, cp, hv, _⟩ := own_block_cells hV1 e.symm
      rw [hh.out.hd] at hv
      cases hv
    have ha1 : ∃ cur, w1.heap[a]? = some (.cells cur 81 (0, 0)) := by
      obtain ⟨_, _, hv, _, _, _, _, cur, hc, _⟩ := own_cells hh.out.nod (by omega)
      cases hv
      exact ⟨cur, hc⟩
    obtain ⟨cur, hcur⟩ := ha1
    have Va : some a ≠ V.ownBlock := fun e => by
      obtain ⟨c, cp, hv, _⟩ := own_block_cells hV1 e.symm
      rw [hcur] at hv
      cases hv
    have hcur6 := (b16.block a hlta).trans hcur
    have hBw : B ≤ w1.heap.size := Nat.le_trans hBa (Nat.le_of_lt hlta)
    have r0 : w5.drew.cell? ⟨g, 0, none⟩ = some (.slice (some ⟨a, 0, none⟩) ns.length cap) := u0
    have r3 : w5.drew.cell? ⟨w1.heap.size, 0, none⟩ = some (.int .i64 i) := u3
    have r4 : w5.drew.cell? ⟨w1.heap.size, 1, none⟩ = some (.int .i64 ov) := u4
    have close : Kept (∀ g6 cap6 w6, w6.ownsRow B 46 2 (.slice (some ⟨g6, 0, none⟩) ((ns[j]).lk.length + 1) cap6) ((ns[j]).lk.length + 1) (lkCells (ns[j]).lk ++ [.int .i64 i, .int .i64 ov]) → ((w5.alloc (.cells #[.int .i64 i, .int .i64 ov] 46)).drew).grownBy w6 V.ownBlock → (V.ownBlock = some g6 ∨ g6 = ((w5.alloc (.cells #[.int .i64 i, .int .i64 ov] 46)).drew).heap.size) →
        ∃ vs', StM (w6.setCell ⟨a, j * 3 + 2, none⟩ (.slice (some ⟨g6, 0, none⟩) ((ns[j]).lk.length + 1) cap6)) B g (.slice (some ⟨a, 0, none⟩) ns.length cap) bm br vs' (linkUp ns j (i, ov)) (p + 1) ∧ Below B w1 (w6.setCell ⟨a, j * 3 + 2, none⟩ (.slice (some ⟨g6, 0, none⟩) ((ns[j]).lk.length + 1) cap6)) ∧ Turn w1 g bm br (.slice (some ⟨a, 0, none⟩) ns.length cap) vs (w6.setCell ⟨a, j * 3 + 2, none⟩ (.slice (some ⟨g6, 0, none⟩) ((ns[j]).lk.length + 1) cap6)) (.slice (some ⟨a, 0, none⟩) ns.length cap) vs') := by
      refine ⟨fun g6 cap6 w6 hown6 hgrow6 hat6 => ?_⟩
      subst hV
      have fin := h6.linked hj ((i : Int), ov) hgrow6 (by rw [lkCells_append]; exact hown6) (v' := .slice (some ⟨g6, 0, none⟩) ((ns[j]).lk.length + 1) cap6) (hat6.imp (fun e => e.symm) (fun e => ⟨g6, rfl, by rw [e]; exact Nat.le_refl _⟩)) rfl
      exact ⟨_, fin.1, (b16.mono hBw).trans fin.2.1, (Turn.below hh.out b16).trans b16.size fin.2.2⟩
    clear hV1 h6 hh
    generalize hLK : (ns[j]).lk = LK at *
    have hLK := Kept.mk hLK
    clear hV
    go_region_law (
        (refine step_append_lies _ rfl _ _ 43 rfl B 46 i46 (.agg #[.int .i64 0, .int .i64 0]) 2 16 Try.underlying43 hi46 z0 z1 z2 rfl (by decide) V LK.length _ rfl hoV ⟨w5.heap.size, 0, none⟩ 1 1 [.int .i64 i, .int .i64 ov] rfl rfl nw0 one (by decide) (by unfold maxLen; omega) (by omega) hB16 _ rfl ?_
         intro g6 cap6 w6 hown6 hgrow6 hat6 hlt6
         have v0 := (hgrow6.cell_far ⟨g, 0, none⟩ (Nat.lt_of_lt_of_le gl b16.size) Vg).trans u5
         have v2 := (hgrow6.cell_far ⟨a, j * 3 + 2, none⟩ (Nat.lt_of_lt_of_le hlta b16.size) Va).trans u6
         have f2 : w6.frozen? ⟨a, j * 3 + 2, none⟩ = false := Joins.unfrozen_of_block ((hgrow6.block a (Nat.lt_of_lt_of_le hlta b16.size) Va).trans hcur6) _))
    all_goals
      have fin := close.out g6 cap6 w6 hown6 hgrow6 hat6
      clear close hown6 hgrow6 hat6 v0 v2 f2 hoV nw0 one u0 u2 u3 u4 u5 u6 u7 u8 r0 r2 r3 r4
      go_wp2
      exact bodyPost_ret (v := .tuple #[.int .i64 j, .bool true, .int .i64 0]) (by simp [results, Try.results10, go_sem]) rfl ⟨fun hn => absurd (by rw [hLK.out] at hn; exact hn) hm.out, fun _ => ⟨rfl, fin⟩⟩
end Go.Proofs.Yteeiidkbihhekaa
