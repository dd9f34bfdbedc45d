/- The reference's stacks: Push, walked. -/
import Derived.Test.YteeiidkbihhekaaSkZ
set_option linter.unusedVariables false
set_option linter.unusedSimpArgs false
namespace Go.Proofs.Yteeiidkbihhekaa
open Go Go.RowKit
variable {w : World} {S r p : Nat} {nv : Value} {vs : List Value} {ns : List N}
def RPushOk (w : World) (S r p : Nat) (nv : Value) (vs : List Value) (q : List N × Int × Bool × Int) (e : Ending) (w' : World) : Prop :=
  e = .returned (.tuple #[.int .i64 q.2.1, .bool q.2.2.1, .int .i64 q.2.2.2]) ∧ ∃ nv' vs', RM w' S r nv' vs' q.1 (p + 1) ∧ RFr w w' S r nv vs nv' vs'
set_option maxRecDepth 100000 in
theorem rpush_bad (h : RM w S r nv vs ns p) (on st lv ov : Int) (hk : ¬ (0 ≤ on ∧ on < ns.length)) : Calls Try.prog 22 #[.pointer (some ⟨r, 0, none⟩), .int .i64 on, .int .i64 st, .int .i64 lv, .int .i64 ov] w fun e w' => e = .returned (.tuple #[.int .i64 0, .bool false, .int .i64 4]) ∧ w' = w := by
  have c0 := h.c0
  obtain ⟨A, cap, rfl⟩ := own_len h.nod
  by_cases h0 : on < 0
  · have d0 : decide (on < 0) = true := decide_eq_true h0
    go_enter Try.func22, Try.ntmps22
    go_wp2
    refine bodyPost_ret (v := .tuple #[.int .i64 0, .bool false, .int .i64 4]) (by simp [results, Try.results22, go_sem]) rfl ⟨rfl, rfl⟩
  · have d0 : decide (on < 0) = false := decide_eq_false h0
    have d1 : decide ((ns.length : Int) ≤ on) = true := decide_eq_true (by omega)
    go_enter Try.func22, Try.ntmps22
    go_wp2
    refine bodyPost_ret (v := .tuple #[.int .i64 0, .bool false, .int .i64 4]) (by simp [results, Try.results22, go_sem]) rfl ⟨rfl, rfl⟩
set_option maxRecDepth 100000 in
theorem rpush_arg (h : RM w S r nv vs ns p) (hf : ns.length ≤ 2097152) (i : Nat) (hi : i < ns.length) (st lv ov : Int) (hk : st < 0 ∨ ov < 0 ∨ lv ≤ (ns[i]).lv) : Calls Try.prog 22 #[.pointer (some ⟨r, 0, none⟩), .int .i64 i, .int .i64 st, .int .i64 lv, .int .i64 ov] w fun e w' => e = .returned (.tuple #[.int .i64 0, .bool false, .int .i64 2]) ∧ w' = w := by
  have c0 := h.c0
  obtain ⟨a, cap, rfl, _, _, _, _, x1, _⟩ := h.node i hi
  have d1 : decide (ns.length ≤ i) = false := decide_eq_false (by omega)
  have d1' : decide ((ns.length : Int) ≤ (i : Int)) = false := decide_eq_false (by omega)
  have d2 : decide (i < ns.length) = true := decide_eq_true hi
  have d2' : decide ((i : Int) < (ns.length : Int)) = true := decide_eq_true (by omega)
  generalize (ns[i]).lv = L at *
  by_cases h1 : st < 0
  · have q1 : decide (st < 0) = true := decide_eq_true h1
    clear hk
    go_enter Try.func22, Try.ntmps22
    go_wp2
    refine bodyPost_ret (v := .tuple #[.int .i64 0, .bool false, .int .i64 2]) (by simp [results, Try.results22, go_sem]) rfl ⟨rfl, rfl⟩
  · have q1 : decide (st < 0) = false := decide_eq_false h1
    by_cases h2 : ov < 0
    · have q2 : decide (ov < 0) = true := decide_eq_true h2
      clear hk
      go_enter Try.func22, Try.ntmps22
      go_wp2
      refine bodyPost_ret (v := .tuple #[.int .i64 0, .bool false, .int .i64 2]) (by simp [results, Try.results22, go_sem]) rfl ⟨rfl, rfl⟩
    · have q2 : decide (ov < 0) = false := decide_eq_false h2
      have q3 : decide (lv ≤ L) = true := decide_eq_true (by omega)
      clear hk
      go_enter Try.func22, Try.ntmps22
      go_wp2
      refine bodyPost_ret (v := .tuple #[.int .i64 0, .bool false, .int .i64 2]) (by simp [results, Try.results22, go_sem]) rfl ⟨rfl, rfl⟩
/-- the node that Push goes on with, and the nodes there are then -/
def findP (ns : List N) (st lv : Int) : List N × Nat := if idx ns st lv = 0 then (ns ++ [⟨st, lv, []⟩], ns.length) else (ns, idx ns st lv - 1)
set_option maxRecDepth 100000 in
set_option maxHeartbeats 4000000 in
theorem rpush_go (h : RM w S r nv vs ns p) (hp : p ≤ 1073741824) (hf : ns.length < 2097152) (i : Nat) (hi : i < ns.length) (st lv ov : Int) (h1 : 0 ≤ st) (h2 : 0 ≤ ov) (h3 : (ns[i]).lv < lv) (NS : List N) (j : Nat) (hNS : findP ns st lv = (NS, j)) (hj : j < NS.length) :
    Calls Try.prog 22 #[.pointer (some ⟨r, 0, none⟩), .int .i64 i, .int .i64 st, .int .i64 lv, .int .i64 ov] w (RPushOk w S r p nv vs (linkP NS j ((i : Int), ov))) := by
  obtain ⟨a, cap, rfl, _, _, _, _, x1, _⟩ := h.node i hi
  have c0 := h.c0
  have hnod := h.nod
  have hlow := h.low
  have hrl : r < w.heap.size := (Array.getElem?_eq_some_iff.1 h.hd).1
  have d1 : decide (ns.length ≤ i) = false := decide_eq_false (by omega)
  have d1' : decide ((ns.length : Int) ≤ (i : Int)) = false := decide_eq_false (by omega)
  have d2 : decide (i < ns.length) = true := decide_eq_true hi
  have d2' : decide ((i : Int) < (ns.length : Int)) = true := decide_eq_true (by omega)
  generalize hL : (ns[i]).lv = L at *
  have q1 : decide (st < 0) = false := decide_eq_false (by omega)
  have q2 : decide (ov < 0) = false := decide_eq_false (by omega)
  have q3 : decide (lv ≤ L) = false := decide_eq_false (by omega)
  have q5 : decide ((2097152 : Int) ≤ (ns.length : Int)) = false := decide_eq_false (by omega)
  have q6 : decide (2097152 ≤ ns.length) = false := decide_eq_false (by omega)
  have hfi := rfind_in h (by omega) st lv
  obtain ⟨b, hb⟩ : ∃ b, decide (0 < idx ns st lv) = b := ⟨_, rfl⟩
  obtain ⟨m0, hm0⟩ : ∃ m, idx ns st lv - 1 = m := ⟨_, rfl⟩
  rw [hb, hm0] at hfi
  replace hfi := Kept.mk hfi
  replace hb := Kept.mk hb
  replace hm0 := Kept.mk hm0
  replace hL := Kept.mk hL
  replace hNS := Kept.mk hNS
  obtain ⟨i67, hi67, z0, z1, z2⟩ := info_parts info67
  replace h := Kept.mk h
  go_enter Try.func22, Try.ntmps22
  go_upto_if 54 with (first | (go_at_call 32; (with_reducible refine hfi.out.mono ?_); rintro en w1 ⟨rfl, rfl⟩))
  clear x1 q1 q2 q3 d1 d1' d2 d2'
  go_cut [13] (fun s13 W => s13 = .int .i64 j ∧ Kept (∃ nv1 vs1, RM W S r nv1 vs1 NS p ∧ RFr w1 W S r (.slice (some ⟨a, 0, none⟩) ns.length cap) vs nv1 vs1))
  case first =>
    cases b
    · have hz : idx ns st lv = 0 := by have := of_decide_eq_false hb.out; omega
      have hN2 := hNS.out
      unfold findP at hN2
      rw [if_pos hz] at hN2
      obtain ⟨rfl, rfl⟩ := Prod.mk.inj hN2
      have on2 := hnod.alloc (.cells #[.int .i64 st, .int .i64 lv, .slice none 0 0] 67)
      have nw2 : ∀ q u, [Value.int .i64 st, .int .i64 lv, .slice none 0 0][q]? = some u → (w1.alloc (.cells #[.int .i64 st, .int .i64 lv, .slice none 0 0] 67)).cell? ((⟨w1.heap.size, 0, none⟩ : Addr).add q) = some u := World.news_of_block (cs := #[.int .i64 st, .int .i64 lv, .slice none 0 0]) (alloc_here w1 _)
      have one : ∀ u ∈ [Value.int .i64 st, .int .i64 lv, .slice none 0 0], u.oneCell' = true := by
        intro u hu
        simp at hu
        rcases hu with rfl | rfl | rfl <;> rfl
      have al := below_al w1 (.cells #[.int .i64 st, .int .i64 lv, .slice none 0 0] 67)
      have h2' := Kept.mk (h.out.below al)
      have hS2 : S ≤ (w1.alloc (.cells #[.int .i64 st, .int .i64 lv, .slice none 0 0] 67)).heap.size := h2'.out.low
      have fr0 := Kept.mk (RFr.of_below (r := r) (.slice (some ⟨a, 0, none⟩) ns.length cap) vs hlow al)
      have hr2 : (w1.alloc (.cells #[.int .i64 st, .int .i64 lv, .slice none 0 0] 67)).heap[r]? = _ := h2'.out.hd
      replace hz := Kept.mk hz
      clear hN2 al
      go_wp2_with (first
        | (at_builtin; refine wpList_append_own_at _ rfl _ _ 61 rfl S 67 i67 (.agg #[.int .i64 0, .int .i64 0, .slice none 0 0]) 3 40 Try.underlying61 hi67 z0 z1 z2 rfl (by decide) _ _ _ rfl on2 ⟨w1.heap.size, 0, none⟩ 1 1 [.int .i64 st, .int .i64 lv, .slice none 0 0] rfl rfl nw2 one (by unfold maxLen; omega) (by omega) hS2 ?_
           intro nv3 w3 h3n hg3 _ hat3
           obtain ⟨A3, cap3, hv3⟩ := own_len h3n
           subst hv3
           have fin := Kept.mk (h2'.out.made hg3 h3n hat3)
           have hr3 := kept_block on2 hg3 hr2 (by intro cur e; cases e)
           have f3 : w3.frozen? ⟨r, 0, none⟩ = false := Joins.unfrozen_of_block hr3 0
           have k3 : w3.cell? ⟨r, 0, none⟩ = some (.slice (some ⟨a, 0, none⟩) ns.length cap) := by simp [World.cell?, hr3]
           clear h3n hg3 hat3 hr3 nw2 one))
      go_meet
      case rel => exact ⟨rfl, ⟨_, _, fin.out.1, fr0.out.trans fin.out.2⟩⟩
    · have hz : ¬ idx ns st lv = 0 := by have := of_decide_eq_true hb.out; omega
      have hN2 := hNS.out
      unfold findP at hN2
      rw [if_neg hz, hm0.out] at hN2
      obtain ⟨rfl, rfl⟩ := Prod.mk.inj hN2
      replace hz := Kept.mk hz
      clear hN2
      go_wp2
      go_meet
      case rel => exact ⟨rfl, ⟨_, _, h.out, RFr.refl _ _ _ _ _⟩⟩
  case rest =>
    obtain ⟨rfl, ⟨nv1, vs1, hR, hfr⟩⟩ := hcut
    obtain ⟨a1, cap1, hv1, hSa, hlta, hcap1, _, _, x2⟩ := hR.node j hj
    subst hv1
    have c1 := hR.c0
    have f1 : decide (j < NS.length) = true := decide_eq_true hj
    have f1' : decide ((j : Int) < (NS.length : Int)) = true := decide_eq_true (by omega)
    have hlkl : (NS[j]).lk.length ≤ p := hR.lkp _ (List.getElem_mem hj)
    have hoV := hR.lks j hj
    have hle : NS.length ≤ 2097152 := by
      have := hNS.out
      unfold findP at this
      split at this
      · obtain ⟨rfl, _⟩ := Prod.mk.inj this
        simp
        omega
      · obtain ⟨rfl, _⟩ := Prod.mk.inj this
        omega
    have eLK := lkOf_at hj
    generalize hV : vAt vs1 j = V at *
    obtain ⟨AV, cV, hVs⟩ := own_len hoV
    subst hVs
    have hR' := Kept.mk hR
    clear hR hnod
    generalize hLK : (NS[j]).lk = LK at *
    replace hLK := Kept.mk hLK
    replace hV := Kept.mk hV
    replace eLK := Kept.mk eLK
    replace hfr := Kept.mk hfr
    replace hb := Kept.mk hb
    go_wp2
    go_loopg [16] LK.length (fun gk t wr => ∃ k : Nat, t = .int .i64 k ∧ Kept (k + gk = LK.length) ∧ Kept (wr = wc) ∧ Kept (∀ q (hq : q < LK.length), q < k → LK[q] ≠ ((i : Int), ov)))
    case atStart => exact ⟨0, rfl, ⟨by omega⟩, ⟨rfl⟩, ⟨fun q _ h => absurd h (by omega)⟩⟩
    case round =>
      obtain ⟨k, rfl, hk, hw, hno⟩ := hrel
      have hk' := hk.out
      obtain ⟨wz, hwz⟩ : ∃ wz, wz = wr := ⟨_, rfl⟩
      obtain rfl := hw.out
      clear hwz
      by_cases hlt : k < LK.length
      · have g1 : decide (k < LK.length) = true := decide_eq_true hlt
        have g1' : decide ((k : Int) < (LK.length : Int)) = true := decide_eq_true (by omega)
        obtain ⟨al, cl, hv, _, _, _, hrd⟩ := lk_read hoV (by omega)
        cases hv
        obtain ⟨y0, y1⟩ := hrd k hlt
        obtain ⟨s1, s2, hs⟩ : ∃ s l, LK[k] = (s, l) := ⟨_, _, rfl⟩
        rw [hs] at y0 y1
        dsimp only at y0 y1
        replace hs := Kept.mk hs
        clear hrd
        by_cases e1 : s1 = (i : Int)
        · subst e1
          by_cases e2 : s2 = ov
          · subst e2
            have hmem : Kept (((i : Int), s2) ∈ lkOf NS j) := ⟨by rw [eLK.out, ← hs.out]; exact List.getElem_mem hlt⟩
            go_wp2
            have hlp : linkP NS j ((i : Int), s2) = (NS, (j : Int), false, 0) := by
              unfold linkP
              rw [if_pos hmem.out]
            refine bodyPost_ret (v := .tuple #[.int .i64 j, .bool false, .int .i64 0]) (by simp [results, Try.results22, go_sem]) rfl ?_
            rw [hlp]
            exact ⟨rfl, _, _, hR'.out.mono (by omega), hfr.out⟩
          · have g2 : decide (s2 = ov) = false := decide_eq_false e2
            have g3 : (s2 == ov) = false := beq_eq_false_iff_ne.2 e2
            have hne : Kept (LK[k] ≠ ((i : Int), ov)) := ⟨by rw [hs.out]; intro e; exact e2 (Prod.mk.inj e).2⟩
            clear e2
            go_wp2
            go_roundg (gk - 1)
            case measure => omega
            case rel =>
              refine ⟨k + 1, by go_num, ⟨by omega⟩, ⟨rfl⟩, ⟨fun q hq hqk => ?_⟩⟩
              by_cases hq2 : q < k
              · exact hno.out q hq hq2
              · have : q = k := by omega
                subst this
                exact hne.out
        · have g2 : decide (s1 = (i : Int)) = false := decide_eq_false e1
          have g3 : (s1 == (i : Int)) = false := beq_eq_false_iff_ne.2 e1
          have hne : Kept (LK[k] ≠ ((i : Int), ov)) := ⟨by rw [hs.out]; intro e; exact e1 (Prod.mk.inj e).1⟩
          clear e1
          go_wp2
          go_roundg (gk - 1)
          case measure => omega
          case rel =>
            refine ⟨k + 1, by go_num, ⟨by omega⟩, ⟨rfl⟩, ⟨fun q hq hqk => ?_⟩⟩
            by_cases hq2 : q < k
            · exact hno.out q hq hq2
            · have : q = k := by omega
              subst this
              exact hne.out
      · have g1 : decide (k < LK.length) = false := decide_eq_false hlt
        have g1' : decide ((k : Int) < (LK.length : Int)) = false := decide_eq_false (by omega)
        have hnm : Kept (((i : Int), ov) ∉ lkOf NS j) := ⟨by
          rw [eLK.out]
          intro hmem
          obtain ⟨q, hq, e⟩ := List.getElem_of_mem hmem
          exact hno.out q hq (by omega) e⟩
        have B16 : Below wr.heap.size wr ((wr.alloc (.cells #[.int .i64 i, .int .i64 ov] 46)).drew) := (below_al wr _).drew
        have h6 := hR'.out.below B16
        have hoV6 := h6.lks j hj
        rw [hV.out, hLK.out] at hoV6
        obtain ⟨i46, hi46, e0, e1, e2⟩ := info_parts info46
        have nw0 : ∀ k u, [Value.int .i64 (i : Int), .int .i64 ov][k]? = some u → ((wr.alloc (.cells #[.int .i64 i, .int .i64 ov] 46)).drew).cell? ((⟨wr.heap.size, 0, none⟩ : Addr).add k) = some u :=
          World.news_of_block (cs := #[.int .i64 i, .int .i64 ov]) (MapKept.heap_alloc wr _).1
        have one : ∀ u ∈ [Value.int .i64 (i : Int), .int .i64 ov], u.oneCell' = true := by
          intro u hu
          simp at hu
          rcases hu with rfl | rfl <;> rfl
        have rl := (Array.getElem?_eq_some_iff.1 hR'.out.hd).1
        have r0 : wr.drew.cell? ⟨r, 0, none⟩ = some (.slice (some ⟨a1, 0, none⟩) NS.length cap1) := c1
        have r1 : ((wr.alloc (.cells #[.int .i64 i, .int .i64 ov] 46)).drew).cell? ⟨r, 0, none⟩ = some (.slice (some ⟨a1, 0, none⟩) NS.length cap1) := h6.c0
        have Vr : some r ≠ (Value.slice AV LK.length cV).ownBlock := fun e => by
          obtain ⟨c, cp, hv, _⟩ := own_block_cells hoV e.symm
          rw [hR'.out.hd] at hv
          cases hv
        obtain ⟨_, _, hv9, _, _, _, _, cur, hcur, _⟩ := own_cells hR'.out.nod (by omega)
        cases hv9
        have Va : some a1 ≠ (Value.slice AV LK.length cV).ownBlock := fun e => by
          obtain ⟨c, cp, hv, _⟩ := own_block_cells hoV e.symm
          rw [hcur] at hv
          cases hv
        have hcur6 := (B16.block a1 hlta).trans hcur
        have hB16 : S ≤ ((wr.alloc (.cells #[.int .i64 i, .int .i64 ov] 46)).drew).heap.size := h6.low
        have hlp : linkP NS j ((i : Int), ov) = (linkUp NS j ((i : Int), ov), (j : Int), true, 0) := by
          unfold linkP
          rw [if_neg hnm.out]
        replace hlp := Kept.mk hlp
        have close : Kept (∀ g6 cap6 w6, w6.ownsRow S 46 2 (.slice (some ⟨g6, 0, none⟩) (LK.length + 1) cap6) (LK.length + 1) (lkCells LK ++ [.int .i64 i, .int .i64 ov]) → ((wr.alloc (.cells #[.int .i64 i, .int .i64 ov] 46)).drew).grownBy w6 (Value.slice AV LK.length cV).ownBlock → ((Value.slice AV LK.length cV).ownBlock = some g6 ∨ g6 = ((wr.alloc (.cells #[.int .i64 i, .int .i64 ov] 46)).drew).heap.size) →
            ∃ nv' vs', RM (w6.setCell ⟨a1, j * 3 + 2, none⟩ (.slice (some ⟨g6, 0, none⟩) (LK.length + 1) cap6)) S r nv' vs' (linkUp NS j ((i : Int), ov)) (p + 1) ∧ RFr w1 (w6.setCell ⟨a1, j * 3 + 2, none⟩ (.slice (some ⟨g6, 0, none⟩) (LK.length + 1) cap6)) S r (.slice (some ⟨a, 0, none⟩) ns.length cap) vs nv' vs') := by
          refine ⟨fun g6 cap6 w6 hown6 hgrow6 hat6 => ?_⟩
          have fin := h6.linked hj ((i : Int), ov) (v' := .slice (some ⟨g6, 0, none⟩) (LK.length + 1) cap6) (by rw [hV.out]; exact hgrow6) (by rw [lkCells_append, hLK.out]; exact hown6) (by rw [hV.out]; exact hat6.imp (fun e => e.symm) (fun e => ⟨g6, rfl, by rw [e]; exact Nat.le_refl _⟩))
          exact ⟨_, _, fin.1, (hfr.out.trans (RFr.of_below (r := r) _ vs1 (RM.low hR'.out) B16)).trans fin.2⟩
        clear h6 hcur
        go_wp2
        go_region_law (
          (refine step_append_lies _ rfl _ _ 43 rfl S 46 i46 (.agg #[.int .i64 0, .int .i64 0]) 2 16 Try.underlying43 hi46 e0 e1 e2 rfl (by decide) _ LK.length _ rfl hoV6 ⟨wr.heap.size, 0, none⟩ 1 1 [.int .i64 i, .int .i64 ov] rfl rfl nw0 one (by decide) (by unfold maxLen; omega) (by omega) hB16 _ rfl ?_
           intro g6 cap6 w6 hown6 hgrow6 hat6 hlt6
           have v0 := (hgrow6.cell_far ⟨r, 0, none⟩ (Nat.lt_of_lt_of_le rl B16.size) Vr).trans r1
           have f2 : w6.frozen? ⟨a1, j * 3 + 2, none⟩ = false := Joins.unfrozen_of_block ((hgrow6.block a1 (Nat.lt_of_lt_of_le hlta B16.size) Va).trans hcur6) _
           have v2 : ∃ u, w6.cell? ⟨a1, j * 3 + 2, none⟩ = some u := ⟨_, (hgrow6.cell_far ⟨a1, j * 3 + 2, none⟩ (Nat.lt_of_lt_of_le hlta B16.size) Va).trans ((B16.cell (p := ⟨a1, j * 3 + 2, none⟩) hlta).trans x2)⟩
           obtain ⟨u2, v2⟩ := v2))
        all_goals
          have fin := close.out g6 cap6 w6 hown6 hgrow6 hat6
          clear close hown6 hgrow6 hat6 v0 v2 f2 hoV6 nw0 one r0 r1
          go_wp2
          refine bodyPost_ret (v := .tuple #[.int .i64 j, .bool true, .int .i64 0]) (by simp [results, Try.results22, go_sem]) rfl ?_
          rw [hlp.out]
          exact ⟨rfl, fin⟩
theorem RPush_in (h : RM w S r nv vs ns p) (hp : p ≤ 1073741824) (hf : ns.length < 2097152) (on st lv ov : Int) :
    Calls Try.prog 22 #[.pointer (some ⟨r, 0, none⟩), .int .i64 on, .int .i64 st, .int .i64 lv, .int .i64 ov] w (RPushOk w S r p nv vs (pushP ns on st lv ov)) := by
  have same : ∃ nv' vs', RM w S r nv' vs' ns (p + 1) ∧ RFr w w S r nv vs nv' vs' := ⟨_, _, h.mono (by omega), RFr.refl _ _ _ _ _⟩
  unfold pushP
  by_cases h1 : 0 ≤ on ∧ on < ns.length
  · rw [if_pos h1]
    obtain ⟨i, rfl⟩ : ∃ i : Nat, on = i := ⟨on.toNat, by omega⟩
    have hi : i < ns.length := by omega
    rw [Int.toNat_natCast, lvOf_at hi]
    by_cases h2 : st < 0 ∨ ov < 0 ∨ lv ≤ (ns[i]).lv
    · rw [if_pos h2]
      refine (rpush_arg h (by omega) i hi st lv ov h2).mono ?_
      rintro e w' ⟨rfl, rfl⟩
      exact ⟨rfl, same⟩
    · rw [if_neg h2]
      by_cases h3 : idx ns st lv = 0
      · rw [if_pos h3]
        exact rpush_go h hp hf i hi st lv ov (by omega) (by omega) (by omega) _ _ (by unfold findP; rw [if_pos h3]) (by simp)
      · rw [if_neg h3]
        have hle := idx_le ns st lv
        exact rpush_go h hp hf i hi st lv ov (by omega) (by omega) (by omega) _ _ (by unfold findP; rw [if_neg h3]) (by omega)
  · rw [if_neg h1]
    refine (rpush_bad h on st lv ov h1).mono ?_
    rintro e w' ⟨rfl, rfl⟩
    exact ⟨rfl, same⟩
end Go.Proofs.Yteeiidkbihhekaa
