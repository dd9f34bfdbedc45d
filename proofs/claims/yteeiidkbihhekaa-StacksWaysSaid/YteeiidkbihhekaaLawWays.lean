/- The ways through a node's links, link by link, are the node's ways; each goes by links that are there, down to its base: the law StacksWays returns true, for any pushes, any node, any length. -/
import Derived.Test.YteeiidkbihhekaaSkU
import Derived.Test.YteeiidkbihhekaaSkV
import Derived.Deep.RegionHeldLaw
import Derived.Deep.AppendLies
set_option linter.unusedVariables false
set_option linter.unusedSimpArgs false
namespace Go.Proofs.Yteeiidkbihhekaa
open Go Go.RowKit
theorem flat_take (f : Int × Int → List Wy) : ∀ (ls : List (Int × Int)) (i : Nat) (h : i < ls.length), ((ls.take i).flatMap f).length + (f ls[i]).length ≤ (ls.flatMap f).length
  | [], i, h => absurd h (by simp)
  | x :: xs, 0, h => by simp
  | x :: xs, i + 1, h => by
    have ih := flat_take f xs i (by simpa using h)
    rw [List.take_succ_cons, List.flatMap_cons, List.flatMap_cons, List.length_append, List.length_append]
    simp only [List.getElem_cons_succ]
    omega
theorem add_row (g q : Nat) : (⟨g, 0, none⟩ : Addr).add q = ⟨g, q, none⟩ := by
  unfold Addr.add
  split <;> simp_all
theorem lit_one (w : World) (n : Int) : WaysR (w.alloc (.cells #[.int .i64 n, .slice none 0 0] 35)) (.slice (some ⟨w.heap.size, 0, none⟩) 1 1) [(n, [])] := by
  refine ⟨_, 1, [.slice none 0 0], rfl, fun i hi => ⟨_, 0, rfl, ?_⟩⟩
  have : i = 0 := by simp at hi; omega
  subst this
  refine ⟨acell w _ 35 0, acell w _ 35 1, ⟨none, 0, rfl, fun j hj => absurd hj (by simp)⟩⟩
theorem blk_add (a : Addr) (n : Nat) : (a.add n).block = a.block := by
  unfold Addr.add
  split <;> rfl
set_option maxRecDepth 100000 in
set_option maxHeartbeats 8000000 in
theorem lawWays (A : Option Addr) (cap : Nat) (l : List Quad) (which : Int) (n8 : Int) (w : World) (hA : QuadsR w A l) (_ : QWf l) (hc : l.length ≤ cap) (hm : l.length ≤ maxLen) (_ : (Lit.int .i64 which).wf = true) (hn8 : 0 ≤ n8 ∧ n8 ≤ 255) :
    Calls Try.prog 5 #[.slice A l.length cap, .int .i64 which, .int .u8 n8] w fun e w' => e = .returned (.bool true) ∧ Below w.heap.size w w' := by
  have hbu := Kept.mk (built_in A cap l w hA hc hm)
  clear hA hm
  go_enter Try.func5, Try.ntmps5
  go_wp2_with (first | (go_at_call 12; (with_reducible refine hbu.out.mono ?_); rintro en w1 ⟨g, bm, br, nv, vs, ns, p, rfl, h1, hG, hp, b1⟩))
  have hpos := hG.pos
  have hfew := hG.few
  obtain ⟨n, hn, en⟩ := u64_mod which ns.length (by omega)
  obtain ⟨wn1, wn2⟩ := wrap_small n (by omega)
  obtain ⟨k0, hk0⟩ : ∃ k0 : Nat, n8 % 5 = k0 := ⟨(n8 % 5).toNat, by omega⟩
  have hk5 : k0 ≤ 4 := by omega
  have wr2 : IntKind.i64.wrap n8 = n8 := IntWalk.i64_in _ (by omega)
  have wr3 : n8.tmod 5 = n8 % 5 := by rw [Int.tmod_eq_emod_of_nonneg hn8.1]
  have wr4 : IntKind.i64.wrap (n8 % 5) = n8 % 5 := IntWalk.i64_in _ (by omega)
  have hlen := Kept.mk (len_in h1)
  replace h1 := Kept.mk h1
  replace hG := Kept.mk hG
  replace b1 := Kept.mk b1
  clear hbu
  go_wp2_with (first | (go_at_call 13; (with_reducible refine hlen.out.mono ?_); rintro en w2 ⟨rfl, rfl⟩))
  clear en wn1 wn2 wr2 wr3 wr4 hk0 hlen
  obtain ⟨W, hW⟩ : ∃ W, allW ns (-1) (-1) (k0 + 1) n false = W := ⟨_, rfl⟩
  have e1 : (1 : Int) + (k0 : Int) = ((k0 + 1 : Nat) : Int) := by omega
  have hwa := Ways_in h1.out (by omega) hG.out.lnk n ((k0 + 1 : Nat) : Int)
  rw [ways_all ns (-1) (-1) (k0 + 1) n hn (by omega), hW, ← e1] at hwa
  replace hwa := Kept.mk hwa
  by_cases hl4 : W.length ≤ 4096
  · rw [if_pos hl4] at hwa
    have hlk := Kept.mk (fun (w3 : World) (b : Below w2.heap.size w2 w3) => links_ok (h1.out.below b) (by omega) n hn)
    have eLK := lkOf_at hn
    have hflat := allW_flat ns n k0
    rw [hW] at hflat
    rw [eLK] at hflat
    have hin : ∀ x ∈ (ns[n]).lk, x ∈ lkOf ns n := fun x hx => by rw [eLK]; exact hx
    have hthr : ∀ t (ht : t < (ns[n]).lk.length), thruP ns n ((k0 + 1 : Nat) : Int) n t = (0, byOne ns k0 ((ns[n]).lk[t])) := fun t ht => by
      have h4 : (byOne ns k0 ((ns[n]).lk[t])).length ≤ 4096 := Nat.le_trans (flat_part (byOne ns k0) _ _ (List.getElem_mem ht)) (by rw [← hflat]; exact hl4)
      unfold thruP
      rw [if_pos ⟨by omega, by omega⟩, Int.toNat_natCast, eLK, if_pos ⟨by omega, by omega, by omega, by omega⟩, ways_all ns n t (k0 + 1) n hn (by omega), allW_through hG.out hn t (by rw [eLK]; exact ht)]
      simp only [eLK]
      rw [if_pos h4]
    have hlow : ∀ t (ht : t < (ns[n]).lk.length), ∃ m : Nat, ((ns[n]).lk[t]).1 = m ∧ m < ns.length ∧ waysP ns m k0 (-1) (-1) = (0, allW ns (-1) (-1) k0 m false) := fun t ht => by
      have h4 : (byOne ns k0 ((ns[n]).lk[t])).length ≤ 4096 := Nat.le_trans (flat_part (byOne ns k0) _ _ (List.getElem_mem ht)) (by rw [← hflat]; exact hl4)
      have h5 := hG.out.lower hn (hin _ (List.getElem_mem ht))
      rw [byOne_len] at h4
      refine ⟨((ns[n]).lk[t]).1.toNat, by omega, h5.2.1, ?_⟩
      rw [ways_all ns (-1) (-1) k0 _ h5.2.1 (by omega), if_pos h4]
    replace hthr := Kept.mk hthr
    replace hlow := Kept.mk hlow
    replace hflat := Kept.mk hflat
    clear eLK hin
    have hlkl : (ns[n]).lk.length ≤ p := h1.out.lkp _ (List.getElem_mem hn)
    generalize hLK : (ns[n]).lk = LK at *
    replace hLK := Kept.mk hLK
    replace hW := Kept.mk hW
    replace e1 := Kept.mk e1
    refine hwa.out.mono ?_
    rintro en w3 ⟨v3, us3, rfl, m3, b3⟩
    replace m3 := Kept.mk m3
    replace b3 := Kept.mk b3
    go_wp2_with (first | (go_at_call 15; (with_reducible refine (hlk.out _ b3.out).mono ?_); rintro en w4 ⟨v4, rfl, o4, b4⟩; have o4' := Kept.mk (LinksR.of_row o4); obtain ⟨A4, c4, rfl⟩ := own_len o4; clear o4; replace b4 := Kept.mk b4))
    have B24 : Below w2.heap.size w2 w4 := b3.out.trans (b4.out.mono b3.out.size)
    replace B24 := Kept.mk B24
    go_loopg [13, 14] LK.length (fun gk vp t wr => ∃ i : Nat, t = .int .i64 i ∧ Kept (i + gk = LK.length) ∧ Kept (∃ us, PartsM wr w4.heap.size vp us ((LK.take i).flatMap (byOne ns k0))) ∧ Kept (Below w4.heap.size w4 wr))
    case atStart => exact ⟨0, rfl, ⟨by omega⟩, ⟨[], PartsM.nil _ _⟩, ⟨Below.refl _ _⟩⟩
    case round =>
      obtain ⟨i, rfl, hi, ⟨usp, hP⟩, hB⟩ := hrel
      have hi' := hi.out
      by_cases hlt : i < LK.length
      · have f1 : decide (i < LK.length) = true := decide_eq_true hlt
        have f1' : decide ((i : Int) < (LK.length : Int)) = true := decide_eq_true (by omega)
        obtain ⟨A, c, hv, hr⟩ := o4'.out
        cases hv
        obtain ⟨a4, of4, rfl, y0, y1⟩ := hr i hlt
        obtain ⟨m, em, hmn, ewm⟩ := hlow.out i hlt
        have z0 : wr.cell? ⟨a4, of4 + i * 2, none⟩ = some (.int .i64 m) := by rw [← em]; exact (hB.out.cell (World.block_lt_of_cell? _ _ y0)).trans y0
        have z1 : wr.cell? ⟨a4, of4 + i * 2 + 1, none⟩ = some (.int .i64 (LK[i]).2) := (hB.out.cell (World.block_lt_of_cell? _ _ y1)).trans y1
        have B2r := B24.out.trans (hB.out.mono B24.out.size)
        have hst := h1.out.below B2r
        have hwb := Ways_in hst (by omega) hG.out.lnk m k0
        rw [ewm] at hwb
        have hwb : Kept (Calls Try.prog 11 #[.pointer (some ⟨g, 0, none⟩), .int .i64 m, .int .i64 (1 + (k0 : Int) - 1)] wr (Told wr (0, allW ns (-1) (-1) k0 m false))) := by
          have e : (1 : Int) + (k0 : Int) - 1 = k0 := by omega
          rw [e]
          exact ⟨hwb⟩
        have hth := Kept.mk (fun (w6 : World) (b : Below wr.heap.size wr w6) => Through_in (hst.below b) (by omega) hG.out.lnk n ((k0 + 1 : Nat) : Int) n i)
        have eth := hthr.out i hlt
        rw [eth, ← e1.out] at hth
        have ebo : byOne ns k0 LK[i] = (allW ns (-1) (-1) k0 m false).map (addT (LK[i]).2) := by
          unfold byOne
          rw [em, Int.toNat_natCast]
        have hpl : (byOne ns k0 LK[i]).length ≤ 4096 := by
          have := flat_part (byOne ns k0) LK LK[i] (List.getElem_mem hlt)
          rw [← hflat.out] at this
          omega
        rw [ebo] at hth hpl
        rw [List.length_map] at hpl
        have ots : Kept (∀ y ∈ allW ns (-1) (-1) k0 m false, y.2.length = k0) := ⟨addT_len ns (-1) (-1) k0 m false⟩
        obtain ⟨Y, hY⟩ : ∃ Y, allW ns (-1) (-1) k0 m false = Y := ⟨_, rfl⟩
        rw [hY] at hwb hth ebo hpl ots
        obtain ⟨ov, hov⟩ : ∃ ov, (LK[i]).2 = ov := ⟨_, rfl⟩
        rw [hov] at hth z1 ebo
        replace ebo := Kept.mk ebo
        replace hP := Kept.mk hP
        clear eth em ewm hr y0 y1 hst hY hov hmn o4'
        go_wp2_with (first
          | (go_at_call 11; (with_reducible refine hwb.out.mono ?_); rintro en w5 ⟨v5, us5, rfl, m5, b5⟩; obtain ⟨A5, c5, hv5⟩ := own_len m5.outr; dsimp only at hv5; subst hv5; replace m5 := Kept.mk m5; replace b5 := Kept.mk b5)
          | (go_at_call 17; (with_reducible refine (hth.out _ b5.out).mono ?_); rintro en w6 ⟨v6, us6, rfl, m6, b6⟩; obtain ⟨A6, c6, hv6⟩ := own_len m6.outr; simp only [List.length_map] at hv6; subst hv6; replace m6 := Kept.mk m6; replace b6 := Kept.mk b6))
        obtain ⟨gko, hgko⟩ : ∃ x : Nat, x = gk := ⟨_, rfl⟩
        replace hgko := Kept.mk hgko
        go_loopg [19] Y.length (fun gk t wr => ∃ j : Nat, t = .int .i64 j ∧ Kept (j + gk = Y.length) ∧ Kept (Below w6.heap.size w6 wr))
        case atStart => exact ⟨0, rfl, ⟨by omega⟩, ⟨Below.refl _ _⟩⟩
        case round =>
          obtain ⟨j, rfl, hj, hB6⟩ := hrel
          have hj' := hj.out
          by_cases hlt2 : j < Y.length
          · have f2 : decide (j < Y.length) = true := decide_eq_true hlt2
            have f2' : decide ((j : Int) < (Y.length : Int)) = true := decide_eq_true (by omega)
            have B56 := b6.out
            have Bw6 := b5.out.trans (B56.mono b5.out.size)
            have Br := Bw6.trans (hB6.out.mono Bw6.size)
            have x1 := cell_below Br (World.block_lt_of_cell? _ _ z1) z1
            obtain ⟨a5, d5, hv5, _, ha5, hc5, r5, _⟩ := own_cells m5.out.outr (show 0 < (0, Y).2.length by show 0 < Y.length; omega)
            cases hv5
            obtain ⟨p0, p1⟩ := wayCells_at Y us5 j m5.out.len hlt2
            have q0 := (r5 (j * 2) (by show j * 2 < Y.length * 2; omega)).trans p0
            have q1 := (r5 (j * 2 + 1) (by show j * 2 + 1 < Y.length * 2; omega)).trans p1
            have o5 := m5.out.ways j hlt2
            have B6r : Below w5.heap.size w5 wr := B56.trans (hB6.out.mono B56.size)
            have q0 := cell_below B6r ha5 q0
            have q1 := cell_below B6r ha5 q1
            have o5 := ownsRow_heap (w' := wr) o5 (fun k c hk _ => (B6r.block k (Array.getElem?_eq_some_iff.1 hk).1).trans hk)
            have ml : (Y.map (addT ov)).length = Y.length := List.length_map ..
            obtain ⟨a6, d6, hv6, _, ha6, hc6, r6, _⟩ := own_cells m6.out.outr (by show 0 < (Y.map (addT ov)).length; omega)
            have hv6' : A6 = some ⟨a6, 0, none⟩ := by injection hv6
            subst hv6'
            clear hv6
            obtain ⟨s0, s1⟩ := wayCells_at (Y.map (addT ov)) us6 j m6.out.len (by omega)
            have t0 := (r6 (j * 2) (by show j * 2 < (Y.map (addT ov)).length * 2; omega)).trans s0
            have t1 := (r6 (j * 2 + 1) (by show j * 2 + 1 < (Y.map (addT ov)).length * 2; omega)).trans s1
            have o6 := IntsR.of_row (m6.out.ways j (by show j < (Y.map (addT ov)).length; omega))
            have t0 := cell_below hB6.out ha6 t0
            have t1 := cell_below hB6.out ha6 t1
            have o6 := o6.below hB6.out
            have ey : (Y.map (addT ov))[j]'(by omega) = addT ov Y[j] := by simp
            have o6 : IntsR wr (vAt us6 j) ((Y[j]).2 ++ [ov]) := by
              have := o6
              simp only [ey] at this
              exact this
            rw [ey] at t0
            have hyl := ots.out _ (List.getElem_mem hlt2)
            obtain ⟨yb, yo, hy⟩ : ∃ b o, Y[j] = (b, o) := ⟨_, _, rfl⟩
            simp only [hy] at o5 o6 q0 t0 hyl
            replace t0 : wr.cell? ⟨a6, j * 2, none⟩ = some (.int .i64 yb) := t0
            clear r5 r6 p0 p1 s0 s1 ey hy ha5 ha6 hc5 hc6
            generalize vAt us5 j = u5 at *
            generalize vAt us6 j = u6' at *
            obtain ⟨i3, hi3, e0, e1', e2⟩ := info_parts info3
            have one : ∀ u ∈ [Value.int .i64 ov], u.oneCell' = true := by
              intro u hu
              simp at hu
              subst hu
              rfl
            -- what the two calls make, in whatever world that has grown
            have keep : ∀ w', Below wr.heap.size wr w' → w'.cell? ⟨a5, j * 2, none⟩ = some (.int .i64 yb) ∧ w'.cell? ⟨a6, j * 2, none⟩ = some (.int .i64 yb) ∧ w'.cell? ⟨a5, j * 2 + 1, none⟩ = some u5 ∧ w'.cell? ⟨a6, j * 2 + 1, none⟩ = some u6' ∧ w'.cell? ⟨a4, of4 + i * 2 + 1, none⟩ = some (.int .i64 ov) := fun w' b =>
              ⟨cell_below b (World.block_lt_of_cell? _ _ q0) q0, cell_below b (World.block_lt_of_cell? _ _ t0) t0, cell_below b (World.block_lt_of_cell? _ _ q1) q1, cell_below b (World.block_lt_of_cell? _ _ t1) t1, cell_below b (World.block_lt_of_cell? _ _ x1) x1⟩
            have hcp : ∀ w', Below wr.heap.size wr w' → Calls Try.prog 19 #[u5] w' fun e w'' => ∃ v', e = .returned v' ∧ w''.ownsRow w'.heap.size 3 1 v' yo.length (ints yo) ∧ Below w'.heap.size w' w'' := fun w' b =>
              copy_in (ownsRow_heap o5 (fun k c hk _ => (b.block k (Array.getElem?_eq_some_iff.1 hk).1).trans hk)) (by omega)
            have hsi : ∀ w' v' B', Below wr.heap.size wr w' → w'.ownsRow B' 3 1 v' (yo.length + 1) (ints yo ++ [.int .i64 ov]) → Calls Try.prog 18 #[v', u6'] w' fun e w'' => e = .returned (.bool true) ∧ ∃ n, w'' = w'.drewN n := fun w' v' B' b ho => by
              have e : (yo ++ [ov]).length = yo.length + 1 := by simp
              have h1 : IntsR w' v' (yo ++ [ov]) := IntsR.of_row (B := B') (by rw [e]; simpa [ints] using ho)
              have := sameInts_r h1 (o6.below b) (by omega) (by omega)
              rw [decide_eq_true rfl] at this
              exact this
            have keepr := keep wr (Below.refl _ _)
            clear q0 q1 t0 t1 x1 o5 o6
            replace hcp := Kept.mk hcp
            replace hsi := Kept.mk hsi
            have Kq := Kept.mk keep
            clear keep
            obtain ⟨k0', k1', k2', k3', k4'⟩ := keepr
            have Bq : Below wr.heap.size wr wr.drew := (Below.refl _ _).drew
            go_wp2
            obtain ⟨yl, hyl2⟩ : ∃ yl, yo.length = yl := ⟨_, rfl⟩
            rw [hyl2] at hcp hsi hyl
            obtain rfl : k0 = yl := hyl.symm
            have al : Below wr.heap.size wr ((wr.alloc (.cells #[.int .i64 ov] 3)).drew) := (below_al wr _).drew
            have nwB : ∀ w', Below (wr.heap.size + 1) ((wr.alloc (.cells #[.int .i64 ov] 3)).drew) w' → ∀ k u, [Value.int .i64 ov][k]? = some u → w'.cell? ((⟨wr.heap.size, 0, none⟩ : Addr).add k) = some u := fun w' b k u hk =>
              cell_below b (by rw [blk_add]; show wr.heap.size < wr.heap.size + 1; omega) (World.news_of_block (cs := #[.int .i64 ov]) (MapKept.heap_alloc wr _).1 k u hk)
            have sz1 : ((wr.alloc (.cells #[.int .i64 ov] 3)).drew).heap.size = wr.heap.size + 1 := by simp
            replace nwB := Kept.mk nwB
            replace sz1 := Kept.mk sz1
            replace hyl2 := Kept.mk hyl2
            go_region_held_law (fun w' => w'.cell? ⟨a5, j * 2, none⟩ = some (.int .i64 yb) ∧ w'.cell? ⟨a6, j * 2, none⟩ = some (.int .i64 yb) ∧ w'.cell? ⟨a5, j * 2 + 1, none⟩ = some u5 ∧ w'.cell? ⟨a6, j * 2 + 1, none⟩ = some u6' ∧ w'.cell? ⟨a4, of4 + i * 2 + 1, none⟩ = some (.int .i64 ov))
              (first | exact Kq.out _ B10 | exact Kq.out _ B9 | exact Kq.out _ B8a | exact Kq.out _ B8 | exact Kq.out _ al | exact Kq.out _ Bq | fail)
              (first
                | (go_at_call 19; (with_reducible refine (hcp.out _ Bq).mono ?_); rintro en w8 ⟨v8, rfl, o8, b8⟩
                   have B8 : Below wr.heap.size wr w8 := Bq.trans (b8.mono Bq.size)
                   have B8a : Below wr.heap.size wr (w8.alloc (.cells #[.int .i64 ov] 3)) := B8.trans ((below_al w8 _).mono B8.size)
                   have o8a := (o8.alloc (.cells #[.int .i64 ov] 3))
                   have nw8 : ∀ k u, [Value.int .i64 ov][k]? = some u → (w8.alloc (.cells #[.int .i64 ov] 3)).cell? ((⟨w8.heap.size, 0, none⟩ : Addr).add k) = some u := World.news_of_block (cs := #[.int .i64 ov]) (MapKept.heap_alloc w8 _).1)
                | (go_at_call 19; (with_reducible refine (hcp.out _ al).mono ?_); rintro en w8 ⟨v8, rfl, o8, b8⟩
                   have B8 : Below wr.heap.size wr w8 := al.trans (b8.mono al.size)
                   have o8a := o8
                   have nw8 := nwB.out w8 (by rw [← sz1.out]; exact b8))
                | (rw [if_pos (by rfl)]; refine wp_append_lies _ _ _ 33 rfl wr.drew.heap.size 3 i3 (.int .i64 0) 1 8 Try.underlying33 hi3 e0 e1' e2 rfl (by decide) v8 k0 _ rfl o8a ⟨w8.heap.size, 0, none⟩ 1 1 [.int .i64 ov] rfl rfl nw8 one (by decide) (by unfold maxLen; omega) (by omega) B8a.size _ rfl ?_
                   intro g9 cap9 w9 hown9 hgrow9 hat9 hlt9
                   have B9 : Below wr.heap.size wr w9 := B8a.grown hgrow9 B8a.size (fun k hk => (o8a.lt k hk).1))
                | (rw [if_pos (by rfl)]; refine wp_append_lies _ _ _ 33 rfl _ 3 i3 (.int .i64 0) 1 8 Try.underlying33 hi3 e0 e1' e2 rfl (by decide) v8 k0 _ rfl o8a ⟨wr.heap.size, 0, none⟩ 1 1 [.int .i64 ov] rfl rfl nw8 one (by decide) (by unfold maxLen; omega) (by omega) b8.size _ rfl ?_
                   intro g9 cap9 w9 hown9 hgrow9 hat9 hlt9
                   have B9 : Below wr.heap.size wr w9 := B8.grown hgrow9 B8.size (fun k hk => Nat.le_trans al.size (o8a.lt k hk).1))
                | (go_at_call 18; (with_reducible refine (hsi.out _ _ _ B9 hown9).mono ?_); rintro en w10 ⟨rfl, n10, rfl⟩
                   have B10 : Below wr.heap.size wr (w9.drewN n10) := below_drewN B9 _)
                | fail)
            all_goals
              go_wp2
              go_roundg (gk - 1)
              case measure => omega
              case rel => exact ⟨j + 1, by go_num, ⟨by omega⟩, ⟨hB6.out.trans (B10.mono hB6.out.size)⟩⟩
          · have f2 : decide (j < Y.length) = false := decide_eq_false hlt2
            have f2' : decide ((j : Int) < (Y.length : Int)) = false := decide_eq_false (by omega)
            have Bw6 := b5.out.trans (b6.out.mono b5.out.size)
            have Br := Bw6.trans (hB6.out.mono Bw6.size)
            have hPr := hP.out.below Br
            have B4r := hB.out.trans (Br.mono hB.out.size)
            have m6r := m6.out.below hB6.out
            have hfl : ((LK.take i).flatMap (byOne ns k0)).length + Y.length ≤ 4096 := by
              have h1 := flat_take (byOne ns k0) LK i hlt
              rw [← hflat.out, ebo.out, List.length_map] at h1
              omega
            have eft : (LK.take (i + 1)).flatMap (byOne ns k0) = (LK.take i).flatMap (byOne ns k0) ++ Y.map (addT ov) := by
              rw [List.take_succ_eq_append_getElem hlt, List.flatMap_append, List.flatMap_singleton, ebo.out]
            generalize (LK.take i).flatMap (byOne ns k0) = FL at *
            replace eft := Kept.mk eft
            obtain ⟨i35, hi35, z0', z1', z2'⟩ := info_parts info35
            have ml : (Y.map (addT ov)).length = Y.length := List.length_map ..
            have S4 : w4.heap.size ≤ wr.heap.size := B4r.size
            rcases m6r.outr.2 with ⟨hv, h0⟩ | ⟨g6, cap6, cur6, hv, hB', hg6, hnc6, hc6, hs6, ht6⟩
            · have hY : Y = [] := List.length_eq_zero_iff.1 (by rw [← ml]; exact h0)
              subst hY
              cases hv
              have hrow := hPr.row
              replace hPr := Kept.mk hPr
              replace B4r := Kept.mk B4r
              clear Bw6 Br m6r m6
              go_wp2_with (first | (at_builtin; refine wpList_append_own_none rfl _ _ 30 rfl w4.heap.size 35 i35 2 Try.underlying30 hi35 _ _ _ rfl hrow rfl ?_))
              have hgk := hgko.out
              go_roundg (gko - 1)
              case measure => omega
              case rel => exact ⟨i + 1, by go_num, ⟨by omega⟩, ⟨usp, by rw [eft.out]; simpa using hPr.out⟩, B4r⟩
            · have hA6 : A6 = some ⟨g6, 0, none⟩ := by injection hv
              subst hA6
              clear hv
              have hrow := hPr.row
              have hwl := wayCells_len (Y.map (addT ov)) us6 m6r.len
              rw [ml] at hwl
              have one : ∀ u ∈ wayCells (Y.map (addT ov)) us6, u.oneCell' = true := wayCells_one _ _ m6r.len (fun q hq => (IntsR.of_row (m6r.ways q hq)).cell1)
              have news : ∀ q u, (wayCells (Y.map (addT ov)) us6)[q]? = some u → wr.cell? ((⟨g6, 0, none⟩ : Addr).add q) = some u := by
                intro q u hq
                rw [add_row]
                have hq' : q < (Y.map (addT ov)).length * 2 := by
                  have := (List.getElem?_eq_some_iff.1 hq).1
                  omega
                have e1 : wr.cell? ⟨g6, q, none⟩ = cur6[q]? := by simp [World.cell?, hg6]
                rw [e1, ← hq, ← ht6, List.getElem?_take, if_pos hq', Array.getElem?_toList]
              have hmore := Kept.mk (fun (v' : Value) (w' : World) (hg : wr.grownBy w' u13.ownBlock) (ho : w'.ownsRow w4.heap.size 35 2 v' (FL.length + Y.length) (wayCells FL usp ++ wayCells (Y.map (addT ov)) us6)) =>
                hPr.more (v' := v') (m := Y.map (addT ov)) (vs := us6) m6r.len (fun q hq => ⟨_, m6r.ways q hq⟩) hg (by rw [ml]; exact ho))
              have hgrow := Kept.mk (fun (w' : World) (hg : wr.grownBy w' u13.ownBlock) => B4r.grown hg S4 (fun k hk => (hPr.row.lt k hk).1))
              clear Bw6 Br m6r m6 hPr B4r ht6 hg6 hs6
              go_wp2_with (first | (at_builtin; refine wpList_append_own_at _ rfl _ _ 30 rfl w4.heap.size 35 i35 (.agg #[.int .i64 0, .slice none 0 0]) 2 32 Try.underlying30 hi35 z0' z1' z2' rfl (by decide) _ _ _ rfl hrow ⟨g6, 0, none⟩ Y.length c6 _ rfl hwl news one (by unfold maxLen; omega) (by omega) S4 ?_
                                    intro v9 w9 hown9 hg9 _ _
                                    have P9 := Kept.mk (hmore.out v9 w9 hg9 hown9)
                                    have B9 := Kept.mk (hgrow.out w9 hg9)
                                    clear hown9 hg9 hmore hgrow news one hrow))
              have hgk := hgko.out
              go_roundg (gko - 1)
              case measure => omega
              case rel => exact ⟨i + 1, by go_num, ⟨by omega⟩, ⟨_, by rw [eft.out]; exact P9.out⟩, B9⟩
      · have f1 : decide (i < LK.length) = false := decide_eq_false hlt
        have f1' : decide ((i : Int) < (LK.length : Int)) = false := decide_eq_false (by omega)
        rw [List.take_of_length_le (by omega), ← hflat.out] at hP
        have B2r := B24.out.trans (hB.out.mono B24.out.size)
        have hst := h1.out.below B2r
        have hwb := Ways_in hst (by omega) hG.out.lnk n ((0 : Nat) : Int)
        have e0 : allW ns (-1) (-1) 0 n false = [((n : Int), [])] := by
          show (if (-1 : Int) < 0 ∨ false = true then [((n : Int), [])] else []) = _
          rw [if_pos (Or.inl (by omega))]
        rw [ways_all ns (-1) (-1) 0 n hn (by omega), e0, if_pos (by simp)] at hwb
        replace hwb : Calls Try.prog 11 #[.pointer (some ⟨g, 0, none⟩), .int .i64 n, .int .i64 0] wr (Told wr (0, [((n : Int), [])])) := hwb
        replace hwb := Kept.mk hwb
        have B3r := b4.out.trans (hB.out.mono b4.out.size)
        have hall := m3.out.reads.below B3r
        have hpar := hP.reads
        have hshort : Short W := by
          refine ⟨by omega, fun y hy => ?_⟩
          rw [← hW.out] at hy
          have := addT_len ns (-1) (-1) (k0 + 1) n false y hy
          omega
        have hsw : Kept (∀ w', Below wr.heap.size wr w' → Calls Try.prog 20 #[u13, v3] w' fun e w'' => e = .returned (.bool true) ∧ ∃ n, w'' = w'.drewN n) := ⟨fun w' b => by
          have := sameWays_r (hpar.below b) (hall.below b) hshort hshort
          rw [decide_eq_true rfl] at this
          exact this⟩
        have hfin : Kept (Below w.heap.size w wr) := ⟨b1.out.trans (B2r.mono b1.out.size)⟩
        clear hP hst hall hpar B3r
        go_wp2_with (first
          | (go_at_call 11; (with_reducible refine hwb.out.mono ?_); rintro en w7 ⟨v7, us7, rfl, m7, b7⟩; replace m7 := Kept.mk m7; replace b7 := Kept.mk b7)
          | (go_at_call 20; (with_reducible refine (hsw.out _ b7.out).mono ?_); rintro en w8 ⟨rfl, n8', rfl⟩))
        have hstay := sameWays_r (m7.out.reads.below ((below_drewN (Below.refl _ _) n8').trans ((below_al (w7.drewN n8') (.cells #[.int .i64 n, .slice none 0 0] 35)).mono (Nat.le_refl _)))) (lit_one (w7.drewN n8') n) ⟨by simp, by simp⟩ ⟨by simp, by simp⟩
        rw [decide_eq_true rfl] at hstay
        refine hstay.mono ?_
        rintro en w9 ⟨rfl, n9, rfl⟩
        go_wp2_with (first | (go_at_call 8; (with_reducible refine (lives_in _).mono ?_); rintro en w10 ⟨rfl, b10⟩))
        go_ret
        refine ⟨rfl, ?_⟩
        have B7 := hfin.out.trans (b7.out.mono hfin.out.size)
        have B8 := below_drewN B7 n8'
        have B9 := below_drewN (B8.alloc B8.size (.cells #[.int .i64 n, .slice none 0 0] 35)) n9
        exact B9.trans (b10.mono B9.size)
  · rw [if_neg hl4] at hwa
    refine hwa.out.mono ?_
    rintro en w3 ⟨v3, us3, rfl, m3, b3⟩
    go_wp2_with (first | (go_at_call 8; (with_reducible refine (lives_in _).mono ?_); rintro en w6 ⟨rfl, b6⟩))
    go_ret
    refine ⟨rfl, ?_⟩
    have B := b1.out.trans (b3.mono b1.out.size)
    exact B.trans (b6.mono B.size)
end Go.Proofs.Yteeiidkbihhekaa
