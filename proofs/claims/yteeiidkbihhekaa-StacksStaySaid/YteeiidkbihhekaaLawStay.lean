/- What was pushed stays what it was, whatever comes behind it; what is handed out is nobody's but who asked: the law StacksStay returns true, for any pushes. -/
import Derived.Test.YteeiidkbihhekaaSkW
set_option linter.unusedVariables false
set_option linter.unusedSimpArgs false
namespace Go.Proofs.Yteeiidkbihhekaa
open Go Go.RowKit
set_option maxRecDepth 100000 in
set_option maxHeartbeats 8000000 in
theorem lawStay (A : Option Addr) (cap : Nat) (l : List Quad) (A2 : Option Addr) (cap2 : Nat) (l2 : List Quad) (w : World) (hA : QuadsR w A l) (_ : QWf l) (hc : l.length ≤ cap) (hm : l.length ≤ maxLen) (hA2 : QuadsR w A2 l2) (hQ2 : QWf l2) (hc2 : l2.length ≤ cap2) (hm2 : l2.length ≤ maxLen) :
    Calls Try.prog 4 #[.slice A l.length cap, .slice A2 l2.length cap2] w fun e w' => e = .returned (.bool true) ∧ Below w.heap.size w w' := by
  have hbu := Kept.mk (built_in A cap l w hA hc hm)
  have hm2' : l2.length ≤ 9223372036854775807 := by unfold maxLen at hm2; omega
  replace hA2 := Kept.mk hA2
  clear hA hm hm2
  go_enter Try.func4, Try.ntmps4
  go_wp2_with (first
    | (go_at_call 12; (with_reducible refine hbu.out.mono ?_); rintro en w1 ⟨g, bm, br, nv, vs, ns, p, rfl, h1, hG, hp, b1⟩; have hlen := Kept.mk (len_in h1); replace h1 := Kept.mk h1; replace b1 := Kept.mk b1; clear hbu)
    | (go_at_call 13; (with_reducible refine hlen.out.mono ?_); rintro en w1 ⟨rfl, rfl⟩))
  have hpos := hG.pos
  have hfew := hG.few
  replace hG := Kept.mk hG
  clear hlen
  go_loopg [7, 8, 9, 10] ns.length (fun gk va vb vc t wr => ∃ i : Nat, t = .int .i64 i ∧ Kept (i + gk = ns.length) ∧ Kept (∃ us, Gat wr w1.heap.size ns i i i va vb vc us) ∧ Kept (Below w1.heap.size w1 wr))
  case atStart => exact ⟨0, rfl, ⟨by omega⟩, ⟨[], Gat.nil _ _ _⟩, ⟨Below.refl _ _⟩⟩
  case round =>
    obtain ⟨i, rfl, hi, ⟨us, hGa⟩, hB⟩ := hrel
    have hi' := hi.out
    by_cases hlt : i < ns.length
    · have f1 : decide (i < ns.length) = true := decide_eq_true hlt
      have f1' : decide ((i : Int) < (ns.length : Int)) = true := decide_eq_true (by omega)
      have hno := Kept.mk (node_ok (h1.out.below hB.out) i hlt)
      have hli := Kept.mk (fun (w' : World) (b : Below w1.heap.size w1 w') => links_ok (h1.out.below b) (by omega) i hlt)
      obtain ⟨i3, hi3, z0, z1, z2⟩ := info_parts info3
      obtain ⟨i43, hi43, y0, y1, y2⟩ := info_parts info43
      have hGk := Kept.mk (fun (w' : World) (b : Below wr.heap.size wr w') => hGa.below b)
      replace hGa := Kept.mk hGa
      have lka : ∀ xs : List N, (ints (xs.map N.st)).length = xs.length := fun xs => by simp [ints]
      clear lka
      go_wp2_with (first
        | (go_at_call 14; (with_reducible refine hno.out.mono ?_); rintro en w2 ⟨rfl, n2, rfl⟩
           have b2a : Below wr.heap.size wr ((wr.drewN n2).alloc (.cells #[.int .i64 (ns[i]).st] 3)) := (below_drewN (Below.refl _ _) n2).alloc (Nat.le_refl _) _
           have G2 := Kept.mk (hGk.out _ b2a)
           have B2 := Kept.mk (hB.out.trans (b2a.mono hB.out.size))
           have S2 := B2.out.size
           have ra2 := G2.out.ra
           have nw2 : ∀ k u, [Value.int .i64 (ns[i]).st][k]? = some u → ((wr.drewN n2).alloc (.cells #[.int .i64 (ns[i]).st] 3)).cell? ((⟨(wr.drewN n2).heap.size, 0, none⟩ : Addr).add k) = some u := World.news_of_block (cs := #[.int .i64 (ns[i]).st]) (alloc_here _ _)
           have o1 : ∀ u ∈ [Value.int .i64 (ns[i]).st], u.oneCell' = true := by
             intro u hu
             simp at hu
             subst hu
             rfl)
        | (at_builtin; refine wpList_append_own_at _ rfl _ _ 33 rfl w1.heap.size 3 i3 (.int .i64 0) 1 8 Try.underlying33 hi3 z0 z1 z2 rfl (by decide) _ _ _ rfl ra2 ⟨(wr.drewN n2).heap.size, 0, none⟩ 1 1 [.int .i64 (ns[i]).st] rfl rfl nw2 o1 (by unfold maxLen; omega) (by omega) S2 ?_
           intro va3 w3 hra3 hg3 _ hat3
           have G3 := Kept.mk (G2.out.step_a hlt hg3 hra3 hat3)
           have B3 := Kept.mk (B2.out.grown hg3 S2 (fun k hk => (ra2.lt k hk).1))
           clear ra2 nw2 o1 hra3 hg3 hat3
           have b3a := below_al w3 (.cells #[.int .i64 (ns[i]).lv] 3)
           have G4 := Kept.mk (G3.out.below b3a)
           have B4 := Kept.mk (B3.out.trans (b3a.mono B3.out.size))
           have S4 := B4.out.size
           have rb4 := G4.out.rb
           have nw4 : ∀ k u, [Value.int .i64 (ns[i]).lv][k]? = some u → (w3.alloc (.cells #[.int .i64 (ns[i]).lv] 3)).cell? ((⟨w3.heap.size, 0, none⟩ : Addr).add k) = some u := World.news_of_block (cs := #[.int .i64 (ns[i]).lv]) (alloc_here _ _)
           have o4 : ∀ u ∈ [Value.int .i64 (ns[i]).lv], u.oneCell' = true := by
             intro u hu
             simp at hu
             subst hu
             rfl)
        | (at_builtin; refine wpList_append_own_at _ rfl _ _ 33 rfl w1.heap.size 3 i3 (.int .i64 0) 1 8 Try.underlying33 hi3 z0 z1 z2 rfl (by decide) _ _ _ rfl rb4 ⟨w3.heap.size, 0, none⟩ 1 1 [.int .i64 (ns[i]).lv] rfl rfl nw4 o4 (by unfold maxLen; omega) (by omega) S4 ?_
           intro vb5 w5 hrb5 hg5 _ hat5
           have G5 := Kept.mk (G4.out.step_b hlt hg5 hrb5 hat5)
           have B5 := Kept.mk (B4.out.grown hg5 S4 (fun k hk => (rb4.lt k hk).1))
           clear rb4 nw4 o4 hrb5 hg5 hat5)
        | (go_at_call 15; (with_reducible refine (hli.out _ B5.out).mono ?_); rintro en w6 ⟨v6, rfl, o6, b6⟩
           obtain ⟨A6, c6, hv6⟩ := own_len o6
           subst hv6
           have b6a : Below w5.heap.size w5 (w6.alloc (.cells #[.slice A6 (ns[i]).lk.length c6] 43)) := b6.trans ((below_al w6 _).mono b6.size)
           have G6 := Kept.mk (G5.out.below b6a)
           have B6 := Kept.mk (B5.out.trans (b6a.mono B5.out.size))
           have S6 := B6.out.size
           have rc6 := G6.out.rc
           have u6 := Kept.mk ((o6.alloc (.cells #[.slice A6 (ns[i]).lk.length c6] 43)))
           have nw6 : ∀ k u, [Value.slice A6 (ns[i]).lk.length c6][k]? = some u → (w6.alloc (.cells #[.slice A6 (ns[i]).lk.length c6] 43)).cell? ((⟨w6.heap.size, 0, none⟩ : Addr).add k) = some u := World.news_of_block (cs := #[.slice A6 (ns[i]).lk.length c6]) (alloc_here _ _)
           have o6' : ∀ u ∈ [Value.slice A6 (ns[i]).lk.length c6], u.oneCell' = true := by
             intro u hu
             simp at hu
             subst hu
             rfl
           replace o6 := Kept.mk o6
           replace b6 := Kept.mk b6)
        | (at_builtin; refine wpList_append_own_at _ rfl _ _ 40 rfl w1.heap.size 43 i43 (.slice none 0 0) 1 24 Try.underlying40 hi43 y0 y1 y2 rfl (by decide) _ _ _ rfl rc6 ⟨w6.heap.size, 0, none⟩ 1 1 [.slice A6 (ns[i]).lk.length c6] rfl rfl nw6 o6' (by unfold maxLen; omega) (by omega) S6 ?_
           intro vc7 w7 hrc7 hg7 _ _
           have G7 := Kept.mk (G6.out.step_c hg7 hrc7 (fun _ => own_mono u6.out B5.out.size))
           have B7 := Kept.mk (B6.out.grown hg7 S6 (fun k hk => (rc6.lt k hk).1))
           clear rc6 nw6 o6' hrc7 hg7)
        | (go_at_call 15; (with_reducible refine (hli.out _ B7.out).mono ?_); rintro en w8 ⟨v8, rfl, o8, b8⟩
           obtain ⟨A8, c8, hv8⟩ := own_len o8
           subst hv8
           replace o8 := Kept.mk o8
           replace b8 := Kept.mk b8))
      have hcur : Kept ((ns[i]).lk.length = 0 ∨ ∃ g8 cur, A8 = some ⟨g8, 0, none⟩ ∧ w7.heap.size ≤ g8 ∧ w8.heap[g8]? = some (.cells cur 46 (0, 0)) ∧ (ns[i]).lk.length * 2 ≤ cur.size) := by
        rcases o8.out.2 with ⟨_, h0⟩ | ⟨g8, cp, cur, hv, hB8, hg8, hnc, _, hs8, _⟩
        · exact ⟨.inl h0⟩
        · injection hv with e1 _ _
          exact ⟨.inr ⟨g8, cur, e1, hB8, hg8, by rw [hs8]; omega⟩⟩
      obtain ⟨gko, hgko⟩ : ∃ x : Nat, x = gk := ⟨_, rfl⟩
      replace hgko := Kept.mk hgko
      obtain ⟨n8, hn8⟩ : ∃ n, (ns[i]).lk.length = n := ⟨_, rfl⟩
      rw [hn8] at hcur
      have hnc8 : n8 ≤ c8 := by
        rcases o8.out.2 with ⟨_, h0⟩ | ⟨g8, cp, cur, hv, hB8, hg8, hnc, _, hs8, _⟩
        · omega
        · injection hv with e1 e2 e3
          omega
      have hp8 : n8 ≤ 60 := by
        have := h1.out.lkp _ (List.getElem_mem hlt)
        omega
      simp only [hn8]
      replace hn8 := Kept.mk hn8
      go_loopg [15] n8 (fun gk t wr => ∃ k : Nat, t = .int .i64 k ∧ Kept (k + gk = n8) ∧ Kept (Below w7.heap.size w7 wr) ∧ Kept (n8 = 0 ∨ ∃ g8 cur, A8 = some ⟨g8, 0, none⟩ ∧ w7.heap.size ≤ g8 ∧ wr.heap[g8]? = some (.cells cur 46 (0, 0)) ∧ n8 * 2 ≤ cur.size))
      case atStart => exact ⟨0, rfl, ⟨by omega⟩, b8, hcur⟩
      case round =>
        obtain ⟨k, rfl, hk, hB7, hc7⟩ := hrel
        have hk' := hk.out
        by_cases hlt2 : k < n8
        · have f2 : decide (k < n8) = true := decide_eq_true hlt2
          have f2' : decide ((k : Int) < (n8 : Int)) = true := decide_eq_true (by omega)
          obtain ⟨g8, cur, rfl, hg7, hcell, hsz⟩ := hc7.out.resolve_left (by omega)
          have x0 : ∃ u, wr.cell? ⟨g8, k * 2, none⟩ = some u := by
            refine ⟨cur[k * 2]'(by omega), ?_⟩
            simp [World.cell?, hcell]
          have x1 : ∃ u, wr.cell? ⟨g8, k * 2 + 1, none⟩ = some u := by
            refine ⟨cur[k * 2 + 1]'(by omega), ?_⟩
            simp [World.cell?, hcell]
          obtain ⟨u0, x0⟩ := x0
          obtain ⟨u1, x1⟩ := x1
          have z0 : wr.frozen? ⟨g8, k * 2, none⟩ = false := Joins.unfrozen_of_block hcell _
          have z1 : wr.frozen? ⟨g8, k * 2 + 1, none⟩ = false := Joins.unfrozen_of_block hcell _
          replace hcell := Kept.mk hcell
          go_wp2
          go_roundg (gk - 1)
          case measure => omega
          case rel =>
            refine ⟨k + 1, by go_num, ⟨by omega⟩, ⟨(hB7.out.setCell (p := ⟨g8, k * 2, none⟩) hg7 _).setCell (p := ⟨g8, k * 2 + 1, none⟩) hg7 _⟩, ⟨.inr ⟨g8, _, rfl, hg7, Joins.block_setCell (i := k * 2 + 1) (Joins.block_setCell (i := k * 2) hcell.out _) _, by simpa using hsz⟩⟩⟩
        · have f2 : decide (k < n8) = false := decide_eq_false hlt2
          have f2' : decide ((k : Int) < (n8 : Int)) = false := decide_eq_false (by omega)
          have G9 := Kept.mk (G7.out.below hB7.out)
          have B9 := Kept.mk (B7.out.trans (hB7.out.mono B7.out.size))
          clear hc7 hcur
          go_wp2
          have hgk := hgko.out
          go_roundg (gko - 1)
          case measure => omega
          case rel => exact ⟨i + 1, by go_num, ⟨by omega⟩, ⟨_, G9.out⟩, B9⟩
    · have f1 : decide (i < ns.length) = false := decide_eq_false hlt
      have f1' : decide ((i : Int) < (ns.length : Int)) = false := decide_eq_false (by omega)
      have ei : i = ns.length := by omega
      subst ei
      have hst5 := h1.out.below hB.out
      have off5 := h1.out.off_above hB.out
      have h5 := Kept.mk (hB.out.size)
      obtain ⟨w5, hw5⟩ : ∃ w5, w5 = wr := ⟨_, rfl⟩
      subst hw5
      have B5 := Kept.mk (b1.out.trans (hB.out.mono b1.out.size))
      replace hGa := Kept.mk hGa
      go_wp2
      go_loopg [16] 60 (fun gk t wr => ∃ k : Nat, t = .int .i64 k ∧ Kept (k + gk = 60) ∧ Kept (∃ nv vs ms q, StM wr w.heap.size g nv bm br vs ms q ∧ q ≤ 60 + k ∧ ms.length ≤ 61 + k ∧ Ext ns ms ∧ Off (fun k => w1.heap.size ≤ k ∧ k < w5.heap.size) wr g bm br nv vs ∧ w5.heap.size ≤ wr.heap.size) ∧ Kept (∀ k, w1.heap.size ≤ k ∧ k < w5.heap.size → wr.heap[k]? = w5.heap[k]?) ∧ Kept (Below w.heap.size w wr))
      case atStart => exact ⟨0, rfl, ⟨rfl⟩, ⟨_, _, _, _, hst5, by omega, by omega, Ext.refl _, off5, Nat.le_refl _⟩, ⟨fun k _ => rfl⟩, B5⟩
      case round =>
        obtain ⟨k, rfl, hk, ⟨nv', vs', ms, q, h2, hq, hml, hE, off2, hsz2⟩, hNo, hB2⟩ := hrel
        have hk' := hk.out
        by_cases hlt2 : k < l2.length ∧ k < 60
        · obtain ⟨hlt2, hlt6⟩ := hlt2
          have f1 : decide (k < l2.length) = true := decide_eq_true hlt2
          have f1' : decide ((k : Int) < (l2.length : Int)) = true := decide_eq_true (by omega)
          have f2 : decide (k < 60) = true := decide_eq_true hlt6
          have f2' : decide ((k : Int) < 60) = true := decide_eq_true (by omega)
          obtain ⟨ad, rfl, y0, y1, y2, y3⟩ := hA2.out k hlt2
          have x0 : wr.drew.cell? (ad.add (k * 4)) = _ := (hB2.out.cell (World.block_lt_of_cell? _ _ y0)).trans y0
          have x1 : wr.drew.cell? ⟨(ad.add (k * 4)).block, (ad.add (k * 4)).off + 1, none⟩ = _ := (hB2.out.cell (World.block_lt_of_cell? _ _ y1)).trans y1
          have x2 : wr.drew.cell? ⟨(ad.add (k * 4)).block, (ad.add (k * 4)).off + 2, none⟩ = _ := (hB2.out.cell (World.block_lt_of_cell? _ _ y2)).trans y2
          have x3 : wr.drew.cell? ⟨(ad.add (k * 4)).block, (ad.add (k * 4)).off + 3, none⟩ = _ := (hB2.out.cell (World.block_lt_of_cell? _ _ y3)).trans y3
          obtain ⟨_, w2', w3', _⟩ := hQ2 _ (List.getElem_mem hlt2)
          have bd : Below wr.heap.size wr wr.drew := (Below.refl _ _).drew
          have hpu := Kept.mk (Push_in (h2.below bd) (by omega) (by omega) l2[k].a l2[k].b l2[k].c l2[k].d w2' w3')
          have hE' := Kept.mk (hE.trans (Ext.push ms l2[k].a l2[k].b l2[k].c l2[k].d))
          have hpl := pushP_len ms l2[k].a l2[k].b l2[k].c l2[k].d
          have hof := Kept.mk (Turn.below h2 bd _ (fun j hj => Nat.lt_of_lt_of_le hj.2 hsz2) off2)
          replace hpl := Kept.mk hpl
          replace hsz2 := Kept.mk hsz2
          have hB2d := Kept.mk (hB2.out.drew)
          clear h2 hE off2 bd y0 y1 y2 y3 w2' w3'
          generalize l2[k].a = qa at *
          generalize l2[k].b = qb at *
          generalize l2[k].c = qc at *
          generalize l2[k].d = qd at *
          go_wp2
          refine wp_region_still_tail 21 (by kernel_rfl) (by kernel_rfl) ?_
          simp only [List.take_succ_cons, List.take_zero, List.drop_succ_cons, List.drop_zero]
          change wpStill _ _ wr.drew (fun a' => wpList _ _ _ _ a' wr.drew) _ _
          have hNo' : Kept (∀ k, w1.heap.size ≤ k ∧ k < w5.heap.size → wr.drew.heap[k]? = w5.heap[k]?) := ⟨hNo.out⟩
          have hsz3 : Kept (w5.heap.size ≤ wr.drew.heap.size) := ⟨hsz2.out⟩
          generalize wr.drew = W5 at *
          iterate 21 ((with_reducible refine wpStill_step (fun K hK => ?_)); go_simp; (with_reducible refine hK _ ?_); clear hK K)
          with_reducible refine wpStill_nil ?_
          go_wp2_with (first | (go_at_call 10; (with_reducible refine hpu.out.mono ?_); rintro en w7 ⟨rfl, nv7, vs7, s7, b7, t7⟩))
          have tt := t7 _ (fun j hj => Nat.lt_of_lt_of_le hj.2 hsz3.out) hof.out.1
          have hpl' := hpl.out
          go_roundg (gk - 1)
          case measure => omega
          case rel => exact ⟨k + 1, by go_num, ⟨by omega⟩, ⟨_, _, _, _, s7, by omega, by omega, hE'.out, tt.1, Nat.le_trans hsz3.out b7.size⟩, ⟨fun j hj => (tt.2 j hj).trans (hNo'.out j hj)⟩, ⟨hB2d.out.trans b7⟩⟩
        · have hG6 := Kept.mk (hGa.out.stay (w' := wr) (fun j hS hj => hNo.out j ⟨hS, hj⟩))
          obtain ⟨w6, hw6⟩ : ∃ w6, w6 = wr := ⟨_, rfl⟩
          subst hw6
          have hst6 := Kept.mk h2
          have hE6 := Kept.mk hE
          have hml6 : ns.length ≤ ms.length := by
            obtain ⟨h9, _⟩ := hE (ns.length - 1) (by omega)
            omega
          clear h2 hE off2 hNo hGa hst5 off5 hA2 hQ2 h1
          have ways : Kept ((k < l2.length ∧ ¬ k < 60) ∨ ¬ k < l2.length) := ⟨by omega⟩
          clear hlt2
          refine Or.elim ways.out ?wa ?wb
          case' wa =>
            rintro ⟨h6, h7⟩
            have f1 : decide (k < l2.length) = true := decide_eq_true h6
            have f1' : decide ((k : Int) < (l2.length : Int)) = true := decide_eq_true (by omega)
            have f2 : decide (k < 60) = false := decide_eq_false h7
            have f2' : decide ((k : Int) < 60) = false := decide_eq_false (by omega)
            clear ways h6 h7
            go_wp2
            clear f1 f1' f2 f2'
          case' wb =>
            intro h6
            have f1 : decide (k < l2.length) = false := decide_eq_false h6
            have f1' : decide ((k : Int) < (l2.length : Int)) = false := decide_eq_false (by omega)
            clear ways h6
            go_wp2
            clear f1 f1'
          all_goals
            go_loopg [17] ns.length (fun gk t wr => ∃ m : Nat, t = .int .i64 m ∧ Kept (m + gk = ns.length) ∧ Kept (Below w6.heap.size w6 wr))
            case atStart => exact ⟨0, rfl, ⟨by omega⟩, ⟨Below.refl _ _⟩⟩
            case round =>
              obtain ⟨m, rfl, hm, hB6⟩ := hrel
              have hm' := hm.out
              by_cases hlt3 : m < ns.length
              · have f3 : decide (m < ns.length) = true := decide_eq_true hlt3
                have f3' : decide ((m : Int) < (ns.length : Int)) = true := decide_eq_true (by omega)
                obtain ⟨h2m, est, elv, tl, elk⟩ := hE6.out m hlt3
                have hstr := hst6.out.below hB6.out
                have hno := node_ok hstr m h2m
                rw [est, elv] at hno
                replace hno := Kept.mk hno
                have hli := Kept.mk (fun (w' : World) (b : Below wr.heap.size wr w') => links_ok (hstr.below b) (by omega) m h2m)
                have hlkm : (ms[m]).lk.length ≤ q := hst6.out.lkp _ (List.getElem_mem h2m)
                have hGr := hG6.out.below hB6.out
                obtain ⟨ga, ca, hva, _, _, _, hra, _⟩ := own_cells hGr.ra (by omega)
                obtain ⟨gb, cb, hvb, _, _, _, hrb, _⟩ := own_cells hGr.rb (by omega)
                obtain ⟨gc, cc, hvc, _, _, _, hrc, _⟩ := own_cells hGr.rc (by omega)
                have x0 := hra m (by omega)
                have x1 := hrb m (by omega)
                have x2 := hrc m (by omega)
                rw [List.take_length, ints, List.getElem?_map, List.getElem?_map, List.getElem?_eq_getElem hlt3] at x0 x1
                have e2 : us[m]? = some (vAt us m) := by
                  unfold vAt
                  rw [List.getD, List.getElem?_eq_getElem (by rw [hGr.ul]; exact hlt3)]
                  rfl
                rw [e2] at x2
                have x0 : wr.cell? ⟨ga, m, none⟩ = some (.int .i64 (ns[m]).st) := x0
                have x1 : wr.cell? ⟨gb, m, none⟩ = some (.int .i64 (ns[m]).lv) := x1
                have oe := hGr.each m hlt3 hlt3
                obtain ⟨A6, c6, hv6⟩ := own_len oe
                rw [hv6] at x2 oe
                have re := Kept.mk (LinksR.of_row oe)
                subst hva hvb hvc
                replace elk := Kept.mk elk
                generalize (ms[m]).lk = mlk at *
                clear hra hrb hrc e2 hv6 hGr est elv hstr
                generalize (ns[m]).st = sst at *
                generalize (ns[m]).lv = slv at *
                generalize (ns[m]).lk = slk at *
                have hsl : slk.length ≤ mlk.length := by rw [elk.out]; simp
                go_wp2_with (first
                  | (go_at_call 14; (with_reducible refine hno.out.mono ?_); rintro en w7 ⟨rfl, n7, rfl⟩
                     have b7 := Kept.mk (below_drewN (Below.refl wr.heap.size wr) n7))
                  | (go_at_call 15; (with_reducible refine (hli.out _ b7.out).mono ?_); rintro en w8 ⟨v8, rfl, o8, b8⟩
                     obtain ⟨A8, c8, hv8⟩ := own_len o8
                     subst hv8
                     replace o8 := Kept.mk o8
                     replace b8 := Kept.mk b8))
                have x0 := cell_below (b7.out.trans (b8.out.mono b7.out.size)) (World.block_lt_of_cell? _ _ x0) x0
                have x1 := cell_below (b7.out.trans (b8.out.mono b7.out.size)) (World.block_lt_of_cell? _ _ x1) x1
                have x2 := cell_below (b7.out.trans (b8.out.mono b7.out.size)) (World.block_lt_of_cell? _ _ x2) x2
                have re8 := re.out.below (b7.out.trans (b8.out.mono b7.out.size))
                have B8 := Kept.mk (b7.out.trans (b8.out.mono b7.out.size))
                have rp8 := LinksR.front (t := tl) (by rw [← elk.out]; exact LinksR.of_row o8.out)
                have hcap8 : mlk.length ≤ c8 := own_cap o8.out
                have hsame : Kept (∀ n, Calls Try.prog 16 #[.slice A8 slk.length c8, .slice A6 slk.length c6] (w8.drewN n) fun e w' => e = .returned (.bool true) ∧ ∃ m, w' = (w8.drewN n).drewN m) := ⟨fun n => by
                  have := sameLinks_r (rp8.below (below_drewN (Below.refl _ _) n)) (re8.below (below_drewN (Below.refl _ _) n)) (by omega) (by omega)
                  rw [decide_eq_true rfl] at this
                  exact this⟩
                obtain ⟨n1, hn1⟩ : ∃ n1, mlk.length = n1 := ⟨_, rfl⟩
                have hn01 : slk.length ≤ n1 := by rw [← hn1]; exact hsl
                rw [hn1] at hcap8 hlkm
                simp only [hn1]
                replace hn1 := Kept.mk hn1
                generalize slk.length = n0 at *
                have g1 : decide (n1 < n0) = false := decide_eq_false (by omega)
                have g1' : decide ((n1 : Int) < (n0 : Int)) = false := decide_eq_false (by omega)
                have g2 : (0 : Int) ≤ (n0 : Int) := by omega
                have g3 : (n0 : Int) ≤ (c8 : Int) := by omega
                have g4 : n0 ≤ c8 := by omega
                clear rp8 re8 o8 re hli
                go_quiet ((go_at_call 16; exact Calls.quiet_of (hsame.out _)))
                go_wp2
                go_roundg (gk - 1)
                case measure => omega
                case rel => exact ⟨m + 1, by go_num, ⟨by omega⟩, ⟨below_drewN (hB6.out.trans (B8.out.mono hB6.out.size)) _⟩⟩
              · have f3 : decide (m < ns.length) = false := decide_eq_false hlt3
                have f3' : decide ((m : Int) < (ns.length : Int)) = false := decide_eq_false (by omega)
                have hlen := Kept.mk (len_in (hst6.out.below hB6.out))
                have g1 : decide (ns.length ≤ ms.length) = true := decide_eq_true hml6
                have g1' : decide ((ns.length : Int) ≤ (ms.length : Int)) = true := decide_eq_true (by omega)
                have fin := Kept.mk (hB2.out.trans (hB6.out.mono hB2.out.size))
                go_wp2_with (first
                  | (go_at_call 13; (with_reducible refine hlen.out.mono ?_); rintro en w7 ⟨rfl, rfl⟩)
                  | (go_at_call 8; (with_reducible refine (lives_in _).mono ?_); rintro en w8 ⟨rfl, b8⟩))
                go_ret
                exact ⟨rfl, fin.out.trans (b8.mono fin.out.size)⟩
end Go.Proofs.Yteeiidkbihhekaa
