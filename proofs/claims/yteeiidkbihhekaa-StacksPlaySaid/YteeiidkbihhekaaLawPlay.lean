/- Whatever is pushed, each answer, each node, what stands at each level, and the ways down are the reference's answer: the law StacksPlay returns true, for any state, pushes and asks. -/
import Derived.Test.YteeiidkbihhekaaSkZ5
set_option linter.unusedVariables false
set_option linter.unusedSimpArgs false
namespace Go.Proofs.Yteeiidkbihhekaa
open Go Go.RowKit
theorem Good.start_linked (a : Int) : Linked [⟨a, 0, []⟩] := fun n hn l hl => by
  simp at hn
  subst hn
  simp at hl
theorem waysP_short (ns : List N) (n len nd lk : Int) : Short (waysP ns n len nd lk).2 := by
  by_cases h1 : 0 ≤ n ∧ n < ns.length
  · by_cases h2 : 0 ≤ len ∧ len ≤ 8
    · obtain ⟨m, rfl⟩ : ∃ m : Nat, n = m := ⟨n.toNat, by omega⟩
      obtain ⟨k, rfl⟩ : ∃ k : Nat, len = k := ⟨len.toNat, by omega⟩
      rw [ways_all ns nd lk k m (by omega) (by omega)]
      split
      · rename_i h
        refine ⟨Nat.le_trans h (by omega), fun y hy => ?_⟩
        have := addT_len ns nd lk k m false y hy
        omega
      · exact ⟨by simp, by simp⟩
    · unfold waysP
      rw [if_pos h1, if_neg h2]
      exact ⟨by simp, by simp⟩
  · unfold waysP
    rw [if_neg h1]
    exact ⟨by simp, by simp⟩
theorem thruP_short (ns : List N) (n len nd lk : Int) : Short (thruP ns n len nd lk).2 := by
  unfold thruP
  split
  · split
    · exact waysP_short _ _ _ _ _
    · exact ⟨by simp, by simp⟩
  · exact ⟨by simp, by simp⟩
/-- what is known of both stacks behind k pushes -/
structure Sides (w : World) (B S g r bm br k : Nat) (ns : List N) : Prop where
  both : ∃ nv rv vs rs, Both w B S g r bm br nv rv vs rs ns k
  lnk : Linked ns
  unq : Uniq ns
  few : ns.length ≤ k + 1
set_option maxRecDepth 100000 in
set_option maxHeartbeats 8000000 in
theorem play_main (state : Int) (A : Option Addr) (cap : Nat) (l : List Quad) (A2 : Option Addr) (cap2 : Nat) (l2 : List Quad) (w : World) (hst : Wf state) (h0 : 0 ≤ state) (hA : QuadsR w A l) (hQ : QWf l) (hl : l.length ≤ 60) (hA2 : QuadsR w A2 l2) (hQ2 : QWf l2) (hl2 : l2.length ≤ 8) :
    Calls Try.prog 6 #[.int .i64 state, .slice A l.length cap, .slice A2 l2.length cap2] w fun e w' => e = .returned (.bool true) ∧ Below w.heap.size w w' := by
  have a1 : decide (60 < l.length) = false := decide_eq_false (by omega)
  have a1' : decide ((60 : Int) < (l.length : Int)) = false := decide_eq_false (by omega)
  have a2 : decide (8 < l2.length) = false := decide_eq_false (by omega)
  have a2' : decide ((8 : Int) < (l2.length : Int)) = false := decide_eq_false (by omega)
  have hnew := Kept.mk (new_ok state h0 hst w)
  replace hA := Kept.mk hA
  replace hA2 := Kept.mk hA2
  replace hQ := Kept.mk hQ
  replace hQ2 := Kept.mk hQ2
  go_enter Try.func6, Try.ntmps6
  go_wp2_with (first
    | (go_at_call 9; (with_reducible refine hnew.out.mono ?_); rintro en w1 ⟨g, bm, br, nv, vs, rfl, h1, b1⟩; replace h1 := Kept.mk h1; replace b1 := Kept.mk b1)
    | (go_at_call 21; (with_reducible refine (rnew_ok state h0 w1).mono ?_); rintro en w2 ⟨r, rv, rs, rfl, h2, b2⟩
       have hb2 := Kept.mk (Both.start (h1.out.mono (Nat.le_refl _)) b2 h2)
       replace b2 := Kept.mk b2))
  clear a1 a1' a2 a2' hnew
  have B2 := Kept.mk (b1.out.trans (b2.out.mono b1.out.size))
  go_loopg [11] l.length (fun gk t wr => ∃ k : Nat, t = .int .i64 k ∧ Kept (k + gk = l.length) ∧ Kept (∃ ns, Sides wr w.heap.size w1.heap.size g r bm br k ns) ∧ Kept (Below w.heap.size w wr))
  case atStart => exact ⟨0, rfl, ⟨by omega⟩, ⟨_, ⟨⟨_, _, _, _, hb2.out⟩, Good.start_linked state, Uniq.one state, by simp⟩⟩, B2⟩
  case round =>
    obtain ⟨k, rfl, hk, ⟨ns, hS⟩, hB⟩ := hrel
    have hk' := hk.out
    by_cases hlt : k < l.length
    · have f1 : decide (k < l.length) = true := decide_eq_true hlt
      have f1' : decide ((k : Int) < (l.length : Int)) = true := decide_eq_true (by omega)
      obtain ⟨⟨nv', rv', vs', rs', hb⟩, hLn, hUq, hfw⟩ := hS
      obtain ⟨ad, rfl, y0, y1, y2, y3⟩ := hA.out k hlt
      obtain ⟨_, q2, q3, _⟩ := hQ.out _ (List.getElem_mem hlt)
      have keep : ∀ w', Below w.heap.size w w' → w'.cell? (ad.add (k * 4)) = some (.int .i64 l[k].a) ∧ w'.cell? ⟨(ad.add (k * 4)).block, (ad.add (k * 4)).off + 1, none⟩ = some (.int .i64 l[k].b) ∧ w'.cell? ⟨(ad.add (k * 4)).block, (ad.add (k * 4)).off + 2, none⟩ = some (.int .i64 l[k].c) ∧ w'.cell? ⟨(ad.add (k * 4)).block, (ad.add (k * 4)).off + 3, none⟩ = some (.int .i64 l[k].d) := fun w' b =>
        ⟨cell_below b (World.block_lt_of_cell? _ _ y0) y0, cell_below b (World.block_lt_of_cell? _ _ y1) y1, cell_below b (World.block_lt_of_cell? _ _ y2) y2, cell_below b (World.block_lt_of_cell? _ _ y3) y3⟩
      clear y0 y1 y2 y3
      have bd : Below wr.heap.size wr wr.drew := (Below.refl _ _).drew
      have hbd := Kept.mk (hb.below bd)
      have hBd := Kept.mk (hB.out.drew)
      have hpu := Kept.mk (Push_in hbd.out.st (by omega) (by omega) l[k].a l[k].b l[k].c l[k].d q2 q3)
      have hrp := Kept.mk (fun (w' : World) (h : RM w' w1.heap.size r rv' rs' ns k) => RPush_in h (by omega) (by omega) l[k].a l[k].b l[k].c l[k].d)
      have hL' := Kept.mk (hLn.pushP l[k].a l[k].b l[k].c l[k].d)
      have hU' := Kept.mk (hUq.push l[k].a l[k].b l[k].c l[k].d)
      have hfl := Kept.mk (pushP_len ns l[k].a l[k].b l[k].c l[k].d)
      have Kq := Kept.mk keep
      have keepr := keep wr.drew hBd.out
      clear keep hb bd q2 q3 hLn hUq
      obtain ⟨k0, k1, k2, k3⟩ := keepr
      generalize pushP ns l[k].a l[k].b l[k].c l[k].d = R at *
      obtain ⟨ms, ra, rb, re⟩ := R
      dsimp only at hL' hU' hfl
      generalize l[k].a = qa at *
      generalize l[k].b = qb at *
      generalize l[k].c = qc at *
      generalize l[k].d = qd at *
      go_wp2
      go_region_held3 (fun w' => w'.cell? (ad.add (k * 4)) = some (.int .i64 qa) ∧ w'.cell? ⟨(ad.add (k * 4)).block, (ad.add (k * 4)).off + 1, none⟩ = some (.int .i64 qb) ∧ w'.cell? ⟨(ad.add (k * 4)).block, (ad.add (k * 4)).off + 2, none⟩ = some (.int .i64 qc) ∧ w'.cell? ⟨(ad.add (k * 4)).block, (ad.add (k * 4)).off + 3, none⟩ = some (.int .i64 qd)) (first | exact Kq.out _ B5.out | exact Kq.out _ hBd.out | fail) (first
        | (go_at_call 10; (with_reducible refine hpu.out.mono ?_); rintro en w5 ⟨rfl, nv5, vs5, s5, b5, t5⟩
           have B5 := Kept.mk (hBd.out.trans b5)
           have sz5 := Kept.mk (b5.size)
           have bd5 : Below w5.heap.size w5 w5.drew := (Below.refl _ _).drew
           have r5 := hrp.out _ ((hbd.out.mid t5).below bd5)
           have s5d := s5.below bd5
           have t5d := t5.trans b5.size (Turn.below s5 bd5)
           have B5d := Kept.mk (B5.out.drew)
           have sz5d : Kept (wr.drew.heap.size ≤ w5.drew.heap.size) := ⟨b5.size⟩
           dsimp only at s5d r5
           replace s5 := Kept.mk s5d
           replace t5 := Kept.mk t5d
           replace r5 := Kept.mk r5)
        | fail)
      clear k0 k1 k2 k3
      obtain ⟨k0, k1, k2, k3⟩ := Kq.out _ B5d.out
      go_wp2
      go_region_held3 (fun w' => w'.cell? (ad.add (k * 4)) = some (.int .i64 qa) ∧ w'.cell? ⟨(ad.add (k * 4)).block, (ad.add (k * 4)).off + 1, none⟩ = some (.int .i64 qb) ∧ w'.cell? ⟨(ad.add (k * 4)).block, (ad.add (k * 4)).off + 2, none⟩ = some (.int .i64 qc) ∧ w'.cell? ⟨(ad.add (k * 4)).block, (ad.add (k * 4)).off + 3, none⟩ = some (.int .i64 qd)) (first | exact Kq.out _ B6.out | exact Kq.out _ B5d.out | fail) (first
        | (go_at_call 22; (with_reducible refine r5.out.mono ?_); rintro en w6 ⟨rfl, rv6, rs6, m6, f6⟩
           have B6 := Kept.mk (B5d.out.trans (f6.low.mono (Nat.le_trans b1.out.size (Nat.le_refl _))))
           have fin := Kept.mk (hbd.out.step sz5d.out s5.out t5.out (fun _ => ⟨m6, f6⟩))
           clear m6 f6)
        | fail)
      clear k0 k1 k2 k3
      have hfl' := hfl.out
      go_wp2
      go_roundg (gk - 1)
      case measure => omega
      case rel => exact ⟨k + 1, by go_num, ⟨by omega⟩, ⟨ms, ⟨_, _, _, _, fin.out⟩, hL'.out, hU'.out, by omega⟩, B6⟩
    · have f1 : decide (k < l.length) = false := decide_eq_false hlt
      have f1' : decide ((k : Int) < (l.length : Int)) = false := decide_eq_false (by omega)
      obtain ⟨w9, hw9⟩ : ∃ w9, w9 = wr := ⟨_, rfl⟩
      subst hw9
      obtain ⟨⟨nv', rv', vs', rs', hb⟩, hLn, hUq, hfw⟩ := hS
      have hk60 : k ≤ 60 := by omega
      obtain ⟨Ar, cr, hrv⟩ := own_len hb.rm.nod
      subst hrv
      have c0 := hb.rm.c0
      have hlen : Kept (∀ n, Calls Try.prog 13 #[.pointer (some ⟨g, 0, none⟩)] (w9.drewN n) fun e w' => e = .returned (.int .i64 ns.length) ∧ w' = w9.drewN n) := ⟨fun n => len_in (hb.st.below (below_drewN (Below.refl _ _) n))⟩
      replace hb := Kept.mk hb
      replace hLn := Kept.mk hLn
      replace hUq := Kept.mk hUq
      have hns : ns.length ≤ 61 := by omega
      clear hA hQ hlt
      go_wp2
      go_quiet ((go_at_call 13; exact Calls.quiet_of_same (hlen.out _)))
      go_wp2
      clear f1 f1' c0
      go_loopg [18] ns.length (fun gk t wr => ∃ n : Nat, t = .int .i64 n ∧ Kept (n + gk = ns.length) ∧ Kept (Below w9.heap.size w9 wr))
      case atStart => exact ⟨0, rfl, ⟨by omega⟩, ⟨below_drewN (Below.refl _ _) _⟩⟩
      case round =>
        obtain ⟨n, rfl, hn, hB9⟩ := hrel
        have hn' := hn.out
        have hbr := Kept.mk (hb.out.below hB9.out)
        have c0 := hbr.out.rm.c0
        by_cases hlt2 : n < ns.length
        · have g1 : decide (n < ns.length) = true := decide_eq_true hlt2
          have g1' : decide ((n : Int) < (ns.length : Int)) = true := decide_eq_true (by omega)
          have hno := Kept.mk (node_ok hbr.out.st n hlt2)
          have hix := hUq.out n hlt2
          obtain ⟨wf1, wf2⟩ := hb.out.st.wf _ (List.getElem_mem hlt2)
          have hlkl : (ns[n]).lk.length ≤ k := hb.out.st.lkp _ (List.getElem_mem hlt2)
          have hfind := Kept.mk (fun (w' : World) (b : Below wr.heap.size wr w') => find_in (hbr.out.st.below b) (ns[n]).st (ns[n]).lv wf1 wf2)
          have hlinks := Kept.mk (fun (w' : World) (b : Below wr.heap.size wr w') => links_ok (hbr.out.st.below b) (by omega) n hlt2)
          have hat := Kept.mk (fun (w' : World) (b : Below wr.heap.size wr w') => At_in (hbr.out.st.below b) (ns[n]).lv wf2)
          have hrat := Kept.mk (fun (w' : World) (b : Below wr.heap.size wr w') => rat_in (hbr.out.rm.below b) (by omega) (ns[n]).lv)
          obtain ⟨a, cap', hva, _, hla, _, x0, x1, x2⟩ := hbr.out.rm.node n hlt2
          cases hva
          have hrl : r < wr.heap.size := (Array.getElem?_eq_some_iff.1 hbr.out.rm.hd).1
          have olk := hbr.out.rm.lks n hlt2
          obtain ⟨AV, cV, hV⟩ := own_len olk
          rw [hV] at x2 olk
          have rlk := Kept.mk (LinksR.of_row olk)
          rw [hix, Nat.add_sub_cancel, decide_eq_true (Nat.succ_pos n)] at hfind
          have hrow := rowsFrom_len ns 0 (ns[n]).lv
          have keep : ∀ w', Below wr.heap.size wr w' → w'.cell? ⟨r, 0, none⟩ = some (.slice (some ⟨a, 0, none⟩) ns.length cr) ∧ w'.cell? ⟨a, n * 3, none⟩ = some (.int .i64 (ns[n]).st) ∧ w'.cell? ⟨a, n * 3 + 1, none⟩ = some (.int .i64 (ns[n]).lv) ∧ w'.cell? ⟨a, n * 3 + 2, none⟩ = some (.slice AV (ns[n]).lk.length cV) := fun w' b =>
            ⟨cell_below b hrl c0, cell_below b hla x0, cell_below b hla x1, cell_below b hla x2⟩
          replace keep := Kept.mk keep
          clear hV olk x0 x1 x2 hix wf1 wf2
          generalize rowsFrom 0 ns (ns[n]).lv = RW at *
          generalize (ns[n]).st = sst at *
          generalize (ns[n]).lv = slv at *
          generalize (ns[n]).lk = slk at *
          go_wp2_with (first | (go_at_call 14; (with_reducible refine hno.out.mono ?_); rintro en w2' ⟨rfl, n2, rfl⟩))
          have Bn : Kept (Below wr.heap.size wr (wr.drewN n2)) := ⟨below_drewN (Below.refl _ _) n2⟩
          generalize wr.drewN n2 = W2 at *
          obtain ⟨k0, k1, k2, k3⟩ := keep.out W2 Bn.out
          go_quiet ((go_at_call 23; exact Calls.quiet_of_same (hfind.out _ (below_drewN Bn.out _))))
          go_wp2
          have Bn3 : Kept (Below wr.heap.size wr (W2.drewN nq)) := ⟨below_drewN Bn.out nq⟩
          clear k0 k1 k2 k3
          generalize W2.drewN nq = W3 at *
          have Bn4 : Kept (Below wr.heap.size wr W3.drew) := ⟨Bn3.out.drew⟩
          obtain ⟨k0, k1, k2, k3⟩ := keep.out W3.drew Bn4.out
          have hlinks4 := Kept.mk (hlinks.out _ Bn4.out)
          go_region_held3 (fun w' => w'.cell? ⟨r, 0, none⟩ = some (.slice (some ⟨a, 0, none⟩) ns.length cr) ∧ w'.cell? ⟨a, n * 3, none⟩ = some (.int .i64 sst) ∧ w'.cell? ⟨a, n * 3 + 1, none⟩ = some (.int .i64 slv) ∧ w'.cell? ⟨a, n * 3 + 2, none⟩ = some (.slice AV slk.length cV))
            (first | exact keep.out _ B9x.out | exact keep.out _ B8.out | exact keep.out _ B7.out | exact keep.out _ B6.out | exact keep.out _ B5.out | exact keep.out _ Bn4.out | fail) (first
            | (go_at_call 15; (with_reducible refine hlinks4.out.mono ?_); rintro en w5 ⟨v5, rfl, o5, b5⟩
               have B5 : Kept (Below wr.heap.size wr w5) := ⟨Bn4.out.trans (b5.mono Bn4.out.size)⟩
               have sl5 := sameLinks_r (LinksR.of_row o5) (rlk.out.below B5.out) (by omega) (by omega)
               rw [decide_eq_true rfl] at sl5
               replace sl5 := Kept.mk sl5
               clear o5 b5)
            | (go_at_call 16; (with_reducible refine sl5.out.mono ?_); rintro en w6 ⟨rfl, n6, rfl⟩
               have B6 : Kept (Below wr.heap.size wr (w5.drewN n6)) := ⟨below_drewN B5.out n6⟩
               have at6 := Kept.mk (hat.out _ B6.out)
               have rat6 := Kept.mk (hrat.out _ B6.out))
            | (go_at_call 24; (with_reducible refine atR.out.mono ?_); rintro en w8 ⟨v8, rfl, o8, b8⟩
               have B8 : Kept (Below wr.heap.size wr w8) := ⟨B7.out.trans (b8.mono B7.out.size)⟩
               have si := sameInts_r (IntsR.of_row o8) (i7.out.below b8) (by omega) (by omega)
               rw [decide_eq_true rfl] at si
               replace si := Kept.mk si
               clear o8 b8)
            | (go_at_call 24; (with_reducible refine at6.out.mono ?_); rintro en w7 ⟨v7, rfl, o7, b7⟩
               have B7 : Kept (Below wr.heap.size wr w7) := ⟨B6.out.trans (b7.mono B6.out.size)⟩
               have ratA := Kept.mk (hrat.out _ B7.out)
               have i7 := Kept.mk (IntsR.of_row o7)
               clear o7 b7)
            | (go_at_call 25; (with_reducible refine ratA.out.mono ?_); rintro en w8 ⟨v8, rfl, o8, b8⟩
               have B8 : Kept (Below wr.heap.size wr w8) := ⟨B7.out.trans (b8.mono B7.out.size)⟩
               have si := sameInts_r (i7.out.below b8) (IntsR.of_row o8) (by omega) (by omega)
               rw [decide_eq_true rfl] at si
               replace si := Kept.mk si
               clear o8 b8)
            | (go_at_call 25; (with_reducible refine rat6.out.mono ?_); rintro en w7 ⟨v7, rfl, o7, b7⟩
               have B7 : Kept (Below wr.heap.size wr w7) := ⟨B6.out.trans (b7.mono B6.out.size)⟩
               have atR := Kept.mk (hat.out _ B7.out)
               have i7 := Kept.mk (IntsR.of_row o7)
               clear o7 b7)
            | (go_at_call 18; (with_reducible refine si.out.mono ?_); rintro en w9x ⟨rfl, n9, rfl⟩
               have B9x : Kept (Below wr.heap.size wr (w8.drewN n9)) := ⟨below_drewN B8.out n9⟩)
            | fail)
          all_goals
            clear k0 k1 k2 k3
            go_wp2
            go_roundg (gk - 1)
            case measure => omega
            case rel => exact ⟨n + 1, by go_num, ⟨by omega⟩, ⟨hB9.out.trans (B9x.out.mono hB9.out.size)⟩⟩
        · have g1 : decide (n < ns.length) = false := decide_eq_false hlt2
          have g1' : decide ((n : Int) < (ns.length : Int)) = false := decide_eq_false (by omega)
          obtain ⟨w10, hw10⟩ : ∃ w10, w10 = wr := ⟨_, rfl⟩
          subst hw10
          have B10 := Kept.mk (hB.out.trans (hB9.out.mono hB.out.size))
          clear hb hUq hB hB9 hlt2
          go_wp2
          clear c0 g1 g1'
          go_loopg [24] l2.length (fun gk t wr => ∃ i : Nat, t = .int .i64 i ∧ Kept (i + gk = l2.length) ∧ Kept (Below w10.heap.size w10 wr))
          case atStart => exact ⟨0, rfl, ⟨by omega⟩, ⟨Below.refl _ _⟩⟩
          case round =>
            obtain ⟨i, rfl, hi, hB11⟩ := hrel
            have hi' := hi.out
            by_cases hlt3 : i < l2.length
            · have g2 : decide (i < l2.length) = true := decide_eq_true hlt3
              have g2' : decide ((i : Int) < (l2.length : Int)) = true := decide_eq_true (by omega)
              obtain ⟨ad, rfl, y0, y1, y2, y3⟩ := hA2.out i hlt3
              have Bw := B10.out.trans (hB11.out.mono B10.out.size)
              have y0 := cell_below Bw (World.block_lt_of_cell? _ _ y0) y0
              have y1 := cell_below Bw (World.block_lt_of_cell? _ _ y1) y1
              have y2 := cell_below Bw (World.block_lt_of_cell? _ _ y2) y2
              have y3 := cell_below Bw (World.block_lt_of_cell? _ _ y3) y3
              generalize l2[i].a = qa at *
              generalize l2[i].b = qb at *
              generalize l2[i].c = qc at *
              generalize l2[i].d = qd at *
              clear Bw
              go_upto_region 27 with fail
              have al := below_al wr (.cells #[.int .i64 qa, .int .i64 qb, .int .i64 qc, .int .i64 qd] 70)
              have xs : ∀ j, (wr.alloc (.cells #[.int .i64 qa, .int .i64 qb, .int .i64 qc, .int .i64 qd] 70)).cell? ⟨wr.heap.size, j, none⟩ = (#[.int .i64 qa, .int .i64 qb, .int .i64 qc, .int .i64 qd] : Array Value)[j]? := fun j => acell wr _ 70 j
              have xl : wr.heap.size < (wr.alloc (.cells #[.int .i64 qa, .int .i64 qb, .int .i64 qc, .int .i64 qd] 70)).heap.size := by simp
              have hb1 := Kept.mk (hbr.out.below (hB11.out.trans (al.mono hB11.out.size)))
              have B12 := Kept.mk (hB11.out.trans (al.mono hB11.out.size))
              clear y0 y1 y2 y3 al
              generalize wr.alloc (.cells #[.int .i64 qa, .int .i64 qb, .int .i64 qc, .int .i64 qd] 70) = W1 at *
              generalize wr.heap.size = X at *
              have xk := Kept.mk (fun (w' : World) (b : Below W1.heap.size W1 w') => (⟨cell_below b xl (xs 0), cell_below b xl (xs 1), cell_below b xl (xs 2), cell_below b xl (xs 3)⟩ : w'.cell? ⟨X, 0, none⟩ = some (.int .i64 qa) ∧ w'.cell? ⟨X, 1, none⟩ = some (.int .i64 qb) ∧ w'.cell? ⟨X, 2, none⟩ = some (.int .i64 qc) ∧ w'.cell? ⟨X, 3, none⟩ = some (.int .i64 qd)))
              clear xs
              have e1 := rways_all ns qa qb
              have sh1 := Kept.mk (waysP_short ns qa qb (-1) (-1))
              have sh2 := Kept.mk (thruP_short ns qa qb qc qd)
              have hwa := Kept.mk (Ways_in hb1.out.st (by omega) hLn.out qa qb)
              have hrw := Kept.mk (fun (w' : World) (b : Below W1.heap.size W1 w') => rways_in (hb1.out.rm.below b) (by omega) (by omega) hLn.out qa qb (-1) 0)
              have hth := Kept.mk (fun (w' : World) (b : Below W1.heap.size W1 w') => Through_in (hb1.out.st.below b) (by omega) hLn.out qa qb qc qd)
              have hr2 := Kept.mk (fun (w' : World) (b : Below W1.heap.size W1 w') => rways_in (hb1.out.rm.below b) (by omega) (by omega) hLn.out qa qb qc qd)
              rw [← e1] at hrw
              have e2 : Kept (qc ≠ -1 → thruP ns qa qb qc qd = rwaysP ns qa qb qc qd) := ⟨fun h => rways_thru ns qa qb qc qd h⟩
              clear e1
              obtain ⟨⟨ea, la⟩, hla⟩ : ∃ x, waysP ns qa qb (-1) (-1) = x := ⟨_, rfl⟩
              obtain ⟨⟨ec, lc⟩, hlc⟩ : ∃ x, thruP ns qa qb qc qd = x := ⟨_, rfl⟩
              rw [hla] at hwa hrw sh1
              rw [hlc] at hth sh2 e2
              clear hla hlc
              obtain ⟨k0, k1, k2, k3⟩ := xk.out W1 (Below.refl _ _)
              go_wp2_with (first
                | (go_at_call 11; (with_reducible refine hwa.out.mono ?_); rintro en wa ⟨va, ua, rfl, ma, ba⟩
                   obtain ⟨k0a, k1a, k2a, k3a⟩ := xk.out wa ba
                   have ra := Kept.mk ma.reads
                   replace ba := Kept.mk ba
                   clear ma)
                | (go_at_call 26; (with_reducible refine (hrw.out _ ba.out).mono ?_); rintro en wb ⟨vb, ub, rfl, mb, bb⟩
                   have bb1 := Kept.mk (ba.out.trans (bb.mono ba.out.size))
                   obtain ⟨k0b, k1b, k2b, k3b⟩ := xk.out wb bb1.out
                   have ra2 := Kept.mk (ra.out.below bb)
                   have rb := Kept.mk mb.reads
                   clear mb bb)
                | (go_at_call 17; (with_reducible refine (hth.out _ bb1.out).mono ?_); rintro en wc ⟨vc, uc, rfl, mc, bc⟩
                   have bc1 := Kept.mk (bb1.out.trans (bc.mono bb1.out.size))
                   obtain ⟨k0c, k1c, k2c, k3c⟩ := xk.out wc bc1.out
                   have sw1 := sameWays_r (ra2.out.below bc) (rb.out.below bc) sh1.out sh1.out
                   rw [decide_eq_true rfl] at sw1
                   replace sw1 := Kept.mk sw1
                   have rc := Kept.mk mc.reads
                   clear mc bc)
                | (go_at_call 20; (with_reducible refine sw1.out.mono ?_); rintro en wd ⟨rfl, nd, rfl⟩))
              · go_roundg (gk - 1)
                case measure => omega
                case rel => exact ⟨i + 1, by go_num, ⟨by omega⟩, ⟨below_drewN (B12.out.trans (bc1.out.mono B12.out.size)) nd⟩⟩
              · have hq : (qc == -1) = false := by assumption
                have hc : ¬ qc = -1 := beq_eq_false_iff_ne.1 hq
                have hw2 := hr2.out _ (below_drewN bc1.out nd)
                rw [← e2.out hc] at hw2
                refine hw2.mono ?_
                rintro en we ⟨ve, ue, rfl, me, be⟩
                have be1 := Kept.mk ((below_drewN bc1.out nd).trans (be.mono (below_drewN bc1.out nd).size))
                have sw2 := sameWays_r ((rc.out.below (below_drewN (Below.refl _ _) nd)).below be) me.reads sh2.out sh2.out
                rw [decide_eq_true rfl] at sw2
                replace sw2 := Kept.mk sw2
                clear hc hw2 me be
                go_wp2_with (first | (go_at_call 20; (with_reducible refine sw2.out.mono ?_); rintro en wf ⟨rfl, nf, rfl⟩))
                go_roundg (gk - 1)
                case measure => omega
                case rel => exact ⟨i + 1, by go_num, ⟨by omega⟩, ⟨below_drewN (B12.out.trans (be1.out.mono B12.out.size)) nf⟩⟩
            · have g2 : decide (i < l2.length) = false := decide_eq_false hlt3
              have g2' : decide ((i : Int) < (l2.length : Int)) = false := decide_eq_false (by omega)
              have fin := Kept.mk (B10.out.trans (hB11.out.mono B10.out.size))
              go_wp2_with (first | (go_at_call 8; (with_reducible refine (lives_in _).mono ?_); rintro en wz ⟨rfl, bz⟩))
              go_ret
              exact ⟨rfl, fin.out.trans (bz.mono fin.out.size)⟩
set_option maxRecDepth 100000 in
set_option maxHeartbeats 1000000 in
theorem lawPlay (state : Int) (A : Option Addr) (cap : Nat) (l : List Quad) (A2 : Option Addr) (cap2 : Nat) (l2 : List Quad) (w : World) (hst : (Lit.int .i64 state).wf = true) (hA : QuadsR w A l) (hQ : QWf l) (hc : l.length ≤ cap) (hm : l.length ≤ maxLen) (hA2 : QuadsR w A2 l2) (hQ2 : QWf l2) (hc2 : l2.length ≤ cap2) (hm2 : l2.length ≤ maxLen) :
    Calls Try.prog 6 #[.int .i64 state, .slice A l.length cap, .slice A2 l2.length cap2] w fun e w' => e = .returned (.bool true) ∧ Below w.heap.size w w' := by
  have hm' : l.length ≤ 9223372036854775807 := by unfold maxLen at hm; omega
  have hm2' : l2.length ≤ 9223372036854775807 := by unfold maxLen at hm2; omega
  by_cases h1 : l.length ≤ 60
  · have a1 : decide (60 < l.length) = false := decide_eq_false (by omega)
    have a1' : decide ((60 : Int) < (l.length : Int)) = false := decide_eq_false (by omega)
    by_cases h2 : l2.length ≤ 8
    · by_cases h0 : 0 ≤ state
      · exact play_main state A cap l A2 cap2 l2 w hst h0 hA hQ h1 hA2 hQ2 h2
      · have a2 : decide (8 < l2.length) = false := decide_eq_false (by omega)
        have a2' : decide ((8 : Int) < (l2.length : Int)) = false := decide_eq_false (by omega)
        have hn := Kept.mk (new_no state (by omega) w)
        have hr := Kept.mk (rnew_no state (by omega) w)
        clear hA hA2 hQ hQ2 h1 h2 hm hm2
        go_enter Try.func6, Try.ntmps6
        go_wp2_with (first
          | (go_at_call 9; (with_reducible refine hn.out.mono ?_); rintro en w1 ⟨rfl, rfl⟩)
          | (go_at_call 21; (with_reducible refine hr.out.mono ?_); rintro en w1 ⟨rfl, rfl⟩)
          | (go_at_call 8; (with_reducible refine (lives_in _).mono ?_); rintro en wz ⟨rfl, bz⟩))
        go_ret
        exact ⟨rfl, bz⟩
    · have a2 : decide (8 < l2.length) = true := decide_eq_true (by omega)
      have a2' : decide ((8 : Int) < (l2.length : Int)) = true := decide_eq_true (by omega)
      clear hA hA2 hQ hQ2 h1 h2 hm hm2
      go_enter Try.func6, Try.ntmps6
      go_wp2_with (first | (go_at_call 8; (with_reducible refine (lives_in _).mono ?_); rintro en wz ⟨rfl, bz⟩))
      go_ret
      exact ⟨rfl, bz⟩
  · have a1 : decide (60 < l.length) = true := decide_eq_true (by omega)
    have a1' : decide ((60 : Int) < (l.length : Int)) = true := decide_eq_true (by omega)
    clear hA hA2 hQ hQ2 h1 hm hm2
    go_enter Try.func6, Try.ntmps6
    go_wp2_with (first | (go_at_call 8; (with_reducible refine (lives_in _).mono ?_); rintro en wz ⟨rfl, bz⟩))
    go_ret
    exact ⟨rfl, bz⟩
end Go.Proofs.Yteeiidkbihhekaa
