/- Stacks: down, all of it. -/
import Derived.Test.YteeiidkbihhekaaSkK
import Derived.Deep.RegionHeldLaw
import Derived.Deep.RegionLaw
import Derived.Deep.AppendLies
import Derived.StillTailTactics
import Derived.Deep.DeepCutAuto
set_option linter.unusedVariables false
set_option linter.unusedSimpArgs false
namespace Go.Proofs.Yteeiidkbihhekaa
open Go Go.RowKit Go.Maps Go.WideMaps
/-- links lead to nodes that are there -/
def Linked (ns : List N) : Prop := ∀ n ∈ ns, ∀ l ∈ n.lk, 0 ≤ l.1 ∧ l.1 < ns.length
theorem Fr3.low {w w' : World} {S q g : Nat} {nd lk : Int} {ov : List Int} {vo vw vo' vw' : Value} {us : List Value} {out : List Wy} (h : Srch w S q g nd lk ov vo vw us out) (hS : S ≤ w.heap.size) (f : Fr3 w w' q vo vw vo' vw') : Below S w w' :=
  ⟨f.os, f.tape, f.output, f.size, fun k hk => f.block k (by omega) (by have := h.qS; omega) (by intro e; have := (h.ovr.lt k e.symm).1; omega) (by intro e; have := (h.wm.outr.lt k e.symm).1; omega)⟩
theorem lkOf_at {ns : List N} {n : Nat} (h : n < ns.length) : lkOf ns n = (ns[n]).lk := by simp [lkOf, h]
theorem downP_len : ∀ (ns : List N) (nd lk : Int) (k n : Nat) (met : Bool) (ov : List Int) (out : List Wy), out.length ≤ 4096 → (downP ns nd lk k n met ov out).1.length ≤ 4097 ∧ ((downP ns nd lk k n met ov out).2 = true → (downP ns nd lk k n met ov out).1.length ≤ 4096)
  | ns, nd, lk, 0, n, met, ov, out, h => by
    unfold downP
    refine ⟨?_, fun e => of_decide_eq_true e⟩
    dsimp only
    split
    · simp; omega
    · omega
  | ns, nd, lk, k + 1, n, met, ov, out, h => by
    unfold downP
    have go : ∀ (l : List (Int × Int)) (i : Nat) (out : List Wy), out.length ≤ 4096 → (byLinks (downP ns nd lk k) n nd lk met ov i l out).1.length ≤ 4097 ∧ ((byLinks (downP ns nd lk k) n nd lk met ov i l out).2 = true → (byLinks (downP ns nd lk k) n nd lk met ov i l out).1.length ≤ 4096) := by
      intro l
      induction l with
      | nil => exact fun i out h => ⟨Nat.le_succ_of_le h, fun _ => h⟩
      | cons a l ih =>
        intro i out h
        have hd := downP_len ns nd lk k a.1.toNat (met || (decide ((n : Int) = nd) && decide ((i : Int) = lk))) (ov ++ [a.2]) out h
        unfold byLinks
        split
        · rename_i e
          exact ih _ _ (hd.2 e)
        · exact ⟨hd.1, fun e => by cases e⟩
    exact go _ _ _ h
theorem byLinks_step {f : Nat → Bool → List Int → List Wy → List Wy × Bool} {n : Nat} {nd lk : Int} {met M b : Bool} {ov : List Int} {j tn : Nat} {LK : List (Int × Int)} {o : Int} {out out2 : List Wy} (hj : j < LK.length) (hl : LK[j] = ((tn : Int), o)) (hM : (met || (decide ((n : Int) = nd) && decide ((j : Int) = lk))) = M) (hR : f tn M (ov ++ [o]) out = (out2, b)) :
    byLinks f n nd lk met ov j (LK.drop j) out = if b = true then byLinks f n nd lk met ov (j + 1) (LK.drop (j + 1)) out2 else (out2, false) := by
  rw [List.drop_eq_getElem_cons hj, hl]
  show (if (f (Int.toNat (tn : Int)) _ (ov ++ [o]) out).2 = true then _ else _) = _
  rw [Int.toNat_natCast, hM, hR]
variable {w w0 : World} {B g bm br p q : Nat} {nv : Value} {vs : List Value} {ns : List N} {nd lk : Int}
/-- what down does, k links from node n on -/
def DownOk (w : World) (S : Nat) (ns : List N) (q g : Nat) (nd lk : Int) (k n : Nat) (met : Bool) (ov : List Int) (vo vw : Value) (out : List Wy) (e : Ending) (w' : World) : Prop :=
  e = .returned (.bool (downP ns nd lk k n met ov out).2) ∧ ∃ vo' vw' us, Srch w' S q g nd lk ov vo' vw' us (downP ns nd lk k n met ov out).1 ∧ Fr3 w w' q vo vw vo' vw'
set_option maxRecDepth 100000 in
set_option maxHeartbeats 600000 in
theorem down_in (h0 : StM w0 B g nv bm br vs ns p) (hp : p ≤ 1073741824) (hL : Linked ns) : ∀ (k : Nat) (hk : k ≤ 8) (n : Nat) (hn : n < ns.length) (met : Bool) (ov : List Int) (vo vw : Value) (us : List Value) (out : List Wy) (w : World),
    ov.length + k ≤ 1000 → out.length ≤ 4096 → Srch w w0.heap.size q g nd lk ov vo vw us out → Below w0.heap.size w0 w →
    Calls Try.prog 36 #[.pointer (some ⟨q, 0, none⟩), .int .i64 n, .int .i64 k, .bool met] w (DownOk w w0.heap.size ns q g nd lk k n met ov vo vw out) := by
  intro k
  induction k with
  | zero =>
    intro _ n hn met ov vo vw us out w hov ho hs hb
    by_cases hm : nd < 0 ∨ met = true
    · refine (down0_take hs hb.size n met hm ho (by omega)).mono ?_
      rintro e w' ⟨rfl, vw', us', hs', f⟩
      have e1 : (if nd < 0 ∨ met = true then out ++ [((n : Int), ov.reverse)] else out) = out ++ [((n : Int), ov.reverse)] := if_pos hm
      refine ⟨?_, vo, vw', us', ?_, f⟩
      · unfold downP
        rw [e1]
        simp
      · unfold downP
        rw [e1]
        exact hs'
    · have hm2 : met = false := by
        cases met
        · rfl
        · exact absurd (Or.inr rfl) hm
      subst hm2
      refine (down0_skip hs n (fun e => hm (Or.inl e)) (by omega)).mono ?_
      rintro e w' ⟨rfl, rfl⟩
      refine ⟨?_, vo, vw, us, ?_, Fr3.of_below _ _ _ (Below.refl _ _)⟩
      · unfold downP
        rw [if_neg hm]
      · unfold downP
        rw [if_neg hm]
        exact hs
  | succ k ih =>
    intro hk n hn met ov vo0 vw0 us0 out w hov ho hs hb
    have ih' := Kept.mk (ih (by omega))
    clear ih
    obtain ⟨a, cap, rfl, hBa, hlta, hcap, _, _, x2⟩ := h0.node n hn
    have m0 := h0.c0
    have lg : g < w0.heap.size := (Array.getElem?_eq_some_iff.1 h0.hd).1
    have c0 : w.cell? ⟨q, 0, none⟩ = some (.pointer (some ⟨g, 0, none⟩)) := hs.cell 0
    have m1 : w.cell? ⟨g, 0, none⟩ = some (.slice (some ⟨a, 0, none⟩) ns.length cap) := (hb.cell (p := ⟨g, 0, none⟩) lg).trans m0
    have m2 : w.cell? ⟨a, n * 3 + 2, none⟩ = some (vAt vs n) := (hb.cell (p := ⟨a, n * 3 + 2, none⟩) hlta).trans x2
    have hlk0 := h0.lks n hn
    have hll : (ns[n]).lk.length ≤ p := h0.lkp _ (List.getElem_mem hn)
    have hln : ∀ l ∈ (ns[n]).lk, 0 ≤ l.1 ∧ l.1 < ns.length := hL _ (List.getElem_mem hn)
    have edn : downP ns nd lk (k + 1) n met ov out = byLinks (downP ns nd lk k) n nd lk met ov 0 (ns[n]).lk out := by
      show byLinks (downP ns nd lk k) n nd lk met ov 0 (lkOf ns n) out = _
      rw [lkOf_at hn]
    replace edn := Kept.mk edn
    replace hln := Kept.mk hln
    replace hs := Kept.mk hs
    replace hb := Kept.mk hb
    replace h0 := Kept.mk h0
    replace hL := Kept.mk hL
    generalize (ns[n]).lk = LK at *
    generalize hV : vAt vs n = V at *
    replace hV := Kept.mk hV
    obtain ⟨A, lc, rfl⟩ := own_len hlk0
    have d1 : decide (n < ns.length) = true := decide_eq_true hn
    have d1' : decide ((n : Int) < (ns.length : Int)) = true := decide_eq_true (by omega)
    have d2 : decide (((k + 1 : Nat) : Int) = 0) = false := decide_eq_false (by omega)
    have d3 : decide (k + 1 = 0) = false := decide_eq_false (by omega)
    clear m0 x2 lg
    go_enter Try.func36, Try.ntmps36
    go_wp2
    clear c0 m1 m2
    go_loopg [60] LK.length (fun gk i wr => ∃ j : Nat, i = .int .i64 j ∧ Kept (j + gk = LK.length) ∧ Kept (∃ vo' vw' us' out', Srch wr w0.heap.size q g nd lk ov vo' vw' us' out' ∧ Below w0.heap.size w0 wr ∧ Fr3 w wr q vo0 vw0 vo' vw' ∧ out'.length ≤ 4096 ∧
        byLinks (downP ns nd lk k) n nd lk met ov j (LK.drop j) out' = byLinks (downP ns nd lk k) n nd lk met ov 0 LK out))
    case atStart => exact ⟨0, rfl, ⟨by omega⟩, ⟨vo0, vw0, us0, out, hs.out, hb.out, Fr3.of_below _ _ _ (Below.refl _ _), ho, rfl⟩⟩
    case round =>
      clear hs hb ho
      obtain ⟨j, rfl, hj, ⟨vo, vw, us, out', hs', hb', hfr', ho', hby⟩⟩ := hrel
      have hj' := hj.out
      replace hby := Kept.mk hby
      replace hfr' := Kept.mk hfr'
      by_cases hlt : j < LK.length
      · have f1 : decide (j < LK.length) = true := decide_eq_true hlt
        have f1' : decide ((j : Int) < (LK.length : Int)) = true := decide_eq_true (by omega)
        obtain ⟨al, cl, hv, hBl, hltl, hcl, hrd⟩ := lk_read hlk0 (by omega)
        cases hv
        obtain ⟨y0, y1⟩ := hrd j hlt
        have z0 : wr.cell? ⟨al, j * 2, none⟩ = some (.int .i64 (LK[j]).1) := (hb'.cell (p := ⟨al, j * 2, none⟩) hltl).trans y0
        have z1 : wr.cell? ⟨al, j * 2 + 1, none⟩ = some (.int .i64 (LK[j]).2) := (hb'.cell (p := ⟨al, j * 2 + 1, none⟩) hltl).trans y1
        clear hrd y0 y1
        have hq := hs'.qlt
        replace hs' := Kept.mk hs'
        replace hb' := Kept.mk hb'
        obtain ⟨lt, ov1, hl1⟩ : ∃ t o, LK[j] = (t, o) := ⟨_, _, rfl⟩
        rw [hl1] at z0 z1
        replace hl1 := Kept.mk hl1
        dsimp only at z0 z1
        go_wp2
        have al1 := below_al wr (.cells #[.int .i64 lt, .int .i64 ov1] 46)
        have hs1 := hs'.out.below al1
        have hb1 := hb'.out.trans (al1.mono hb'.out.size)
        have l0 : (wr.alloc (.cells #[.int .i64 lt, .int .i64 ov1] 46)).cell? ⟨wr.heap.size, 0, none⟩ = some (.int .i64 lt) := acell wr #[.int .i64 lt, .int .i64 ov1] 46 0
        have l1 : (wr.alloc (.cells #[.int .i64 lt, .int .i64 ov1] 46)).cell? ⟨wr.heap.size, 1, none⟩ = some (.int .i64 ov1) := acell wr #[.int .i64 lt, .int .i64 ov1] 46 1
        have lsz : wr.heap.size < (wr.alloc (.cells #[.int .i64 lt, .int .i64 ov1] 46)).heap.size := by simp
        clear al1 hq hltl hcl
        generalize hW1 : wr.alloc (.cells #[.int .i64 lt, .int .i64 ov1] 46) = W1 at *
        generalize hLL : wr.heap.size = LL at *
        replace hW1 := Kept.mk hW1
        replace hLL := Kept.mk hLL
        have al2 := below_al W1 (.cells #[.int .i64 ov1] 3)
        have al2d : Below W1.heap.size W1 ((W1.alloc (.cells #[.int .i64 ov1] 3)).drew) := al2.drew
        have hs2 := Kept.mk (hs1.below al2d)
        have hb2 := Kept.mk (hb1.trans (al2d.mono hb1.size))
        have r0 : W1.drew.cell? ⟨q, 3, none⟩ = some vo := hs1.cell 3
        have r1 : W1.drew.cell? ⟨LL, 1, none⟩ = some (.int .i64 ov1) := l1
        have r2 : ((W1.alloc (.cells #[.int .i64 ov1] 3)).drew).cell? ⟨q, 3, none⟩ = some vo := hs2.out.cell 3
        have r3 : ((W1.alloc (.cells #[.int .i64 ov1] 3)).drew).cell? ⟨LL, 1, none⟩ = some (.int .i64 ov1) := (al2d.cell (p := ⟨LL, 1, none⟩) lsz).trans l1
        have hoV := hs2.out.ovr
        have q2 := hs2.out.qlt
        have qne : some q ≠ vo.ownBlock := Ne.symm hs2.out.vo_ne
        have qhd := hs2.out.hd
        obtain ⟨i3, hi3, e0, e1, e2⟩ := info_parts info3
        have nw0 : ∀ k u, [Value.int .i64 ov1][k]? = some u → ((W1.alloc (.cells #[.int .i64 ov1] 3)).drew).cell? ((⟨W1.heap.size, 0, none⟩ : Addr).add k) = some u :=
          World.news_of_block (cs := #[.int .i64 ov1]) (MapKept.heap_alloc W1 _).1
        have one : ∀ u ∈ [Value.int .i64 ov1], u.oneCell' = true := by
          intro u hu
          simp at hu
          subst hu
          rfl
        have hB2 : w0.heap.size ≤ ((W1.alloc (.cells #[.int .i64 ov1] 3)).drew).heap.size := hb2.out.size
        have close : Kept (∀ g6 cap6 w6, w6.ownsRow w0.heap.size 3 1 (.slice (some ⟨g6, 0, none⟩) (ov.length + 1) cap6) (ov.length + 1) (ints ov ++ [.int .i64 ov1]) → ((W1.alloc (.cells #[.int .i64 ov1] 3)).drew).grownBy w6 vo.ownBlock → (vo.ownBlock = some g6 ∨ g6 = ((W1.alloc (.cells #[.int .i64 ov1] 3)).drew).heap.size) →
            Srch (w6.setCell ⟨q, 3, none⟩ (.slice (some ⟨g6, 0, none⟩) (ov.length + 1) cap6)) w0.heap.size q g nd lk (ov ++ [ov1]) (.slice (some ⟨g6, 0, none⟩) (ov.length + 1) cap6) vw us out' ∧ Below w0.heap.size w0 (w6.setCell ⟨q, 3, none⟩ (.slice (some ⟨g6, 0, none⟩) (ov.length + 1) cap6)) ∧
            (w6.setCell ⟨q, 3, none⟩ (.slice (some ⟨g6, 0, none⟩) (ov.length + 1) cap6)).cell? ⟨LL, 0, none⟩ = some (.int .i64 lt) ∧ Fr3 wr (w6.setCell ⟨q, 3, none⟩ (.slice (some ⟨g6, 0, none⟩) (ov.length + 1) cap6)) q vo vw (.slice (some ⟨g6, 0, none⟩) (ov.length + 1) cap6) vw) := by
          refine ⟨fun g6 cap6 w6 hown6 hgrow6 hat6 => ?_⟩
          have fin := hs2.out.push (x := ov1) hgrow6 (by simpa [ints] using hown6) (vo' := .slice (some ⟨g6, 0, none⟩) (ov.length + 1) cap6) (hat6.imp (fun e => e.symm) (fun e => ⟨g6, rfl, by rw [e]; exact Nat.le_refl _⟩))
          have eL := hLL.out
          have vL : some LL ≠ vo.ownBlock := by
            intro e
            have := (hs'.out.ovr.lt LL e.symm).2
            omega
          refine ⟨fin.1, hb2.out.trans (fin.2.low hs2.out hB2), ?_, (Fr3.of_below q vo vw ?_).trans fin.2⟩
          · have hb := (Below.heap_setCell w6 ⟨q, 3, none⟩ (.slice (some ⟨g6, 0, none⟩) (ov.length + 1) cap6) LL (by have := hs'.out.qlt; show LL ≠ q; omega)).trans ((hgrow6.block LL (Nat.lt_of_lt_of_le lsz al2d.size) vL).trans (al2d.block LL lsz))
            exact (World.cell?_of_block (a := ⟨LL, 0, none⟩) hb).trans l0
          · rw [eL]
            exact (hW1.out ▸ (eL ▸ (below_al wr (.cells #[.int .i64 lt, .int .i64 ov1] 46)) : Below LL wr _)).trans (al2d.mono (Nat.le_of_lt lsz))
        clear hs1 al2 al2d
        generalize hol : ov.length = ol at *
        replace hol := Kept.mk hol
        go_cut [10, 11, 60] (fun s10 s11 s60 W => s10 = .int .i64 j ∧ s11 = .pointer (some ⟨LL, 0, none⟩) ∧ s60 = .int .i64 j ∧ Kept (∃ g6 cap6, Srch W w0.heap.size q g nd lk (ov ++ [ov1]) (.slice (some ⟨g6, 0, none⟩) (ol + 1) cap6) vw us out' ∧ Below w0.heap.size w0 W ∧ W.cell? ⟨LL, 0, none⟩ = some (.int .i64 lt) ∧ Fr3 wr W q vo vw (.slice (some ⟨g6, 0, none⟩) (ol + 1) cap6) vw))
        case first =>
          go_region_law (
            (refine step_append_lies _ rfl _ _ 33 rfl w0.heap.size 3 i3 (.int .i64 0) 1 8 Try.underlying33 hi3 e0 e1 e2 rfl (by decide) vo ol _ rfl hoV ⟨W1.heap.size, 0, none⟩ 1 1 [.int .i64 ov1] rfl rfl nw0 one (by decide) (by unfold maxLen; omega) (by omega) hB2 _ rfl ?_
             intro g6 cap6 w6 hown6 hgrow6 hat6 hlt6
             have v0 := (hgrow6.cell_far ⟨q, 3, none⟩ q2 qne).trans r2
             have f2 : w6.frozen? ⟨q, 3, none⟩ = false := Joins.unfrozen_of_block ((hgrow6.block q q2 qne).trans qhd) _))
          all_goals
            have fin := close.out g6 cap6 w6 hown6 hgrow6 hat6
            clear close
            go_wp2
            go_meet
            case rel => exact ⟨rfl, rfl, rfl, ⟨g6, cap6, fin⟩⟩
        case rest =>
          obtain ⟨rfl, rfl, rfl, ⟨g6, cap6, hs3, hb3, l3, fr3⟩⟩ := hcut
          clear close hoV nw0 one r0 r1 r2 r3 q2 qne qhd hB2 hs2 hb2 l0 l1 lsz
          obtain ⟨M, hM⟩ : ∃ M, (met || (decide ((n : Int) = nd) && decide ((j : Int) = lk))) = M := ⟨_, rfl⟩
          have hto : 0 ≤ lt ∧ lt < ns.length := by
            have := hln.out _ (List.getElem_mem hlt)
            rw [hl1.out] at this
            exact this
          obtain ⟨tn, rfl⟩ : ∃ tn : Nat, lt = tn := ⟨lt.toNat, by omega⟩
          have bd : Below wc.heap.size wc wc.drew := (Below.refl _ _).drew
          have hol' := hol.out
          obtain ⟨out2, b2, hR⟩ : ∃ o b, downP ns nd lk k tn M (ov ++ [ov1]) out' = (o, b) := ⟨_, _, rfl⟩
          have hrec : Kept (Calls Try.prog 36 #[.pointer (some ⟨q, 0, none⟩), .int .i64 tn, .int .i64 k, .bool M] wc.drew fun e w' => e = .returned (.bool b2) ∧ ∃ vo' vw' us2, Srch w' w0.heap.size q g nd lk (ov ++ [ov1]) vo' vw' us2 out2 ∧ Fr3 wc.drew w' q (.slice (some ⟨g6, 0, none⟩) (ol + 1) cap6) vw vo' vw') := by
            have := ih'.out tn (by omega) M (ov ++ [ov1]) _ vw us out' wc.drew (by simp; omega) ho' (hs3.below bd) (hb3.drew)
            unfold DownOk at this
            rw [hR] at this
            exact ⟨this⟩
          have c1 : wc.drew.cell? ⟨q, 1, none⟩ = some (.int .i64 nd) := hs3.cell 1
          have c2 : wc.drew.cell? ⟨q, 2, none⟩ = some (.int .i64 lk) := hs3.cell 2
          have l3' : wc.drew.cell? ⟨LL, 0, none⟩ = some (.int .i64 tn) := l3
          replace hR := Kept.mk hR
          replace hM := Kept.mk hM
          replace hs3 := Kept.mk (hs3.below bd)
          replace fr3 := Kept.mk (fr3.trans (Fr3.of_below _ _ _ bd))
          replace hb3 := Kept.mk (hb3.drew)
          have wr1 : IntKind.i64.wrap ((k : Int) + 1 - 1) = k := by rw [Int.add_sub_cancel]; exact IntWalk.i64_in _ (by omega)
          have wr2 : IntKind.i64.wrap (((k + 1 : Nat) : Int) - 1) = k := wr1
          have wr3 : IntKind.i64.wrap (k : Int) = k := IntWalk.i64_in _ (by omega)
          clear hto bd hol'
          go_wp2
          go_cut [12, 60] (fun s12 s60 W => s12 = .bool b2 ∧ s60 = .int .i64 j ∧ Kept (∃ vo' vw' us2, Srch W w0.heap.size q g nd lk (ov ++ [ov1]) vo' vw' us2 out2 ∧ Fr3 wc.drew W q (.slice (some ⟨g6, 0, none⟩) (ol + 1) cap6) vw vo' vw'))
          case first =>
            have ways : Kept ((met = true ∧ M = true) ∨ (met = false ∧ (n : Int) = nd ∧ (j : Int) = lk ∧ M = true) ∨ (met = false ∧ (n : Int) = nd ∧ ¬ (j : Int) = lk ∧ M = false) ∨ (met = false ∧ ¬ (n : Int) = nd ∧ M = false)) := by
              constructor
              have := hM.out
              subst this
              cases met
              · by_cases e1 : (n : Int) = nd
                · by_cases e2 : (j : Int) = lk <;> simp [e1, e2]
                · simp [e1]
              · simp
            clear hM hlk0 hfr' hs' hb'
            rcases ways.out with ⟨rfl, rfl⟩ | ⟨rfl, rfl, rfl, rfl⟩ | ⟨rfl, rfl, e2, rfl⟩ | ⟨rfl, e1, rfl⟩
            · clear ways
              refine wp_region_still_tail 22 (by kernel_rfl) (by kernel_rfl) ?_
              simp only [List.take_succ_cons, List.take_zero, List.drop_succ_cons, List.drop_zero]
              change wpStill _ _ wc.drew (fun a' => wpList _ _ _ _ a' wc.drew) _ _
              generalize wc.drew = W4 at *
              iterate 22 ((with_reducible refine wpStill_step (fun K hK => ?_)); go_simp; (first | (with_reducible refine hK _ ?_) | (rw [if_neg (by simp [undef])]; (with_reducible refine hK _ ?_))); clear hK K)
              with_reducible refine wpStill_nil ?_
              go_wp2_with (first | (go_at_call 36; (with_reducible refine hrec.out.mono ?_); rintro en w4 ⟨rfl, vo4, vw4, us4, hs4, fr4⟩))
              go_meet
              case rel => exact ⟨rfl, rfl, ⟨vo4, vw4, us4, hs4, fr4⟩⟩
            · clear ways
              refine wp_region_still_tail 22 (by kernel_rfl) (by kernel_rfl) ?_
              simp only [List.take_succ_cons, List.take_zero, List.drop_succ_cons, List.drop_zero]
              change wpStill _ _ wc.drew (fun a' => wpList _ _ _ _ a' wc.drew) _ _
              generalize wc.drew = W4 at *
              iterate 22 ((with_reducible refine wpStill_step (fun K hK => ?_)); go_simp; (first | (with_reducible refine hK _ ?_) | (rw [if_neg (by simp [undef])]; (with_reducible refine hK _ ?_))); clear hK K)
              with_reducible refine wpStill_nil ?_
              go_wp2_with (first | (go_at_call 36; (with_reducible refine hrec.out.mono ?_); rintro en w4 ⟨rfl, vo4, vw4, us4, hs4, fr4⟩))
              go_meet
              case rel => exact ⟨rfl, rfl, ⟨vo4, vw4, us4, hs4, fr4⟩⟩
            · have g1 : decide ((j : Int) = lk) = false := decide_eq_false e2
              have g2 : ((j : Int) == lk) = false := beq_eq_false_iff_ne.2 e2
              clear ways e2
              refine wp_region_still_tail 22 (by kernel_rfl) (by kernel_rfl) ?_
              simp only [List.take_succ_cons, List.take_zero, List.drop_succ_cons, List.drop_zero]
              change wpStill _ _ wc.drew (fun a' => wpList _ _ _ _ a' wc.drew) _ _
              generalize wc.drew = W4 at *
              iterate 22 ((with_reducible refine wpStill_step (fun K hK => ?_)); go_simp; (first | (with_reducible refine hK _ ?_) | (rw [if_neg (by simp [undef])]; (with_reducible refine hK _ ?_))); clear hK K)
              with_reducible refine wpStill_nil ?_
              go_wp2_with (first | (go_at_call 36; (with_reducible refine hrec.out.mono ?_); rintro en w4 ⟨rfl, vo4, vw4, us4, hs4, fr4⟩))
              go_meet
              case rel => exact ⟨rfl, rfl, ⟨vo4, vw4, us4, hs4, fr4⟩⟩
            · have g1 : decide ((n : Int) = nd) = false := decide_eq_false e1
              have g2 : ((n : Int) == nd) = false := beq_eq_false_iff_ne.2 e1
              clear ways e1
              refine wp_region_still_tail 22 (by kernel_rfl) (by kernel_rfl) ?_
              simp only [List.take_succ_cons, List.take_zero, List.drop_succ_cons, List.drop_zero]
              change wpStill _ _ wc.drew (fun a' => wpList _ _ _ _ a' wc.drew) _ _
              generalize wc.drew = W4 at *
              iterate 22 ((with_reducible refine wpStill_step (fun K hK => ?_)); go_simp; (first | (with_reducible refine hK _ ?_) | (rw [if_neg (by simp [undef])]; (with_reducible refine hK _ ?_))); clear hK K)
              with_reducible refine wpStill_nil ?_
              go_wp2_with (first | (go_at_call 36; (with_reducible refine hrec.out.mono ?_); rintro en w4 ⟨rfl, vo4, vw4, us4, hs4, fr4⟩))
              go_meet
              case rel => exact ⟨rfl, rfl, ⟨vo4, vw4, us4, hs4, fr4⟩⟩
          case rest =>
            obtain ⟨rfl, rfl, ⟨vo4, vw', us2, hs4, fr4⟩⟩ := hcut
            have fr : Fr3 wr wc q vo vw vo4 vw' := fr3.out.trans fr4
            have el : (ov ++ [ov1]).length = ol + 1 := by simp [hol.out]
            obtain ⟨a4, cp4, hv4, _, _, hc4, _⟩ := own_cells hs4.ovr (by simp)
            rw [el] at hv4 hc4
            subst hv4
            have bd : Below wc.heap.size wc wc.drew := (Below.refl _ _).drew
            have pop := (hs4.below bd).pop
            rw [hol.out] at pop
            have k3 : wc.drew.cell? ⟨q, 3, none⟩ = some (.slice (some ⟨a4, 0, none⟩) (ol + 1) cp4) := hs4.cell 3
            have f3 : wc.drew.frozen? ⟨q, 3, none⟩ = false := Joins.unfrozen_of_block hs4.hd 3
            have fr5 := fr.trans ((Fr3.of_below _ _ _ bd).trans pop.2)
            have hs5 := Kept.mk pop.1
            replace fr5 := Kept.mk fr5
            have hS5 := hb'.out.size
            have hb5 := Kept.mk (hb'.out.trans (fr5.out.low hs'.out hS5))
            have wq1 : IntKind.i64.wrap ((ol : Int) + 1 - 1) = ol := by rw [Int.add_sub_cancel]; exact IntWalk.i64_in _ (by omega)
            have wq2 : IntKind.i64.wrap (((ol + 1 : Nat) : Int) - 1) = ol := wq1
            have wq3 : IntKind.i64.wrap (ol : Int) = ol := IntWalk.i64_in _ (by omega)
            have le1 : ol ≤ cp4 := by omega
            have le2 : (0 : Int) ≤ ol := by omega
            have le3 : (ol : Int) ≤ (cp4 : Int) := by omega
            have hd5 := downP_len ns nd lk k tn M (ov ++ [ov1]) out' ho'
            rw [hR.out] at hd5
            replace hd5 := Kept.mk hd5
            have fall := Kept.mk (hfr'.out.trans fr5.out)
            clear el hc4 pop fr fr4 bd hs4
            go_wp2
            refine wp_region_still_tail 14 (by kernel_rfl) (by kernel_rfl) ?_
            simp only [List.take_succ_cons, List.take_zero, List.drop_succ_cons, List.drop_zero]
            change wpStill _ _ wc.drew (fun a' => wpList _ _ _ _ a' wc.drew) _ _
            generalize wc.drew = W5 at *
            iterate 14 ((with_reducible refine wpStill_step (fun K hK => ?_)); go_simp; (with_reducible refine hK _ ?_); clear hK K)
            with_reducible refine wpStill_nil ?_
            cases b2
            · go_wp2
              have st := byLinks_step hlt hl1.out hM.out hR.out
              rw [if_neg (by simp)] at st
              have e := edn.out.trans (hby.out.symm.trans st)
              go_ret
              refine ⟨by rw [e]; rfl, _, vw', us2, ?_, fall.out⟩
              rw [e]
              exact hs5.out
            · go_wp2
              have st := byLinks_step hlt hl1.out hM.out hR.out
              rw [if_pos rfl] at st
              go_roundg (gk - 1)
              case measure => omega
              case rel => exact ⟨j + 1, rfl, ⟨by omega⟩, ⟨_, _, _, out2, hs5.out, hb5.out, fall.out, (by simpa using hd5.out.2), st.symm.trans hby.out⟩⟩
      · have f1 : decide (j < LK.length) = false := decide_eq_false hlt
        have f1' : decide ((j : Int) < (LK.length : Int)) = false := decide_eq_false (by omega)
        replace hs' := Kept.mk hs'
        replace hb' := Kept.mk hb'
        go_wp2
        have e : downP ns nd lk (k + 1) n met ov out = (out', true) := by
          rw [edn.out, ← hby.out, List.drop_eq_nil_of_le (by omega)]
          rfl
        go_ret
        refine ⟨by rw [e]; rfl, vo, vw, us, ?_, hfr'.out⟩
        rw [e]
        exact hs'.out
end Go.Proofs.Yteeiidkbihhekaa
