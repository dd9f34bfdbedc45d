/- The reference's search, walked. -/
import Derived.Test.YteeiidkbihhekaaSkZ2
set_option linter.unusedVariables false
set_option linter.unusedSimpArgs false
namespace Go.Proofs.Yteeiidkbihhekaa
open Go Go.RowKit
variable {w : World} {S r p : Nat} {nv : Value} {vs : List Value} {ns : List N} {nd lk : Int}
def RDownOk (w : World) (res : List Wy) (e : Ending) (w' : World) : Prop := ∃ v us, e = .returned v ∧ WA w' w.heap.size v us res ∧ Below w.heap.size w w'
theorem WA.one (w : World) (n : Int) : WA (w.alloc (.cells #[.int .i64 n, .slice none 0 0] 35)) w.heap.size (.slice (some ⟨w.heap.size, 0, none⟩) 1 1) [.slice none 0 0] [(n, [])] := by
  refine ⟨⟨rfl, ⟨rfl, .inr ⟨w.heap.size, 1, _, rfl, Nat.le_refl _, alloc_here w _, Nat.le_refl _, by decide, rfl, rfl⟩⟩, fun i hi => ?_⟩, fun i j hi hj hne => ?_⟩
  · have : i = 0 := by simp at hi; omega
    subst this
    exact own_nil _ _ _ _
  · simp at hi hj
    omega
theorem rLoop_step {f : Nat → Bool → List Wy} {n : Nat} {nd lk : Int} {used M : Bool} {j tn : Nat} {LK : List (Int × Int)} {o : Int} {out L : List Wy} (hj : j < LK.length) (hl : LK[j] = ((tn : Int), o)) (ho : out.length ≤ 4096) (hM : (used || (decide ((n : Int) = nd) && decide ((j : Int) = lk))) = M) (hR : f tn M = L) :
    rLoop f n nd lk used j (LK.drop j) out = rLoop f n nd lk used (j + 1) (LK.drop (j + 1)) (out ++ L.map (addT o)) := by
  rw [List.drop_eq_getElem_cons hj, hl]
  show (if out.length ≤ 4096 then rLoop f n nd lk used (j + 1) (LK.drop (j + 1)) (out ++ (f (Int.toNat (tn : Int)) _).map (addT o)) else out) = _
  rw [if_pos ho, Int.toNat_natCast, hM, hR]
theorem rLoop_stop {f : Nat → Bool → List Wy} {n : Nat} {nd lk : Int} {used : Bool} {j : Nat} {LK : List (Int × Int)} {out : List Wy} (h : LK.length ≤ j ∨ 4096 < out.length) : rLoop f n nd lk used j (LK.drop j) out = out := by
  rcases h with h | h
  · rw [List.drop_eq_nil_of_le h]
    rfl
  · by_cases hj : j < LK.length
    · rw [List.drop_eq_getElem_cons hj]
      show (if out.length ≤ 4096 then _ else out) = out
      rw [if_neg (by omega)]
    · rw [List.drop_eq_nil_of_le (by omega)]
      rfl
set_option maxRecDepth 100000 in
theorem rdown0 (n : Nat) (used : Bool) (r : Nat) : Calls Try.prog 34 #[.pointer (some ⟨r, 0, none⟩), .int .i64 n, .int .i64 0, .int .i64 nd, .int .i64 lk, .bool used] w (RDownOk w (downR ns nd lk 0 n used)) := by
  have e : downR ns nd lk 0 n used = if used = true then [((n : Int), [])] else [] := rfl
  rw [e]
  cases used
  · rw [if_neg (by simp)]
    go_enter Try.func34, Try.ntmps34
    go_wp2
    go_ret
    exact ⟨_, _, rfl, WA.nil _ _, Below.refl _ _⟩
  · rw [if_pos rfl]
    go_enter Try.func34, Try.ntmps34
    go_wp2
    go_ret
    exact ⟨_, _, rfl, WA.one w n, below_al w _⟩
theorem add_row (g q : Nat) : (⟨g, 0, none⟩ : Addr).add q = ⟨g, q, none⟩ := by
  unfold Addr.add
  split <;> simp_all
theorem cell_of_w1 {w W1 : World} {X : Nat} {tn ov : Int} (h : w.alloc (.cells #[.int .i64 tn, .int .i64 ov] 46) = W1) (hX : w.heap.size = X) : W1.cell? ⟨X, 1, none⟩ = some (.int .i64 ov) := by
  subst h hX
  exact acell w #[.int .i64 tn, .int .i64 ov] 46 1
set_option maxRecDepth 100000 in
set_option maxHeartbeats 8000000 in
theorem rdown_in (hL : Linked ns) : ∀ (k : Nat) (hk : k ≤ 8) (n : Nat) (hn : n < ns.length) (used : Bool) (w : World), RM w S r nv vs ns p → p ≤ 1073741824 →
    Calls Try.prog 34 #[.pointer (some ⟨r, 0, none⟩), .int .i64 n, .int .i64 k, .int .i64 nd, .int .i64 lk, .bool used] w (RDownOk w (downR ns nd lk k n used)) := by
  intro k
  induction k with
  | zero =>
    intro _ n hn used w _ _
    exact rdown0 n used r
  | succ k ih =>
    intro hk n hn used w h hp
    have ih' := Kept.mk (ih (by omega))
    clear ih
    obtain ⟨a, cap, rfl, hSa, hlta, hcap, _, _, x2⟩ := h.node n hn
    have c0 := h.c0
    have hrl : r < w.heap.size := (Array.getElem?_eq_some_iff.1 h.hd).1
    have hlk0 := h.lks n hn
    have hll : (ns[n]).lk.length ≤ p := h.lkp _ (List.getElem_mem hn)
    have hln : ∀ l ∈ (ns[n]).lk, 0 ≤ l.1 ∧ l.1 < ns.length := hL _ (List.getElem_mem hn)
    have edn : downR ns nd lk (k + 1) n used = rLoop (downR ns nd lk k) n nd lk used 0 (ns[n]).lk [] := by
      show rLoop (downR ns nd lk k) n nd lk used 0 (lkOf ns n) [] = _
      rw [lkOf_at hn]
    rw [edn]
    clear edn
    replace hln := Kept.mk hln
    replace h := Kept.mk h
    replace hL := Kept.mk hL
    generalize (ns[n]).lk = LK at *
    generalize hV : vAt vs n = V at *
    replace hV := Kept.mk hV
    obtain ⟨A, lc, rfl⟩ := own_len hlk0
    have d1 : decide (n < ns.length) = true := decide_eq_true hn
    have d1' : decide ((n : Int) < (ns.length : Int)) = true := decide_eq_true (by omega)
    have d2 : decide (((k + 1 : Nat) : Int) = 0) = false := decide_eq_false (by omega)
    have d3 : decide (k + 1 = 0) = false := decide_eq_false (by omega)
    go_enter Try.func34, Try.ntmps34
    go_wp2
    go_loopg [13, 14] LK.length (fun gk v t wr => ∃ i : Nat, t = .int .i64 i ∧ Kept (i + gk = LK.length) ∧ Kept (∃ us out, WA wr w.heap.size v us out ∧ rLoop (downR ns nd lk k) n nd lk used i (LK.drop i) out = rLoop (downR ns nd lk k) n nd lk used 0 LK [] ∧ out.length ≤ 4096 + (4096 * k + 1)) ∧ Kept (Below w.heap.size w wr))
    case atStart => exact ⟨0, rfl, ⟨by omega⟩, ⟨[], [], WA.nil _ _, rfl, by simp⟩, ⟨Below.refl _ _⟩⟩
    case round =>
      obtain ⟨i, rfl, hi, ⟨us, out, hwa, hby, hol⟩, hB⟩ := hrel
      have hi' := hi.out
      obtain ⟨Ao, co, rfl⟩ := own_len hwa.wm.outr
      have y0 : wr.cell? ⟨r, 0, none⟩ = some (.slice (some ⟨a, 0, none⟩) ns.length cap) := cell_below hB.out hrl c0
      have y2 : wr.cell? ⟨a, n * 3 + 2, none⟩ = some (.slice A LK.length lc) := cell_below hB.out hlta x2
      replace hby := Kept.mk hby
      replace hwa := Kept.mk hwa
      have ways : Kept ((i < LK.length ∧ out.length ≤ 4096) ∨ (i < LK.length ∧ ¬ out.length ≤ 4096) ∨ ¬ i < LK.length) := ⟨by omega⟩
      rcases ways.out with ⟨hlt, ho⟩ | ⟨hlt, ho⟩ | hlt
      · have f1 : decide (i < LK.length) = true := decide_eq_true hlt
        have f1' : decide ((i : Int) < (LK.length : Int)) = true := decide_eq_true (by omega)
        have f2 : decide (out.length ≤ 4096) = true := decide_eq_true ho
        have f2' : decide ((out.length : Int) ≤ 4096) = true := decide_eq_true (by omega)
        obtain ⟨al, cl, hv, hBl, hltl, hcl, hrd⟩ := lk_read hlk0 (by omega)
        cases hv
        obtain ⟨u0, u1⟩ := hrd i hlt
        have z0 := cell_below hB.out hltl u0
        have z1 := cell_below hB.out hltl u1
        obtain ⟨lt, ov, hl1⟩ : ∃ t o, LK[i] = (t, o) := ⟨_, _, rfl⟩
        rw [hl1] at z0 z1
        have hto := hln.out _ (List.getElem_mem hlt)
        rw [hl1] at hto
        obtain ⟨tn, rfl⟩ : ∃ tn : Nat, lt = tn := ⟨lt.toNat, by have := hto.1; simp at this; omega⟩
        have htn : tn < ns.length := by have := hto.2; simp at this; omega
        replace hl1 := Kept.mk hl1
        dsimp only at z0 z1
        clear hrd u0 u1 hto ways
        go_upto_region 10 with fail
        have al1 := below_al wr (.cells #[.int .i64 tn, .int .i64 ov] 46)
        have l0 : (wr.alloc (.cells #[.int .i64 tn, .int .i64 ov] 46)).cell? ⟨wr.heap.size, 0, none⟩ = some (.int .i64 tn) := acell wr #[.int .i64 tn, .int .i64 ov] 46 0
        have l1 : (wr.alloc (.cells #[.int .i64 tn, .int .i64 ov] 46)).cell? ⟨wr.heap.size, 1, none⟩ = some (.int .i64 ov) := acell wr #[.int .i64 tn, .int .i64 ov] 46 1
        have lsz : wr.heap.size < (wr.alloc (.cells #[.int .i64 tn, .int .i64 ov] 46)).heap.size := by simp
        have hw1 := Kept.mk (hwa.out.below al1)
        have hB1 := Kept.mk (hB.out.trans (al1.mono hB.out.size))
        have hR1 := h.out.below hB1.out
        generalize hW1 : wr.alloc (.cells #[.int .i64 tn, .int .i64 ov] 46) = W1 at *
        generalize hXX : wr.heap.size = X at *
        replace hW1 := Kept.mk hW1
        replace hXX := Kept.mk hXX
        obtain ⟨M, hM⟩ : ∃ M, (used || (decide ((n : Int) = nd) && decide ((i : Int) = lk))) = M := ⟨_, rfl⟩
        obtain ⟨L, hLd⟩ : ∃ L, downR ns nd lk k tn M = L := ⟨_, rfl⟩
        have hrec := ih'.out tn htn M W1 hR1 hp
        rw [hLd] at hrec
        replace hrec := Kept.mk hrec
        replace hLd := Kept.mk hLd
        replace hM := Kept.mk hM
        have wr1 : IntKind.i64.wrap ((k : Int) + 1 - 1) = k := by rw [Int.add_sub_cancel]; exact IntWalk.i64_in _ (by omega)
        have wr2 : IntKind.i64.wrap (((k + 1 : Nat) : Int) - 1) = k := wr1
        have wr3 : IntKind.i64.wrap (k : Int) = k := IntWalk.i64_in _ (by omega)
        have ek : (k : Int) + 1 - 1 = (k : Int) := by omega
        clear hR1 al1
        go_cut [13, 14, 15, 16] (fun s13 s14 s15 s16 W => s13 = .slice Ao out.length co ∧ s14 = .int .i64 i ∧ s15 = .pointer (some ⟨X, 0, none⟩) ∧ Kept (∃ us2, WA W W1.heap.size s16 us2 L ∧ Below W1.heap.size W1 W))
        case first =>
          have ways : Kept ((used = true ∧ M = true) ∨ (used = false ∧ (n : Int) = nd ∧ (i : Int) = lk ∧ M = true) ∨ (used = false ∧ (n : Int) = nd ∧ ¬ (i : Int) = lk ∧ M = false) ∨ (used = false ∧ ¬ (n : Int) = nd ∧ M = false)) := by
            constructor
            have := hM.out
            subst this
            cases used
            · by_cases e1 : (n : Int) = nd
              · by_cases e2 : (i : Int) = lk <;> simp [e1, e2]
              · simp [e1]
            · simp
          clear hM hby
          rcases ways.out with ⟨rfl, rfl⟩ | ⟨rfl, rfl, rfl, rfl⟩ | ⟨rfl, rfl, e2, rfl⟩ | ⟨rfl, e1, rfl⟩
          · clear ways
            go_wp2_with (first | (go_at_call 34; (with_reducible refine hrec.out.mono ?_); rintro en w4 ⟨v4, us4, rfl, hw4, b4⟩))
            go_meet
            case rel => exact ⟨rfl, rfl, rfl, ⟨us4, hw4, b4⟩⟩
          · clear ways
            go_wp2_with (first | (go_at_call 34; (with_reducible refine hrec.out.mono ?_); rintro en w4 ⟨v4, us4, rfl, hw4, b4⟩))
            go_meet
            case rel => exact ⟨rfl, rfl, rfl, ⟨us4, hw4, b4⟩⟩
          · have g1 : decide ((i : Int) = lk) = false := decide_eq_false e2
            have g2 : ((i : Int) == lk) = false := beq_eq_false_iff_ne.2 e2
            clear ways e2
            go_wp2_with (first | (go_at_call 34; (with_reducible refine hrec.out.mono ?_); rintro en w4 ⟨v4, us4, rfl, hw4, b4⟩))
            go_meet
            case rel => exact ⟨rfl, rfl, rfl, ⟨us4, hw4, b4⟩⟩
          · have g1 : decide ((n : Int) = nd) = false := decide_eq_false e1
            have g2 : ((n : Int) == nd) = false := beq_eq_false_iff_ne.2 e1
            clear ways e1
            go_wp2_with (first | (go_at_call 34; (with_reducible refine hrec.out.mono ?_); rintro en w4 ⟨v4, us4, rfl, hw4, b4⟩))
            go_meet
            case rel => exact ⟨rfl, rfl, rfl, ⟨us4, hw4, b4⟩⟩
        case rest =>
          obtain ⟨rfl, rfl, rfl, ⟨us2, hwL, hbL⟩⟩ := hcut
          obtain ⟨AL, cL, hvL⟩ := own_len hwL.wm.outr
          subst hvL
          have hLl := downR_len ns nd lk k tn M
          rw [hLd.out] at hLl
          have hLt := downR_things ns nd lk k tn M
          rw [hLd.out] at hLt
          replace hLt := Kept.mk hLt
          have xX := cell_below hbL lsz l1
          have hw4 := Kept.mk (hw1.out.below hbL)
          replace hbL := Kept.mk hbL
          replace hwL := Kept.mk hwL
          obtain ⟨gko, hgko⟩ : ∃ x : Nat, x = gk := ⟨_, rfl⟩
          replace hgko := Kept.mk hgko
          have hko : Kept (i + gko = LK.length) := ⟨by rw [hgko.out]; exact hi'⟩
          clear l0 l1 hi'
          go_wp2
          go_loopg [17] L.length (fun gk t wr => ∃ q : Nat, t = .int .i64 q ∧ Kept (q + gk = L.length) ∧ Kept (∃ us3 CUR, CUR.length = L.length ∧ (∀ j, j < q → CUR[j]? = (L[j]?).map (addT ov)) ∧ (∀ j, q ≤ j → CUR[j]? = L[j]?) ∧ WA wr W1.heap.size (.slice AL L.length cL) us3 CUR) ∧ Kept (Below W1.heap.size W1 wr))
          case atStart => exact ⟨0, rfl, ⟨by omega⟩, ⟨us2, L, rfl, fun j h => absurd h (by omega), fun j _ => rfl, hwL.out⟩, hbL⟩
          case round =>
            obtain ⟨q, rfl, hq, ⟨us3, CUR, hcl, hc1, hc2, hwC⟩, hB7⟩ := hrel
            have hq' := hq.out
            by_cases hlt2 : q < L.length
            · have g1 : decide (q < L.length) = true := decide_eq_true hlt2
              have g1' : decide ((q : Int) < (L.length : Int)) = true := decide_eq_true (by omega)
              obtain ⟨aL, cL', hvL, hSL, haL, _, hrL, cur, hcur, _⟩ := own_cells hwC.wm.outr (by omega)
              have hAL : AL = some ⟨aL, 0, none⟩ := by injection hvL
              subst hAL
              clear hvL
              have hqc : q < CUR.length := by omega
              obtain ⟨e0, e1⟩ := wayCells_at CUR us3 q hwC.wm.len hqc
              have x0 := (hrL (q * 2 + 1) (by omega)).trans e1
              have oU := hwC.wm.ways q hqc
              have eC : CUR[q] = L[q] := by
                have := hc2 q (Nat.le_refl _)
                rw [List.getElem?_eq_getElem hqc, List.getElem?_eq_getElem hlt2] at this
                exact Option.some.inj this
              have hyl := hLt.out _ (List.getElem_mem hlt2)
              rw [← eC] at hyl
              have xX2 := cell_below hB7.out lsz (cell_of_w1 hW1.out hXX.out)
              have al3 : Below wr.heap.size wr ((wr.alloc (.cells #[.int .i64 ov] 3)).drew) := (below_al wr _).drew
              rw [← hcl] at hwC
              have h6 := hwC.below al3
              have oU6 := h6.wm.ways q hqc
              have hxl : wr.heap.size > X := Nat.lt_of_lt_of_le lsz hB7.out.size
              generalize hU : vAt us3 q = U at *
              replace hU := Kept.mk hU
              obtain ⟨i3, hi3, w0, w1', w2'⟩ := info_parts info3
              have nw : ∀ j u, [Value.int .i64 ov][j]? = some u → ((wr.alloc (.cells #[.int .i64 ov] 3)).drew).cell? ((⟨wr.heap.size, 0, none⟩ : Addr).add j) = some u := World.news_of_block (cs := #[.int .i64 ov]) (MapKept.heap_alloc wr _).1
              have one : ∀ u ∈ [Value.int .i64 ov], u.oneCell' = true := by
                intro u hu
                simp at hu
                subst hu
                rfl
              have r0 : wr.drew.cell? ⟨aL, q * 2 + 1, none⟩ = some U := x0
              have r1 : wr.drew.cell? ⟨X, 1, none⟩ = some (.int .i64 ov) := xX2
              have r2 : ((wr.alloc (.cells #[.int .i64 ov] 3)).drew).cell? ⟨aL, q * 2 + 1, none⟩ = some U := cell_below al3 haL x0
              have r3 : ((wr.alloc (.cells #[.int .i64 ov] 3)).drew).cell? ⟨X, 1, none⟩ = some (.int .i64 ov) := cell_below al3 hxl xX2
              have hS6 : W1.heap.size ≤ ((wr.alloc (.cells #[.int .i64 ov] 3)).drew).heap.size := Nat.le_trans hB7.out.size al3.size
              have Ua : some aL ≠ U.ownBlock := fun e => by
                obtain ⟨c, cp, _, _⟩ := own_block_cells oU e.symm
                obtain ⟨c', cp', hh, _⟩ := own_block_cells oU e.symm
                rw [hcur] at hh
                cases hh
              have hcur6 := (al3.block aL haL).trans hcur
              have close : Kept (∀ g6 cap6 w6, w6.ownsRow W1.heap.size 3 1 (.slice (some ⟨g6, 0, none⟩) ((CUR[q]).2.length + 1) cap6) ((CUR[q]).2.length + 1) (ints (CUR[q]).2 ++ [.int .i64 ov]) → ((wr.alloc (.cells #[.int .i64 ov] 3)).drew).grownBy w6 U.ownBlock → (U.ownBlock = some g6 ∨ g6 = ((wr.alloc (.cells #[.int .i64 ov] 3)).drew).heap.size) →
                  ∃ us4, WA (w6.setCell ⟨aL, q * 2 + 1, none⟩ (.slice (some ⟨g6, 0, none⟩) ((CUR[q]).2.length + 1) cap6)) W1.heap.size (.slice (some ⟨aL, 0, none⟩) CUR.length cL) us4 (CUR.set q (addT ov CUR[q])) ∧ Below W1.heap.size W1 (w6.setCell ⟨aL, q * 2 + 1, none⟩ (.slice (some ⟨g6, 0, none⟩) ((CUR[q]).2.length + 1) cap6))) := by
                refine ⟨fun g6 cap6 w6 hown6 hgrow6 hat6 => ?_⟩
                have fin := h6.ext (o := ov) (u' := .slice (some ⟨g6, 0, none⟩) ((CUR[q]).2.length + 1) cap6) hS6 hqc (by rw [hU.out]; exact hgrow6) hown6 (by rw [hU.out]; exact hat6.imp (fun e => e.symm) (fun e => ⟨g6, rfl, by rw [e]; exact Nat.le_refl _⟩))
                exact ⟨_, fin.1, (hB7.out.trans (al3.mono hB7.out.size)).trans fin.2⟩
              have nxt : Kept ((CUR.set q (addT ov CUR[q])).length = L.length ∧ (∀ j, j < q + 1 → (CUR.set q (addT ov CUR[q]))[j]? = (L[j]?).map (addT ov)) ∧ (∀ j, q + 1 ≤ j → (CUR.set q (addT ov CUR[q]))[j]? = L[j]?)) := by
                refine ⟨by simp [hcl], fun j hj => ?_, fun j hj => ?_⟩
                · by_cases e : j = q
                  · subst e
                    rw [List.getElem?_set_self hqc, eC, List.getElem?_eq_getElem hlt2]
                    rfl
                  · rw [List.getElem?_set_ne (Ne.symm e)]
                    exact hc1 j (by omega)
                · rw [List.getElem?_set_ne (by omega)]
                  exact hc2 j (by omega)
              clear x0 e0 e1 hrL hcur h6 hwC al3 hc1 hc2 xX2 oU
              rw [hyl] at close oU6
              replace eC := Kept.mk eC
              generalize ints (CUR[q]).2 = zs at *
              go_wp2
              go_region_law (
                (refine step_append_lies _ rfl _ _ 33 rfl W1.heap.size 3 i3 (.int .i64 0) 1 8 Try.underlying33 hi3 w0 w1' w2' rfl (by decide) U k _ rfl oU6 ⟨wr.heap.size, 0, none⟩ 1 1 [.int .i64 ov] rfl rfl nw one (by decide) (by unfold maxLen; omega) (by omega) hS6 _ rfl ?_
                 intro g6 cap6 w6 hown6 hgrow6 hat6 hlt6
                 have f2 : w6.frozen? ⟨aL, q * 2 + 1, none⟩ = false := Joins.unfrozen_of_block ((hgrow6.block aL (Nat.lt_of_lt_of_le haL (by simp)) Ua).trans hcur6) _
                 have v2 := (hgrow6.cell_far ⟨aL, q * 2 + 1, none⟩ (Nat.lt_of_lt_of_le haL (by simp)) Ua).trans r2))
              all_goals
                obtain ⟨us4, fin1, fin2⟩ := close.out g6 cap6 w6 hown6 hgrow6 hat6
                clear close hown6 hgrow6 hat6 oU6 nw one r0 r1 r2 r3
                replace fin1 := Kept.mk fin1
                replace fin2 := Kept.mk fin2
                go_wp2
                go_roundg (gk - 1)
                case measure => omega
                case rel => exact ⟨q + 1, by go_num, ⟨by omega⟩, ⟨us4, _, nxt.out.1, nxt.out.2.1, nxt.out.2.2, by rw [← hcl]; exact fin1.out⟩, fin2⟩
            · have g1 : decide (q < L.length) = false := decide_eq_false hlt2
              have g1' : decide ((q : Int) < (L.length : Int)) = false := decide_eq_false (by omega)
              have eCUR : CUR = L.map (addT ov) := by
                refine List.ext_getElem? (fun j => ?_)
                by_cases hj : j < q
                · rw [hc1 j hj, List.getElem?_map]
                · rw [List.getElem?_eq_none (by omega), List.getElem?_eq_none (by simp; omega)]
              clear hc1 hc2
              have h4r := hw4.out
              have hwo := (hw1.out.below hB7.out)
              have Br := Kept.mk (hB1.out.trans (hB7.out.mono hB1.out.size))
              have S4 : w.heap.size ≤ wr.heap.size := Br.out.size
              have hoC : ∀ i k, (vAt us i).ownBlock = some k → i < out.length → k < W1.heap.size := fun i k hb hi => own_lt (hw1.out.wm.ways i hi) hb
              have hstep := rLoop_step hlt hl1.out ho hM.out hLd.out
              rw [← eCUR] at hstep
              have hby2 := Kept.mk (hstep.symm.trans hby.out)
              have hnl : Kept ((out ++ CUR).length ≤ 4096 + (4096 * k + 1)) := ⟨by rw [List.length_append, hcl]; omega⟩
              obtain ⟨i35, hi35, z0', z1', z2'⟩ := info_parts info35
              have hko' := hko.out
              clear hstep eCUR
              rcases hwC.wm.outr.2 with ⟨hv, h0⟩ | ⟨g6, cap6, cur6, hv, hB', hg6, hnc6, hc6, hs6, ht6⟩
              · have hC0 : CUR = [] := List.length_eq_zero_iff.1 h0
                have hL0 : L.length = 0 := by omega
                have hrow := hwo.wm.outr
                injection hv with hv1 hv2 hv3
                subst hv1
                rw [hL0, hv3]
                have hfin := Kept.mk hwo
                subst hC0
                clear hwo hw4 h4r hwC hL0 hv2 hv3
                go_wp2_with (first | (at_builtin; refine wpList_append_own_none rfl _ _ 30 rfl w.heap.size 35 i35 2 Try.underlying30 hi35 _ _ _ rfl hrow rfl ?_))
                go_roundg (gko - 1)
                case measure => have := hgko.out; omega
                case rel => exact ⟨i + 1, by go_num, ⟨by omega⟩, ⟨us, out, hfin.out, by simpa using hby2.out, by simpa using hnl.out⟩, Br⟩
              · injection hv with hv1 hv2 hv3
                subst hv1
                have hrow := hwo.wm.outr
                have hwl := wayCells_len CUR us3 hwC.wm.len
                rw [hcl] at hwl
                have one : ∀ u ∈ wayCells CUR us3, u.oneCell' = true := wayCells_one _ _ hwC.wm.len (fun q hq => (IntsR.of_row (hwC.wm.ways q hq)).cell1)
                have news : ∀ q u, (wayCells CUR us3)[q]? = some u → wr.cell? ((⟨g6, 0, none⟩ : Addr).add q) = some u := by
                  intro q u hq
                  rw [add_row]
                  have hq' : q < CUR.length * 2 := by
                    have := (List.getElem?_eq_some_iff.1 hq).1
                    omega
                  have e1 : wr.cell? ⟨g6, q, none⟩ = cur6[q]? := by simp [World.cell?, hg6]
                  rw [e1, ← hq, ← ht6, List.getElem?_take, if_pos hq', Array.getElem?_toList]
                have hmore := Kept.mk (fun (v' : Value) (w' : World) (hg : wr.grownBy w' (Value.slice Ao out.length co).ownBlock) (ho : w'.ownsRow w.heap.size 35 2 v' (out.length + L.length) (wayCells out us ++ wayCells CUR us3)) =>
                  hwo.more (v' := v') hwC hB1.out.size hoC hg (by rw [hcl]; exact ho))
                have hgrow := Kept.mk (fun (w' : World) (hg : wr.grownBy w' (Value.slice Ao out.length co).ownBlock) => Br.out.grown hg S4 (fun k hk => (hrow.lt k hk).1))
                clear hwo hw4 h4r hwC ht6 hg6 hs6 hv2 hv3
                go_wp2_with (first | (at_builtin; refine wpList_append_own_at _ rfl _ _ 30 rfl w.heap.size 35 i35 (.agg #[.int .i64 0, .slice none 0 0]) 2 32 Try.underlying30 hi35 z0' z1' z2' rfl (by decide) _ _ _ rfl hrow ⟨g6, 0, none⟩ L.length cL _ rfl hwl news one (by unfold maxLen; omega) (by omega) S4 ?_
                                      intro v9 w9 hown9 hg9 _ _
                                      have P9 := Kept.mk (hmore.out v9 w9 hg9 hown9)
                                      have B9 := Kept.mk (hgrow.out w9 hg9)
                                      clear hown9 hg9 hmore hgrow news one hrow))
                go_roundg (gko - 1)
                case measure => have := hgko.out; omega
                case rel => exact ⟨i + 1, by go_num, ⟨by omega⟩, ⟨_, _, P9.out, hby2.out, hnl.out⟩, B9⟩
      · have f1 : decide (i < LK.length) = true := decide_eq_true hlt
        have f1' : decide ((i : Int) < (LK.length : Int)) = true := decide_eq_true (by omega)
        have f2 : decide (out.length ≤ 4096) = false := decide_eq_false ho
        have f2' : decide ((out.length : Int) ≤ 4096) = false := decide_eq_false (by omega)
        have e := rLoop_stop (f := downR ns nd lk k) (n := n) (nd := nd) (lk := lk) (used := used) (j := i) (LK := LK) (out := out) (Or.inr (by omega))
        have e2 := hby.out
        rw [e] at e2
        replace e2 := Kept.mk e2
        clear e ways ho
        go_wp2
        go_ret
        rw [← e2.out]
        exact ⟨_, us, rfl, hwa.out, hB.out⟩
      · have f1 : decide (i < LK.length) = false := decide_eq_false hlt
        have f1' : decide ((i : Int) < (LK.length : Int)) = false := decide_eq_false (by omega)
        have e := rLoop_stop (f := downR ns nd lk k) (n := n) (nd := nd) (lk := lk) (used := used) (j := i) (LK := LK) (out := out) (Or.inl (by omega))
        have e2 := hby.out
        rw [e] at e2
        replace e2 := Kept.mk e2
        clear e ways
        go_wp2
        go_ret
        rw [← e2.out]
        exact ⟨_, us, rfl, hwa.out, hB.out⟩
end Go.Proofs.Yteeiidkbihhekaa
