/- Stacks that were built by pushes: built. -/
import Derived.Test.YteeiidkbihhekaaSkS
import Derived.Test.YteeiidkbihhekaaSkR
import Derived.Test.YteeiidkbihhekaaSkP
import Derived.StillTailTactics
import Derived.Deep.DeepCutAuto
set_option linter.unusedVariables false
set_option linter.unusedSimpArgs false
namespace Go.Proofs.Yteeiidkbihhekaa
open Go Go.RowKit
/-- links lead to lower levels; levels are small; so many nodes at most -/
structure Good (ns : List N) (k : Nat) : Prop where
  lnk : Linked ns
  down : ∀ n ∈ ns, ∀ l ∈ n.lk, lvOf ns l.1.toNat < n.lv
  lv0 : ∀ n ∈ ns, 0 ≤ n.lv ∧ n.lv ≤ 2 * k
  pos : 1 ≤ ns.length
  few : ns.length ≤ k + 1
theorem lvOf_snoc (ns : List N) (n : N) (i : Nat) (h : i < ns.length) : lvOf (ns ++ [n]) i = lvOf ns i := by
  unfold lvOf
  rw [List.getElem?_append_left h]
theorem lvOf_linkUp (x : Int × Int) : ∀ (ns : List N) (j i : Nat), lvOf (linkUp ns j x) i = lvOf ns i
  | [], j, i => by simp [linkUp]
  | n :: ns, 0, 0 => rfl
  | n :: ns, 0, i + 1 => rfl
  | n :: ns, j + 1, 0 => rfl
  | n :: ns, j + 1, i + 1 => lvOf_linkUp x ns j i
theorem Good.start : Good [⟨0, 0, []⟩] 0 := by
  refine ⟨fun n hn l hl => ?_, fun n hn l hl => ?_, fun n hn => ?_, by simp, by simp⟩
  · simp at hn
    subst hn
    simp at hl
  · simp at hn
    subst hn
    simp at hl
  · simp at hn
    subst hn
    simp
theorem Good.snoc {ns : List N} {k : Nat} (h : Good ns k) {a b : Int} (h0 : 0 ≤ b) (h1 : b ≤ 2 * ((k + 1 : Nat) : Int)) : Good (ns ++ [⟨a, b, []⟩]) (k + 1) := by
  refine ⟨h.lnk.snoc a b, fun n hn l hl => ?_, fun n hn => ?_, by simp, by simp; have := h.few; omega⟩
  · rcases List.mem_append.1 hn with h2 | h2
    · have h3 := h.lnk n h2 l hl
      rw [lvOf_snoc _ _ _ (by omega)]
      exact h.down n h2 l hl
    · simp at h2
      subst h2
      simp at hl
  · rcases List.mem_append.1 hn with h2 | h2
    · have := h.lv0 n h2
      omega
    · simp at h2
      subst h2
      exact ⟨h0, h1⟩
theorem Good.link {ns : List N} {k j : Nat} (h : Good ns k) {x : Int × Int} (h0 : 0 ≤ x.1) (h1 : x.1 < ns.length) (hj : j < ns.length) (hl : lvOf ns x.1.toNat < lvOf ns j) : Good (linkP ns j x).1 k := by
  refine ⟨h.lnk.linkP h0 h1, ?_, ?_, by rw [linkUp_len']; exact h.pos, by rw [linkUp_len']; exact h.few⟩
  · unfold linkP
    split
    · exact h.down
    · intro n hn l hml
      rw [lvOf_linkUp]
      obtain ⟨i, hi, rfl⟩ := List.getElem_of_mem hn
      have hi' : i < ns.length := by rw [linkUp_len] at hi; exact hi
      rw [linkUp_at ns j x i hi hi'] at hml ⊢
      by_cases e : i = j
      · subst e
        rw [if_pos rfl] at hml ⊢
        rcases List.mem_append.1 hml with h2 | h2
        · exact h.down _ (List.getElem_mem hi') l h2
        · simp at h2
          subst h2
          rw [lvOf_at hi'] at hl
          exact hl
      · rw [if_neg e] at hml ⊢
        exact h.down _ (List.getElem_mem hi') l hml
  · unfold linkP
    split
    · exact h.lv0
    · intro n hn
      obtain ⟨i, hi, rfl⟩ := List.getElem_of_mem hn
      have hi' : i < ns.length := by rw [linkUp_len] at hi; exact hi
      rw [linkUp_at ns j x i hi hi']
      have := h.lv0 _ (List.getElem_mem hi')
      split <;> exact this
theorem Good.mono {ns : List N} {k m : Nat} (h : Good ns k) (hm : k ≤ m) : Good ns m :=
  ⟨h.lnk, h.down, fun n hn => by have := h.lv0 n hn; omega, h.pos, by have := h.few; omega⟩
theorem idx_at : ∀ (ns : List N) (a b : Int), idx ns a b ≠ 0 → ∃ (h : idx ns a b - 1 < ns.length), (ns[idx ns a b - 1]).st = a ∧ (ns[idx ns a b - 1]).lv = b
  | [], a, b, h => absurd rfl h
  | n :: ns, a, b, h => by
    by_cases h1 : n.st = a ∧ n.lv = b
    · have e : idx (n :: ns) a b = 1 := if_pos h1
      simp only [e]
      exact ⟨by simp, h1⟩
    · by_cases h2 : idx ns a b = 0
      · have e : idx (n :: ns) a b = 0 := by
          show (if n.st = a ∧ n.lv = b then 1 else if idx ns a b = 0 then 0 else idx ns a b + 1) = 0
          rw [if_neg h1, if_pos h2]
        exact absurd e h
      · have e : idx (n :: ns) a b = idx ns a b - 1 + 1 + 1 := by
          show (if n.st = a ∧ n.lv = b then 1 else if idx ns a b = 0 then 0 else idx ns a b + 1) = _
          rw [if_neg h1, if_neg h2]
          omega
        obtain ⟨h3, h4, h5⟩ := idx_at ns a b h2
        simp only [e, Nat.add_sub_cancel]
        exact ⟨by simp; omega, by simpa using h4, by simpa using h5⟩
theorem Good.push {ns : List N} {k : Nat} (h : Good ns k) (on st lv ov : Int) (h0 : 0 ≤ lv) (h1 : lv ≤ 2 * ((k + 1 : Nat) : Int)) : Good (pushP ns on st lv ov).1 (k + 1) := by
  unfold pushP
  split
  · rename_i hon
    split
    · exact h.mono (by omega)
    · rename_i hbad
      split
      · rename_i hz
        refine (h.snoc (a := st) h0 h1).link (x := (on, ov)) hon.1 (by simp; omega) (by simp) ?_
        rw [lvOf_snoc _ _ _ (by omega)]
        have e : lvOf (ns ++ [⟨st, lv, []⟩]) ns.length = lv := by simp [lvOf]
        rw [e]
        show lvOf ns on.toNat < lv
        omega
      · rename_i hz
        obtain ⟨h3, h4, h5⟩ := idx_at ns st lv hz
        refine (h.link (x := (on, ov)) hon.1 hon.2 h3 ?_).mono (by omega)
        rw [lvOf_at h3, h5]
        show lvOf ns on.toNat < lv
        omega
  · exact h.mono (by omega)
theorem u64_mod (a : Int) (n : Nat) (h : 0 < n) : ∃ m : Nat, m < n ∧ (IntKind.u64.wrap a).tmod (n : Int) = (m : Int) := by
  have h0 : 0 ≤ IntKind.u64.wrap a := by
    simp [IntKind.wrap, IntKind.signed, IntKind.bits]
    omega
  have h1 : (IntKind.u64.wrap a).tmod (n : Int) = IntKind.u64.wrap a % (n : Int) := by rw [Int.tmod_eq_emod_of_nonneg h0]
  have h2 := Int.emod_nonneg (IntKind.u64.wrap a) (b := (n : Int)) (by omega)
  have h3 := Int.emod_lt_of_pos (IntKind.u64.wrap a) (b := (n : Int)) (by omega)
  refine ⟨(IntKind.u64.wrap a % (n : Int)).toNat, by omega, by rw [h1]; omega⟩
theorem wrap_small (m : Nat) (h : m < 1000000) : wrap64 (m : Int) = m ∧ IntKind.i64.wrap (m : Int) = m := by
  have e : IntKind.i64.wrap (m : Int) = m := IntWalk.i64_in _ (by omega)
  exact ⟨by unfold wrap64; omega, e⟩
def BuiltOk (w : World) (e : Ending) (w' : World) : Prop :=
  ∃ g bm br nv vs ns p, e = .returned (.pointer (some ⟨g, 0, none⟩)) ∧ StM w' w.heap.size g nv bm br vs ns p ∧ Good ns 60 ∧ p ≤ 60 ∧ Below w.heap.size w w'
set_option maxRecDepth 100000 in
set_option maxHeartbeats 4000000 in
theorem built_in (A : Option Addr) (cap : Nat) (l : List Quad) (w : World) (hA : QuadsR w A l) (hc : l.length ≤ cap) (hm : l.length ≤ maxLen) :
    Calls Try.prog 12 #[.slice A l.length cap] w (BuiltOk w) := by
  have hm' : l.length ≤ 9223372036854775807 := by unfold maxLen at hm; omega
  clear hm
  go_enter Try.func12, Try.ntmps12
  go_wp2_with (first | (go_at_call 9; (with_reducible refine (new_ok 0 (by omega) (wf_i rfl) _).mono ?_); rintro en w1 ⟨g, bm, br, nv, vs, rfl, h1, b1⟩; replace h1 := Kept.mk h1; replace b1 := Kept.mk b1))
  have hA' := Kept.mk hA
  clear hA
  go_loopg [5] 60 (fun gk i wr => ∃ k : Nat, i = .int .i64 k ∧ Kept (k + gk = 60) ∧ Kept (∃ nv vs ns, StM wr w.heap.size g nv bm br vs ns k ∧ Good ns k) ∧ Kept (Below w.heap.size w wr))
  case atStart => exact ⟨0, rfl, ⟨rfl⟩, ⟨_, _, _, h1.out, Good.start⟩, b1⟩
  case round =>
    obtain ⟨k, rfl, hk, ⟨nv', vs', ns, h2, hG⟩, hB⟩ := hrel
    have hk' := hk.out
    by_cases hlt : k < l.length ∧ k < 60
    · obtain ⟨hlt, hlt6⟩ := hlt
      have f1 : decide (k < l.length) = true := decide_eq_true hlt
      have f1' : decide ((k : Int) < (l.length : Int)) = true := decide_eq_true (by omega)
      have f2 : decide (k < 60) = true := decide_eq_true hlt6
      have f2' : decide ((k : Int) < 60) = true := decide_eq_true (by omega)
      obtain ⟨ad, rfl, y0, y1, y2, y3⟩ := hA'.out k hlt
      have x0 := (hB.out.cell (World.block_lt_of_cell? _ _ y0)).trans y0
      have x1 := (hB.out.cell (World.block_lt_of_cell? _ _ y1)).trans y1
      have x2 := (hB.out.cell (World.block_lt_of_cell? _ _ y2)).trans y2
      have x3 := (hB.out.cell (World.block_lt_of_cell? _ _ y3)).trans y3
      have hlen : ∀ n, Calls Try.prog 13 #[.pointer (some ⟨g, 0, none⟩)] (wr.drewN n) fun e w' => e = .returned (.int .i64 ns.length) ∧ w' = wr.drewN n := fun n => len_in (h2.below (below_drewN (Below.refl _ _) n))
      have hpos := hG.pos
      have hfew := hG.few
      replace h2 := Kept.mk h2
      replace hG := Kept.mk hG
      replace hlen := Kept.mk hlen
      obtain ⟨on, hon, eon⟩ := u64_mod l[k].a ns.length (by omega)
      obtain ⟨won, won'⟩ := wrap_small on (by omega)
      have hno := (node_ok h2.out on hon)
      have hno' : Kept (∀ n, Calls Try.prog 14 #[.pointer (some ⟨g, 0, none⟩), .int .i64 on] (wr.drewN n) fun e w' => e = .returned (.tuple #[.int .i64 (ns[on]).st, .int .i64 (ns[on]).lv, .bool true]) ∧ ∃ m, w' = (wr.drewN n).drewN m) := ⟨fun n => node_ok (h2.out.below (below_drewN (Below.refl _ _) n)) on hon⟩
      clear hno
      go_wp2
      go_quiet ((go_at_call 13; exact Calls.quiet_of_same (hlen.out _)))
      go_wp2_with (first | (go_at_call 14; (with_reducible refine (hno'.out _).mono ?_); rintro en w3 ⟨rfl, n3, rfl⟩))
      obtain ⟨st, hst, est⟩ := u64_mod l[k].b 5 (by omega)
      obtain ⟨lt, hlv, elv⟩ := u64_mod l[k].c 2 (by omega)
      obtain ⟨ov, hov, eov⟩ := u64_mod l[k].d 9 (by omega)
      replace est := Kept.mk est
      replace elv := Kept.mk elv
      replace eov := Kept.mk eov
      have wst := Kept.mk (wrap_small st (by omega))
      have wlt := Kept.mk (wrap_small lt (by omega))
      have wov := Kept.mk (wrap_small ov (by omega))
      have hLv := hG.out.lv0 _ (List.getElem_mem hon)
      obtain ⟨L, hL⟩ : ∃ L : Nat, (ns[on]).lv = L := ⟨((ns[on]).lv).toNat, by omega⟩
      rw [hL] at hLv
      have B5 : Below wr.heap.size wr (wr.drewN (nq + n3)).drew := (below_drewN (Below.refl _ _) _).drew
      have hst5 := h2.out.below B5
      have hpu := Push_in hst5 (by omega) (by omega) on st ((L : Int) + 1 + (lt : Int)) ov (Wf.of (by omega) (by omega)) (Wf.of (by omega) (by omega))
      have hG5 := Kept.mk (hG.out.push on st ((L : Int) + 1 + (lt : Int)) ov (by omega) (by omega))
      replace hpu := Kept.mk hpu
      have c1 : (wr.drewN (nq + n3)).drew.cell? ⟨(ad.add (k * 4)).block, (ad.add (k * 4)).off + 1, none⟩ = some (.int .i64 l[k].b) := x1
      have c2 : (wr.drewN (nq + n3)).drew.cell? ⟨(ad.add (k * 4)).block, (ad.add (k * 4)).off + 2, none⟩ = some (.int .i64 l[k].c) := x2
      have c3 : (wr.drewN (nq + n3)).drew.cell? ⟨(ad.add (k * 4)).block, (ad.add (k * 4)).off + 3, none⟩ = some (.int .i64 l[k].d) := x3
      have B6 := Kept.mk (hB.out.trans (B5.mono hB.out.size))
      clear B5 hst5 x0 x1 x2 x3 y0 y1 y2 y3 hA' eon won won'
      simp only [hL]
      replace hL := Kept.mk hL
      have z1 : Kept (IntKind.i64.wrap ((L : Int) + 1) = (L : Int) + 1 ∧ IntKind.i64.wrap ((L : Int) + 1 + (lt : Int)) = (L : Int) + 1 + (lt : Int)) := ⟨IntWalk.i64_in _ (by omega), IntWalk.i64_in _ (by omega)⟩
      obtain ⟨z2, z3⟩ := z1.out
      obtain ⟨wst1, wst2⟩ := wst.out
      obtain ⟨wlt1, wlt2⟩ := wlt.out
      obtain ⟨wov1, wov2⟩ := wov.out
      have est2 : (IntKind.u64.wrap l[k].b).tmod 5 = (st : Int) := est.out
      have elv2 : (IntKind.u64.wrap l[k].c).tmod 2 = (lt : Int) := elv.out
      have eov2 : (IntKind.u64.wrap l[k].d).tmod 9 = (ov : Int) := eov.out
      clear est elv eov
      generalize l[k].b = qb at *
      generalize l[k].c = qc at *
      generalize l[k].d = qd at *
      refine wp_region_still_tail 29 (by kernel_rfl) (by kernel_rfl) ?_
      simp only [List.take_succ_cons, List.take_zero, List.drop_succ_cons, List.drop_zero]
      change wpStill _ _ (wr.drewN (nq + n3)).drew (fun a' => wpList _ _ _ _ a' (wr.drewN (nq + n3)).drew) _ _
      generalize (wr.drewN (nq + n3)).drew = W5 at *
      iterate 29 ((with_reducible refine wpStill_step (fun K hK => ?_)); go_simp; (with_reducible refine hK _ ?_); clear hK K)
      with_reducible refine wpStill_nil ?_
      go_wp2_with (first | (go_at_call 10; (with_reducible refine hpu.out.mono ?_); rintro en w7 ⟨rfl, nv7, vs7, s7, b7, t7⟩))
      clear est2 elv2 eov2 wst1 wst2 wlt1 wlt2 wov1 wov2 z2 z3
      go_roundg (gk - 1)
      case measure => omega
      case rel => exact ⟨k + 1, by go_num, ⟨by omega⟩, ⟨_, _, _, s7, hG5.out⟩, ⟨B6.out.trans b7⟩⟩
    · skip
      have fin : Kept (BuiltOk w (.returned (.pointer (some ⟨g, 0, none⟩))) wr) := ⟨g, bm, br, _, _, _, _, rfl, h2, hG.mono (by omega), by omega, hB.out⟩
      clear h2 hG
      by_cases h6 : k < l.length
      · have f1 : decide (k < l.length) = true := decide_eq_true h6
        have f1' : decide ((k : Int) < (l.length : Int)) = true := decide_eq_true (by omega)
        have f2 : decide (k < 60) = false := decide_eq_false (fun h => hlt ⟨h6, h⟩)
        have f2' : decide ((k : Int) < 60) = false := decide_eq_false (by omega)
        clear hlt
        go_wp2
        go_ret
        exact fin.out
      · have f1 : decide (k < l.length) = false := decide_eq_false h6
        have f1' : decide ((k : Int) < (l.length : Int)) = false := decide_eq_false (by omega)
        clear hlt
        go_wp2
        go_ret
        exact fin.out
end Go.Proofs.Yteeiidkbihhekaa
