/- Stacks: At; Push told by one plain function. -/
import Derived.Test.YteeiidkbihhekaaSkM
import Derived.Test.YteeiidkbihhekaaSkF
import Derived.Test.YteeiidkbihhekaaSkH
set_option linter.unusedVariables false
set_option linter.unusedSimpArgs false
namespace Go.Proofs.Yteeiidkbihhekaa
open Go Go.RowKit Go.Maps Go.WideMaps
variable {w : World} {B g bm br p : Nat} {nv : Value} {vs : List Value} {ns : List N}
def IntsM (w : World) (S : Nat) (zs : List Int) (e : Ending) (w' : World) : Prop :=
  ∃ v, e = .returned v ∧ w'.ownsRow S 3 1 v zs.length (ints zs) ∧ Below S w w'
theorem rowsFrom_len : ∀ (ns : List N) (k l : Int), (rowsFrom k ns l).length ≤ ns.length
  | [], k, l => Nat.le_refl _
  | n :: ns, k, l => by
    have := rowsFrom_len ns (k + 1) l
    show (if n.lv = l then k :: rowsFrom (k + 1) ns l else rowsFrom (k + 1) ns l).length ≤ ns.length + 1
    split
    · simp; omega
    · omega
theorem At_in (h : StM w B g nv bm br vs ns p) (l : Int) (hl : Wf l) : Calls Try.prog 24 #[.pointer (some ⟨g, 0, none⟩), .int .i64 l] w (IntsM w w.heap.size (rowsFrom 0 ns l)) := by
  have c2 := h.c2
  obtain ⟨G, hgr, hG⟩ := h.rows
  have hn1 : ns.length < maxLen := by have := h.few; unfold maxLen; omega
  have hf := h.few
  have key3 : keyOf Try.prog 3 (.int .i64 l) = some (.int .i64 l) := by
    have := hl
    unfold Wf at this
    simp [keyOf, mapKey, Try.underlying3, this]
  have hG' := Kept.mk hG
  clear hG h
  go_enter Try.func24, Try.ntmps24
  go_wp2_with (first
    | (at_lookup; refine wpList_lookup_groups _ rfl _ _ 74 rfl 3 33 3 .i64 law3 Try.underlying74 (zero33 _) (br + 1) br ns.length _ rfl hgr hn1 _ _ rfl key3 ?_
       intro v zs hat hoi hzl hback
       have hz : zs = rowsFrom 0 ns l := hG'.out.look hl hoi hat
       subst hz
       clear hback hat
       have hcl := clone_ints hoi.1 (ints_one _) (by omega)
       clear hoi)
    | (go_at_call 33; (with_reducible refine hcl.mono ?_); rintro en w1 ⟨v', rfl, ho, hb⟩; replace ho := Kept.mk ho; replace hb := Kept.mk hb))
  go_ret
  exact ⟨_, rfl, ho.out, hb.out⟩
/-- a link more at node j, if it has none such -/
def linkP (ns : List N) (j : Nat) (x : Int × Int) : List N × Int × Bool × Int :=
  if x ∈ lkOf ns j then (ns, (j : Int), false, 0) else (linkUp ns j x, (j : Int), true, 0)
def lvOf (ns : List N) (i : Nat) : Int := ((ns[i]?).map N.lv).getD 0
theorem lvOf_at {i : Nat} (h : i < ns.length) : lvOf ns i = (ns[i]).lv := by simp [lvOf, h]
def pushP (ns : List N) (on st lv ov : Int) : List N × Int × Bool × Int :=
  if 0 ≤ on ∧ on < ns.length then
    if st < 0 ∨ ov < 0 ∨ lv ≤ lvOf ns on.toNat then (ns, 0, false, 2)
    else if idx ns st lv = 0 then linkP (ns ++ [⟨st, lv, []⟩]) ns.length (on, ov)
    else linkP ns (idx ns st lv - 1) (on, ov)
  else (ns, 0, false, 4)
theorem linkUp_len' (ns : List N) (j : Nat) (x : Int × Int) : (linkP ns j x).1.length = ns.length := by
  unfold linkP
  split
  · rfl
  · exact linkUp_len ns j x
theorem pushP_len (ns : List N) (on st lv ov : Int) : ns.length ≤ (pushP ns on st lv ov).1.length ∧ (pushP ns on st lv ov).1.length ≤ ns.length + 1 := by
  unfold pushP
  split
  · split
    · simp
    · split
      · rw [linkUp_len']
        simp
      · rw [linkUp_len']
        simp
  · simp
theorem Linked.linkP {j : Nat} {x : Int × Int} (h : Linked ns) (h0 : 0 ≤ x.1) (h1 : x.1 < ns.length) : Linked (linkP ns j x).1 := by
  unfold Yteeiidkbihhekaa.linkP
  split
  · exact h
  · intro n hn l hl
    rw [linkUp_len]
    obtain ⟨i, hi, rfl⟩ := List.getElem_of_mem hn
    have hi' : i < ns.length := by rw [linkUp_len] at hi; exact hi
    rw [linkUp_at ns j x i hi hi'] at hl
    split at hl
    · rcases List.mem_append.1 hl with h2 | h2
      · exact h _ (List.getElem_mem hi') l h2
      · simp at h2
        subst h2
        exact ⟨h0, h1⟩
    · exact h _ (List.getElem_mem hi') l hl
theorem Linked.snoc (h : Linked ns) (a b : Int) : Linked (ns ++ [⟨a, b, []⟩]) := by
  intro n hn l hl
  have e : (ns ++ [(⟨a, b, []⟩ : N)]).length = ns.length + 1 := by simp
  rw [e]
  rcases List.mem_append.1 hn with h1 | h1
  · have := h n h1 l hl
    omega
  · simp at h1
    subst h1
    simp at hl
theorem Linked.pushP (h : Linked ns) (on st lv ov : Int) : Linked (pushP ns on st lv ov).1 := by
  unfold Yteeiidkbihhekaa.pushP
  split
  · split
    · exact h
    · split
      · exact (h.snoc st lv).linkP (by omega) (by simp; omega)
      · exact h.linkP (by omega) (by omega)
  · exact h
/-- what Push does -/
def PushOk (w : World) (B g bm br p : Nat) (nv : Value) (vs : List Value) (r : List N × Int × Bool × Int) (e : Ending) (w' : World) : Prop :=
  e = .returned (.tuple #[.int .i64 r.2.1, .bool r.2.2.1, .int .i64 r.2.2.2]) ∧ ∃ nv' vs', StM w' B g nv' bm br vs' r.1 (p + 1) ∧ Below B w w' ∧ Turn w g bm br nv vs w' nv' vs'
theorem Push_in (h : StM w B g nv bm br vs ns p) (hp : p ≤ 1073741824) (hf : ns.length < 2097152) (on st lv ov : Int) (hst : Wf st) (hlv : Wf lv) :
    Calls Try.prog 10 #[.pointer (some ⟨g, 0, none⟩), .int .i64 on, .int .i64 st, .int .i64 lv, .int .i64 ov] w (PushOk w B g bm br p nv vs (pushP ns on st lv ov)) := by
  have hB : B ≤ w.heap.size := Nat.le_trans h.gB (Nat.le_of_lt (Array.getElem?_eq_some_iff.1 h.hd).1)
  have same : ∀ {w' : World}, Below w.heap.size w w' → ∃ nv' vs', StM w' B g nv' bm br vs' ns (p + 1) ∧ Below B w w' ∧ Turn w g bm br nv vs w' nv' vs' := fun b =>
    ⟨nv, vs, (h.below b).mono (by omega), b.mono hB, Turn.below h b⟩
  unfold pushP
  by_cases h1 : 0 ≤ on ∧ on < ns.length
  · rw [if_pos h1]
    obtain ⟨i, rfl⟩ : ∃ i : Nat, on = i := ⟨on.toNat, by omega⟩
    have hi : i < ns.length := by omega
    rw [Int.toNat_natCast, lvOf_at hi]
    by_cases h2 : st < 0 ∨ ov < 0 ∨ lv ≤ (ns[i]).lv
    · rw [if_pos h2]
      refine (push_arg h i hi st lv ov h2).mono ?_
      rintro e w' ⟨rfl, rfl⟩
      exact ⟨rfl, same (Below.refl _ _)⟩
    · rw [if_neg h2]
      by_cases h3 : idx ns st lv = 0
      · rw [if_pos h3]
        refine (push_new h hp i hi st lv ov hst hlv (by omega) (by omega) (by omega) h3 hf).mono ?_
        rintro e w' ⟨w1, nv1, vs1, NS, hNS, hs1, b1, t1, j, hj, hjn, hin, hout⟩
        subst hNS hjn
        unfold linkP
        rw [lkOf_at hj]
        by_cases h4 : ((i : Int), ov) ∈ ((ns ++ [(⟨st, lv, []⟩ : N)])[ns.length]'hj).lk
        · rw [if_pos h4]
          obtain ⟨rfl, b2⟩ := hin h4
          have hB1 : B ≤ w1.heap.size := Nat.le_trans hB b1.size
          exact ⟨rfl, nv1, vs1, (hs1.below b2).mono (by omega), b1.trans (b2.mono hB1), t1.trans b1.size (Turn.below hs1 b2)⟩
        · rw [if_neg h4]
          obtain ⟨rfl, vs', hs2, b2, t2⟩ := hout h4
          exact ⟨rfl, nv1, vs', hs2, b1.trans b2, t1.trans b1.size t2⟩
      · rw [if_neg h3]
        have hle := idx_le ns st lv
        have hj : idx ns st lv - 1 < ns.length := by omega
        refine (push_old h hp i hi st lv ov hst hlv (by omega) (by omega) (by omega) (idx ns st lv - 1) hj (by omega)).mono ?_
        rintro e w' ⟨hin, hout⟩
        unfold linkP
        rw [lkOf_at hj]
        by_cases h4 : ((i : Int), ov) ∈ (ns[idx ns st lv - 1]).lk
        · rw [if_pos h4]
          obtain ⟨rfl, b2⟩ := hin h4
          exact ⟨rfl, same b2⟩
        · rw [if_neg h4]
          obtain ⟨rfl, vs', hs2, b2, t2⟩ := hout h4
          exact ⟨rfl, nv, vs', hs2, b2, t2⟩
  · rw [if_neg h1]
    refine (push_bad h on st lv ov h1).mono ?_
    rintro e w' ⟨rfl, rfl⟩
    exact ⟨rfl, same (Below.refl _ _)⟩
end Go.Proofs.Yteeiidkbihhekaa
