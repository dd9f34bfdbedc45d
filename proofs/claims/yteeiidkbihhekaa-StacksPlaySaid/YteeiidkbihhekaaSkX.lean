/- The reference's stacks: their shape in memory; New, Find, At. -/
import Derived.Test.YteeiidkbihhekaaSkW
import Derived.Deep.RegionHeldLaw
import Derived.Deep.RegionLaw
import Derived.Deep.AppendLies
set_option linter.unusedVariables false
set_option linter.unusedSimpArgs false
namespace Go.Proofs.Yteeiidkbihhekaa
open Go Go.RowKit
theorem info67 : (Try.prog.info? 67).map (fun i => (i.zero, i.size, i.bytes)) = some (some (.agg #[.int .i64 0, .int .i64 0, .slice none 0 0]), 3, 40) := by kernel_rfl
/-- memory holds the reference's stacks with these nodes: from block S on -/
structure RM (w : World) (S r : Nat) (nv : Value) (vs : List Value) (ns : List N) (p : Nat) : Prop where
  hd : w.heap[r]? = some (.cells #[nv] 63 (0, 0))
  rS : S ≤ r
  len : vs.length = ns.length
  nod : w.ownsRow S 67 3 nv ns.length (nodeCells ns vs)
  lks : ∀ i, (h : i < ns.length) → w.ownsRow S 46 2 (vAt vs i) (ns[i]).lk.length (lkCells (ns[i]).lk)
  apart : ∀ i j, i < ns.length → j < ns.length → i ≠ j → (vAt vs i).ownBlock = none ∨ (vAt vs i).ownBlock ≠ (vAt vs j).ownBlock
  lkp : ∀ n ∈ ns, n.lk.length ≤ p
/-- a block of the reference's stacks -/
def RSet (r : Nat) (nv : Value) (vs : List Value) (k : Nat) : Prop := k = r ∨ nv.ownBlock = some k ∨ ∃ i, (vAt vs i).ownBlock = some k
variable {w : World} {S r p : Nat} {nv : Value} {vs : List Value} {ns : List N}
theorem vAt_out {vs : List Value} {i : Nat} (h : vs.length ≤ i) : vAt vs i = .slice none 0 0 := by
  unfold vAt
  rw [List.getD, List.getElem?_eq_none h]
  rfl
theorem RM.lt (h : RM w S r nv vs ns p) {k : Nat} (hk : RSet r nv vs k) : k < w.heap.size := by
  rcases hk with rfl | hk | ⟨i, hk⟩
  · exact (Array.getElem?_eq_some_iff.1 h.hd).1
  · exact own_lt h.nod hk
  · by_cases hi : i < ns.length
    · exact own_lt (h.lks i hi) hk
    · rw [vAt_out (by rw [h.len]; omega)] at hk
      simp [Value.ownBlock] at hk
theorem RM.stay {w' : World} (h : RM w S r nv vs ns p) (hk : ∀ k, RSet r nv vs k → w'.heap[k]? = w.heap[k]?) : RM w' S r nv vs ns p := by
  refine ⟨(hk r (.inl rfl)).trans h.hd, h.rS, h.len, ⟨h.nod.1, ?_⟩, fun i hi => ⟨(h.lks i hi).1, ?_⟩, h.apart, h.lkp⟩
  · rcases h.nod.2 with hn | ⟨g, cc, cur, hv, hB', hgc, rest⟩
    · exact .inl hn
    · exact .inr ⟨g, cc, cur, hv, hB', (hk g (.inr (.inl (by rw [hv]; rfl)))).trans hgc, rest⟩
  · rcases (h.lks i hi).2 with hn | ⟨g, cc, cur, hv, hB', hgc, rest⟩
    · exact .inl hn
    · exact .inr ⟨g, cc, cur, hv, hB', (hk g (.inr (.inr ⟨i, by rw [hv]; rfl⟩))).trans hgc, rest⟩
theorem RM.below {w' : World} (h : RM w S r nv vs ns p) (b : Below w.heap.size w w') : RM w' S r nv vs ns p := h.stay (fun k hk => b.block k (h.lt hk))
theorem RM.mono {q : Nat} (h : RM w S r nv vs ns p) (hq : p ≤ q) : RM w S r nv vs ns q := ⟨h.hd, h.rS, h.len, h.nod, h.lks, h.apart, fun n hn => Nat.le_trans (h.lkp n hn) hq⟩
theorem RM.c0 (h : RM w S r nv vs ns p) : w.cell? ⟨r, 0, none⟩ = some nv := by simp [World.cell?, h.hd]
theorem RM.node (h : RM w S r nv vs ns p) (i : Nat) (hi : i < ns.length) : ∃ a cap, nv = .slice (some ⟨a, 0, none⟩) ns.length cap ∧ S ≤ a ∧ a < w.heap.size ∧ ns.length ≤ cap ∧ w.cell? ⟨a, i * 3, none⟩ = some (.int .i64 (ns[i]).st) ∧ w.cell? ⟨a, i * 3 + 1, none⟩ = some (.int .i64 (ns[i]).lv) ∧ w.cell? ⟨a, i * 3 + 2, none⟩ = some (vAt vs i) := by
  obtain ⟨a, cap, hv, hB, hlt, hc, hcell, _⟩ := own_cells h.nod (by omega)
  obtain ⟨e0, e1, e2⟩ := node_at ns vs i h.len hi
  exact ⟨a, cap, hv, hB, hlt, hc, (hcell _ (by omega)).trans e0, (hcell _ (by omega)).trans e1, (hcell _ (by omega)).trans e2⟩
theorem idx_append : ∀ (l m : List N) (a b : Int), idx l a b ≠ 0 → idx (l ++ m) a b = idx l a b
  | [], m, a, b, h => absurd rfl h
  | n :: l, m, a, b, h => by
    show (if n.st = a ∧ n.lv = b then 1 else if idx (l ++ m) a b = 0 then 0 else idx (l ++ m) a b + 1) = (if n.st = a ∧ n.lv = b then 1 else if idx l a b = 0 then 0 else idx l a b + 1)
    by_cases h1 : n.st = a ∧ n.lv = b
    · rw [if_pos h1, if_pos h1]
    · have h2 : idx l a b ≠ 0 := by
        intro e
        apply h
        show (if n.st = a ∧ n.lv = b then 1 else if idx l a b = 0 then 0 else idx l a b + 1) = 0
        rw [if_neg h1, if_pos e]
      rw [idx_append l m a b h2]
theorem idx_take (ns : List N) (k : Nat) (a b : Int) (h : idx (ns.take k) a b ≠ 0) : idx ns a b = idx (ns.take k) a b := by
  have := idx_append (ns.take k) (ns.drop k) a b h
  rwa [List.take_append_drop] at this
set_option maxRecDepth 100000 in
theorem rnew_no (a : Int) (ha : a < 0) (w : World) : Calls Try.prog 21 #[.int .i64 a] w fun e w' => e = .returned (.tuple #[.pointer none, .int .i64 2]) ∧ w' = w := by
  have d1 : decide (a < 0) = true := decide_eq_true ha
  go_enter Try.func21, Try.ntmps21
  go_wp2
  go_ret2
  exact ⟨rfl, rfl⟩
theorem RM.fresh (w : World) (a : Int) : RM ((w.alloc (.cells #[.int .i64 a, .int .i64 0, .slice none 0 0] 67)).alloc (.cells #[.slice (some ⟨w.heap.size, 0, none⟩) 1 1] 63)) w.heap.size (w.heap.size + 1) (.slice (some ⟨w.heap.size, 0, none⟩) 1 1) [.slice none 0 0] [⟨a, 0, []⟩] 0 := by
  have s1 := size_al w (.cells #[.int .i64 a, .int .i64 0, .slice none 0 0] 67)
  have h1 := alloc_here (w.alloc (.cells #[.int .i64 a, .int .i64 0, .slice none 0 0] 67)) (.cells #[.slice (some ⟨w.heap.size, 0, none⟩) 1 1] 63)
  rw [s1] at h1
  have h0 : ((w.alloc (.cells #[.int .i64 a, .int .i64 0, .slice none 0 0] 67)).alloc (.cells #[.slice (some ⟨w.heap.size, 0, none⟩) 1 1] 63)).heap[w.heap.size]? = some (.cells #[.int .i64 a, .int .i64 0, .slice none 0 0] 67 (0, 0)) := by
    rw [Below.heap_alloc _ _ _ (by omega)]
    exact alloc_here w _
  refine ⟨h1, by omega, rfl, ⟨rfl, .inr ⟨w.heap.size, 1, _, rfl, Nat.le_refl _, h0, Nat.le_refl _, by decide, rfl, rfl⟩⟩, ?_, ?_, ?_⟩
  · intro i hi
    have : i = 0 := by simp at hi; omega
    subst this
    exact own_nil _ _ _ _
  · intro i j hi hj hne
    simp at hi hj
    omega
  · intro n hn
    simp at hn
    subst hn
    simp
set_option maxRecDepth 100000 in
theorem rnew_ok (a : Int) (h0 : 0 ≤ a) (w : World) : Calls Try.prog 21 #[.int .i64 a] w fun e w' => ∃ r nv vs, e = .returned (.tuple #[.pointer (some ⟨r, 0, none⟩), .int .i64 0]) ∧ RM w' w.heap.size r nv vs [⟨a, 0, []⟩] 0 ∧ Below w.heap.size w w' := by
  have d1 : decide (a < 0) = false := decide_eq_false (by omega)
  go_enter Try.func21, Try.ntmps21
  go_wp2
  go_ret2
  exact ⟨_, _, _, rfl, RM.fresh w a, (below_al _ _).trans ((below_al _ _).mono (by simp))⟩
set_option maxRecDepth 100000 in
set_option maxHeartbeats 1000000 in
theorem rfind_in (h : RM w S r nv vs ns p) (hf : ns.length ≤ 2097152) (a b : Int) : Calls Try.prog 32 #[.pointer (some ⟨r, 0, none⟩), .int .i64 a, .int .i64 b] w fun e w' => e = .returned (.tuple #[.int .i64 ((idx ns a b - 1 : Nat) : Int), .bool (decide (0 < idx ns a b))]) ∧ w' = w := by
  have c0 := h.c0
  obtain ⟨A, cap, rfl⟩ := own_len h.nod
  replace h := Kept.mk h
  go_enter Try.func32, Try.ntmps32
  go_wp2
  go_loopg [8] ns.length (fun gk t wr => ∃ k : Nat, t = .int .i64 k ∧ Kept (k + gk = ns.length) ∧ Kept (wr = w) ∧ Kept (idx (ns.take k) a b = 0))
  case atStart => exact ⟨0, rfl, ⟨by omega⟩, ⟨rfl⟩, ⟨rfl⟩⟩
  case round =>
    obtain ⟨k, rfl, hk, hw, hz⟩ := hrel
    have hk' := hk.out
    obtain rfl := hw.out
    by_cases hlt : k < ns.length
    · have f1 : decide (k < ns.length) = true := decide_eq_true hlt
      have f1' : decide ((k : Int) < (ns.length : Int)) = true := decide_eq_true (by omega)
      obtain ⟨ad, cp, hv, _, _, hcp, x0, x1, _⟩ := h.out.node k hlt
      cases hv
      have sn := idx_snoc ns[k] (ns.take k) a b
      rw [hz.out, ← List.take_succ_eq_append_getElem hlt] at sn
      have tl : (ns.take k).length = k := by simp; omega
      rw [tl] at sn
      have hd := idx_take ns (k + 1) a b
      replace sn := Kept.mk sn
      replace hd := Kept.mk hd
      obtain ⟨s1, s2, hs⟩ : ∃ s l, (ns[k]).st = s ∧ (ns[k]).lv = l := ⟨_, _, rfl, rfl⟩
      rw [hs.1] at x0
      rw [hs.2] at x1
      replace hs := Kept.mk hs
      clear tl
      by_cases e1 : s1 = a
      · subst e1
        by_cases e2 : s2 = b
        · subst e2
          go_wp2
          go_ret2
          have e : idx ns s1 s2 = k + 1 := by
            have := sn.out
            rw [if_neg (by simp), if_pos hs.out] at this
            rw [hd.out (by rw [this]; omega), this]
          rw [e]
          exact ⟨rfl, rfl⟩
        · have g1 : decide (s2 = b) = false := decide_eq_false e2
          have g2 : (s2 == b) = false := beq_eq_false_iff_ne.2 e2
          have nz : idx (ns.take (k + 1)) s1 b = 0 := by
            have := sn.out
            rw [if_neg (by simp), if_neg (by rw [hs.out.2]; exact fun h => e2 h.2)] at this
            exact this
          replace nz := Kept.mk nz
          clear e2
          go_wp2
          go_roundg (gk - 1)
          case measure => omega
          case rel => exact ⟨k + 1, by go_num, ⟨by omega⟩, ⟨rfl⟩, nz⟩
      · have g1 : decide (s1 = a) = false := decide_eq_false e1
        have g2 : (s1 == a) = false := beq_eq_false_iff_ne.2 e1
        have nz : idx (ns.take (k + 1)) a b = 0 := by
          have := sn.out
          rw [if_neg (by simp), if_neg (by rw [hs.out.1]; exact fun h => e1 h.1)] at this
          exact this
        replace nz := Kept.mk nz
        clear e1
        go_wp2
        go_roundg (gk - 1)
        case measure => omega
        case rel => exact ⟨k + 1, by go_num, ⟨by omega⟩, ⟨rfl⟩, nz⟩
    · have f1 : decide (k < ns.length) = false := decide_eq_false hlt
      have f1' : decide ((k : Int) < (ns.length : Int)) = false := decide_eq_false (by omega)
      rw [List.take_of_length_le (by omega)] at hz
      go_wp2
      go_ret2
      rw [hz.out]
      exact ⟨rfl, rfl⟩
end Go.Proofs.Yteeiidkbihhekaa
