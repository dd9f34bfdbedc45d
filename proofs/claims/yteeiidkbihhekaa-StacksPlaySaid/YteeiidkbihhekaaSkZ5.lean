/- The program's stacks and the reference's, side by side in memory. -/
import Derived.Test.YteeiidkbihhekaaSkZ4
set_option linter.unusedVariables false
set_option linter.unusedSimpArgs false
namespace Go.Proofs.Yteeiidkbihhekaa
open Go Go.RowKit Go.Maps Go.WideMaps
/-- each node is the first of its state and level -/
def Uniq (ns : List N) : Prop := ∀ i (h : i < ns.length), idx ns (ns[i]).st (ns[i]).lv = i + 1
theorem Uniq.one (a : Int) : Uniq [⟨a, 0, []⟩] := fun i hi => by
  have : i = 0 := by simp at hi; omega
  subst this
  simp [idx]
theorem Uniq.snoc {ns : List N} (h : Uniq ns) {a b : Int} (hz : idx ns a b = 0) : Uniq (ns ++ [⟨a, b, []⟩]) := fun i hi => by
  by_cases h1 : i < ns.length
  · rw [List.getElem_append_left h1, idx_append _ _ _ _ (by rw [h i h1]; omega)]
    exact h i h1
  · have : i = ns.length := by simp at hi; omega
    subst this
    simp only [List.getElem_append_right (Nat.le_refl _), Nat.sub_self, List.getElem_singleton]
    rw [idx_snoc, if_neg (by rw [hz]; simp), if_pos ⟨rfl, rfl⟩]
theorem Uniq.linkP {ns : List N} (h : Uniq ns) (j : Nat) (x : Int × Int) : Uniq (linkP ns j x).1 := by
  unfold Yteeiidkbihhekaa.linkP
  split
  · exact h
  · intro i hi
    have hi' : i < ns.length := by rw [linkUp_len] at hi; exact hi
    rw [idx_linkUp, linkUp_at ns j x i hi hi']
    have := h i hi'
    split <;> exact this
theorem Uniq.push {ns : List N} (h : Uniq ns) (on st lv ov : Int) : Uniq (pushP ns on st lv ov).1 := by
  unfold pushP
  split
  · split
    · exact h
    · split
      · rename_i hz
        exact (h.snoc hz).linkP _ _
      · exact h.linkP _ _
  · exact h
open Go.WideElems in
theorem groups_keep {H : Type} {w w' : World} {P : Program} {k : TypeId} {base : Nat} {e : TypeId} {q : IntKind} {b n : Nat} {D : DataW H} {No : Nat → Prop} (h : w.ownsGroups P k base e q b n D) (hsh : w.Shuns b No) (hb' : ¬ No b)
    (hk : ∀ k, k < w.heap.size → ¬ No k → w'.heap[k]? = w.heap[k]?) : w'.ownsGroups P k base e q b n D := by
  obtain ⟨es, clock, hb, F, hs, rfl, hbb, hlen, hap⟩ := h
  have hblt : b < w.heap.size := (Array.getElem?_eq_some_iff.1 hb).1
  have keep : ∀ x ∈ es.toList, ∀ zs, w.ownsInts base e q x.val zs → w'.ownsInts base e q x.val zs := fun x hx zs ho => by
    refine ⟨⟨ho.1.1, ?_⟩, ho.2⟩
    rcases ho.1.2 with hn | ⟨g, cc, cur, hv, hB', hgc, rest⟩
    · exact .inl hn
    · exact .inr ⟨g, cc, cur, hv, hB', (hk g (Array.getElem?_eq_some_iff.1 hgc).1 (hsh es clock hb x hx g (by rw [hv]; rfl))).trans hgc, rest⟩
  have hst : ∀ x ∈ es.toList, ∀ z, rowElem (H := H) w base e q x.val = some z → rowElem w' base e q x.val = some z := fun x hx z hz => by
    obtain ⟨zs, ho, rfl⟩ := rowElem_inv hz
    exact rowElem_mk (keep x hx zs ho)
  obtain ⟨F1, hmap, _⟩ := F.stay hst
  refine ⟨es, clock, (hk b hblt hb').trans hb, F1, hs, by rw [hmap], hbb, fun x hx zs ho => ?_, hap⟩
  obtain ⟨y, hy⟩ := F.reads x hx
  obtain ⟨z, hz, _⟩ := rd_val hy
  obtain ⟨zs0, ho0, _⟩ := rowElem_inv hz
  rw [ho.unique (keep x hx zs0 ho0)]
  exact hlen x hx zs0 ho0
variable {w : World} {B g bm br p : Nat} {nv : Value} {vs : List Value} {ns : List N}
theorem own_keep {w w' : World} {B e z n : Nat} {v : Value} {xs : List Value} (h : w.ownsRow B e z v n xs) (hk : ∀ k, v.ownBlock = some k → k < w.heap.size → w'.heap[k]? = w.heap[k]?) : w'.ownsRow B e z v n xs := by
  refine ⟨h.1, ?_⟩
  rcases h.2 with hn | ⟨g, cc, cur, hv, hB', hgc, rest⟩
  · exact .inl hn
  · exact .inr ⟨g, cc, cur, hv, hB', (hk g (by rw [hv]; rfl) (Array.getElem?_eq_some_iff.1 hgc).1).trans hgc, rest⟩
/-- stacks over whatever turns blocks that they do not hold -/
theorem StM.keep {w' : World} {No : Nat → Prop} (h : StM w B g nv bm br vs ns p) (off : Off No w g bm br nv vs) (hk : ∀ k, k < w.heap.size → ¬ No k → w'.heap[k]? = w.heap[k]?) : StM w' B g nv bm br vs ns p := by
  obtain ⟨D, hm, hD⟩ := h.by_
  obtain ⟨G, hg, hG⟩ := h.rows
  obtain ⟨es, cl, hbm⟩ := ownsMap_block hm
  exact ⟨(hk g (Array.getElem?_eq_some_iff.1 h.hd).1 off.hd).trans h.hd, h.gB, h.mB, h.rB, h.mr, h.len, own_keep h.nod (fun k hb hl => hk k hl (off.nv_ k hb)), fun i hi => own_keep (h.lks i hi) (fun k hb hl => hk k hl (off.vs_ i k hb)), h.apart,
    ⟨D, ownsMap_heap hm (hk bm (Array.getElem?_eq_some_iff.1 hbm).1 off.bm_), hD⟩, ⟨G, groups_keep hg off.rows off.br_ hk, hG⟩, h.wf, h.few, h.lkp⟩
/-- the blocks that the stacks do not hold may grow by new ones -/
theorem StM.reoff {w' : World} {No No' : Nat → Prop} (h : StM w B g nv bm br vs ns p) (off : Off No w g bm br nv vs) (hk : ∀ k, k < w.heap.size → ¬ No k → w'.heap[k]? = w.heap[k]?) (hn : ∀ k, No' k → No k ∨ w.heap.size ≤ k) : Off No' w' g bm br nv vs := by
  obtain ⟨D, hm, _⟩ := h.by_
  obtain ⟨G, hg, _⟩ := h.rows
  obtain ⟨es, cl, hbm⟩ := ownsMap_block hm
  obtain ⟨er, cr, hbr⟩ := ownsGroups_block hg
  have l1 := (Array.getElem?_eq_some_iff.1 h.hd).1
  have l2 := (Array.getElem?_eq_some_iff.1 hbm).1
  have l3 := (Array.getElem?_eq_some_iff.1 hbr).1
  have no : ∀ {k : Nat}, k < w.heap.size → ¬ No k → ¬ No' k := fun hlt hno hn' => by
    rcases hn _ hn' with h1 | h1
    · exact hno h1
    · omega
  refine ⟨no l1 off.hd, no l2 off.bm_, no l3 off.br_, fun k hb => no (own_lt h.nod hb) (off.nv_ k hb), fun i k hb => ?_, shuns_heap (hk br l3 off.br_) (World.Shuns.reno off.rows hg hn)⟩
  by_cases hi : i < ns.length
  · exact no (own_lt (h.lks i hi) hb) (off.vs_ i k hb)
  · rw [vAt_out (by rw [h.len]; omega)] at hb
    simp [Value.ownBlock] at hb
/-- both, of the same nodes, in blocks apart -/
structure Both (w : World) (B S g r bm br : Nat) (nv rv : Value) (vs rs : List Value) (ns : List N) (p : Nat) : Prop where
  st : StM w B g nv bm br vs ns p
  rm : RM w S r rv rs ns p
  off : Off (RSet r rv rs) w g bm br nv vs
variable {S r : Nat} {rv : Value} {rs : List Value}
theorem Both.below {w' : World} (h : Both w B S g r bm br nv rv vs rs ns p) (b : Below w.heap.size w w') : Both w' B S g r bm br nv rv vs rs ns p :=
  ⟨h.st.below b, h.rm.below b, (Turn.below h.st b _ (fun k hk => h.rm.lt hk) h.off).1⟩
/-- a push on the one, then the same push on the other -/
theorem Both.step {w1 w2 : World} {nv1 rv2 : Value} {vs1 rs2 : List Value} {ms : List N} (h : Both w B S g r bm br nv rv vs rs ns p) (hw : w.heap.size ≤ w1.heap.size) (h1 : StM w1 B g nv1 bm br vs1 ms (p + 1)) (t1 : Turn w g bm br nv vs w1 nv1 vs1)
    (h2 : RM w1 S r rv rs ns p → RM w2 S r rv2 rs2 ms (p + 1) ∧ RFr w1 w2 S r rv rs rv2 rs2) : Both w2 B S g r bm br nv1 rv2 vs1 rs2 ms (p + 1) := by
  obtain ⟨o1, e1⟩ := t1 _ (fun k hk => h.rm.lt hk) h.off
  obtain ⟨r2, f2⟩ := h2 (h.rm.stay e1)
  exact ⟨h1.keep o1 f2.off, r2, h1.reoff o1 f2.off f2.set⟩
theorem Both.mid {w1 : World} {nv1 : Value} {vs1 : List Value} (h : Both w B S g r bm br nv rv vs rs ns p) (t1 : Turn w g bm br nv vs w1 nv1 vs1) : RM w1 S r rv rs ns p :=
  h.rm.stay (t1 _ (fun k hk => h.rm.lt hk) h.off).2
theorem Both.start {w1 w2 : World} {a : Int} {p : Nat} (h1 : StM w1 B g nv bm br vs [⟨a, 0, []⟩] p) (b : Below w1.heap.size w1 w2) (h2 : RM w2 w1.heap.size r rv rs [⟨a, 0, []⟩] p) : Both w2 B w1.heap.size g r bm br nv rv vs rs [⟨a, 0, []⟩] p := by
  have h1' := h1.below b
  have o := h1.off_above b
  refine ⟨h1', h2, h1'.reoff (w' := w2) o (fun _ _ _ => rfl) (fun k hk => .inl ⟨?_, h2.lt hk⟩)⟩
  rcases hk with rfl | hk | ⟨i, hk⟩
  · exact h2.rS
  · exact (h2.nod.lt k hk).1
  · by_cases hi : i < [(⟨a, 0, []⟩ : N)].length
    · exact ((h2.lks i hi).lt k hk).1
    · rw [vAt_out (by rw [h2.len]; omega)] at hk
      simp [Value.ownBlock] at hk
end Go.Proofs.Yteeiidkbihhekaa
