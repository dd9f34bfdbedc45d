/- Stacks: what was pushed stays; what is gathered stays while stacks grow. -/
import Derived.Test.YteeiidkbihhekaaSkT
import Derived.Test.YteeiidkbihhekaaSkV
set_option linter.unusedVariables false
set_option linter.unusedSimpArgs false
namespace Go.Proofs.Yteeiidkbihhekaa
open Go Go.RowKit Go.Maps Go.WideMaps
/-- what was there is there as it was, links perhaps more -/
def Ext (ns ms : List N) : Prop := ∀ i (h : i < ns.length), ∃ h2 : i < ms.length, (ms[i]).st = (ns[i]).st ∧ (ms[i]).lv = (ns[i]).lv ∧ ∃ t, (ms[i]).lk = (ns[i]).lk ++ t
theorem Ext.refl (ns : List N) : Ext ns ns := fun i h => ⟨h, rfl, rfl, [], by simp⟩
theorem Ext.trans {a b c : List N} (h : Ext a b) (k : Ext b c) : Ext a c := fun i hi => by
  obtain ⟨h1, e1, e2, t, e3⟩ := h i hi
  obtain ⟨h2, f1, f2, u, f3⟩ := k i h1
  exact ⟨h2, f1.trans e1, f2.trans e2, t ++ u, by rw [f3, e3, List.append_assoc]⟩
theorem Ext.snoc (ns : List N) (n : N) : Ext ns (ns ++ [n]) := fun i hi => ⟨by simp; omega, by simp [List.getElem_append_left hi], by simp [List.getElem_append_left hi], [], by simp [List.getElem_append_left hi]⟩
theorem Ext.linkP (ns : List N) (j : Nat) (x : Int × Int) : Ext ns (linkP ns j x).1 := by
  unfold Yteeiidkbihhekaa.linkP
  split
  · exact Ext.refl ns
  · intro i hi
    have hi' : i < (linkUp ns j x).length := by rw [linkUp_len]; exact hi
    refine ⟨hi', ?_⟩
    rw [linkUp_at ns j x i hi' hi]
    split
    · exact ⟨rfl, rfl, [x], rfl⟩
    · exact ⟨rfl, rfl, [], by simp⟩
theorem Ext.push (ns : List N) (on st lv ov : Int) : Ext ns (pushP ns on st lv ov).1 := by
  unfold pushP
  split
  · split
    · exact Ext.refl ns
    · split
      · exact (Ext.snoc ns _).trans (Ext.linkP _ _ _)
      · exact Ext.linkP _ _ _
  · exact Ext.refl ns
variable {w : World} {B g bm br p : Nat} {nv : Value} {vs : List Value} {ns : List N}
theorem own_lt {w : World} {B e z n k : Nat} {v : Value} {xs : List Value} (h : w.ownsRow B e z v n xs) (hk : v.ownBlock = some k) : k < w.heap.size := (h.lt k hk).2
/-- stacks that were there ahead of some blocks do not hold these -/
theorem StM.off_above {w' : World} (h : StM w B g nv bm br vs ns p) (b : Below w.heap.size w w') : Off (fun k => w.heap.size ≤ k ∧ k < w'.heap.size) w' g bm br nv vs := by
  obtain ⟨D, hm, _⟩ := h.by_
  obtain ⟨G, hg, _⟩ := h.rows
  obtain ⟨es, cl, hbm⟩ := ownsMap_block hm
  obtain ⟨er, cr, hbr⟩ := ownsGroups_block hg
  have l1 := (Array.getElem?_eq_some_iff.1 h.hd).1
  have l2 := (Array.getElem?_eq_some_iff.1 hbm).1
  have l3 := (Array.getElem?_eq_some_iff.1 hbr).1
  refine ⟨fun hn => by have := hn.1; omega, fun hn => by have := hn.1; omega, fun hn => by have := hn.1; omega, fun k hk hn => ?_, fun i k hk hn => ?_, ?_⟩
  · have := own_lt h.nod hk
    have := hn.1
    omega
  · by_cases hi : i < ns.length
    · have := own_lt (h.lks i hi) hk
      have := hn.1
      omega
    · have : vAt vs i = .slice none 0 0 := by
        unfold vAt
        rw [List.getD, List.getElem?_eq_none (by rw [h.len]; omega)]
        rfl
      rw [this] at hk
      simp [Value.ownBlock] at hk
  · have h0 : w.Shuns br (fun _ => False) := fun _ _ _ _ _ _ _ hf => hf
    have h1 := World.Shuns.reno h0 hg (No' := fun k => w.heap.size ≤ k ∧ k < w'.heap.size) (fun k hk => Or.inr hk.1)
    exact shuns_heap (b.block br l3) h1
/-- what is gathered of the first nodes: states, levels, links, each in rows from block S on -/
structure Gat (w : World) (S : Nat) (ns : List N) (i j c : Nat) (va vb vc : Value) (us : List Value) : Prop where
  ra : w.ownsRow S 3 1 va i (ints ((ns.take i).map N.st))
  rb : w.ownsRow S 3 1 vb j (ints ((ns.take j).map N.lv))
  rc : w.ownsRow S 43 1 vc c us
  ul : us.length = c
  ab : va.ownBlock = none ∨ va.ownBlock ≠ vb.ownBlock
  each : ∀ q, q < c → (h2 : q < ns.length) → w.ownsRow S 46 2 (vAt us q) (ns[q]).lk.length (lkCells (ns[q]).lk)
variable {S i j c : Nat} {va vb vc : Value} {us : List Value}
theorem Gat.nil (w : World) (S : Nat) (ns : List N) : Gat w S ns 0 0 0 (.slice none 0 0) (.slice none 0 0) (.slice none 0 0) [] :=
  ⟨own_nil w S 3 1, own_nil w S 3 1, own_nil w S 43 1, rfl, .inl rfl, fun q hq => absurd hq (by omega)⟩
theorem Gat.stay {w' : World} (h : Gat w S ns i j c va vb vc us) (hk : ∀ k, S ≤ k → k < w.heap.size → w'.heap[k]? = w.heap[k]?) : Gat w' S ns i j c va vb vc us := by
  have k : ∀ {k : Nat} {o : Obj}, w.heap[k]? = some o → S ≤ k → w'.heap[k]? = some o := fun {q} {o} ho hS => (hk q hS (Array.getElem?_eq_some_iff.1 ho).1).trans ho
  exact ⟨ownsRow_heap h.ra (fun _ _ hk hS => k hk hS), ownsRow_heap h.rb (fun _ _ hk hS => k hk hS), ownsRow_heap h.rc (fun _ _ hk hS => k hk hS), h.ul, h.ab, fun q hq h2 => ownsRow_heap (h.each q hq h2) (fun _ _ hk hS => k hk hS)⟩
theorem Gat.below {w' : World} (h : Gat w S ns i j c va vb vc us) (b : Below w.heap.size w w') : Gat w' S ns i j c va vb vc us := h.stay (fun k _ hk => b.block k hk)
theorem off_none {a b : Option Nat} (h : a = none ∨ a ≠ b) : b = none ∨ b ≠ a := by
  rcases h with h | h
  · subst h
    cases b
    · exact .inl rfl
    · exact .inr (by simp)
  · exact .inr (Ne.symm h)
theorem take_map_succ {α : Type} (f : N → α) (ns : List N) (i : Nat) (h : i < ns.length) : (ns.take (i + 1)).map f = (ns.take i).map f ++ [f ns[i]] := by
  rw [List.take_succ_eq_append_getElem h, List.map_append]
  rfl
theorem Gat.step_a {w' : World} {va' : Value} (h : Gat w S ns i j c va vb vc us) (hi : i < ns.length) (hg : w.grownBy w' va.ownBlock) (hown : w'.ownsRow S 3 1 va' (i + 1) (ints ((ns.take i).map N.st) ++ [.int .i64 (ns[i]).st]))
    (hat : va'.ownBlock = va.ownBlock ∨ va'.ownBlock = some w.heap.size) : Gat w' S ns (i + 1) j c va' vb vc us := by
  refine ⟨?_, h.rb.kept hg (off_none h.ab), ownsRow_heap h.rc (fun k cur hk _ => kept_block h.ra hg hk (by intro cur e; cases e)), h.ul, ?_, fun q hq h2 => ownsRow_heap (h.each q hq h2) (fun k cur hk _ => kept_block h.ra hg hk (by intro cur e; cases e))⟩
  · rw [take_map_succ _ _ _ hi, ints, List.map_append]
    exact hown
  · rcases hat with e | e
    · rw [e]
      exact h.ab
    · rw [e]
      refine .inr (fun e1 => ?_)
      have := own_lt h.rb e1.symm
      omega
theorem Gat.step_b {w' : World} {vb' : Value} (h : Gat w S ns i j c va vb vc us) (hj : j < ns.length) (hg : w.grownBy w' vb.ownBlock) (hown : w'.ownsRow S 3 1 vb' (j + 1) (ints ((ns.take j).map N.lv) ++ [.int .i64 (ns[j]).lv]))
    (hat : vb'.ownBlock = vb.ownBlock ∨ vb'.ownBlock = some w.heap.size) : Gat w' S ns i (j + 1) c va vb' vc us := by
  refine ⟨h.ra.kept hg h.ab, ?_, ownsRow_heap h.rc (fun k cur hk _ => kept_block h.rb hg hk (by intro cur e; cases e)), h.ul, ?_, fun q hq h2 => ownsRow_heap (h.each q hq h2) (fun k cur hk _ => kept_block h.rb hg hk (by intro cur e; cases e))⟩
  · rw [take_map_succ _ _ _ hj, ints, List.map_append]
    exact hown
  · rcases hat with e | e
    · rw [e]
      exact h.ab
    · rw [e]
      cases hb : va.ownBlock with
      | none => exact .inl rfl
      | some q =>
        refine .inr (fun e1 => ?_)
        have := own_lt h.ra hb
        cases e1
        omega
theorem Gat.step_c {w' : World} {vc' u : Value} (h : Gat w S ns i j c va vb vc us) (hg : w.grownBy w' vc.ownBlock) (hown : w'.ownsRow S 43 1 vc' (c + 1) (us ++ [u]))
    (hu : (h2 : c < ns.length) → w.ownsRow S 46 2 u (ns[c]).lk.length (lkCells (ns[c]).lk)) : Gat w' S ns i j (c + 1) va vb vc' (us ++ [u]) := by
  refine ⟨ownsRow_heap h.ra (fun k cur hk _ => kept_block h.rc hg hk (by intro cur e; cases e)), ownsRow_heap h.rb (fun k cur hk _ => kept_block h.rc hg hk (by intro cur e; cases e)), hown, by simp [h.ul], h.ab, fun q hq h2 => ?_⟩
  rw [vAt_snoc, h.ul]
  by_cases h3 : q < c
  · rw [if_pos h3]
    exact ownsRow_heap (h.each q h3 h2) (fun k cur hk _ => kept_block h.rc hg hk (by intro cur e; cases e))
  · have e : q = c := by omega
    subst e
    rw [if_neg h3, if_pos rfl]
    exact ownsRow_heap (hu h2) (fun k cur hk _ => kept_block h.rc hg hk (by intro cur e; cases e))
theorem own_mono {w : World} {B C e z n : Nat} {v : Value} {xs : List Value} (h : w.ownsRow B e z v n xs) (hC : C ≤ B) : w.ownsRow C e z v n xs :=
  ⟨h.1, h.2.imp id (fun ⟨g, cp, c, e1, e2, rest⟩ => ⟨g, cp, c, e1, Nat.le_trans hC e2, rest⟩)⟩
theorem LinksR.cell1 {w : World} {v : Value} {l : List (Int × Int)} (h : LinksR w v l) : v.oneCell' = true := by
  obtain ⟨A, cap, rfl, _⟩ := h
  rfl
theorem LinksR.front {w : World} {A : Option Addr} {n c : Nat} {l t : List (Int × Int)} (h : LinksR w (.slice A n c) (l ++ t)) : LinksR w (.slice A l.length c) l := by
  obtain ⟨A', cap, hv, hr⟩ := h
  cases hv
  refine ⟨A, c, rfl, fun i hi => ?_⟩
  obtain ⟨a, off, e, h0, h1⟩ := hr i (by simp; omega)
  rw [List.getElem_append_left hi] at h0 h1
  exact ⟨a, off, e, h0, h1⟩
theorem own_cap {w : World} {B e z n m c : Nat} {A : Option Addr} {xs : List Value} (h : w.ownsRow B e z (.slice A n c) m xs) : m ≤ c := by
  rcases h.2 with ⟨hv, h0⟩ | ⟨g, cap, cur, hv, _, _, hc, _⟩
  · omega
  · injection hv with _ _ e3
    omega
theorem info43 : (Try.prog.info? 43).map (fun i => (i.zero, i.size, i.bytes)) = some (some (.slice none 0 0), 1, 24) := by kernel_rfl
end Go.Proofs.Yteeiidkbihhekaa
