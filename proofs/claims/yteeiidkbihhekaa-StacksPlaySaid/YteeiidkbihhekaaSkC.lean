/- Stacks: make, walked. -/
import Derived.Test.YteeiidkbihhekaaSkB
import Derived.Deep.RegionHeldLaw
import Derived.Deep.AppendLies
import Derived.Maps.AppendAt
set_option linter.unusedVariables false
set_option linter.unusedSimpArgs false
namespace Go.Proofs.Yteeiidkbihhekaa
open Go Go.RowKit Go.Maps Go.WideMaps
theorem kept_block {w w' : World} {B e z n : Nat} {u : Value} {ys : List Value} (h' : w.ownsRow B e z u n ys) (hg : w.grownBy w' u.ownBlock) {k : Nat} {o : Obj} (hk : w.heap[k]? = some o) (hne : ∀ cur, o ≠ .cells cur e (0, 0)) : w'.heap[k]? = some o := by
  refine (hg.block k (Array.getElem?_eq_some_iff.1 hk).1 ?_).trans hk
  intro hu
  rcases h'.2 with ⟨rfl, _⟩ | ⟨g, cap, cur, rfl, _, hgc, _⟩
  · simp [Value.ownBlock] at hu
  · have : k = g := by simpa [Value.ownBlock] using hu
    subst this
    rw [hk] at hgc
    cases hgc
    exact hne _ rfl
theorem below_al (w : World) (o : Obj) : Below w.heap.size w (w.alloc o) := (Below.refl _ _).alloc (Nat.le_refl _) _
theorem ownsMap_heap {H : Type} {w w' : World} {P : Program} {k : TypeId} {R : Value → Option (DataW H × List MemPlace)} {b n : Nat} {D : DataW H} (h : w.ownsMap P k R b n D) (e : w'.heap[b]? = w.heap[b]?) : w'.ownsMap P k R b n D := by
  obtain ⟨es, clock, hb, rest⟩ := h
  exact ⟨es, clock, e.trans hb, rest⟩
theorem ownsMap_block {H : Type} {w : World} {P : Program} {k : TypeId} {R : Value → Option (DataW H × List MemPlace)} {b n : Nat} {D : DataW H} (h : w.ownsMap P k R b n D) : ∃ es clock, w.heap[b]? = some (.map es clock) := by
  obtain ⟨es, clock, hb, _⟩ := h
  exact ⟨es, clock, hb⟩
theorem ownsGroups_block {H : Type} {w : World} {P : Program} {k : TypeId} {base : Nat} {e : TypeId} {q : IntKind} {b n : Nat} {D : DataW H} (h : w.ownsGroups P k base e q b n D) : ∃ es clock, w.heap[b]? = some (.map es clock) := by
  obtain ⟨es, clock, hb, _⟩ := h
  exact ⟨es, clock, hb⟩
open Go.WideElems in
theorem groups_off {H : Type} {w : World} {P : Program} {k : TypeId} {base : Nat} {e : TypeId} {q : IntKind} {b n : Nat} {D : DataW H} (h : w.ownsGroups P k base e q b n D) {row : Option Nat} (hj : ∀ j cur, row = some j → w.heap[j]? ≠ some (.cells cur e (0, 0))) :
    ∀ es clock, w.heap[b]? = some (.map es clock) → ∀ x ∈ es.toList, x.val.ownBlock = none ∨ x.val.ownBlock ≠ row := by
  intro es clock hb x hx
  obtain ⟨es', clock', hb', F, _⟩ := h
  obtain ⟨rfl, rfl⟩ : es' = es ∧ clock' = clock := by rw [hb'] at hb; simpa using hb
  cases hx' : x.val.ownBlock with
  | none => exact Or.inl rfl
  | some g =>
    refine Or.inr (fun e1 => ?_)
    obtain ⟨y, hy⟩ := F.reads x hx
    obtain ⟨z, hz, _⟩ := rd_val hy
    obtain ⟨zs, hoi, _⟩ := rowElem_inv hz
    rcases hoi.1.2 with ⟨hv, _⟩ | ⟨g', cap, cur, hv, _, hg, _⟩
    · rw [hv] at hx'
      simp [Value.ownBlock] at hx'
    · rw [hv] at hx'
      have : g' = g := by simpa [Value.ownBlock] using hx'
      subst this
      exact hj _ cur e1.symm hg
theorem shuns_heap {w w' : World} {b : Nat} {No : Nat → Prop} (e : w'.heap[b]? = w.heap[b]?) (h : w.Shuns b No) : w'.Shuns b No := fun es clock hb => h es clock (e.symm.trans hb)
theorem groups_at {H : Type} {w : World} {P : Program} {t k E base e : Nat} {q : IntKind} {b n : Nat} {D : DataW H} {key : Value} {kl : Lit} (h : w.ownsGroups P k base e q b n D) (K : Keyed P k) (ht : P.underlying t = some (.map k E)) (hz : (zeroValue E).run P w = .ok (.slice none 0 0) w) (hn : n < maxLen) (hkey : keyOf P k key = some kl) :
    ∃ v zs, (Instr.lookup t (.map (some b)) key false).run P w = .ok v w ∧ D.atKey kl .nil = rowDatum q v zs ∧ w.ownsInts base e q v zs ∧ zs.length ≤ n ∧ w.groupBack P t k base e q b n D key kl v ∧
      (∀ No : Nat → Prop, w.Shuns b No → ∀ g, v.ownBlock = some g → ¬ No g) ∧
      (∀ es clock w1 v' w2, w.heap[b]? = some (.map es clock) → w1.heap[b]? = some (.map es clock) → (Instr.mapUpdate t (.map (some b)) key v').run P w1 = .ok () w2 → ∀ No : Nat → Prop, w.Shuns b No → (∀ g, v'.ownBlock = some g → ¬ No g) → w2.Shuns b No) := by
  obtain ⟨v, zs, hrun, hat, hoi, hzl, hback⟩ := h.at K ht hz hn hkey
  refine ⟨v, zs, hrun, hat, hoi, hzl, hback, ?_, ?_⟩
  · obtain ⟨es, clock, hb, F, _⟩ := h
    rcases Maps.fit_look false K ht hz hb F hkey with ⟨hrun', _, _⟩ | ⟨e0, y, hm0, _, hrun', _, _, _⟩
    · rw [hrun] at hrun'
      obtain rfl : v = .slice none 0 0 := by simpa using hrun'
      intro _ _ g hg'
      cases hg'
    · rw [hrun] at hrun'
      obtain rfl : v = e0.val := by simpa using hrun'
      exact fun No hs g hg' => hs es clock hb e0 hm0 g hg'
  · intro es clock w1 v' w2 hb0 hb1 hrun2 No hsh hno
    obtain ⟨es0, clock0, hb, F, hs, _, hbb, _⟩ := h
    obtain ⟨rfl, rfl⟩ : es0 = es ∧ clock0 = clock := by rw [hb] at hb0; simpa using hb0
    obtain ⟨es', clock', hb2, hwho⟩ := stored_who K ht hb1 F (Nat.lt_of_le_of_lt hs hn) hkey hrun2
    intro es2 clock2 hb2' y hy g hyg
    obtain ⟨rfl, rfl⟩ : es' = es2 ∧ clock' = clock2 := by rw [hb2] at hb2'; simpa using hb2'
    rcases hwho y hy with ⟨hy0, _⟩ | ⟨_, hval⟩
    · exact hsh _ _ hb y hy0 g hyg
    · exact hno g (hval ▸ hyg)
theorem grown_set (w : World) (p : Addr) (v : Value) : w.grownBy (w.setCell p v) (some p.block) := ⟨rfl, rfl, rfl, by simp, fun k hk hne => Below.heap_setCell w p v k (fun e => hne (by rw [e]))⟩
variable {w : World} {B g bm br p : Nat} {nv : Value} {vs : List Value} {ns : List N}
theorem ownsRow_heap {w w' : World} {B e z n : Nat} {v : Value} {xs : List Value} (h : w.ownsRow B e z v n xs) (hk : ∀ k cur, w.heap[k]? = some (.cells cur e (0, 0)) → B ≤ k → w'.heap[k]? = some (.cells cur e (0, 0))) : w'.ownsRow B e z v n xs := by
  refine ⟨h.1, ?_⟩
  rcases h.2 with hn | ⟨g, cc, cur, hv, hB', hgc, rest⟩
  · exact .inl hn
  · exact .inr ⟨g, cc, cur, hv, hB', hk g cur hgc hB', rest⟩
theorem vAt_snoc (vs : List Value) (u : Value) (i : Nat) : vAt (vs ++ [u]) i = if i < vs.length then vAt vs i else if i = vs.length then u else .slice none 0 0 := by
  unfold vAt
  by_cases h : i < vs.length
  · simp [h, List.getD, List.getElem?_append_left]
  · by_cases h2 : i = vs.length
    · subst h2
      simp [List.getD]
    · rw [if_neg h, if_neg h2, List.getD, List.getElem?_eq_none (by simp; omega)]
      rfl
theorem StM.made {w6 : World} {nv' : Value} (h : StM w B g nv bm br vs ns p) {a b : Int} (ha : Wf a) (hb : Wf b) (hf : ns.length < 2097152)
    (hd6 : w6.heap[g]? = some (.cells #[nv', .map (some bm), .map (some br)] 76 (0, 0)))
    (hon6 : w6.ownsRow B 81 3 nv' (ns.length + 1) (nodeCells ns vs ++ [.int .i64 a, .int .i64 b, .slice none 0 0]))
    (hl : ∀ k cur, w.heap[k]? = some (.cells cur 46 (0, 0)) → B ≤ k → w6.heap[k]? = some (.cells cur 46 (0, 0)))
    (hmap6 : ∃ D, w6.ownsMap Try.prog 84 (plainElem Try.prog 3) bm (ns.length + 1) D ∧ ByD D (ns ++ [⟨a, b, []⟩]))
    (hgr6 : ∃ G : DataW Unit, w6.ownsGroups Try.prog 3 (br + 1) 3 .i64 br (ns.length + 1) G ∧ RowsD G (ns ++ [⟨a, b, []⟩])) :
    StM w6 B g nv' bm br (vs ++ [.slice none 0 0]) (ns ++ [⟨a, b, []⟩]) p := by
  have hlen := h.len
  have hn : (ns ++ [(⟨a, b, []⟩ : N)]).length = ns.length + 1 := by simp
  refine ⟨hd6, h.gB, h.mB, h.rB, h.mr, by simp [hlen], ?_, ?_, ?_, ?_, ?_, ?_, ?_, ?_⟩
  · rw [nodeCells_snoc _ _ _ _ hlen, hn]
    exact hon6
  · intro i hi
    rw [vAt_snoc]
    by_cases h1 : i < ns.length
    · rw [if_pos (by omega)]
      simp only [List.getElem_append_left h1]
      exact ownsRow_heap (h.lks i h1) hl
    · have : i = ns.length := by simp at hi; omega
      subst this
      rw [if_neg (by omega), if_pos hlen.symm]
      simp [lkCells, World.ownsRow]
  · intro i j hi hj hne
    rw [hn] at hi hj
    rw [vAt_snoc, vAt_snoc]
    by_cases h1 : i < ns.length
    · rw [if_pos (by omega)]
      by_cases h2 : j < ns.length
      · rw [if_pos (by omega)]
        exact h.apart i j h1 h2 hne
      · rw [if_neg (by omega), if_pos (by omega)]
        cases (vAt vs i).ownBlock <;> simp [Value.ownBlock]
    · rw [if_neg (by omega), if_pos (by omega)]
      exact Or.inl rfl
  · obtain ⟨D, h1, h2⟩ := hmap6
    exact ⟨D, by rw [hn]; exact h1, h2⟩
  · obtain ⟨G, h1, h2⟩ := hgr6
    exact ⟨G, by rw [hn]; exact h1, h2⟩
  · intro n hmem
    rcases List.mem_append.1 hmem with h1 | h1
    · exact h.wf n h1
    · simp at h1
      subst h1
      exact ⟨ha, hb⟩
  · rw [hn]
    omega
  · intro n hmem
    rcases List.mem_append.1 hmem with h1 | h1
    · exact h.lkp n h1
    · simp at h1
      subst h1
      simp
set_option maxRecDepth 100000 in
set_option maxHeartbeats 4000000 in
theorem make_x (h : StM w B g nv bm br vs ns p) (a b : Int) (ha : Wf a) (hb : Wf b) (hz : idx ns a b = 0) (hf : ns.length < 2097152) :
    Calls Try.prog 27 #[.pointer (some ⟨g, 0, none⟩), .int .i64 a, .int .i64 b] w fun e w' => e = .returned (.int .i64 ns.length) ∧ ∃ nv' vs', StM w' B g nv' bm br vs' (ns ++ [⟨a, b, []⟩]) p ∧ Below B w w' ∧ ∀ No : Nat → Prop, (∀ k, No k → k < w.heap.size) → Off No w g bm br nv vs → Off No w' g bm br nv' vs' ∧ ∀ k, No k → w'.heap[k]? = w.heap[k]? := by
  have c0 := h.c0
  have hgs : g < w.heap.size := (Array.getElem?_eq_some_iff.1 h.hd).1
  obtain ⟨A, cap, rfl⟩ := own_len h.nod
  obtain ⟨i0, hi, hz0, hz1, hz2⟩ := info_parts info81
  have hnod := h.nod
  have hBs : B ≤ w.heap.size := Nat.le_trans h.gB (Nat.le_of_lt hgs)
  go_enter Try.func27, Try.ntmps27
  go_wp2_with (first
    | (at_builtin; refine wpList_append_own_at _ rfl _ _ 72 rfl B 81 i0 (.agg #[.int .i64 0, .int .i64 0, .slice none 0 0]) 3 40 Try.underlying72 hi hz0 hz1 hz2 rfl (by decide) _ _ _ rfl (hnod.alloc _) ⟨w.heap.size, 0, none⟩ 1 1 [.int .i64 a, .int .i64 b, .slice none 0 0] rfl rfl ?c1 ?c2 ?c3 ?c4 ?c5 ?_))
  case c1 =>
    intro j u hj
    match j, hj with
    | 0, hj => simp at hj; subst hj; simp [Addr.add]
    | 1, hj => simp at hj; subst hj; simp [Addr.add]
    | 2, hj => simp at hj; subst hj; simp [Addr.add]
  case c2 =>
    intro u hu
    simp at hu
    rcases hu with rfl | rfl | rfl <;> rfl
  case c3 => unfold maxLen; omega
  case c4 => omega
  case c5 => simp; omega
  intro nv' w2 hown' hgrow _ hat2
  have hda := (((Below.refl w.heap.size w).alloc (Nat.le_refl _) (.cells #[.int .i64 a, .int .i64 b, .slice none 0 0] 81)).block g hgs).trans h.hd
  have hd2 := kept_block (hnod.alloc _) hgrow hda (by intro cur e; cases e)
  have k0 : w2.cell? ⟨g, 0, none⟩ = some (.slice A ns.length cap) := by simp [World.cell?, hd2]
  have f0 : w2.frozen? ⟨g, 0, none⟩ = false := Joins.unfrozen_of_block hd2 0
  obtain ⟨A', cap', rfl⟩ := own_len hown'
  have k1 : w2.cell? ⟨g, 1, none⟩ = some (.map (some bm)) := by simp [World.cell?, hd2]
  have k2 : w2.cell? ⟨g, 2, none⟩ = some (.map (some br)) := by simp [World.cell?, hd2]
  have hd3 := Joins.block_setCell (i := 0) hd2 (.slice A' (ns.length + 1) cap')
  obtain ⟨D, hmap, hD⟩ := h.by_
  obtain ⟨G, hgr, hG⟩ := h.rows
  obtain ⟨esm, clm, hbm⟩ := ownsMap_block hmap
  obtain ⟨esr, clr, hbr⟩ := ownsGroups_block hgr
  have bmg : bm ≠ g := by intro e; rw [e, h.hd] at hbm; cases hbm
  have brg : br ≠ g := by intro e; rw [e, h.hd] at hbr; cases hbr
  have al := below_al w (.cells #[.int .i64 a, .int .i64 b, .slice none 0 0] 81)
  have hbm1 := (al.block bm (Array.getElem?_eq_some_iff.1 hbm).1).trans hbm
  have hbm2 := kept_block (hnod.alloc _) hgrow hbm1 (by intro cur e; cases e)
  have hbm3 : (w2.setCell ⟨g, 0, none⟩ (.slice A' (ns.length + 1) cap')).heap[bm]? = w.heap[bm]? := by rw [Below.heap_setCell w2 ⟨g, 0, none⟩ _ bm bmg, hbm2, hbm]
  have hmap3 := ownsMap_heap hmap hbm3
  have hbr1 := (al.block br (Array.getElem?_eq_some_iff.1 hbr).1).trans hbr
  have hbr2 := kept_block (hnod.alloc _) hgrow hbr1 (by intro cur e; cases e)
  have g1 := hgr.kept (World.grownBy_alloc w (.cells #[.int .i64 a, .int .i64 b, .slice none 0 0] 81) none) (by simp) (groups_off hgr (by intro j cur e; cases e))
  have ho1 := hnod.alloc (.cells #[.int .i64 a, .int .i64 b, .slice none 0 0] 81)
  have typ : ∀ j, (Value.slice A ns.length cap).ownBlock = some j → ∃ cur, (w.alloc (.cells #[.int .i64 a, .int .i64 b, .slice none 0 0] 81)).heap[j]? = some (.cells cur 81 (0, 0)) := by
    intro j hj
    rcases ho1.2 with ⟨hv, _⟩ | ⟨g', cap'', cur, hv, _, hg', _⟩
    · rw [hv] at hj
      simp [Value.ownBlock] at hj
    · rw [hv] at hj
      have : g' = j := by simpa [Value.ownBlock] using hj
      subst this
      exact ⟨cur, hg'⟩
  have g2 := g1.kept hgrow (by intro e; obtain ⟨cur, hc⟩ := typ br e.symm; rw [hbr1] at hc; cases hc) (groups_off g1 (by intro j cur e hc; obtain ⟨cur', hc'⟩ := typ j e; rw [hc] at hc'; cases hc'))
  have g3 := g2.kept (grown_set w2 ⟨g, 0, none⟩ (.slice A' (ns.length + 1) cap')) (by intro e; exact brg (by simpa using e)) (groups_off g2 (by intro j cur e hc; cases e; rw [hd2] at hc; cases hc))
  have low2 : Below B w w2 := ((Below.refl B w).alloc hBs _).grown hgrow (by simp; omega) (fun k hk => (ho1.lt k hk).1)
  have low3 := low2.setCell (p := ⟨g, 0, none⟩) h.gB (.slice A' (ns.length + 1) cap')
  have sz3 : (w2.setCell ⟨g, 0, none⟩ (.slice A' (ns.length + 1) cap')).heap.size = w2.heap.size := by simp
  have hon3 : (w2.setCell ⟨g, 0, none⟩ (.slice A' (ns.length + 1) cap')).ownsRow B 81 3 (.slice A' (ns.length + 1) cap') (ns.length + 1) (nodeCells ns vs ++ [.int .i64 a, .int .i64 b, .slice none 0 0]) := by
    refine ⟨hown'.1, ?_⟩
    rcases hown'.2 with hn | ⟨g', cc, cur, hv, hB', hgc, rest⟩
    · exact .inl hn
    · refine .inr ⟨g', cc, cur, hv, hB', ?_, rest⟩
      rw [Below.heap_setCell w2 ⟨g, 0, none⟩ _ g' (by intro e; rw [e, hd2] at hgc; cases hgc)]
      exact hgc
  have hn1 : ns.length < maxLen := by unfold maxLen; omega
  have wfn : (Lit.int .i64 ((ns.length : Int) + 1)).wf = true := WalkArith.wf_i64 (by omega)
  clear hbm1 hbm2 hbr1 hbr2 g1 g2 typ al hda
  go_wp2_with (first
    | (at_mapUpdate; refine wpList_mapUpdate_own _ rfl _ _ _ 73 rfl 84 3 law84 Try.underlying73 _ bm ns.length _ rfl hmap3 hn1 _ _ _ rfl rfl (key_kp ha hb) _ [] (plainElem_int Try.underlying3 wfn) ?_; intro w4 hmap4 hgrow4))
  have hd4 : w4.heap[g]? = _ := (hgrow4.block g (by rw [sz3]; exact (Array.getElem?_eq_some_iff.1 hd2).1) (by intro e; exact bmg (by simpa using e.symm))).trans hd3
  have q2 : w4.cell? ⟨g, 2, none⟩ = some (.map (some br)) := by simp [World.cell?, hd4]
  have g4 := g3.kept hgrow4 (by intro e; exact h.mr (by simpa using e.symm)) (groups_off g3 (by intro j cur e hc; cases e; rw [hbm3, hbm] at hc; cases hc))
  have key3 : keyOf Try.prog 3 (.int .i64 b) = some (.int .i64 b) := by
    have := hb
    unfold Wf at this
    simp [keyOf, mapKey, Try.underlying3, this]
  have gd : w4.drew.ownsGroups Try.prog 3 (br + 1) 3 .i64 br ns.length G := g4.kept (row := none) ⟨rfl, rfl, rfl, Nat.le_refl _, fun _ _ _ => rfl⟩ (by simp) (groups_off g4 (by intro j cur e; cases e))
  have ga : ((w4.alloc (.cells #[.int .i64 ns.length] 3)).drew).ownsGroups Try.prog 3 (br + 1) 3 .i64 br ns.length G := gd.kept (World.grownBy_alloc w4.drew (.cells #[.int .i64 ns.length] 3) none) (by simp) (groups_off gd (by intro j cur e; cases e))
  have q2d : w4.drew.cell? ⟨g, 2, none⟩ = some (.map (some br)) := q2
  have K4 : ∀ (k : Nat) (o : Obj), w.heap[k]? = some o → (∀ cur, o ≠ .cells cur 81 (0, 0)) → k ≠ g → k ≠ bm → w4.heap[k]? = some o := by
    intro k o hk h81 hg' hm'
    have k1 := ((below_al w (.cells #[.int .i64 a, .int .i64 b, .slice none 0 0] 81)).block k (Array.getElem?_eq_some_iff.1 hk).1).trans hk
    have k2 := kept_block ho1 hgrow k1 h81
    have k3 : (w2.setCell ⟨g, 0, none⟩ (.slice A' (ns.length + 1) cap')).heap[k]? = some o := (Below.heap_setCell w2 ⟨g, 0, none⟩ _ k hg').trans k2
    exact (hgrow4.block k (by rw [sz3]; exact (Array.getElem?_eq_some_iff.1 k2).1) (by intro e; exact hm' (by simpa using e))).trans k3
  have low4 : Below B w w4 := low3.grown hgrow4 (by rw [sz3]; exact Nat.le_trans hBs low2.size) (by intro k e; cases e; exact h.mB)
  have hon4 := ownsRow_heap hon3 (w' := w4) (by
    intro k cur hk _
    exact (hgrow4.block k (by exact (Array.getElem?_eq_some_iff.1 hk).1) (by intro e; cases e; rw [hbm3, hbm] at hk; cases hk)).trans hk)
  obtain ⟨esm4, clm4, hbm4⟩ := ownsMap_block hmap4
  have close : Hid (∀ (w5 w6 : World) (G6 : DataW Unit), (∀ (k : Nat) (o : Obj), w4.heap[k]? = some o → (∀ cur, o ≠ .cells cur 3 (0, 0)) → w5.heap[k]? = some o) → Below B w4 w5 → w5.grownBy w6 (some br) → w6.ownsGroups Try.prog 3 (br + 1) 3 .i64 br (ns.length + 1) G6 → RowsD G6 (ns ++ [⟨a, b, []⟩]) →
      (∀ No : Nat → Prop, (∀ k, No k → k < w4.heap.size) → w4.Shuns br No → w6.Shuns br No ∧ ∀ k, No k → w5.heap[k]? = w4.heap[k]?) →
      ∃ nv' vs', StM w6 B g nv' bm br vs' (ns ++ [⟨a, b, []⟩]) p ∧ Below B w w6 ∧ ∀ No : Nat → Prop, (∀ k, No k → k < w.heap.size) → Off No w g bm br (.slice A ns.length cap) vs → Off No w6 g bm br nv' vs' ∧ ∀ k, No k → w6.heap[k]? = w.heap[k]?) := by
    intro w5 w6 G6 k5 low5 hg6 hgr6 hG6 hsh
    have k6 : ∀ (k : Nat) (o : Obj), w4.heap[k]? = some o → (∀ cur, o ≠ .cells cur 3 (0, 0)) → k ≠ br → w6.heap[k]? = some o := by
      intro k o hk h3 hne
      have := k5 k o hk h3
      exact (hg6.block k (Array.getElem?_eq_some_iff.1 this).1 (by intro e; exact hne (by simpa using e))).trans this
    refine ⟨_, _, h.made ha hb hf (k6 g _ hd4 (by intro cur e; cases e) (Ne.symm brg)) (ownsRow_heap hon4 ?_) ?_ ⟨_, ownsMap_heap hmap4 ((k6 bm _ hbm4 (by intro cur e; cases e) h.mr).trans hbm4.symm), hD.put (n := ⟨a, b, []⟩) ha hb hz⟩ ⟨_, hgr6, hG6⟩, ?_, ?_⟩
    · intro k cur hk hB'
      exact k6 k _ hk (by intro cur' e; cases e) (by rintro rfl; obtain ⟨es, cl, e⟩ := ownsGroups_block g4; rw [e] at hk; cases hk)
    · intro k cur hk hB'
      have k4 := K4 k _ hk (by intro cur' e; cases e) (by rintro rfl; rw [h.hd] at hk; cases hk) (by rintro rfl; rw [hbm] at hk; cases hk)
      exact k6 k _ k4 (by intro cur' e; cases e) (by rintro rfl; rw [hbr] at hk; cases hk)
    · exact (low4.trans low5).grown hg6 (Nat.le_trans hBs (Nat.le_trans low4.size low5.size)) (by intro k e; cases e; exact h.rB)
    · intro No hN off
      have e4 : ∀ k, No k → w4.heap[k]? = w.heap[k]? := by
        intro k hk
        have k1 := (below_al w (.cells #[.int .i64 a, .int .i64 b, .slice none 0 0] 81)).block k (hN k hk)
        have k2 := (hgrow.block k (by simp; exact Nat.lt_succ_of_lt (hN k hk)) (by intro e; exact off.nv_ k e.symm hk)).trans k1
        have k3 := (Below.heap_setCell w2 ⟨g, 0, none⟩ (.slice A' (ns.length + 1) cap') k (by rintro rfl; exact off.hd hk)).trans k2
        exact (hgrow4.block k (by rw [sz3]; exact Nat.lt_of_lt_of_le (hN k hk) low2.size) (by intro e; cases e; exact off.bm_ hk)).trans k3
      have hbr4 : w4.heap[br]? = w.heap[br]? := (K4 br _ hbr (by intro cur e; cases e) brg (Ne.symm h.mr)).trans hbr.symm
      obtain ⟨s6, s5⟩ := hsh No (fun k hk => Nat.lt_of_lt_of_le (hN k hk) low4.size) (shuns_heap hbr4 off.rows)
      refine ⟨⟨off.hd, off.bm_, off.br_, ?_, ?_, s6⟩, ?_⟩
      · intro k hk hno
        rcases hat2 with h1 | h1
        · exact off.nv_ k (h1.symm.trans hk) hno
        · rw [h1] at hk
          cases hk
          have := hN _ hno
          have e1 : (w.alloc (.cells #[.int .i64 a, .int .i64 b, .slice none 0 0] 81)).heap.size = w.heap.size + 1 := by simp
          omega
      · intro i k hk
        rw [vAt_snoc] at hk
        split at hk
        · exact off.vs_ i k hk
        · split at hk <;> simp [Value.ownBlock] at hk
      · intro k hk
        have k5' := (s5 k hk).trans (e4 k hk)
        have l5 : k < w5.heap.size := Nat.lt_of_lt_of_le (hN k hk) (Nat.le_trans low4.size low5.size)
        exact (hg6.block k l5 (by intro e; cases e; exact off.br_ hk)).trans k5'
  have rB := h.rB
  obtain ⟨esr4, clr4, hbr4⟩ := ownsGroups_block g4
  have B4 : B ≤ w4.heap.size := Nat.le_trans hBs low4.size
  clear h c0 hgrow hd2 k0 f0 hown' k1 k2 hd3 hmap hgr hbm hbr hbm3 hmap3 g3 low2 hon3 hgrow4 hmap4 hnod ho1 low3 sz3 K4 low4 hon4 hbm4
  obtain ⟨i3, hi3, y0, y1, y2⟩ := info_parts info3
  have bb : br + 1 ≤ w4.heap.size := (Array.getElem?_eq_some_iff.1 (ownsGroups_block g4).choose_spec.choose_spec).1
  have nw0 : ∀ j u, [Value.int .i64 (ns.length : Int)][j]? = some u → ((w4.alloc (.cells #[.int .i64 ns.length] 3)).drew).cell? ((⟨w4.heap.size, 0, none⟩ : Addr).add j) = some u :=
    World.news_of_block (cs := #[.int .i64 ns.length]) (MapKept.heap_alloc w4 _).1
  have hd4a : ((w4.alloc (.cells #[.int .i64 ns.length] 3)).drew).heap[g]? = _ := ((MapKept.heap_alloc w4 (.cells #[.int .i64 ns.length] 3)).2 g (Array.getElem?_eq_some_iff.1 hd4).1).trans hd4
  have q2a : ((w4.alloc (.cells #[.int .i64 ns.length] 3)).drew).cell? ⟨g, 2, none⟩ = some (.map (some br)) := by simp [World.cell?, hd4a]
  have b64 : ∀ u ∈ [Value.int .i64 (ns.length : Int)], u.oneCell' = true := by
    intro u hu
    simp at hu
    subst hu
    rfl
  have bsz : br + 1 ≤ ((w4.alloc (.cells #[.int .i64 ns.length] 3)).drew).heap.size := Nat.le_trans bb (by simp)
  have wfl : (Lit.int IntKind.i64 (ns.length : Int)).wf = true := WalkArith.wf_i64 (by omega)
  have hbr4a : ((w4.alloc (.cells #[.int .i64 ns.length] 3)).drew).heap[br]? = _ := ((MapKept.heap_alloc w4 (.cells #[.int .i64 ns.length] 3)).2 br (Array.getElem?_eq_some_iff.1 hbr4).1).trans hbr4
  go_region_held_law (fun w' => w'.cell? ⟨g, 2, none⟩ = some (.map (some br))) (first | assumption | fail) (first
    | (obtain ⟨v, zs, hrun, hat, hoi, hzl, hback, hsh, hbs⟩ := groups_at gd law3 Try.underlying74 (zero33 _) hn1 key3
       have hlk := hbr4
       have hzs : Hid (zs = rowsFrom 0 ns b) := hG.look hb hoi hat
       rw [hrun])
    | (obtain ⟨v, zs, hrun, hat, hoi, hzl, hback, hsh, hbs⟩ := groups_at ga law3 Try.underlying74 (zero33 _) hn1 key3
       have hlk := hbr4a
       have hzs : Hid (zs = rowsFrom 0 ns b) := hG.look hb hoi hat
       rw [hrun])
    | (refine step_append_lies _ rfl _ _ 33 rfl (br + 1) 3 i3 (.int .i64 0) 1 8 Try.underlying33 hi3 y0 y1 y2 rfl (by decide) v zs.length _ rfl (hoi.1.alloc _) ⟨w4.heap.size, 0, none⟩ 1 1 [.int .i64 ns.length] rfl rfl nw0 b64 (by decide) (by unfold maxLen; omega) (by omega) bsz _ rfl ?_
       intro g5 cap5 w5 hown5 hgrow5 hat5 hlt5
       have hgr5 := World.grownBy.trans (World.grownBy_alloc w4.drew (.cells #[.int .i64 ns.length] 3) v.ownBlock) hgrow5
       have hk5 : ∀ (k : Nat) (o : Obj), w4.heap[k]? = some o → (∀ cur, o ≠ .cells cur 3 (0, 0)) → w5.heap[k]? = some o := fun k o hk h3 => kept_block (hoi.1.alloc _) hgrow5 (((MapKept.heap_alloc w4 (.cells #[.int .i64 ns.length] 3)).2 k (Array.getElem?_eq_some_iff.1 hk).1).trans hk) h3
       have low5 : Below B w4 w5 := ((Below.refl B w4).drew.alloc B4 _).grown hgrow5 (Nat.le_trans (Nat.le_trans rB (Nat.le_succ br)) bsz) (fun k hk => Nat.le_trans (Nat.le_trans rB (Nat.le_succ br)) (hoi.1.lt k hk).1)
       have hd5 := hk5 g _ hd4 (by intro cur e; cases e)
       have q5 : w5.cell? ⟨g, 2, none⟩ = some (.map (some br)) := by simp [World.cell?, hd5])
    | (refine step_append_lies _ rfl _ _ 33 rfl (br + 1) 3 i3 (.int .i64 0) 1 8 Try.underlying33 hi3 y0 y1 y2 rfl (by decide) v zs.length _ rfl hoi.1 ⟨w4.heap.size, 0, none⟩ 1 1 [.int .i64 ns.length] rfl rfl nw0 b64 (by decide) (by unfold maxLen; omega) (by omega) bsz _ rfl ?_
       intro g5 cap5 w5 hown5 hgrow5 hat5 hlt5
       have hgr5 := hgrow5
       have hk5 : ∀ (k : Nat) (o : Obj), w4.heap[k]? = some o → (∀ cur, o ≠ .cells cur 3 (0, 0)) → w5.heap[k]? = some o := fun k o hk h3 => kept_block hoi.1 hgrow5 (((MapKept.heap_alloc w4 (.cells #[.int .i64 ns.length] 3)).2 k (Array.getElem?_eq_some_iff.1 hk).1).trans hk) h3
       have low5 : Below B w4 w5 := ((Below.refl B w4).drew.alloc B4 _).grown hgrow5 (Nat.le_trans (Nat.le_trans rB (Nat.le_succ br)) bsz) (fun k hk => Nat.le_trans (Nat.le_trans rB (Nat.le_succ br)) (hoi.1.lt k hk).1)
       have hd5 := hk5 g _ hd4 (by intro cur e; cases e)
       have q5 : w5.cell? ⟨g, 2, none⟩ = some (.map (some br)) := by simp [World.cell?, hd5])
    | (obtain ⟨w6, hrun6, r1, r2⟩ := hback _ _ (zs ++ [(ns.length : Int)]) hgr5 (hoi.appended hown5 wfl) (by simp; omega) (hat5.imp (fun e => e.symm) (fun e => ⟨g5, rfl, by rw [e]; simp⟩))
       rw [hrun6]
       have hd6 := (r2.block g (by exact (Array.getElem?_eq_some_iff.1 hd5).1) (by intro e; exact brg (by simpa using e.symm))).trans hd5
       have q6 : w6.cell? ⟨g, 2, none⟩ = some (.map (some br)) := by simp [World.cell?, hd6])
    | fail)
  all_goals
    have fin := close.out w5 w6 _ hk5 low5 r2 r1 (hG.put (n := ⟨a, b, []⟩) hb hzs.out (hoi.appended hown5 wfl)) (by
      intro No hN hs
      have hs' := hsh No (shuns_heap (hlk.trans hbr4.symm) hs)
      refine ⟨hbs _ _ _ _ _ hlk (hk5 br _ hbr4 (by intro cur e; cases e)) hrun6 No (shuns_heap (hlk.trans hbr4.symm) hs) ?_, ?_⟩
      · intro k hk hno
        cases hk
        rcases hat5 with e | e
        · exact hs' _ e hno
        · have h1 : g5 < w4.heap.size := hN _ hno
          have e1 : ((w4.alloc (.cells #[.int .i64 ns.length] 3)).drew).heap.size = w4.heap.size + 1 := by simp
          omega
      · intro k hk
        refine (hgrow5.block k (by simp; exact Nat.lt_succ_of_lt (hN k hk)) (by intro e; exact hs' k e.symm hk)).trans ?_
        exact (MapKept.heap_alloc w4 (.cells #[.int .i64 ns.length] 3)).2 k (hN k hk))
    go_wp2
    go_ret
    exact ⟨rfl, fin⟩
end Go.Proofs.Yteeiidkbihhekaa
