/- Stacks: the library's lists of links and of numbers: Index, Contains, Clone; Links, Node. -/
import Derived.Test.YteeiidkbihhekaaSkC
set_option linter.unusedVariables false
set_option linter.unusedSimpArgs false
namespace Go.Proofs.Yteeiidkbihhekaa
open Go Go.RowKit Go.Maps Go.WideMaps
/-- a fact that the walk's simp does not look into -/
structure Kept (p : Prop) : Prop where
  out : p
theorem alloc_here (w : World) (o : Obj) : (w.alloc o).heap[w.heap.size]? = some o := Array.getElem?_push_size
theorem acell (w : World) (cs : Array Value) (T : TypeId) (i : Nat) : (w.alloc (.cells cs T)).cell? ⟨w.heap.size, i, none⟩ = cs[i]? := by
  unfold World.cell?
  rw [alloc_here]
  rfl
theorem size_al (w : World) (o : Obj) : (w.alloc o).heap.size = w.heap.size + 1 := Array.size_push _
theorem lkCells_at : ∀ (l : List (Int × Int)) (i : Nat) (h : i < l.length), (lkCells l)[i * 2]? = some (.int .i64 (l[i]).1) ∧ (lkCells l)[i * 2 + 1]? = some (.int .i64 (l[i]).2)
  | [], i, h => absurd h (by simp)
  | p :: l, 0, _ => ⟨rfl, rfl⟩
  | p :: l, i + 1, h => by
    have ih := lkCells_at l i (by simpa using h)
    have e : lkCells (p :: l) = [.int .i64 p.1, .int .i64 p.2] ++ lkCells l := rfl
    have a0 : (i + 1) * 2 = 2 + i * 2 := by omega
    rw [e, a0]
    refine ⟨?_, ?_⟩
    · rw [List.getElem?_append_right (by simp)]
      have : 2 + i * 2 - [Value.int .i64 p.1, .int .i64 p.2].length = i * 2 := by simp
      rw [this]
      exact ih.1
    · rw [List.getElem?_append_right (by simp; omega)]
      have : 2 + i * 2 + 1 - [Value.int .i64 p.1, .int .i64 p.2].length = i * 2 + 1 := by simp; omega
      rw [this]
      exact ih.2
theorem lkCells_len (l : List (Int × Int)) : (lkCells l).length = l.length * 2 := by
  induction l with
  | nil => rfl
  | cons p l ih => show ([Value.int .i64 p.1, .int .i64 p.2] ++ lkCells l).length = _; simp [ih]; omega
theorem lkCells_append (l m : List (Int × Int)) : lkCells (l ++ m) = lkCells l ++ lkCells m := by simp [lkCells]
/-- a link's cells, where memory holds them -/
theorem lk_read {w : World} {B : Nat} {v : Value} {l : List (Int × Int)} (h : w.ownsRow B 46 2 v l.length (lkCells l)) (hn : 0 < l.length) : ∃ a cap, v = .slice (some ⟨a, 0, none⟩) l.length cap ∧ B ≤ a ∧ a < w.heap.size ∧ l.length ≤ cap ∧
    ∀ i (hi : i < l.length), w.cell? ⟨a, i * 2, none⟩ = some (.int .i64 (l[i]).1) ∧ w.cell? ⟨a, i * 2 + 1, none⟩ = some (.int .i64 (l[i]).2) := by
  obtain ⟨a, cap, hv, hB, hlt, hc, hcell, _⟩ := own_cells h hn
  refine ⟨a, cap, hv, hB, hlt, hc, fun i hi => ?_⟩
  obtain ⟨e0, e1⟩ := lkCells_at l i hi
  exact ⟨(hcell _ (by omega)).trans e0, (hcell _ (by omega)).trans e1⟩
set_option maxRecDepth 100000 in
set_option maxHeartbeats 1000000 in
theorem index_in {w : World} {B : Nat} {v : Value} {l : List (Int × Int)} (h : w.ownsRow B 46 2 v l.length (lkCells l)) (hl : l.length ≤ 1099511627776) (a b : Int) :
    Calls Try.prog 35 #[v, .agg #[.int .i64 a, .int .i64 b]] w fun e w' => (∃ r : Int, e = .returned (.int .i64 r) ∧ (0 ≤ r ↔ (a, b) ∈ l)) ∧ Below w.heap.size w w' := by
  have al := below_al w (.cells #[.int .i64 a, .int .i64 b] 46)
  have x0 : (w.alloc (.cells #[.int .i64 a, .int .i64 b] 46)).cell? ⟨w.heap.size, 0, none⟩ = some (.int .i64 a) := acell w #[.int .i64 a, .int .i64 b] 46 0
  have x1 : (w.alloc (.cells #[.int .i64 a, .int .i64 b] 46)).cell? ⟨w.heap.size, 1, none⟩ = some (.int .i64 b) := acell w #[.int .i64 a, .int .i64 b] 46 1
  obtain ⟨A, cap, rfl⟩ := own_len h
  go_enter Try.func35, Try.ntmps35
  go_wp2
  go_loopg [8] l.length (fun gk i wr => ∃ k : Nat, i = .int .i64 k ∧ Kept (k + gk = l.length) ∧ Kept (∃ n, wr = (w.alloc (.cells #[.int .i64 a, .int .i64 b] 46)).drewN n) ∧ Kept (∀ j (hj : j < l.length), j < k → l[j] ≠ (a, b)))
  case atStart => exact ⟨0, rfl, ⟨by omega⟩, ⟨0, rfl⟩, ⟨by omega⟩⟩
  case round =>
    obtain ⟨k, rfl, hk, hw, hno⟩ := hrel
    have hk' := hk.out
    by_cases hlt : k < l.length
    · have d1 : decide (k < l.length) = true := decide_eq_true hlt
      have d1' : decide ((k : Int) < (l.length : Int)) = true := decide_eq_true (by omega)
      obtain ⟨ad, cap', hv, hB, had, hcap, hread⟩ := lk_read h (by omega)
      cases hv
      have y0 : wr.cell? ⟨w.heap.size, 0, none⟩ = some (.int .i64 a) := by obtain ⟨n, rfl⟩ := hw.out; exact x0
      have y1 : wr.cell? ⟨w.heap.size, 1, none⟩ = some (.int .i64 b) := by obtain ⟨n, rfl⟩ := hw.out; exact x1
      obtain ⟨q0, q1⟩ := hread k hlt
      have z0 : wr.cell? ⟨ad, k * 2, none⟩ = some (.int .i64 (l[k]).1) := by obtain ⟨n, rfl⟩ := hw.out; exact (al.cell (p := ⟨ad, k * 2, none⟩) had).trans q0
      have z1 : wr.cell? ⟨ad, k * 2 + 1, none⟩ = some (.int .i64 (l[k]).2) := by obtain ⟨n, rfl⟩ := hw.out; exact (al.cell (p := ⟨ad, k * 2 + 1, none⟩) had).trans q1
      clear hread q0 q1
      have wr1 : IntKind.i64.wrap ((k : Int) + 1) = (k : Int) + 1 := IntWalk.i64_in _ (by omega)
      have b2 : Below w.heap.size w wr := by obtain ⟨n, rfl⟩ := hw.out; exact below_drewN al _
      by_cases he : l[k] = (a, b)
      · have e0 : (l[k]).1 = a := by rw [he]
        have e1 : (l[k]).2 = b := by rw [he]
        have hmem : (a, b) ∈ l := he ▸ List.getElem_mem hlt
        rw [e0] at z0
        rw [e1] at z1
        clear e0 e1 he
        go_wp2
        go_quiet (fail)
        go_wp2
        go_ret
        exact ⟨⟨_, rfl, by constructor <;> intro _; exact hmem; omega⟩, below_drewN b2 _⟩
      · have hne : ¬ ((l[k]).1 = a ∧ (l[k]).2 = b) := by
          rintro ⟨h1, h2⟩
          exact he (Prod.ext h1 h2)
        have he := Kept.mk he
        generalize (l[k]).1 = c at z0 hne
        generalize (l[k]).2 = d at z1 hne
        by_cases hac : a = c
        · subst hac
          have hbd : b ≠ d := fun e => hne ⟨rfl, e.symm⟩
          have f1 : decide (b = d) = false := decide_eq_false hbd
          have f2 : (b == d) = false := beq_eq_false_iff_ne.2 hbd
          clear hne hbd
          go_wp2
          go_quiet (fail)
          go_wp2
          go_roundg (gk - 1)
          case measure => omega
          case rel =>
            refine ⟨k + 1, rfl, ⟨by omega⟩, ?_, ⟨?_⟩⟩
            · obtain ⟨n, rfl⟩ := hw.out
              exact ⟨_, World.drewN_drewN _ _ _⟩
            · intro j hj hjk
              by_cases hjk' : j < k
              · exact hno.out j hj hjk'
              · have : j = k := by omega
                subst this
                exact he.out
        · have f1 : decide (a = c) = false := decide_eq_false hac
          have f2 : (a == c) = false := beq_eq_false_iff_ne.2 hac
          clear hne hac
          go_wp2
          go_quiet (fail)
          go_wp2
          go_roundg (gk - 1)
          case measure => omega
          case rel =>
            refine ⟨k + 1, rfl, ⟨by omega⟩, ?_, ⟨?_⟩⟩
            · obtain ⟨n, rfl⟩ := hw.out
              exact ⟨_, World.drewN_drewN _ _ _⟩
            · intro j hj hjk
              by_cases hjk' : j < k
              · exact hno.out j hj hjk'
              · have : j = k := by omega
                subst this
                exact he.out
    · have d1 : decide (k < l.length) = false := decide_eq_false hlt
      have d1' : decide ((k : Int) < (l.length : Int)) = false := decide_eq_false (by omega)
      have b2 : Below w.heap.size w wr := by obtain ⟨n, rfl⟩ := hw.out; exact below_drewN al _
      go_wp2
      go_ret
      refine ⟨⟨_, rfl, ?_⟩, b2⟩
      constructor
      · intro h0
        omega
      · intro hmem
        obtain ⟨j, hj, e⟩ := List.getElem_of_mem hmem
        exact absurd e (hno.out j hj (by omega))
theorem contains_in {w : World} {B : Nat} {v : Value} {l : List (Int × Int)} (h : w.ownsRow B 46 2 v l.length (lkCells l)) (hl : l.length ≤ 1099511627776) (a b : Int) :
    Calls Try.prog 29 #[v, .agg #[.int .i64 a, .int .i64 b]] w fun e w' => e = .returned (.bool (decide ((a, b) ∈ l))) ∧ Below w.heap.size w w' := by
  have al := below_al w (.cells #[.int .i64 a, .int .i64 b] 46)
  have x0 : (w.alloc (.cells #[.int .i64 a, .int .i64 b] 46)).cell? ⟨w.heap.size, 0, none⟩ = some (.int .i64 a) := acell w #[.int .i64 a, .int .i64 b] 46 0
  have x1 : (w.alloc (.cells #[.int .i64 a, .int .i64 b] 46)).cell? ⟨w.heap.size, 1, none⟩ = some (.int .i64 b) := acell w #[.int .i64 a, .int .i64 b] 46 1
  have hi := index_in (h.alloc (.cells #[.int .i64 a, .int .i64 b] 46)) hl a b
  by_cases hm : (a, b) ∈ l
  · have e : decide ((a, b) ∈ l) = true := decide_eq_true hm
    rw [e]
    go_enter Try.func29, Try.ntmps29
    go_wp2_with (first | (go_at_call 35; (with_reducible refine hi.mono ?_); rintro en w1 ⟨⟨r, rfl, hr⟩, b1⟩; have r0 := hr.2 hm; clear hr))
    go_ret
    exact ⟨rfl, al.trans (b1.mono (by simp))⟩
  · have e : decide ((a, b) ∈ l) = false := decide_eq_false hm
    rw [e]
    go_enter Try.func29, Try.ntmps29
    go_wp2_with (first | (go_at_call 35; (with_reducible refine hi.mono ?_); rintro en w1 ⟨⟨r, rfl, hr⟩, b1⟩; have r0 : ¬ 0 ≤ r := fun h0 => hm (hr.1 h0); have r1 : decide (0 ≤ r) = false := decide_eq_false r0; clear hr))
    go_ret
    exact ⟨rfl, al.trans (b1.mono (by simp))⟩
theorem eql43n (w : World) : (binOp .eql 43 (.slice none 0 0) (.slice none 0 0)).run Try.prog w = .ok (.bool true) w := by kernel_rfl
theorem eql43s (w : World) (p : Addr) (n c : Nat) : (binOp .eql 43 (.slice (some p) n c) (.slice none 0 0)).run Try.prog w = .ok (.bool false) w := by kernel_rfl
theorem eql33n (w : World) : (binOp .eql 33 (.slice none 0 0) (.slice none 0 0)).run Try.prog w = .ok (.bool true) w := by kernel_rfl
theorem eql33s (w : World) (p : Addr) (n c : Nat) : (binOp .eql 33 (.slice (some p) n c) (.slice none 0 0)).run Try.prog w = .ok (.bool false) w := by kernel_rfl
set_option maxRecDepth 100000 in
theorem clone_links {w : World} {B n : Nat} {v : Value} {xs : List Value} (h : w.ownsRow B 46 2 v n xs) (h1 : ∀ u ∈ xs, u.oneCell' = true) (hn : n ≤ 1099511627776) :
    Calls Try.prog 31 #[v] w fun e w' => ∃ v', e = .returned v' ∧ w'.ownsRow w.heap.size 46 2 v' n xs ∧ Below w.heap.size w w' := by
  have hlen := h.1
  rcases h.2 with ⟨rfl, h0⟩ | ⟨g, cap, cur, rfl, _, hg, hc, _, hs, ht⟩
  · subst h0
    have : xs = [] := List.length_eq_zero_iff.1 (by omega)
    subst this
    have eq0 := eql43n
    go_enter Try.func31, Try.ntmps31
    go_wp2
    go_ret
    exact ⟨_, rfl, ⟨rfl, .inl ⟨rfl, rfl⟩⟩, Below.refl _ _⟩
  · obtain ⟨i0, hi, z0, z1, z2⟩ := info_parts info46
    have hgs : g < w.heap.size := (Array.getElem?_eq_some_iff.1 hg).1
    have al := below_al w (.cells #[] 46)
    have hown : (w.alloc (.cells #[] 46)).ownsRow w.heap.size 46 2 (.slice (some ⟨w.heap.size, 0, none⟩) 0 0) 0 [] :=
      ⟨rfl, .inr ⟨w.heap.size, 0, #[], rfl, Nat.le_refl _, alloc_here w _, Nat.le_refl _, Nat.zero_le _, by simp, by simp⟩⟩
    have hnews : ∀ j u, xs[j]? = some u → (w.alloc (.cells #[] 46)).cell? ((⟨g, 0, none⟩ : Addr).add j) = some u := by
      intro j u hj
      have hadd : (⟨g, 0, none⟩ : Addr).add j = ⟨g, j, none⟩ := by unfold Addr.add; split <;> simp_all
      rw [hadd, al.cell (p := ⟨g, j, none⟩) hgs]
      have hj' : j < n * 2 := by
        have := (List.getElem?_eq_some_iff.1 hj).1
        omega
      have e1 : w.cell? ⟨g, j, none⟩ = cur[j]? := by simp [World.cell?, hg]
      rw [e1, ← hj, ← ht, List.getElem?_take, if_pos hj', Array.getElem?_toList]
    clear hg hs ht h
    have eq0 := eql43s
    go_enter Try.func31, Try.ntmps31
    go_wp2_with (first
      | (at_builtin; refine wpList_append_own_at _ rfl _ _ 43 rfl w.heap.size 46 i0 (.agg #[.int .i64 0, .int .i64 0]) 2 16 Try.underlying43 hi z0 z1 z2 rfl (by decide) _ _ _ rfl hown ⟨g, 0, none⟩ n cap xs rfl hlen hnews h1 (by unfold maxLen; omega) (by omega) (by simp) ?_; intro v' w2 hown2 hgrow _ _))
    go_ret
    refine ⟨_, rfl, by simpa using hown2, al.grown hgrow (by simp) (by intro k hk; cases hk; exact Nat.le_refl _)⟩
set_option maxRecDepth 100000 in
theorem clone_ints {w : World} {B n : Nat} {v : Value} {xs : List Value} (h : w.ownsRow B 3 1 v n xs) (h1 : ∀ u ∈ xs, u.oneCell' = true) (hn : n ≤ 1099511627776) :
    Calls Try.prog 33 #[v] w fun e w' => ∃ v', e = .returned v' ∧ w'.ownsRow w.heap.size 3 1 v' n xs ∧ Below w.heap.size w w' := by
  have hlen := h.1
  rcases h.2 with ⟨rfl, h0⟩ | ⟨g, cap, cur, rfl, _, hg, hc, _, hs, ht⟩
  · subst h0
    have : xs = [] := List.length_eq_zero_iff.1 (by omega)
    subst this
    have eq0 := eql33n
    go_enter Try.func33, Try.ntmps33
    go_wp2
    go_ret
    exact ⟨_, rfl, ⟨rfl, .inl ⟨rfl, rfl⟩⟩, Below.refl _ _⟩
  · obtain ⟨i0, hi, z0, z1, z2⟩ := info_parts info3
    have hgs : g < w.heap.size := (Array.getElem?_eq_some_iff.1 hg).1
    have al := below_al w (.cells #[] 3)
    have hown : (w.alloc (.cells #[] 3)).ownsRow w.heap.size 3 1 (.slice (some ⟨w.heap.size, 0, none⟩) 0 0) 0 [] :=
      ⟨rfl, .inr ⟨w.heap.size, 0, #[], rfl, Nat.le_refl _, alloc_here w _, Nat.le_refl _, Nat.zero_le _, by simp, by simp⟩⟩
    have hnews : ∀ j u, xs[j]? = some u → (w.alloc (.cells #[] 3)).cell? ((⟨g, 0, none⟩ : Addr).add j) = some u := by
      intro j u hj
      have hadd : (⟨g, 0, none⟩ : Addr).add j = ⟨g, j, none⟩ := by unfold Addr.add; split <;> simp_all
      rw [hadd, al.cell (p := ⟨g, j, none⟩) hgs]
      have hj' : j < n * 1 := by
        have := (List.getElem?_eq_some_iff.1 hj).1
        omega
      have e1 : w.cell? ⟨g, j, none⟩ = cur[j]? := by simp [World.cell?, hg]
      rw [e1, ← hj, ← ht, List.getElem?_take, if_pos hj', Array.getElem?_toList]
    clear hg hs ht h
    have eq0 := eql33s
    go_enter Try.func33, Try.ntmps33
    go_wp2_with (first
      | (at_builtin; refine wpList_append_own_at _ rfl _ _ 33 rfl w.heap.size 3 i0 (.int .i64 0) 1 8 Try.underlying33 hi z0 z1 z2 rfl (by decide) _ _ _ rfl hown ⟨g, 0, none⟩ n cap xs rfl hlen hnews h1 (by unfold maxLen; omega) (by omega) (by simp) ?_; intro v' w2 hown2 hgrow _ _))
    go_ret
    refine ⟨_, rfl, by simpa using hown2, al.grown hgrow (by simp) (by intro k hk; cases hk; exact Nat.le_refl _)⟩
end Go.Proofs.Yteeiidkbihhekaa
