/- The rope's Shared, walked: how many leaves two ropes have in common, from both ends. -/
import Derived.Test.YthjbkiomnipjiaaRopeU
import Derived.LaidEqlPtr
set_option linter.unusedVariables false
set_option linter.unusedSimpArgs false
namespace Go.Proofs.Ythjbkiomnipjiaa
open Go Go.RowKit Pl
/-- how many places from the front on two lists agree -/
def comm : List Nat → List Nat → Nat
  | a :: l, b :: m => if a = b then 1 + comm l m else 0
  | _, _ => 0
theorem comm_nil_left (m : List Nat) : comm [] m = 0 := by cases m <;> rfl
theorem comm_nil_right (l : List Nat) : comm l [] = 0 := by cases l <;> rfl
theorem comm_le : ∀ l m : List Nat, comm l m ≤ l.length ∧ comm l m ≤ m.length
  | [], m => by rw [comm_nil_left]; exact ⟨Nat.zero_le _, Nat.zero_le _⟩
  | a :: l, [] => ⟨Nat.zero_le _, Nat.zero_le _⟩
  | a :: l, b :: m => by
    have := comm_le l m
    show (if a = b then 1 + comm l m else 0) ≤ l.length + 1 ∧ (if a = b then 1 + comm l m else 0) ≤ m.length + 1
    split <;> omega
theorem comm_step (l m : List Nat) (k : Nat) (h1 : k < l.length) (h2 : k < m.length) : comm (l.drop k) (m.drop k) = if l[k] = m[k] then 1 + comm (l.drop (k + 1)) (m.drop (k + 1)) else 0 := by
  rw [List.drop_eq_getElem_cons h1, List.drop_eq_getElem_cons h2]
  rfl
theorem comm_out (l m : List Nat) (k : Nat) (h : l.length ≤ k ∨ m.length ≤ k) : comm (l.drop k) (m.drop k) = 0 := by
  rcases h with h | h
  · rw [List.drop_eq_nil_of_le h, comm_nil_left]
  · rw [List.drop_eq_nil_of_le h, comm_nil_right]
/-- how many leaves two lists of them have in common, from both ends -/
def shared (l m : List Nat) : Nat := comm l m + comm (l.drop (comm l m)).reverse (m.drop (comm l m)).reverse
def lvAddrs (d : List (Nat × ByteArray)) : List Nat := d.map fun x => x.1
/-- a value that is a slice of these pointers -/
def Ptrs (w : World) (A : Option Addr) (l : List Nat) : Prop := ∀ i, (h : i < l.length) → ∃ g o, A = some ⟨g, o, none⟩ ∧ w.cell? ⟨g, o + i, none⟩ = some (.pointer (some ⟨l[i], 0, none⟩))
def tailA (A : Option Addr) (cap n : Nat) : Option Addr := if cap = n then A else A.map (·.add (n * 1))
theorem run_tail (A : Option Addr) (len cap n : Nat) (h1 : n ≤ len) (h2 : len ≤ cap) (w : World) : (Instr.slice 78 (.slice A len cap) (some (.int .i64 n)) none none).run Try.prog w = .ok (.slice (tailA A cap n) (len - n) (cap - n)) w := by
  obtain ⟨i0, hi, hz0, hz1, hz2⟩ := info_parts info71
  have hs : (sizeOf 71).run Try.prog w = .ok 1 w := by
    rw [← hz1]
    simp [sizeOf, run_typeInfo w hi]
  simp [Instr.slice, run_underlying Try.underlying78, Instr.sliceBounds, run_sliceBound, go_sem, h1, h2, tailA, hs]
theorem Ptrs.tail {w : World} {A : Option Addr} {l : List Nat} {cap : Nat} (h : Ptrs w A l) (n : Nat) (hc : l.length ≤ cap) : Ptrs w (tailA A cap n) (l.drop n) := by
  intro i hi
  rw [List.length_drop] at hi
  obtain ⟨g, o, rfl, hcell⟩ := h (n + i) (by omega)
  refine ⟨g, o + n, ?_, ?_⟩
  · unfold tailA
    rw [if_neg (by omega), Nat.mul_one]
    simp [Addr.add]
  · rw [List.getElem_drop]
    rw [Nat.add_assoc]
    exact hcell
theorem Leavs.ptrs {B : Nat} {w : World} {A : Option Addr} {n cap : Nat} {d : List (Nat × ByteArray)} (h : Leavs B w (.slice A n cap) d) : n = (lvAddrs d).length ∧ n ≤ cap ∧ Ptrs w A (lvAddrs d) ∧ ∀ w', Below w.heap.size w w' → Ptrs w' A (lvAddrs d) := by
  have key : ∀ w', Below w.heap.size w w' → Ptrs w' A (lvAddrs d) := by
    intro w' hb i hi
    have hi' : i < d.length := by simpa [lvAddrs] using hi
    obtain ⟨g, cap', hv, _, hlt, _, hr⟩ := own_read h (by omega)
    simp only [Value.slice.injEq] at hv
    refine ⟨g, 0, hv.1, ?_⟩
    rw [Nat.zero_add, hb.cell (p := ⟨g, i, none⟩) hlt, hr i hi']
    simp [lvPtrs, lvAddrs, hi']
  refine ⟨?_, ?_, key w (Below.refl _ _), key⟩
  · have : (lvAddrs d).length = d.length := by simp [lvAddrs]
    rw [this]
    rcases h.2 with ⟨hv, h0⟩ | ⟨_, _, _, hv, _⟩
    · simp only [Value.slice.injEq] at hv
      omega
    · simp only [Value.slice.injEq] at hv
      exact hv.2.1
  · rcases h.2 with ⟨hv, h0⟩ | ⟨_, _, _, hv, _, _, hc, _⟩
    · simp only [Value.slice.injEq] at hv
      omega
    · simp only [Value.slice.injEq] at hv
      omega
theorem info82 : (Try.prog.info? 82).map (fun i => i.size) = some 7 := by kernel_rfl
theorem same_ptr (a : Addr) (w : World) : (binOp .eql 71 (.pointer (some a)) (.pointer (some a))).run Try.prog w = .ok (.bool true) w := by
  obtain ⟨j, hj, _⟩ := Option.map_eq_some_iff.1 info82
  exact run_eql_ptr_same w a Try.underlying71 hj
/-- a block of nodes' cells -/
def IsNode (w : World) (a : Nat) : Prop := ∃ cs, w.heap[a]? = some (.cells cs 82 (0, 0))
theorem other_ptr {a b : Nat} (w : World) (ha : IsNode w a) (hb : IsNode w b) (h : a ≠ b) : (binOp .eql 71 (.pointer (some ⟨a, 0, none⟩)) (.pointer (some ⟨b, 0, none⟩))).run Try.prog w = .ok (.bool false) w := by
  obtain ⟨j, hj, hs⟩ := Option.map_eq_some_iff.1 info82
  obtain ⟨ca, ha⟩ := ha
  obtain ⟨cb, hb⟩ := hb
  refine run_eql_ptr_other w Try.underlying71 hj (by rw [hs]; decide) ?_ ha hb
  intro e
  exact h (congrArg Addr.block e)
theorem IsNode.below {w w' : World} {a : Nat} (h : IsNode w a) (hb : Below w.heap.size w w') : IsNode w' a := by
  obtain ⟨cs, h⟩ := h
  exact ⟨cs, (hb.block a (Array.getElem?_eq_some_iff.1 h).1).trans h⟩
theorem Nd.lv_node {w : World} : ∀ {t : Nd}, t.In w → ∀ x ∈ t.sh.lv, IsNode w x.1
  | .leaf b s, h, x, hx => by
    have : x = (b, s) := by simpa [Nd.sh, Sh.lv] using hx
    subst this
    exact ⟨_, h.here⟩
  | .node b l r, h, x, hx => by
    rcases List.mem_append.1 (show x ∈ l.sh.lv ++ r.sh.lv from hx) with hx | hx
    · exact Nd.lv_node h.2.1 x hx
    · exact Nd.lv_node h.2.2 x hx
theorem lv_nodes {w : World} {t : Option Nd} (h : optIn w t) : ∀ a ∈ lvAddrs (optLv t), IsNode w a := by
  intro a ha
  obtain ⟨x, hx, rfl⟩ := List.mem_map.1 ha
  cases t with
  | none => cases hx
  | some t => exact Nd.lv_node h x hx
/-- a pointer to a rope whose tree is known -/
structure Root (w : World) (p : Value) (t : Option Nd) : Prop where
  inn : optIn w t
  tree : ∀ w', Below w.heap.size w w' → Calls Try.prog 42 #[p] w' fun e w'' => e = .returned (optPtr t) ∧ w' = w''
theorem Root.of_rope {w : World} {g : Nat} {t : Option Nd} (h : Rope w g t) : Root w (.pointer (some ⟨g, 0, none⟩)) t := ⟨h.2, fun w' hb => tree_yes g t w' (h.below hb)⟩
theorem Root.below {w w' : World} {p : Value} {t : Option Nd} (h : Root w p t) (hb : Below w.heap.size w w') : Root w' p t := ⟨optIn.below hb h.inn, fun w'' hb' => h.tree w'' (hb.trans (hb'.mono hb.size))⟩
set_option maxRecDepth 100000 in
set_option maxHeartbeats 8000000 in
theorem shared_any (p q : Value) (t u : Option Nd) (w : World) (hp : Root w p t) (hq : Root w q u) (mt : NotMany (optLv t)) (mu : NotMany (optLv u)) :
    Calls Try.prog 20 #[p, q] w fun e w' => e = .returned (.int .i64 (shared (lvAddrs (optLv t)) (lvAddrs (optLv u)))) ∧ Below w.heap.size w w' := by
  have h1 := hp.tree w (Below.refl _ _)
  have h2 := list_any t w hp.inn mt
  have hlt : (lvAddrs (optLv t)).length ≤ 1048576 := by simp only [lvAddrs, List.length_map]; exact mt
  have hlu : (lvAddrs (optLv u)).length ≤ 1048576 := by simp only [lvAddrs, List.length_map]; exact mu
  go_enter Try.func20, Try.ntmps20
  go_wp2_with (first
    | (go_at_call 42; (with_reducible refine h1.mono ?_); rintro en w1 ⟨rfl, rfl⟩)
    | (go_at_call 41; (with_reducible refine h2.mono ?_); rintro en w2 ⟨v, rfl, ho, b2⟩; obtain ⟨A, n, cap, rfl⟩ := own_slice ho; have h3 := hq.tree w2 b2; have h4 := list_any u w2 (optIn.below b2 hq.inn) mu)
    | (go_at_call 42; (with_reducible refine h3.mono ?_); rintro en w3 ⟨rfl, rfl⟩)
    | (go_at_call 41; (with_reducible refine h4.mono ?_); rintro en w4 ⟨v', rfl, ho', b4⟩; obtain ⟨A', n', cap', rfl⟩ := own_slice ho'))
  have n1 := fun a ha => (lv_nodes hp.inn a ha).below (b2.trans (b4.mono b2.size))
  have n2 := fun a ha => (lv_nodes hq.inn a ha).below (b2.trans (b4.mono b2.size))
  obtain ⟨e1, c1, _, P1⟩ := ho.ptrs
  obtain ⟨e2, c2, _, P2⟩ := ho'.ptrs
  have B4 := b2.trans (b4.mono b2.size)
  have P1 := fun w' (hb : Below w4.heap.size w4 w') => P1 w' (b4.trans (hb.mono b4.size))
  subst e1 e2
  clear ho ho' h1 h2 h3 h4 mt mu hp hq b2 b4
  generalize hl : lvAddrs (optLv t) = l at *
  generalize hm : lvAddrs (optLv u) = m at *
  go_loopg [7] l.length (fun gk i wr => ∃ k : Nat, i = .int .i64 k ∧ Kept (∃ n, wr = w4.drewN n) ∧ Kept (k + gk = l.length ∧ k ≤ m.length ∧ k + comm (l.drop k) (m.drop k) = comm l m))
  case atStart => exact ⟨0, rfl, ⟨0, rfl⟩, ⟨by omega, Nat.zero_le _, Nat.zero_add _⟩⟩
  case round =>
    obtain ⟨k, rfl, hw, hk⟩ := hrel
    have hwr : Below w4.heap.size w4 wr := by obtain ⟨n, rfl⟩ := hw.out; exact below_drewN (Below.refl _ _) n
    have kz : k < 2097152 := by have := hk.out; omega
    by_cases hgo : k < l.length ∧ k < m.length
    · have d1 : decide (k < l.length) = true := decide_eq_true hgo.1
      have d2 : decide (k < m.length) = true := decide_eq_true hgo.2
      have d1' : decide ((k : Int) < (l.length : Int)) = true := decide_eq_true (by omega)
      have d2' : decide ((k : Int) < (m.length : Int)) = true := decide_eq_true (by omega)
      obtain ⟨g1, o1, rfl, x1⟩ := P1 wr hwr k hgo.1
      obtain ⟨g2, o2, rfl, x2⟩ := P2 wr hwr k hgo.2
      have hst := comm_step l m k hgo.1 hgo.2
      have i1 : IsNode wr l[k] := (n1 _ (List.getElem_mem hgo.1)).below hwr
      have i2 : IsNode wr m[k] := (n2 _ (List.getElem_mem hgo.2)).below hwr
      by_cases heq : l[k] = m[k]
      · rw [if_pos heq] at hst
        have HST := Lib.hid hst
        clear hst
        rw [heq] at x1
        have sm := same_ptr
        go_wp2
        go_quiet (fail)
        go_wp2
        go_roundg (gk - 1)
        case measure => have := hk.out; omega
        case rel =>
          have h1 := hk.out
          have h2 := HST.out
          refine ⟨k + 1, rfl, ⟨?_⟩, ⟨by omega, by omega, by omega⟩⟩
          obtain ⟨n, rfl⟩ := hw.out
          exact ⟨_, World.drewN_drewN _ _ _⟩
      · rw [if_neg heq] at hst
        have ot := other_ptr wr i1 i2 heq
        have ot' := fun n => other_ptr (wr.drewN n) i1 i2 heq
        clear i1 i2
        have hcm : comm l m = k := by
          have h1 := hk.out
          omega
        have rt1 := fun w => run_tail (some ⟨g1, o1, none⟩) l.length cap k (by have := hk.out; omega) c1 w
        have rt2 := fun w => run_tail (some ⟨g2, o2, none⟩) m.length cap' k (by have := hk.out; omega) c2 w
        go_wp2
        go_quiet (fail)
        go_wp2
        go_quiet (fail)
        go_wp2
        have P5 := fun w' (hb : Below w4.heap.size w4 w') => (P1 w' hb).tail (cap := cap) k c1
        have P6 := fun w' (hb : Below w4.heap.size w4 w') => (P2 w' hb).tail (cap := cap') k c2
        have N5 : ∀ a ∈ l.drop k, IsNode w4 a := fun a ha => n1 a (List.mem_of_mem_drop ha)
        have N6 : ∀ a ∈ m.drop k, IsNode w4 a := fun a ha => n2 a (List.mem_of_mem_drop ha)
        have hl5 : (l.drop k).length ≤ 1048576 := by rw [List.length_drop]; omega
        have hm5 : (m.drop k).length ≤ 1048576 := by rw [List.length_drop]; omega
        have hsh : shared l m = k + comm (l.drop k).reverse (m.drop k).reverse := by unfold shared; rw [hcm]
        rw [← List.length_drop, ← List.length_drop]
        clear rt1 rt2 P1 P2 n1 n2
        generalize tailA (some ⟨g1, o1, none⟩) cap k = A5 at P5 ⊢
        generalize tailA (some ⟨g2, o2, none⟩) cap' k = A6 at P6 ⊢
        generalize cap - k = cap5
        generalize cap' - k = cap6
        generalize l.drop k = l5 at *
        generalize m.drop k = m5 at *
        have hwr5 : ∃ n, wr = w4.drewN n := hw.out
        clear hw hk
        go_loopg [8] l5.length (fun gj i w5 => ∃ j : Nat, i = .int .i64 j ∧ Kept (∃ n, w5 = w4.drewN n) ∧ Kept (j + gj = l5.length ∧ j ≤ m5.length ∧ j + comm (l5.reverse.drop j) (m5.reverse.drop j) = comm l5.reverse m5.reverse))
        case atStart =>
          refine ⟨0, rfl, ⟨?_⟩, ⟨by omega, Nat.zero_le _, Nat.zero_add _⟩⟩
          obtain ⟨n, rfl⟩ := hwr5
          exact ⟨_, by simp only [World.drewN_drewN]; rfl⟩
        case round =>
          obtain ⟨j, rfl, hw6, hj⟩ := hrel
          have hwr6 : Below w4.heap.size w4 wr := by obtain ⟨n, rfl⟩ := hw6.out; exact below_drewN (Below.refl _ _) n
          have jz : j < 2097152 := by have := hj.out; omega
          by_cases hgo5 : j < l5.length ∧ j < m5.length
          · have d1 : decide (j < l5.length) = true := decide_eq_true hgo5.1
            have d2 : decide (j < m5.length) = true := decide_eq_true hgo5.2
            have d1' : decide ((j : Int) < (l5.length : Int)) = true := decide_eq_true (by omega)
            have d2' : decide ((j : Int) < (m5.length : Int)) = true := decide_eq_true (by omega)
            have z1 : l5.length - 1 - j < l5.length := by omega
            have z2 : m5.length - 1 - j < m5.length := by omega
            obtain ⟨g5, o5, rfl, x1⟩ := P5 wr hwr6 (l5.length - 1 - j) z1
            obtain ⟨g6, o6, rfl, x2⟩ := P6 wr hwr6 (m5.length - 1 - j) z2
            have r1 : l5.reverse[j]'(by rw [List.length_reverse]; exact hgo5.1) = l5[l5.length - 1 - j] := by rw [List.getElem_reverse]
            have r2 : m5.reverse[j]'(by rw [List.length_reverse]; exact hgo5.2) = m5[m5.length - 1 - j] := by rw [List.getElem_reverse]
            have hst := comm_step l5.reverse m5.reverse j (by rw [List.length_reverse]; exact hgo5.1) (by rw [List.length_reverse]; exact hgo5.2)
            rw [r1, r2] at hst
            have i1 : IsNode wr l5[l5.length - 1 - j] := (N5 _ (List.getElem_mem z1)).below hwr6
            have i2 : IsNode wr m5[m5.length - 1 - j] := (N6 _ (List.getElem_mem z2)).below hwr6
            have e1 : IntKind.i64.wrap ((l5.length : Int) - 1) = (l5.length : Int) - 1 := IntWalk.i64_in _ (by omega)
            have e2 : IntKind.i64.wrap ((m5.length : Int) - 1) = (m5.length : Int) - 1 := IntWalk.i64_in _ (by omega)
            have e3 : IntKind.i64.wrap ((l5.length : Int) - 1 - (j : Int)) = ((l5.length - 1 - j : Nat) : Int) := by
              have : (l5.length : Int) - 1 - (j : Int) = ((l5.length - 1 - j : Nat) : Int) := by omega
              rw [this]
              exact IntWalk.i64_in _ (by omega)
            have e4 : IntKind.i64.wrap ((m5.length : Int) - 1 - (j : Int)) = ((m5.length - 1 - j : Nat) : Int) := by
              have : (m5.length : Int) - 1 - (j : Int) = ((m5.length - 1 - j : Nat) : Int) := by omega
              rw [this]
              exact IntWalk.i64_in _ (by omega)
            have q1 : decide (l5.length - 1 - j < l5.length) = true := decide_eq_true z1
            have q2 : decide (m5.length - 1 - j < m5.length) = true := decide_eq_true z2
            generalize l5[l5.length - 1 - j] = X at *
            generalize m5[m5.length - 1 - j] = Y at *
            have P := hj.out
            have HJ := Lib.hid P
            have HST := Lib.hid hst
            clear P hst r1 r2
            generalize l5.length - 1 - j = J5 at *
            generalize m5.length - 1 - j = J6 at *
            by_cases heq : X = Y
            · subst heq
              have sm := same_ptr
              go_wp2
              go_quiet (fail)
              go_wp2
              go_roundg (gk - 1)
              case measure => have := HJ.out; omega
              case rel =>
                have h1 := HJ.out
                have h2 := HST.out
                first | rw [if_pos rfl] at h2 | rw [if_pos True.intro] at h2
                refine ⟨j + 1, rfl, ⟨?_⟩, ⟨by omega, by omega, by omega⟩⟩
                obtain ⟨n, rfl⟩ := hw6.out
                exact ⟨_, World.drewN_drewN _ _ _⟩
            · have ot := other_ptr wr i1 i2 heq
              have ot' := fun n => other_ptr (wr.drewN n) i1 i2 heq
              have kj : (k : Int) + (j : Int) ≤ 4194304 := by omega
              go_wp2
              go_quiet (fail)
              go_wp2
              go_ret
              have h1 := HJ.out
              have h2 := HST.out
              rw [if_neg heq] at h2
              have h3 : shared l m = k + j := by rw [hsh, ← h1.2.2, h2]; rfl
              subst hl hm
              rw [h3]
              exact ⟨rfl, below_drewN (B4.trans (hwr6.mono B4.size)) _⟩
          · have hout := comm_out l5.reverse m5.reverse j (by rw [List.length_reverse, List.length_reverse]; omega)
            have h1 := hj.out
            have h3 : shared l m = k + j := by rw [hsh, ← h1.2.2, hout]; rfl
            have H3 := Lib.hid h3
            clear hsh h3 hout
            by_cases h6 : j < l5.length
            · have d1 : decide (j < l5.length) = true := decide_eq_true h6
              have d2 : decide (j < m5.length) = false := decide_eq_false (by omega)
              have d1' : decide ((j : Int) < (l5.length : Int)) = true := decide_eq_true (by omega)
              have d2' : decide ((j : Int) < (m5.length : Int)) = false := decide_eq_false (by omega)
              go_wp2
              go_quiet (fail)
              go_wp2
              go_ret
              subst hl hm
              rw [H3.out]
              exact ⟨rfl, below_drewN (B4.trans (hwr6.mono B4.size)) _⟩
            · have d1 : decide (j < l5.length) = false := decide_eq_false h6
              have d1' : decide ((j : Int) < (l5.length : Int)) = false := decide_eq_false (by omega)
              go_wp2
              go_quiet (fail)
              go_wp2
              go_ret
              subst hl hm
              rw [H3.out]
              exact ⟨rfl, below_drewN (B4.trans (hwr6.mono B4.size)) _⟩
    · have hout := comm_out l m k (by omega)
      by_cases h6 : k < l.length
      · have d1 : decide (k < l.length) = true := decide_eq_true h6
        have d2 : decide (k < m.length) = false := decide_eq_false (by omega)
        have d1' : decide ((k : Int) < (l.length : Int)) = true := decide_eq_true (by omega)
        have d2' : decide ((k : Int) < (m.length : Int)) = false := decide_eq_false (by omega)
        have hcm : comm l m = k := by
          have h1 := hk.out
          omega
        have rt1 := fun w => run_tail A l.length cap k (by have := hk.out; omega) c1 w
        have rt2 := fun w => run_tail A' m.length cap' k (by have := hk.out; omega) c2 w
        go_wp2
        go_quiet (fail)
        go_wp2
        go_quiet (fail)
        go_wp2
        have P5 := fun w' (hb : Below w4.heap.size w4 w') => (P1 w' hb).tail (cap := cap) k c1
        have P6 := fun w' (hb : Below w4.heap.size w4 w') => (P2 w' hb).tail (cap := cap') k c2
        have N5 : ∀ a ∈ l.drop k, IsNode w4 a := fun a ha => n1 a (List.mem_of_mem_drop ha)
        have N6 : ∀ a ∈ m.drop k, IsNode w4 a := fun a ha => n2 a (List.mem_of_mem_drop ha)
        have hl5 : (l.drop k).length ≤ 1048576 := by rw [List.length_drop]; omega
        have hm5 : (m.drop k).length ≤ 1048576 := by rw [List.length_drop]; omega
        have hsh : shared l m = k + comm (l.drop k).reverse (m.drop k).reverse := by unfold shared; rw [hcm]
        rw [← List.length_drop, ← List.length_drop]
        clear rt1 rt2 P1 P2 n1 n2
        generalize tailA A cap k = A5 at P5 ⊢
        generalize tailA A' cap' k = A6 at P6 ⊢
        generalize cap - k = cap5
        generalize cap' - k = cap6
        generalize l.drop k = l5 at *
        generalize m.drop k = m5 at *
        have hwr5 : ∃ n, wr = w4.drewN n := hw.out
        clear hw hk
        go_loopg [8] l5.length (fun gj i w5 => ∃ j : Nat, i = .int .i64 j ∧ Kept (∃ n, w5 = w4.drewN n) ∧ Kept (j + gj = l5.length ∧ j ≤ m5.length ∧ j + comm (l5.reverse.drop j) (m5.reverse.drop j) = comm l5.reverse m5.reverse))
        case atStart =>
          refine ⟨0, rfl, ⟨?_⟩, ⟨by omega, Nat.zero_le _, Nat.zero_add _⟩⟩
          obtain ⟨n, rfl⟩ := hwr5
          exact ⟨_, by simp only [World.drewN_drewN]; rfl⟩
        case round =>
          obtain ⟨j, rfl, hw6, hj⟩ := hrel
          have hwr6 : Below w4.heap.size w4 wr := by obtain ⟨n, rfl⟩ := hw6.out; exact below_drewN (Below.refl _ _) n
          have jz : j < 2097152 := by have := hj.out; omega
          by_cases hgo5 : j < l5.length ∧ j < m5.length
          · have d1 : decide (j < l5.length) = true := decide_eq_true hgo5.1
            have d2 : decide (j < m5.length) = true := decide_eq_true hgo5.2
            have d1' : decide ((j : Int) < (l5.length : Int)) = true := decide_eq_true (by omega)
            have d2' : decide ((j : Int) < (m5.length : Int)) = true := decide_eq_true (by omega)
            have z1 : l5.length - 1 - j < l5.length := by omega
            have z2 : m5.length - 1 - j < m5.length := by omega
            obtain ⟨g5, o5, rfl, x1⟩ := P5 wr hwr6 (l5.length - 1 - j) z1
            obtain ⟨g6, o6, rfl, x2⟩ := P6 wr hwr6 (m5.length - 1 - j) z2
            have r1 : l5.reverse[j]'(by rw [List.length_reverse]; exact hgo5.1) = l5[l5.length - 1 - j] := by rw [List.getElem_reverse]
            have r2 : m5.reverse[j]'(by rw [List.length_reverse]; exact hgo5.2) = m5[m5.length - 1 - j] := by rw [List.getElem_reverse]
            have hst := comm_step l5.reverse m5.reverse j (by rw [List.length_reverse]; exact hgo5.1) (by rw [List.length_reverse]; exact hgo5.2)
            rw [r1, r2] at hst
            have i1 : IsNode wr l5[l5.length - 1 - j] := (N5 _ (List.getElem_mem z1)).below hwr6
            have i2 : IsNode wr m5[m5.length - 1 - j] := (N6 _ (List.getElem_mem z2)).below hwr6
            have e1 : IntKind.i64.wrap ((l5.length : Int) - 1) = (l5.length : Int) - 1 := IntWalk.i64_in _ (by omega)
            have e2 : IntKind.i64.wrap ((m5.length : Int) - 1) = (m5.length : Int) - 1 := IntWalk.i64_in _ (by omega)
            have e3 : IntKind.i64.wrap ((l5.length : Int) - 1 - (j : Int)) = ((l5.length - 1 - j : Nat) : Int) := by
              have : (l5.length : Int) - 1 - (j : Int) = ((l5.length - 1 - j : Nat) : Int) := by omega
              rw [this]
              exact IntWalk.i64_in _ (by omega)
            have e4 : IntKind.i64.wrap ((m5.length : Int) - 1 - (j : Int)) = ((m5.length - 1 - j : Nat) : Int) := by
              have : (m5.length : Int) - 1 - (j : Int) = ((m5.length - 1 - j : Nat) : Int) := by omega
              rw [this]
              exact IntWalk.i64_in _ (by omega)
            have q1 : decide (l5.length - 1 - j < l5.length) = true := decide_eq_true z1
            have q2 : decide (m5.length - 1 - j < m5.length) = true := decide_eq_true z2
            generalize l5[l5.length - 1 - j] = X at *
            generalize m5[m5.length - 1 - j] = Y at *
            have P := hj.out
            have HJ := Lib.hid P
            have HST := Lib.hid hst
            clear P hst r1 r2
            generalize l5.length - 1 - j = J5 at *
            generalize m5.length - 1 - j = J6 at *
            by_cases heq : X = Y
            · subst heq
              have sm := same_ptr
              go_wp2
              go_quiet (fail)
              go_wp2
              go_roundg (gk - 1)
              case measure => have := HJ.out; omega
              case rel =>
                have h1 := HJ.out
                have h2 := HST.out
                first | rw [if_pos rfl] at h2 | rw [if_pos True.intro] at h2
                refine ⟨j + 1, rfl, ⟨?_⟩, ⟨by omega, by omega, by omega⟩⟩
                obtain ⟨n, rfl⟩ := hw6.out
                exact ⟨_, World.drewN_drewN _ _ _⟩
            · have ot := other_ptr wr i1 i2 heq
              have ot' := fun n => other_ptr (wr.drewN n) i1 i2 heq
              have kj : (k : Int) + (j : Int) ≤ 4194304 := by omega
              go_wp2
              go_quiet (fail)
              go_wp2
              go_ret
              have h1 := HJ.out
              have h2 := HST.out
              rw [if_neg heq] at h2
              have h3 : shared l m = k + j := by rw [hsh, ← h1.2.2, h2]; rfl
              subst hl hm
              rw [h3]
              exact ⟨rfl, below_drewN (B4.trans (hwr6.mono B4.size)) _⟩
          · have hout := comm_out l5.reverse m5.reverse j (by rw [List.length_reverse, List.length_reverse]; omega)
            have h1 := hj.out
            have h3 : shared l m = k + j := by rw [hsh, ← h1.2.2, hout]; rfl
            have H3 := Lib.hid h3
            clear hsh h3 hout
            by_cases h6 : j < l5.length
            · have d1 : decide (j < l5.length) = true := decide_eq_true h6
              have d2 : decide (j < m5.length) = false := decide_eq_false (by omega)
              have d1' : decide ((j : Int) < (l5.length : Int)) = true := decide_eq_true (by omega)
              have d2' : decide ((j : Int) < (m5.length : Int)) = false := decide_eq_false (by omega)
              go_wp2
              go_quiet (fail)
              go_wp2
              go_ret
              subst hl hm
              rw [H3.out]
              exact ⟨rfl, below_drewN (B4.trans (hwr6.mono B4.size)) _⟩
            · have d1 : decide (j < l5.length) = false := decide_eq_false h6
              have d1' : decide ((j : Int) < (l5.length : Int)) = false := decide_eq_false (by omega)
              go_wp2
              go_quiet (fail)
              go_wp2
              go_ret
              subst hl hm
              rw [H3.out]
              exact ⟨rfl, below_drewN (B4.trans (hwr6.mono B4.size)) _⟩
      · have d1 : decide (k < l.length) = false := decide_eq_false h6
        have d1' : decide ((k : Int) < (l.length : Int)) = false := decide_eq_false (by omega)
        have hcm : comm l m = k := by
          have h1 := hk.out
          omega
        have rt1 := fun w => run_tail A l.length cap k (by have := hk.out; omega) c1 w
        have rt2 := fun w => run_tail A' m.length cap' k (by have := hk.out; omega) c2 w
        go_wp2
        go_quiet (fail)
        go_wp2
        go_quiet (fail)
        go_wp2
        have P5 := fun w' (hb : Below w4.heap.size w4 w') => (P1 w' hb).tail (cap := cap) k c1
        have P6 := fun w' (hb : Below w4.heap.size w4 w') => (P2 w' hb).tail (cap := cap') k c2
        have N5 : ∀ a ∈ l.drop k, IsNode w4 a := fun a ha => n1 a (List.mem_of_mem_drop ha)
        have N6 : ∀ a ∈ m.drop k, IsNode w4 a := fun a ha => n2 a (List.mem_of_mem_drop ha)
        have hl5 : (l.drop k).length ≤ 1048576 := by rw [List.length_drop]; omega
        have hm5 : (m.drop k).length ≤ 1048576 := by rw [List.length_drop]; omega
        have hsh : shared l m = k + comm (l.drop k).reverse (m.drop k).reverse := by unfold shared; rw [hcm]
        rw [← List.length_drop, ← List.length_drop]
        clear rt1 rt2 P1 P2 n1 n2
        generalize tailA A cap k = A5 at P5 ⊢
        generalize tailA A' cap' k = A6 at P6 ⊢
        generalize cap - k = cap5
        generalize cap' - k = cap6
        generalize l.drop k = l5 at *
        generalize m.drop k = m5 at *
        have hwr5 : ∃ n, wr = w4.drewN n := hw.out
        clear hw hk
        go_loopg [8] l5.length (fun gj i w5 => ∃ j : Nat, i = .int .i64 j ∧ Kept (∃ n, w5 = w4.drewN n) ∧ Kept (j + gj = l5.length ∧ j ≤ m5.length ∧ j + comm (l5.reverse.drop j) (m5.reverse.drop j) = comm l5.reverse m5.reverse))
        case atStart =>
          refine ⟨0, rfl, ⟨?_⟩, ⟨by omega, Nat.zero_le _, Nat.zero_add _⟩⟩
          obtain ⟨n, rfl⟩ := hwr5
          exact ⟨_, by simp only [World.drewN_drewN]; rfl⟩
        case round =>
          obtain ⟨j, rfl, hw6, hj⟩ := hrel
          have hwr6 : Below w4.heap.size w4 wr := by obtain ⟨n, rfl⟩ := hw6.out; exact below_drewN (Below.refl _ _) n
          have jz : j < 2097152 := by have := hj.out; omega
          by_cases hgo5 : j < l5.length ∧ j < m5.length
          · have d1 : decide (j < l5.length) = true := decide_eq_true hgo5.1
            have d2 : decide (j < m5.length) = true := decide_eq_true hgo5.2
            have d1' : decide ((j : Int) < (l5.length : Int)) = true := decide_eq_true (by omega)
            have d2' : decide ((j : Int) < (m5.length : Int)) = true := decide_eq_true (by omega)
            have z1 : l5.length - 1 - j < l5.length := by omega
            have z2 : m5.length - 1 - j < m5.length := by omega
            obtain ⟨g5, o5, rfl, x1⟩ := P5 wr hwr6 (l5.length - 1 - j) z1
            obtain ⟨g6, o6, rfl, x2⟩ := P6 wr hwr6 (m5.length - 1 - j) z2
            have r1 : l5.reverse[j]'(by rw [List.length_reverse]; exact hgo5.1) = l5[l5.length - 1 - j] := by rw [List.getElem_reverse]
            have r2 : m5.reverse[j]'(by rw [List.length_reverse]; exact hgo5.2) = m5[m5.length - 1 - j] := by rw [List.getElem_reverse]
            have hst := comm_step l5.reverse m5.reverse j (by rw [List.length_reverse]; exact hgo5.1) (by rw [List.length_reverse]; exact hgo5.2)
            rw [r1, r2] at hst
            have i1 : IsNode wr l5[l5.length - 1 - j] := (N5 _ (List.getElem_mem z1)).below hwr6
            have i2 : IsNode wr m5[m5.length - 1 - j] := (N6 _ (List.getElem_mem z2)).below hwr6
            have e1 : IntKind.i64.wrap ((l5.length : Int) - 1) = (l5.length : Int) - 1 := IntWalk.i64_in _ (by omega)
            have e2 : IntKind.i64.wrap ((m5.length : Int) - 1) = (m5.length : Int) - 1 := IntWalk.i64_in _ (by omega)
            have e3 : IntKind.i64.wrap ((l5.length : Int) - 1 - (j : Int)) = ((l5.length - 1 - j : Nat) : Int) := by
              have : (l5.length : Int) - 1 - (j : Int) = ((l5.length - 1 - j : Nat) : Int) := by omega
              rw [this]
              exact IntWalk.i64_in _ (by omega)
            have e4 : IntKind.i64.wrap ((m5.length : Int) - 1 - (j : Int)) = ((m5.length - 1 - j : Nat) : Int) := by
              have : (m5.length : Int) - 1 - (j : Int) = ((m5.length - 1 - j : Nat) : Int) := by omega
              rw [this]
              exact IntWalk.i64_in _ (by omega)
            have q1 : decide (l5.length - 1 - j < l5.length) = true := decide_eq_true z1
            have q2 : decide (m5.length - 1 - j < m5.length) = true := decide_eq_true z2
            generalize l5[l5.length - 1 - j] = X at *
            generalize m5[m5.length - 1 - j] = Y at *
            have P := hj.out
            have HJ := Lib.hid P
            have HST := Lib.hid hst
            clear P hst r1 r2
            generalize l5.length - 1 - j = J5 at *
            generalize m5.length - 1 - j = J6 at *
            by_cases heq : X = Y
            · subst heq
              have sm := same_ptr
              go_wp2
              go_quiet (fail)
              go_wp2
              go_roundg (gk - 1)
              case measure => have := HJ.out; omega
              case rel =>
                have h1 := HJ.out
                have h2 := HST.out
                first | rw [if_pos rfl] at h2 | rw [if_pos True.intro] at h2
                refine ⟨j + 1, rfl, ⟨?_⟩, ⟨by omega, by omega, by omega⟩⟩
                obtain ⟨n, rfl⟩ := hw6.out
                exact ⟨_, World.drewN_drewN _ _ _⟩
            · have ot := other_ptr wr i1 i2 heq
              have ot' := fun n => other_ptr (wr.drewN n) i1 i2 heq
              have kj : (k : Int) + (j : Int) ≤ 4194304 := by omega
              go_wp2
              go_quiet (fail)
              go_wp2
              go_ret
              have h1 := HJ.out
              have h2 := HST.out
              rw [if_neg heq] at h2
              have h3 : shared l m = k + j := by rw [hsh, ← h1.2.2, h2]; rfl
              subst hl hm
              rw [h3]
              exact ⟨rfl, below_drewN (B4.trans (hwr6.mono B4.size)) _⟩
          · have hout := comm_out l5.reverse m5.reverse j (by rw [List.length_reverse, List.length_reverse]; omega)
            have h1 := hj.out
            have h3 : shared l m = k + j := by rw [hsh, ← h1.2.2, hout]; rfl
            have H3 := Lib.hid h3
            clear hsh h3 hout
            by_cases h6 : j < l5.length
            · have d1 : decide (j < l5.length) = true := decide_eq_true h6
              have d2 : decide (j < m5.length) = false := decide_eq_false (by omega)
              have d1' : decide ((j : Int) < (l5.length : Int)) = true := decide_eq_true (by omega)
              have d2' : decide ((j : Int) < (m5.length : Int)) = false := decide_eq_false (by omega)
              go_wp2
              go_quiet (fail)
              go_wp2
              go_ret
              subst hl hm
              rw [H3.out]
              exact ⟨rfl, below_drewN (B4.trans (hwr6.mono B4.size)) _⟩
            · have d1 : decide (j < l5.length) = false := decide_eq_false h6
              have d1' : decide ((j : Int) < (l5.length : Int)) = false := decide_eq_false (by omega)
              go_wp2
              go_quiet (fail)
              go_wp2
              go_ret
              subst hl hm
              rw [H3.out]
              exact ⟨rfl, below_drewN (B4.trans (hwr6.mono B4.size)) _⟩
end Go.Proofs.Ythjbkiomnipjiaa
