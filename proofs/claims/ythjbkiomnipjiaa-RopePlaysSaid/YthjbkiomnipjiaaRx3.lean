/- The rope's slice and Slice, walked: the bytes of a stretch. The rope's Leaves, walked: the leaves' texts, in a slice of the call's own. What the rope's trees are of a text: the bytes behind build, split, join and Splice; balance; how high a tree is at most. No program. What the rope's tree tells of places is what its text tells: line ends ahead of a place, a line's begin, a byte. No program. The rope's methods, told of the text that a rope is of. The laws' example (alive), walked: it comes out. The helpers that the rope's laws call, told plainly: the references' and the program's lines and edits. -/
import Derived.Test.YthjbkiomnipjiaaRx2
set_option linter.unusedVariables false
set_option linter.unusedSimpArgs false
namespace Go.Proofs.Ythjbkiomnipjiaa
open Go Go.RowKit Go.Shelf
/-- the bytes from one place up to another -/
def cutB (l : List UInt8) (a b : Nat) : List UInt8 := (l.take b).drop a
theorem cutB_none (l : List UInt8) (a b : Nat) (h : b ≤ a) : cutB l a b = [] := by
  unfold cutB
  exact List.drop_eq_nil_of_le (Nat.le_trans (List.length_take_le _ _) h)
theorem cutB_append (x y : List UInt8) (a b : Nat) : cutB (x ++ y) a b = cutB x a (min b x.length) ++ cutB y (a - x.length) (b - x.length) := by
  unfold cutB
  rw [List.take_append, List.drop_append, List.length_take]
  by_cases h : b ≤ x.length
  · rw [Nat.min_eq_left h, Nat.sub_eq_zero_of_le h]
    simp
  · rw [Nat.min_eq_right (by omega), List.take_of_length_le (Nat.le_refl _), List.take_of_length_le (by omega : x.length ≤ b)]
theorem cutB_length (l : List UInt8) (a b : Nat) : (cutB l a b).length ≤ b - a := by
  unfold cutB
  rw [List.length_drop, List.length_take]
  omega
theorem cutB_extract (s : ByteArray) (a b : Nat) : (s.extract a b).data.toList = cutB s.data.toList a b := by
  rw [ByteArray.data_extract, Array.toList_extract, List.extract_eq_take_drop]
  unfold cutB
  rw [List.drop_take]
/-- a subtree's bytes -/
def Sh.bytes (t : Sh) : List UInt8 := lvBytes t.lv
theorem Sh.bytes_node (l r : Sh) : (Sh.node l r).bytes = l.bytes ++ r.bytes := lvBytes_append _ _
theorem Sh.bytes_leaf (b : Nat) (s : ByteArray) : (Sh.leaf b s).bytes = s.data.toList := by simp [Sh.bytes, Sh.lv, lvBytes]
theorem Sh.bytes_length : ∀ t : Sh, t.bytes.length = t.size
  | .leaf b s => by rw [Sh.bytes_leaf]; simp [Sh.size, ← ByteArray.size_data]
  | .node l r => by rw [Sh.bytes_node, List.length_append, Sh.bytes_length l, Sh.bytes_length r]; rfl
def Sliced (w0 : World) (bs : List UInt8) (w : World) : Prop := Lib.IsBuilder 86 5 w0.heap.size w0.heap.size (Lib.byteCells bs) w ∧ Below w0.heap.size w0 w
theorem run_cut (s : ByteArray) (x y : Nat) (hxy : x ≤ y) (hy : y ≤ s.size) (w : World) : (Instr.slice 9 (.string s) (some (.int .i64 x)) (some (.int .i64 y)) none).run Try.prog w = .ok (.string (s.extract x y)) w := by
  simp [Instr.slice, run_underlying Try.underlying9, Instr.sliceBounds, run_sliceBound, hxy, hy, go_sem]
theorem slice_none (p : Addr) (t : Option Nd) (a b : Nat) (h : t = none ∨ b ≤ a) (w : World) : Calls Try.prog 52 #[.pointer (some p), optPtr t, .int .i64 a, .int .i64 b] w fun e w' => e = .returned (.tuple #[]) ∧ w = w' := by
  cases t with
  | none =>
    rw [optPtr_none]
    go_enter Try.func52, Try.ntmps52
    go_wp2
    go_end0
    exact ⟨rfl, rfl⟩
  | some t =>
    have hab : b ≤ a := by
      rcases h with h | h
      · exact absurd h (by simp)
      · exact h
    have d1 : decide (b ≤ a) = true := decide_eq_true hab
    rw [optPtr_some]
    go_enter Try.func52, Try.ntmps52
    go_wp2
    go_end0
    exact ⟨rfl, rfl⟩
set_option maxRecDepth 100000 in
theorem slice_leaf (w0 : World) (b : Nat) (s : ByteArray) (it : (Nd.leaf b s).In w0) (bs : List UInt8) (w : World) (x y : Nat) (hd : Sliced w0 bs w) (hxy : x < y) (hy : y ≤ s.size) (hl : bs.length + (y - x) ≤ 1048576) :
    Calls Try.prog 52 #[.pointer (some ⟨w0.heap.size, 0, none⟩), .pointer (some ⟨b, 0, none⟩), .int .i64 x, .int .i64 y] w fun e w' => e = .returned (.tuple #[]) ∧ Sliced w0 (bs ++ cutB s.data.toList x y) w' := by
  have c0 : w.cell? ⟨b, 0, none⟩ = some (.pointer none) := (hd.2.cell (p := ⟨b, 0, none⟩) it.lt).trans it.c0
  have c2 : w.cell? ⟨b, 2, none⟩ = some (.string s) := (hd.2.cell (p := ⟨b, 2, none⟩) it.lt).trans it.c2
  have hl' : (Lib.byteCells bs).length + (s.extract x y).size ≤ 140737488355328 := by
    rw [Lib.byteCells_length, ByteArray.size_extract]
    omega
  have hw := write_string w0.heap.size w0.heap.size _ (s.extract x y) w hd.1 hl' hd.2.size
  have d1 : decide (y ≤ x) = false := decide_eq_false (by omega)
  clear hl' hl
  have hcut := run_cut s x y (by omega) hy w
  go_enter Try.func52, Try.ntmps52
  go_wp2_with (go_at_call 46; refine hw.mono ?_; rintro e w1 ⟨rfl, h1, b1⟩)
  go_end0
  refine ⟨rfl, Or.inr ?_, hd.2.trans b1⟩
  rw [Lib.byteCells_append, ← cutB_extract, ← Lib.strCells_eq]
  exact h1
/-- what a call that hands nothing back does -/
def Unit1 (Q : World → Prop) (e : Ending) (w : World) : Prop := e = .returned (.tuple #[]) ∧ Q w
set_option maxRecDepth 100000 in
theorem slice_left (p : Addr) (b la m x y : Nat) (w : World) (c0 : w.cell? ⟨b, 0, none⟩ = some (.pointer (some ⟨la, 0, none⟩))) (c3 : w.cell? ⟨la, 3, none⟩ = some (.int .i64 m)) (hxy : x < y) (hym : y ≤ m) (hm : m ≤ 1048576) (Q : World → Prop)
    (hL : Calls Try.prog 52 #[.pointer (some p), .pointer (some ⟨la, 0, none⟩), .int .i64 x, .int .i64 y] w (Unit1 Q)) :
    Calls Try.prog 52 #[.pointer (some p), .pointer (some ⟨b, 0, none⟩), .int .i64 x, .int .i64 y] w (Unit1 Q) := by
  have d1 : decide (y ≤ x) = false := decide_eq_false (by omega)
  have d2 : decide (x < m) = true := decide_eq_true (by omega)
  have d3 : decide (m < y) = false := decide_eq_false (by omega)
  have e1 : min (y : Int) (m : Int) = (y : Int) := by omega
  have HL := Lib.hid hL
  clear hL
  go_enter Try.func52, Try.ntmps52
  go_wp2_with (go_at_call 52; (with_reducible refine HL.out.mono ?_); rintro e w1 ⟨rfl, h1⟩)
  go_end0
  exact ⟨rfl, h1⟩
set_option maxRecDepth 100000 in
theorem slice_right (p : Addr) (b la ra m x y : Nat) (w : World) (c0 : w.cell? ⟨b, 0, none⟩ = some (.pointer (some ⟨la, 0, none⟩))) (c1 : w.cell? ⟨b, 1, none⟩ = some (.pointer (some ⟨ra, 0, none⟩))) (c3 : w.cell? ⟨la, 3, none⟩ = some (.int .i64 m)) (hxy : x < y) (hym : m ≤ x) (hy : y ≤ 1048576) (Q : World → Prop)
    (hL : Calls Try.prog 52 #[.pointer (some p), .pointer (some ⟨ra, 0, none⟩), .int .i64 ((x - m : Nat) : Int), .int .i64 ((y - m : Nat) : Int)] w (Unit1 Q)) :
    Calls Try.prog 52 #[.pointer (some p), .pointer (some ⟨b, 0, none⟩), .int .i64 x, .int .i64 y] w (Unit1 Q) := by
  have d1 : decide (y ≤ x) = false := decide_eq_false (by omega)
  have d2 : decide (x < m) = false := decide_eq_false (by omega)
  have d3 : decide (m < y) = true := decide_eq_true (by omega)
  rw [Int.ofNat_sub hym, Int.ofNat_sub (by omega)] at hL
  have e1 : max ((x : Int) - (m : Int)) 0 = (x : Int) - (m : Int) := by omega
  have HL := Lib.hid hL
  clear hL
  go_enter Try.func52, Try.ntmps52
  go_wp2_with (go_at_call 52; (with_reducible refine HL.out.mono ?_); rintro e w1 ⟨rfl, h1⟩)
  go_end0
  exact ⟨rfl, h1⟩
set_option maxRecDepth 100000 in
theorem slice_both (p : Addr) (b la ra m x y : Nat) (w : World) (c0 : w.cell? ⟨b, 0, none⟩ = some (.pointer (some ⟨la, 0, none⟩))) (c3 : w.cell? ⟨la, 3, none⟩ = some (.int .i64 m)) (hxm : x < m) (hmy : m < y) (hy : y ≤ 1048576) (Q R : World → Prop)
    (c1 : ∀ w, R w → w.cell? ⟨b, 1, none⟩ = some (.pointer (some ⟨ra, 0, none⟩)))
    (hL : Calls Try.prog 52 #[.pointer (some p), .pointer (some ⟨la, 0, none⟩), .int .i64 x, .int .i64 m] w (Unit1 R))
    (hR : ∀ w1, R w1 → Calls Try.prog 52 #[.pointer (some p), .pointer (some ⟨ra, 0, none⟩), .int .i64 0, .int .i64 ((y - m : Nat) : Int)] w1 (Unit1 Q)) :
    Calls Try.prog 52 #[.pointer (some p), .pointer (some ⟨b, 0, none⟩), .int .i64 x, .int .i64 y] w (Unit1 Q) := by
  have d1 : decide (y ≤ x) = false := decide_eq_false (by omega)
  have d2 : decide (x < m) = true := decide_eq_true (by omega)
  have d3 : decide (m < y) = true := decide_eq_true (by omega)
  rw [Int.ofNat_sub (by omega)] at hR
  have e1 : max ((x : Int) - (m : Int)) 0 = 0 := by omega
  have e2 : min (y : Int) (m : Int) = (m : Int) := by omega
  have HL := Lib.hid hL
  have HR := Lib.hid hR
  have K1 := Lib.hid c1
  clear hL hR c1
  go_enter Try.func52, Try.ntmps52
  go_wp2_with (first
    | (go_at_call 52; (with_reducible refine HL.out.mono ?_); rintro e w1 ⟨rfl, h1⟩; have k1 := K1.out w1 h1)
    | (go_at_call 52; (with_reducible refine (HR.out _ h1).mono ?_); rintro e w2 ⟨rfl, h2⟩))
  go_end0
  exact ⟨rfl, h2⟩
theorem cutB_le (x : List UInt8) (a b : Nat) (h : x.length ≤ b) : cutB x a b = cutB x a x.length := by
  unfold cutB
  rw [List.take_of_length_le h, List.take_of_length_le (Nat.le_refl _)]
theorem Sliced.mk {w0 w : World} {bs : List UInt8} (h : Sliced w0 bs w) : Sliced w0 (bs ++ []) w := by rw [List.append_nil]; exact h
theorem slice_some (w0 : World) : ∀ (t : Nd) (x y : Nat) (bs : List UInt8) (w : World), t.In w0 → t.sh.size ≤ 1048576 → Sliced w0 bs w → y ≤ t.sh.size → bs.length + (y - x) ≤ 1048576 →
    Calls Try.prog 52 #[.pointer (some ⟨w0.heap.size, 0, none⟩), .pointer (some ⟨t.addr, 0, none⟩), .int .i64 x, .int .i64 y] w (Unit1 (Sliced w0 (bs ++ cutB t.sh.bytes x y))) := by
  intro t
  induction t with
  | leaf b s =>
    intro x y bs w it hz hd hy hl
    by_cases hxy : x < y
    · have := slice_leaf w0 b s it bs w x y hd hxy hy hl
      show Calls Try.prog 52 _ w (Unit1 (Sliced w0 (bs ++ cutB (Sh.leaf b s).bytes x y)))
      rw [Sh.bytes_leaf]
      exact this
    · refine (slice_none _ (some (Nd.leaf b s)) x y (Or.inr (by omega)) w).mono ?_
      rintro e w1 ⟨rfl, rfl⟩
      rw [cutB_none _ _ _ (by omega)]
      exact ⟨rfl, hd.mk⟩
  | node b l r ihl ihr =>
    intro x y bs w it hz hd hy hl
    by_cases hxy : x < y
    · have c0 : ∀ w, Sliced w0 bs w → w.cell? ⟨b, 0, none⟩ = some (.pointer (some ⟨l.addr, 0, none⟩)) := fun w hd => (hd.2.cell (p := ⟨b, 0, none⟩) it.lt).trans it.c0
      have c1 : ∀ bs w, Sliced w0 bs w → w.cell? ⟨b, 1, none⟩ = some (.pointer (some ⟨r.addr, 0, none⟩)) := fun bs w hd => (hd.2.cell (p := ⟨b, 1, none⟩) it.lt).trans it.c1
      have c3 : ∀ w, Sliced w0 bs w → w.cell? ⟨l.addr, 3, none⟩ = some (.int .i64 l.sh.size) := fun w hd => (hd.2.cell (p := ⟨l.addr, 3, none⟩) it.2.1.lt).trans it.2.1.c3
      have hz' : l.sh.size + r.sh.size ≤ 1048576 := hz
      have hy' : y ≤ l.sh.size + r.sh.size := hy
      have eb : (Nd.node b l r).sh.bytes = l.sh.bytes ++ r.sh.bytes := Sh.bytes_node _ _
      have ll := l.sh.bytes_length
      rw [addr_node, eb, cutB_append, ll]
      by_cases hxm : x < l.sh.size
      · by_cases hym : y ≤ l.sh.size
        · rw [Nat.min_eq_left hym, cutB_none r.sh.bytes _ _ (by omega), List.append_nil]
          exact slice_left _ b l.addr l.sh.size x y w (c0 w hd) (c3 w hd) hxy hym (by omega) _ (ihl x y bs w it.2.1 (by omega) hd hym hl)
        · rw [Nat.min_eq_right (by omega), Nat.sub_eq_zero_of_le (Nat.le_of_lt hxm), ← List.append_assoc]
          have hc := cutB_length l.sh.bytes x l.sh.size
          refine slice_both _ b l.addr r.addr l.sh.size x y w (c0 w hd) (c3 w hd) hxm (by omega) (by omega) _ (Sliced w0 (bs ++ cutB l.sh.bytes x l.sh.size)) (c1 _) (ihl x l.sh.size bs w it.2.1 (by omega) hd (Nat.le_refl _) (by omega)) ?_
          intro w1 hd1
          refine ihr 0 (y - l.sh.size) _ w1 it.2.2 (by omega) hd1 (by omega) ?_
          rw [List.length_append]
          omega
      · rw [Nat.min_eq_right (by omega), cutB_none l.sh.bytes _ _ (by omega), List.nil_append]
        exact slice_right _ b l.addr r.addr l.sh.size x y w (c0 w hd) (c1 _ w hd) (c3 w hd) hxy (by omega) (by omega) _ (ihr (x - l.sh.size) (y - l.sh.size) bs w it.2.2 (by omega) hd (by omega) (by omega))
    · refine (slice_none _ (some (Nd.node b l r)) x y (Or.inr (by omega)) w).mono ?_
      rintro e w1 ⟨rfl, rfl⟩
      rw [cutB_none _ _ _ (by omega)]
      exact ⟨rfl, hd.mk⟩
def optBytes (t : Option Nd) : List UInt8 := lvBytes (optLv t)
theorem slice_opt (w0 : World) (t : Option Nd) (x y : Nat) (w : World) (it : optIn w0 t) (hz : optSize t ≤ 1048576) (hd : Sliced w0 [] w) (hy : y ≤ optSize t) :
    Calls Try.prog 52 #[.pointer (some ⟨w0.heap.size, 0, none⟩), optPtr t, .int .i64 x, .int .i64 y] w (Unit1 (Sliced w0 (cutB (optBytes t) x y))) := by
  cases t with
  | none =>
    refine (slice_none _ none x y (Or.inl rfl) w).mono ?_
    rintro e w1 ⟨rfl, rfl⟩
    have e : cutB (optBytes none) x y = [] := by simp [optBytes, optLv, lvBytes, cutB]
    rw [e]
    exact ⟨rfl, hd⟩
  | some t =>
    have h1 : t.sh.size ≤ 1048576 := hz
    have h2 : y ≤ t.sh.size := hy
    exact slice_some w0 t x y [] w it hz hd hy (by simp only [List.length_nil]; omega)
theorem slice_bad (g : Nat) (t : Option Nd) (f e : Int) (w : World) (h : Rope w g t) (hk : f < 0 ∨ e < f ∨ (optSize t : Int) < e) :
    Calls Try.prog 21 #[.pointer (some ⟨g, 0, none⟩), .agg #[.int .i64 f, .int .i64 e]] w fun en w' => en = .returned (.tuple #[.string ⟨#[]⟩, .int .i64 4]) ∧ Below w.heap.size w w' := by
  have h1 := h.alloc (.cells #[.int .i64 f, .int .i64 e] 45)
  have b1 : Below w.heap.size w (w.alloc (.cells #[.int .i64 f, .int .i64 e] 45)) := (Below.refl _ _).alloc (Nat.le_refl _) _
  have l0 : (w.alloc (.cells #[.int .i64 f, .int .i64 e] 45)).cell? ⟨w.heap.size, 0, none⟩ = some (.int .i64 f) := by (unfold World.cell?; rw [alloc_here]; rfl)
  have l1 : (w.alloc (.cells #[.int .i64 f, .int .i64 e] 45)).cell? ⟨w.heap.size, 1, none⟩ = some (.int .i64 e) := by (unfold World.cell?; rw [alloc_here]; rfl)
  have ht := there_yes g t _ h1
  have hl := len_q g t _ h1
  by_cases h0 : f < 0
  · have d1 : decide (f < 0) = true := decide_eq_true h0
    go_enter Try.func21, Try.ntmps21
    go_wp2_with (first | (go_at_call 48; refine ht.mono ?_; rintro en w1 ⟨rfl, rfl⟩))
    go_quiet (fail)
    go_wp2
    go_ret2
    exact ⟨rfl, below_drewN b1 _⟩
  · have d1 : decide (f < 0) = false := decide_eq_false h0
    by_cases h2 : e < f
    · have d2 : decide (e < f) = true := decide_eq_true h2
      go_enter Try.func21, Try.ntmps21
      go_wp2_with (first | (go_at_call 48; refine ht.mono ?_; rintro en w1 ⟨rfl, rfl⟩))
      go_quiet (fail)
      go_wp2
      go_ret2
      exact ⟨rfl, below_drewN b1 _⟩
    · have d2 : decide (e < f) = false := decide_eq_false h2
      have d3 : decide ((optSize t : Int) < e) = true := decide_eq_true (by omega)
      go_enter Try.func21, Try.ntmps21
      go_wp2_with (first | (go_at_call 48; refine ht.mono ?_; rintro en w1 ⟨rfl, rfl⟩))
      go_quiet ((go_at_call 29; exact Calls.quiet_of_same (hl _)))
      go_wp2
      go_ret2
      exact ⟨rfl, below_drewN b1 _⟩
theorem slice_ok (g : Nat) (t : Option Nd) (f e : Nat) (w : World) (h : Rope w g t) (hz : optSize t ≤ 1048576) (h1 : f ≤ e) (h2 : e ≤ optSize t) :
    Calls Try.prog 21 #[.pointer (some ⟨g, 0, none⟩), .agg #[.int .i64 f, .int .i64 e]] w fun en w' => en = .returned (.tuple #[.string ⟨(cutB (optBytes t) f e).toArray⟩, .int .i64 0]) ∧ Below w.heap.size w w' := by
  have r1 := h.alloc (.cells #[.int .i64 f, .int .i64 e] 45)
  have b1 : Below w.heap.size w (w.alloc (.cells #[.int .i64 f, .int .i64 e] 45)) := (Below.refl _ _).alloc (Nat.le_refl _) _
  have l0 : (w.alloc (.cells #[.int .i64 f, .int .i64 e] 45)).cell? ⟨w.heap.size, 0, none⟩ = some (.int .i64 f) := by (unfold World.cell?; rw [alloc_here]; rfl)
  have l1 : (w.alloc (.cells #[.int .i64 f, .int .i64 e] 45)).cell? ⟨w.heap.size, 1, none⟩ = some (.int .i64 e) := by (unfold World.cell?; rw [alloc_here]; rfl)
  have ht := there_yes g t _ r1
  have hl := len_q g t _ r1
  have d1 : decide ((f : Int) < 0) = false := decide_eq_false (by omega)
  have d2 : decide ((e : Int) < (f : Int)) = false := decide_eq_false (by omega)
  have d3 : decide ((optSize t : Int) < (e : Int)) = false := decide_eq_false (by omega)
  have d4 : decide (e < f) = false := decide_eq_false (by omega)
  have d5 : decide (optSize t < e) = false := decide_eq_false (by omega)
  go_enter Try.func21, Try.ntmps21
  go_wp2_with (first | (go_at_call 48; refine ht.mono ?_; rintro en w1 ⟨rfl, rfl⟩))
  go_quiet ((go_at_call 29; exact Calls.quiet_of_same (hl _)))
  clear ht hl
  have hlt : w.heap.size < (w.alloc (.cells #[.int .i64 f, .int .i64 e] 45)).heap.size := by rw [show (w.alloc (.cells #[.int .i64 f, .int .i64 e] 45)).heap.size = w.heap.size + 1 from Array.size_push _]; omega
  generalize hw1 : World.drewN (w.alloc (.cells #[.int .i64 f, .int .i64 e] 45)) _ = w1
  have r2 : Rope w1 g t := hw1 ▸ r1.drew _
  have b2 : Below w.heap.size w w1 := hw1 ▸ below_drewN b1 _
  have hlt1 : w.heap.size < w1.heap.size := by rw [← hw1]; exact hlt
  have l0 : w1.cell? ⟨w.heap.size, 0, none⟩ = some (.int .i64 f) := by rw [← hw1]; exact l0
  have l1 : w1.cell? ⟨w.heap.size, 1, none⟩ = some (.int .i64 e) := by rw [← hw1]; exact l1
  clear hw1 r1 b1 hlt
  clear d1 d2 d3 d4 d5
  have r3 := r2.alloc (.cells #[.pointer none, .slice none 0 0] 86)
  have b3 : Below w.heap.size w (w1.alloc (.cells #[.pointer none, .slice none 0 0] 86)) := b2.alloc (by omega) _
  have i3 : Sliced w1 [] (w1.alloc (.cells #[.pointer none, .slice none 0 0] 86)) := ⟨Lib.fresh_isBuilder 86 5 w1, (Below.refl _ _).alloc (Nat.le_refl _) _⟩
  have k0 : (w1.alloc (.cells #[.pointer none, .slice none 0 0] 86)).cell? ⟨w.heap.size, 0, none⟩ = some (.int .i64 f) := (((Below.refl _ _).alloc (Nat.le_refl _) _).cell (p := ⟨w.heap.size, 0, none⟩) hlt1).trans l0
  have k1 : (w1.alloc (.cells #[.pointer none, .slice none 0 0] 86)).cell? ⟨w.heap.size, 1, none⟩ = some (.int .i64 e) := (((Below.refl _ _).alloc (Nat.le_refl _) _).cell (p := ⟨w.heap.size, 1, none⟩) hlt1).trans l1
  have L0 := Lib.hid l0
  have L1 := Lib.hid l1
  have R1 := Lib.hid r2.c1
  clear l0 l1
  go_wp2
  generalize hW2 : w1.alloc (.cells #[.pointer none, .slice none 0 0] 86) = W2 at *
  clear hW2
  have c3 := r3.c1
  have hs : ∀ w', Sliced w1 [] w' → Calls Try.prog 52 #[.pointer (some ⟨w1.heap.size, 0, none⟩), optPtr t, .int .i64 f, .int .i64 e] w' (Unit1 (Sliced w1 (cutB (optBytes t) f e))) := fun w' hd => slice_opt w1 t f e w' r2.2 hz hd h2
  have HS := Lib.hid hs
  have i4 : Sliced w1 [] W2.drew := ⟨i3.1, i3.2.drew⟩
  have hlg : g < w1.heap.size := r2.lt
  clear hs i3
  go_region_held3 (fun w' => w'.cell? ⟨g, 1, none⟩ = some (optPtr t) ∧ w'.cell? ⟨w.heap.size, 0, none⟩ = some (.int .i64 f) ∧ w'.cell? ⟨w.heap.size, 1, none⟩ = some (.int .i64 e))
    (first
      | exact ⟨c3, k0, k1⟩
      | exact ⟨(h4.2.cell (p := ⟨g, 1, none⟩) hlg).trans R1.out, (h4.2.cell (p := ⟨w.heap.size, 0, none⟩) hlt1).trans L0.out, (h4.2.cell (p := ⟨w.heap.size, 1, none⟩) hlt1).trans L1.out⟩
      | fail)
    (first
      | ((with_reducible refine (HS.out _ i4).mono ?_)
         rintro en w4 ⟨rfl, h4⟩)
      | fail)
  all_goals
    go_wp2_with (go_at_call 47; refine (Try.Builder_String_any w1.heap.size w1.heap.size _ _ h4.1 h4.2.size).mono ?_; rintro e w5 ⟨rfl, b5⟩)
    go_ret2
    exact ⟨rfl, b2.trans ((h4.2.trans b5).mono b2.size)⟩
end Go.Proofs.Ythjbkiomnipjiaa

namespace Go.Proofs.Ythjbkiomnipjiaa
open Go Go.RowKit Go.Shelf
theorem info9 : (Try.prog.info? 9).map (fun i => (i.zero, i.size, i.bytes)) = some (some (.string ⟨#[]⟩), 1, 16) := by kernel_rfl
/-- an own row lies where it lay while memory grows -/
theorem own_below {w w' : World} {B : Nat} {e : TypeId} {z n : Nat} {v : Value} {xs : List Value} (h : w.ownsRow B e z v n xs) (hb : Below w.heap.size w w') : w'.ownsRow B e z v n xs := by
  refine ⟨h.1, ?_⟩
  rcases h.2 with hn | ⟨g, cap, cur, hv, hB, hg, rest⟩
  · exact .inl hn
  · exact .inr ⟨g, cap, cur, hv, hB, (hb.block g (Array.getElem?_eq_some_iff.1 hg).1).trans hg, rest⟩
/-- an own row's cells -/
theorem own_read {w : World} {B : Nat} {e : TypeId} {n : Nat} {v : Value} {xs : List Value} (h : w.ownsRow B e 1 v n xs) (hn : 0 < n) :
    ∃ g cap, v = .slice (some ⟨g, 0, none⟩) n cap ∧ B ≤ g ∧ g < w.heap.size ∧ n ≤ cap ∧ (∀ i, i < n → w.cell? ⟨g, i, none⟩ = xs[i]?) := by
  rcases h.2 with ⟨_, h0⟩ | ⟨g, cap, cur, hv, hB, hg, hc, _, hs, ht⟩
  · omega
  · refine ⟨g, cap, hv, hB, (Array.getElem?_eq_some_iff.1 hg).1, hc, ?_⟩
    intro i hi
    have e1 : w.cell? ⟨g, i, none⟩ = cur[i]? := by simp [World.cell?, hg]
    rw [e1, ← ht, List.getElem?_take, if_pos (by omega), Array.getElem?_toList]
theorem own_base {w : World} {B B' : Nat} {e : TypeId} {z n : Nat} {v : Value} {xs : List Value} (h : w.ownsRow B' e z v n xs) (hB : B ≤ B') : w.ownsRow B e z v n xs :=
  ⟨h.1, h.2.imp id fun ⟨g, cap, cur, hv, hb, rest⟩ => ⟨g, cap, cur, hv, Nat.le_trans hB hb, rest⟩⟩
def lvTexts (d : List (Nat × ByteArray)) : List Value := d.map fun x => .string x.2
def Texts (B : Nat) (w : World) (v : Value) (d : List (Nat × ByteArray)) : Prop := w.ownsRow B 9 1 v d.length (lvTexts d)
theorem Nd.lv_in {w : World} : ∀ {t : Nd}, t.In w → ∀ x ∈ t.sh.lv, w.cell? ⟨x.1, 2, none⟩ = some (.string x.2) ∧ x.1 < w.heap.size
  | .leaf b s, h, x, hx => by
    have : x = (b, s) := by simpa [Nd.sh, Sh.lv] using hx
    subst this
    exact ⟨h.c2, h.lt⟩
  | .node b l r, h, x, hx => by
    rcases List.mem_append.1 (show x ∈ l.sh.lv ++ r.sh.lv from hx) with hx | hx
    · exact Nd.lv_in h.2.1 x hx
    · exact Nd.lv_in h.2.2 x hx
theorem optLv_in {w : World} {t : Option Nd} (h : optIn w t) : ∀ x ∈ optLv t, w.cell? ⟨x.1, 2, none⟩ = some (.string x.2) ∧ x.1 < w.heap.size := by
  cases t with
  | none => intro x hx; cases hx
  | some t => exact Nd.lv_in h
set_option maxRecDepth 100000 in
theorem leaves_yes (g : Nat) (t : Option Nd) (w : World) (h : Rope w g t) (hm : NotMany (optLv t)) :
    Calls Try.prog 15 #[.pointer (some ⟨g, 0, none⟩)] w fun e w' => ∃ v, e = .returned v ∧ Texts w.heap.size w' v (optLv t) ∧ Below w.heap.size w w' := by
  have ht := tree_yes g t w h
  have hl := list_any t w h.2 hm
  have hin := optLv_in h.2
  obtain ⟨i0, hi, hz0, hz1, hz2⟩ := info_parts info9
  generalize optLv t = d at hl hm hin ⊢
  have hd : d.length ≤ 1048576 := hm
  go_enter Try.func15, Try.ntmps15
  go_wp2_with (first
    | (go_at_call 42; refine ht.mono ?_; rintro e w1 ⟨rfl, rfl⟩)
    | (go_at_call 41; refine hl.mono ?_; rintro e w2 ⟨v, rfl, ho, hb⟩; obtain ⟨ao, n', cap, rfl⟩ := own_slice ho))
  have hlen : n' = d.length := by
    rcases ho.2 with ⟨hv, h0⟩ | ⟨_, _, _, hv, _⟩
    · cases hv; exact h0.symm
    · cases hv; rfl
  subst hlen
  go_loopg [3, 10] d.length (fun gk o i wr => ∃ k : Nat, i = .int .i64 k ∧ Kept (k + gk = d.length) ∧ Kept (wr.ownsRow w2.heap.size 9 1 o k (lvTexts (d.take k))) ∧ Kept (Below w2.heap.size w2 wr))
  case atStart => exact ⟨0, rfl, ⟨by omega⟩, ⟨World.ownsRow_nil _ _ _ _⟩, ⟨Below.refl _ _⟩⟩
  case round =>
    obtain ⟨k, rfl, hk, hown, hB⟩ := hrel
    have hk' := hk.out
    by_cases hlt : k < d.length
    · have d1 : decide ((k : Int) < (d.length : Int)) = true := decide_eq_true (by omega)
      obtain ⟨a, cap', hv, hBa, halt, _, hread⟩ := own_read ho (by omega)
      cases hv
      have hx := hin d[k] (List.getElem_mem hlt)
      have c0 : wr.cell? ⟨a, k, none⟩ = some (.pointer (some ⟨(d[k]).1, 0, none⟩)) := by
        rw [hB.out.cell (p := ⟨a, k, none⟩) halt, hread k hlt]
        simp [lvPtrs, hlt]
      have c2 : wr.cell? ⟨(d[k]).1, 2, none⟩ = some (.string (d[k]).2) := by
        rw [hB.out.cell (p := ⟨(d[k]).1, 2, none⟩) (Nat.lt_of_lt_of_le hx.2 hb.size), hb.cell (p := ⟨(d[k]).1, 2, none⟩) hx.2]
        exact hx.1
      have kz : k < 2097152 := by omega
      have hsz : w2.heap.size ≤ wr.heap.size := hB.out.size
      go_wp2_with (at_builtin; refine wpList_append_own _ rfl _ _ 28 rfl w2.heap.size 9 i0 (.string ⟨#[]⟩) 1 16 Try.underlying28 hi hz0 hz1 hz2 rfl (by decide) _ _ _ rfl (hown.out.alloc _) ⟨wr.heap.size, 0, none⟩ 1 1 [.string (d[k]).2] rfl rfl ?c1 ?c2 ?c3 ?c4 ?c5 ?_)
      case c1 =>
        intro j u hj
        match j, hj with
        | 0, hj => simp at hj; subst hj; simp [Addr.add]
      case c2 => intro u hu; simp at hu; subst hu; rfl
      case c3 => unfold maxLen; omega
      case c4 => omega
      case c5 => simp; omega
      intro v' w3 hown' hgrow _
      have hB3 : Below w2.heap.size w2 w3 := (hB.out.alloc hsz _).grown hgrow (by simp; omega) (fun k hk => (hown.out.lt k hk).1)
      go_wp2
      go_roundg (gk - 1)
      case measure => omega
      case rel =>
        refine ⟨k + 1, rfl, ⟨by omega⟩, ⟨?_⟩, ⟨hB3⟩⟩
        have e : lvTexts (d.take (k + 1)) = lvTexts (d.take k) ++ [.string (d[k]).2] := by
          unfold lvTexts
          rw [List.take_succ_eq_append_getElem hlt, List.map_append]
          rfl
        rw [e]
        exact hown'
    · have d1 : decide ((k : Int) < (d.length : Int)) = false := decide_eq_false (by omega)
      have ek : k = d.length := by omega
      go_wp2
      go_ret
      refine ⟨_, rfl, ?_, hb.trans (hB.out.mono hb.size)⟩
      have := hown.out
      subst ek
      rw [List.take_length] at this
      exact own_base this hb.size
end Go.Proofs.Ythjbkiomnipjiaa

namespace Go.Proofs.Ythjbkiomnipjiaa
open Go
namespace Sh
def bO (t : Option Sh) : List UInt8 := lvBytes (lvO t)
theorem bO_join (a b : Option Sh) : bO (joinO a b) = bO a ++ bO b := by unfold bO; rw [joinO_lv, lvBytes_append]
theorem bO_some (t : Sh) : bO (some t) = lvBytes t.lv := rfl
theorem bO_node (l r : Sh) : bO (some (node l r)) = bO (some l) ++ bO (some r) := lvBytes_append _ _
theorem bO_leaf (b : Nat) (s : ByteArray) : bO (some (leaf b s)) = s.data.toList := by simp [bO, lvO, lv, lvBytes]
theorem bO_leafO (g : Nat) (s : ByteArray) : bO (leafO g s) = s.data.toList := by
  unfold leafO
  split
  · rename_i h
    have h1 : s.data.toList = [] := List.eq_nil_of_length_eq_zero (by rw [Array.length_toList]; exact h)
    rw [h1]
    rfl
  · exact bO_leaf g s
theorem bO_size : ∀ t : Sh, (bO (some t)).length = t.size
  | leaf b s => by rw [bO_leaf]; simp [size, ← ByteArray.size_data]
  | node l r => by rw [bO_node, List.length_append, bO_size l, bO_size r]; rfl
theorem bO_sizeO (t : Option Sh) : (bO t).length = sizeO t := by
  cases t with
  | none => rfl
  | some t => exact bO_size t
theorem ext_take (s : ByteArray) (k : Nat) : (s.extract 0 k).data.toList = s.data.toList.take k := by
  rw [ByteArray.data_extract, Array.toList_extract, List.extract_eq_take_drop]
  simp
theorem ext_drop (s : ByteArray) (k : Nat) : (s.extract k s.size).data.toList = s.data.toList.drop k := by
  rw [ByteArray.data_extract, Array.toList_extract, List.extract_eq_take_drop]
  refine List.take_of_length_le ?_
  rw [List.length_drop, Array.length_toList]
  exact Nat.le_refl _
theorem split_b (g h : Nat) : ∀ (t : Sh) (k : Int), bO (split g h t k).1 = (bO (some t)).take k.toNat ∧ bO (split g h t k).2 = (bO (some t)).drop k.toNat := by
  intro t
  induction t with
  | leaf b s =>
    intro k
    unfold split
    split
    · rw [Int.toNat_of_nonpos (by assumption)]
      exact ⟨rfl, rfl⟩
    · split
      · rename_i h1 h2
        have h2 : (s.size : Int) ≤ k := h2
        have e : (bO (some (leaf b s))).length = s.size := bO_size _
        rw [List.take_of_length_le (by omega), List.drop_eq_nil_of_le (by omega)]
        exact ⟨rfl, rfl⟩
      · show bO (leafO g (s.extract 0 k.toNat)) = _ ∧ bO (leafO h (s.extract k.toNat s.size)) = _
        rw [bO_leafO, bO_leafO, bO_leaf, ext_take, ext_drop]
        exact ⟨rfl, rfl⟩
  | node l r ihl ihr =>
    intro k
    unfold split
    split
    · rw [Int.toNat_of_nonpos (by assumption)]
      exact ⟨rfl, rfl⟩
    · split
      · rename_i h1 h2
        have e : (bO (some (node l r))).length = (node l r).size := bO_size _
        rw [List.take_of_length_le (by omega), List.drop_eq_nil_of_le (by omega)]
        exact ⟨rfl, rfl⟩
      · rename_i h1 h2
        have el := bO_size l
        rw [bO_node]
        dsimp only
        split
        · rename_i h3
          dsimp only
          rw [bO_join, (ihl k).1, (ihl k).2, List.take_append_of_le_length (by omega), List.drop_append_of_le_length (by omega)]
          exact ⟨rfl, rfl⟩
        · rename_i h3
          dsimp only
          have e : (k - l.size).toNat = k.toNat - l.size := by omega
          rw [bO_join, (ihr _).1, (ihr _).2, List.take_append, List.drop_append, e, el, List.take_of_length_le (by omega : (bO (some l)).length ≤ k.toNat), List.drop_eq_nil_of_le (by omega : (bO (some l)).length ≤ k.toNat), List.nil_append]
          exact ⟨rfl, rfl⟩
theorem splitO_b (g h : Nat) (t : Option Sh) (k : Int) : bO (splitO g h t k).1 = (bO t).take k.toNat ∧ bO (splitO g h t k).2 = (bO t).drop k.toNat := by
  cases t with
  | none => exact ⟨(List.take_nil).symm, (List.drop_nil).symm⟩
  | some t => exact split_b g h t k
theorem leafO_bal (g : Nat) (s : ByteArray) : balO (leafO g s) := by
  unfold leafO
  split <;> trivial
theorem split_bal (g h : Nat) : ∀ (t : Sh) (k : Int), t.Bal → balO (split g h t k).1 ∧ balO (split g h t k).2 := by
  intro t
  induction t with
  | leaf b s =>
    intro k hb
    unfold split
    split
    · exact ⟨trivial, trivial⟩
    · split
      · exact ⟨trivial, trivial⟩
      · exact ⟨leafO_bal _ _, leafO_bal _ _⟩
  | node l r ihl ihr =>
    intro k hb
    unfold split
    split
    · exact ⟨trivial, hb⟩
    · split
      · exact ⟨hb, trivial⟩
      · dsimp only
        split
        · exact ⟨(ihl k hb.1).1, joinO_bal (ihl k hb.1).2 (show balO (some r) from hb.2.1)⟩
        · exact ⟨joinO_bal (show balO (some l) from hb.1) (ihr _ hb.2.1).1, (ihr _ hb.2.1).2⟩
theorem splitO_bal (g h : Nat) (t : Option Sh) (k : Int) (hb : balO t) : balO (splitO g h t k).1 ∧ balO (splitO g h t k).2 := by
  cases t with
  | none => exact ⟨trivial, trivial⟩
  | some t => exact split_bal g h t k hb
theorem splitO_ok (g h : Nat) (t : Option Sh) (k : Int) (hb : okO t) : okO (splitO g h t k).1 ∧ okO (splitO g h t k).2 := by
  cases t with
  | none => exact ⟨trivial, trivial⟩
  | some t => exact ⟨(split_keeps g h t k hb).1, (split_keeps g h t k hb).2.1⟩
end Sh
theorem Built.bytes {s : ByteArray} {t : Option Sh} (h : Built s t) : Sh.bO t = s.data.toList := by
  induction h with
  | none => rfl
  | leaf g s h1 h2 => exact Sh.bO_leaf g s
  | node s l r h1 _ _ ih1 ih2 => rw [Sh.bO_node, ih1, ih2, Sh.ext_take, Sh.ext_drop, List.take_append_drop]
/-- how high a tree of so many leaves is that is cut in halves -/
def clog (n : Nat) : Nat := if h : n ≤ 1 then 0 else 1 + clog ((n + 1) / 2)
termination_by n
theorem clog_one {n : Nat} (h : n ≤ 1) : clog n = 0 := by rw [clog, dif_pos h]
theorem clog_more {n : Nat} (h : 2 ≤ n) : clog n = 1 + clog ((n + 1) / 2) := by rw [clog, dif_neg (by omega)]
theorem clog_next : ∀ n, 1 ≤ n → clog n ≤ clog (n + 1) ∧ clog (n + 1) ≤ clog n + 1 := by
  intro n
  induction n using Nat.strongRecOn with
  | ind n ih =>
    intro h
    by_cases h1 : n = 1
    · subst h1
      rw [clog_one (Nat.le_refl 1), clog_more (Nat.le_refl 2), clog_one (by omega)]
      omega
    · rw [clog_more (by omega : 2 ≤ n), clog_more (by omega : 2 ≤ n + 1)]
      by_cases h2 : (n + 1 + 1) / 2 = (n + 1) / 2
      · rw [h2]
        omega
      · have e : (n + 1 + 1) / 2 = (n + 1) / 2 + 1 := by omega
        have := ih ((n + 1) / 2) (by omega) (by omega)
        rw [e]
        omega
theorem Built.high {s : ByteArray} {t : Option Sh} (h : Built s t) : ∀ x, t = Option.some x → x.height = clog ((s.size + 63) / 64) ∧ x.Bal := by
  induction h with
  | none => intro x e; cases e
  | leaf g s h1 h2 =>
    intro x e
    cases e
    exact ⟨(clog_one (by omega)).symm, trivial⟩
  | node s l r h1 _ _ ih1 ih2 =>
    intro x e
    cases e
    obtain ⟨a1, a2⟩ := ih1 l rfl
    obtain ⟨b1, b2⟩ := ih2 r rfl
    have hc : cut s = (s.size + 63) / 64 / 2 * 64 := rfl
    rw [ByteArray.size_extract] at a1 b1
    have e1 : (min (cut s) s.size - 0 + 63) / 64 = (s.size + 63) / 64 / 2 := by omega
    have e2 : (min s.size s.size - cut s + 63) / 64 = ((s.size + 63) / 64 + 1) / 2 := by omega
    rw [e1] at a1
    rw [e2] at b1
    generalize hn : (s.size + 63) / 64 = n at a1 b1
    have h2 : 2 ≤ n := by omega
    have hh : l.height ≤ r.height ∧ r.height ≤ l.height + 1 := by
      rw [a1, b1]
      by_cases h3 : (n + 1) / 2 = n / 2
      · rw [h3]; omega
      · have e : (n + 1) / 2 = n / 2 + 1 := by omega
        rw [e]
        exact clog_next (n / 2) (by omega)
    refine ⟨?_, a2, b2, by omega, hh.2⟩
    show 1 + max l.height r.height = clog n
    rw [clog_more h2, Nat.max_eq_right hh.1, b1]
theorem Built.bal {s : ByteArray} {t : Option Sh} (h : Built s t) : Sh.balO t := by
  cases t with
  | none => trivial
  | some x => exact (h.high x rfl).2
theorem Built.okO {s : ByteArray} {t : Option Sh} (h : Built s t) : Sh.okO t := by
  cases t with
  | none => trivial
  | some x => exact (h.ok x rfl).1
/-- a balanced tree of so many leaves is not higher than twice their bits -/
def bits (n : Nat) : Nat := if h : n = 0 then 0 else 1 + bits (n / 2)
termination_by n
decreasing_by omega
theorem bits_zero : bits 0 = 0 := by rw [bits, dif_pos rfl]
theorem bits_pos {n : Nat} (h : n ≠ 0) : bits n = 1 + bits (n / 2) := by rw [bits, dif_neg h]
theorem bits_mono : ∀ n m, n ≤ m → bits n ≤ bits m := by
  intro n
  induction n using Nat.strongRecOn with
  | ind n ih =>
    intro m h
    by_cases h0 : n = 0
    · subst h0; rw [bits_zero]; exact Nat.zero_le _
    · rw [bits_pos h0, bits_pos (by omega : m ≠ 0)]
      have := ih (n / 2) (by omega) (m / 2) (by omega)
      omega
theorem bits_two (n : Nat) (h : n ≠ 0) : bits (2 * n) = 1 + bits n := by
  rw [bits_pos (by omega)]
  have : 2 * n / 2 = n := by omega
  rw [this]
namespace Sh
theorem leaves_pos : ∀ t : Sh, 1 ≤ t.leaves
  | leaf _ _ => Nat.le_refl 1
  | node l r => by
    have := leaves_pos l
    show 1 ≤ l.leaves + r.leaves
    omega
theorem high_bits : ∀ (n : Nat) (t : Sh), t.height ≤ n → t.Bal → t.height ≤ 2 * bits t.leaves := by
  intro n
  induction n using Nat.strongRecOn with
  | ind n ih =>
    intro t hn hb
    cases t with
    | leaf b s => exact Nat.zero_le _
    | node l r =>
      have hl := leaves_pos l
      have hr := leaves_pos r
      obtain ⟨bl, br, h1, h2⟩ := hb
      have e : (node l r).height = 1 + max l.height r.height := rfl
      have hn' : 1 + max l.height r.height ≤ n := hn
      rw [e]
      show 1 + max l.height r.height ≤ 2 * bits (l.leaves + r.leaves)
      have il := ih l.height (by omega) l (Nat.le_refl _) bl
      have ir := ih r.height (by omega) r (Nat.le_refl _) br
      have hb2 := bits_two (min l.leaves r.leaves) (by omega)
      have hm := bits_mono (2 * min l.leaves r.leaves) (l.leaves + r.leaves) (by omega)
      rcases Nat.le_total l.leaves r.leaves with h | h
      · rw [Nat.min_eq_left h] at hb2 hm
        omega
      · rw [Nat.min_eq_right h] at hb2 hm
        omega
theorem lv_length : ∀ t : Sh, t.lv.length = t.leaves
  | leaf _ _ => rfl
  | node l r => by
    show (l.lv ++ r.lv).length = l.leaves + r.leaves
    rw [List.length_append, lv_length l, lv_length r]
theorem lv_ok : ∀ t : Sh, t.Ok → ∀ x ∈ t.lv, 1 ≤ x.2.size ∧ x.2.size ≤ 64
  | leaf b s, h, x, hx => by
    have : x = (b, s) := by simpa [lv] using hx
    subst this
    exact h
  | node l r, h, x, hx => by
    rcases List.mem_append.1 (show x ∈ l.lv ++ r.lv from hx) with hx | hx
    · exact lv_ok l h.1 x hx
    · exact lv_ok r h.2 x hx
end Sh
end Go.Proofs.Ythjbkiomnipjiaa

namespace Go.Proofs.Ythjbkiomnipjiaa
open Go
theorem nlP_left : ∀ (a b : List UInt8) (k : Nat), 1 ≤ k → k ≤ a.count 10 → nlP (a ++ b) k = nlP a k
  | [], b, k, h1, h2 => by simp at h2; omega
  | c :: a, b, k, h1, h2 => by
    show (if c = 10 then (if k = 1 then 1 else 1 + nlP (a ++ b) (k - 1)) else 1 + nlP (a ++ b) k) = (if c = 10 then (if k = 1 then 1 else 1 + nlP a (k - 1)) else 1 + nlP a k)
    rw [List.count_cons] at h2
    by_cases hc : c = 10
    · subst hc
      simp at h2
      by_cases hk : k = 1
      · rw [if_pos rfl, if_pos rfl, if_pos hk, if_pos hk]
      · rw [if_pos rfl, if_pos rfl, if_neg hk, if_neg hk, nlP_left a b (k - 1) (by omega) (by omega)]
    · have hc' : (c == 10) = false := by simpa using hc
      rw [hc'] at h2
      simp at h2
      rw [if_neg hc, if_neg hc, nlP_left a b k h1 h2]
theorem nlP_right : ∀ (a b : List UInt8) (k : Nat), a.count 10 < k → nlP (a ++ b) k = a.length + nlP b (k - a.count 10)
  | [], b, k, h => by simp
  | c :: a, b, k, h => by
    show (if c = 10 then (if k = 1 then 1 else 1 + nlP (a ++ b) (k - 1)) else 1 + nlP (a ++ b) k) = (c :: a).length + nlP b (k - (c :: a).count 10)
    rw [List.count_cons] at h ⊢
    rw [List.length_cons]
    by_cases hc : c = 10
    · subst hc
      simp at h ⊢
      rw [if_neg (by omega), nlP_right a b (k - 1) (by omega)]
      have : k - 1 - a.count 10 = k - (a.count 10 + 1) := by omega
      rw [this]
      omega
    · have hc' : (c == 10) = false := by simpa using hc
      rw [hc'] at h ⊢
      simp at h ⊢
      rw [if_neg hc, nlP_right a b k h]
      omega
theorem nlP_iff : ∀ (l : List UInt8) (k n : Nat), 1 ≤ k → k ≤ l.count 10 → (nlP l k ≤ n ↔ k ≤ (l.take n).count 10)
  | [], k, n, h1, h2 => by simp at h2; omega
  | c :: l, k, 0, h1, h2 => by
    have e : 1 ≤ nlP (c :: l) k := by
      show 1 ≤ (if c = 10 then (if k = 1 then 1 else 1 + nlP l (k - 1)) else 1 + nlP l k)
      split
      · split <;> omega
      · omega
    simp
    omega
  | c :: l, k, n + 1, h1, h2 => by
    show (if c = 10 then (if k = 1 then 1 else 1 + nlP l (k - 1)) else 1 + nlP l k) ≤ n + 1 ↔ k ≤ (c :: l.take n).count 10
    rw [List.count_cons] at h2 ⊢
    by_cases hc : c = 10
    · subst hc
      simp at h2 ⊢
      by_cases hk : k = 1
      · subst hk
        simp
      · have := nlP_iff l (k - 1) n (by omega) (by omega)
        rw [if_neg hk]
        omega
    · have hc' : (c == 10) = false := by simpa using hc
      rw [hc'] at h2 ⊢
      simp at h2 ⊢
      have := nlP_iff l k n h1 h2
      rw [if_neg hc]
      omega
namespace Sh
theorem ends_b : ∀ t : Sh, t.ends = (bO (some t)).count 10
  | leaf b s => by rw [bO_leaf]; rfl
  | node l r => by rw [bO_node, List.count_append, ← ends_b l, ← ends_b r]; rfl
theorem endsAt_b : ∀ (t : Sh) (k : Nat), t.endsAt k = ((bO (some t)).take k).count 10
  | leaf b s, k => by
    show (s.extract 0 k).data.toList.count 10 = _
    rw [ext_take, bO_leaf]
  | node l r, k => by
    show (if k < l.size then l.endsAt k else l.ends + r.endsAt (k - l.size)) = _
    rw [bO_node, List.take_append, List.count_append, bO_size]
    split
    · rw [endsAt_b l k, Nat.sub_eq_zero_of_le (by omega)]
      simp
    · rw [endsAt_b r, ends_b l, List.take_of_length_le (by rw [bO_size]; omega : (bO (some l)).length ≤ k)]
theorem behindAt_b : ∀ (t : Sh) (k : Nat), 1 ≤ k → k ≤ t.ends → t.behindAt k = nlP (bO (some t)) k
  | leaf b s, k, _, _ => by rw [bO_leaf]; rfl
  | node l r, k, h1, h2 => by
    show (if k ≤ l.ends then l.behindAt k else l.size + r.behindAt (k - l.ends)) = _
    have h2 : k ≤ l.ends + r.ends := h2
    rw [bO_node]
    split
    · rw [behindAt_b l k h1 (by omega), nlP_left _ _ _ h1 (by rw [← ends_b]; omega)]
    · rw [behindAt_b r _ (by omega) (by omega), nlP_right _ _ _ (by rw [← ends_b]; omega), bO_size, ← ends_b]
theorem byteAt_b : ∀ (t : Sh) (k : Nat), k < t.size → t.byteAt k = (((bO (some t)).getD k 0).toNat : Int)
  | leaf b s, k, h => by
    have h : k < s.size := h
    show byteOf s k = _
    rw [bO_leaf, ← byteOf_in s k h, List.getD_eq_getElem?_getD, List.getElem?_eq_getElem (by simpa using h)]
    rfl
  | node l r, k, h => by
    have h : k < l.size + r.size := h
    show (if k < l.size then l.byteAt k else r.byteAt (k - l.size)) = _
    have e := bO_size l
    rw [bO_node, List.getD_eq_getElem?_getD]
    split
    · rw [byteAt_b l k (by omega), List.getElem?_append_left (by omega), List.getD_eq_getElem?_getD]
    · rw [byteAt_b r _ (by omega), List.getElem?_append_right (by omega), List.getD_eq_getElem?_getD, e]
end Sh
/-- where a line begins -/
def begL (l : List UInt8) (k : Nat) : Nat := if k = 0 then 0 else nlP l k
theorem plc_fst (x : ByteArray) (n : Nat) : (plc x n).1 = (x.data.toList.take n).count 10 := lc_count _
theorem begL_iff (x : ByteArray) (k n : Nat) (h : k ≤ x.data.toList.count 10) : begL x.data.toList k ≤ n ↔ k ≤ (plc x n).1 := by
  unfold begL
  rw [plc_fst]
  split
  · subst k; omega
  · exact nlP_iff _ _ _ (by omega) h
theorem plc_snd (x : ByteArray) : ∀ n, n ≤ x.size → (plc x n).2 + begL x.data.toList (plc x n).1 = n
  | 0, _ => by rw [plc_zero]; rfl
  | n + 1, h => by
    have ih := plc_snd x n (by omega)
    have hl := plc_line x (n + 1) h
    by_cases hb : x[n]'(by omega) = 10
    · have e := plc_nl x n (by omega) hb
      have h1 := (begL_iff x ((plc x n).1 + 1) (n + 1) (by rw [e] at hl; exact hl)).2 (by rw [e]; exact Nat.le_refl _)
      have h2 := (begL_iff x ((plc x n).1 + 1) n (by rw [e] at hl; exact hl))
      have h3 : ¬ begL x.data.toList ((plc x n).1 + 1) ≤ n := fun h => by have := h2.1 h; omega
      rw [e]
      show 0 + begL x.data.toList ((plc x n).1 + 1) = n + 1
      omega
    · have e := plc_col x n (by omega) hb
      rw [e]
      show (plc x n).2 + 1 + begL x.data.toList (plc x n).1 = n + 1
      omega
/-- where a line ends, its line end not counted -/
def toL (x : ByteArray) (l : Nat) : Int := if l < x.data.toList.count 10 then (begL x.data.toList (l + 1) : Int) - 1 else x.size
theorem at_in (x : ByteArray) (l c : Nat) (hl : l ≤ x.data.toList.count 10) : atP x l c = if toL x l - begL x.data.toList l < c then (0, 4) else ((begL x.data.toList l : Int) + c, 0) := by
  have hall : (plc x x.size).1 = x.data.toList.count 10 := plc_all x
  have hb0 : begL x.data.toList l ≤ x.size := (begL_iff x l x.size hl).2 (by rw [hall]; exact hl)
  split
  · rename_i hf
    refine at_no_place x l c ?_
    intro n hn ⟨e1, e2⟩
    have e1 : (plc x n).1 = l := by omega
    have e2 : (plc x n).2 = c := by omega
    have hs := plc_snd x n hn
    rw [e1, e2] at hs
    unfold toL at hf
    split at hf
    · rename_i hlt
      have := (begL_iff x (l + 1) n hlt)
      have h3 : ¬ begL x.data.toList (l + 1) ≤ n := fun h => by have := this.1 h; omega
      omega
    · omega
  · rename_i hf
    have hn : begL x.data.toList l + c ≤ x.size := by
      unfold toL at hf
      split at hf
      · rename_i hlt
        have := (begL_iff x (l + 1) x.size hlt).2 (by rw [hall]; exact hlt)
        omega
      · omega
    have e1 : (plc x (begL x.data.toList l + c)).1 = l := by
      have h1 := (begL_iff x l (begL x.data.toList l + c) hl).1 (by omega)
      have h2 := plc_line x _ hn
      have h2 : (plc x (begL x.data.toList l + c)).1 ≤ x.data.toList.count 10 := h2
      by_cases hlt : l < x.data.toList.count 10
      · have h3 := begL_iff x (l + 1) (begL x.data.toList l + c) hlt
        unfold toL at hf
        rw [if_pos hlt] at hf
        have h4 : ¬ (l + 1 ≤ (plc x (begL x.data.toList l + c)).1) := fun h => by have := h3.2 h; omega
        omega
      · omega
    have hs := plc_snd x _ hn
    rw [e1] at hs
    have e2 : (plc x (begL x.data.toList l + c)).2 = c := by omega
    have := at_of x _ hn
    rw [e1, e2] at this
    rw [this]
    rfl
end Go.Proofs.Ythjbkiomnipjiaa

namespace Go.Proofs.Ythjbkiomnipjiaa
open Go Go.RowKit Pl
/-- a tree of a text's bytes, balanced, in leaves of a few -/
structure Good (x : ByteArray) (t : Option Nd) : Prop where
  ok : Sh.okO (optSh t)
  bal : Sh.balO (optSh t)
  by_ : Sh.bO (optSh t) = x.data.toList
theorem optLv_sh (t : Option Nd) : optLv t = Sh.lvO (optSh t) := by cases t <;> rfl
namespace Good
variable {x : ByteArray} {t : Option Nd}
theorem bytes (h : Good x t) : lvBytes (optLv t) = x.data.toList := by rw [optLv_sh]; exact h.by_
theorem size (h : Good x t) : optSize t = x.size := by
  rw [optSize_sh, ← Sh.bO_sizeO, h.by_]
  exact Array.length_toList
theorem ends (h : Good x t) : optEnds t = Lib.countByte x.data.toList 10 := by
  have e := h.by_
  cases t with
  | none =>
    rw [← e]
    rfl
  | some t => exact (Sh.ends_b t.sh).trans (by rw [show Sh.bO (some t.sh) = x.data.toList from e]; rfl)
theorem few (h : Good x t) (hx : x.size ≤ 65536) : Few (optLv t) := by
  unfold Few
  rw [h.bytes, Array.length_toList]
  exact Nat.le_trans hx (by omega)
theorem many (h : Good x t) (hx : x.size ≤ 65536) : NotMany (optLv t) := by
  unfold NotMany
  have e := h.size
  have o := h.ok
  cases t with
  | none => exact Nat.zero_le _
  | some t =>
    have h1 : t.sh.lv.length = t.sh.leaves := Sh.lv_length _
    have h2 := Sh.leaves_le t.sh o
    have h3 : t.sh.size = x.size := e
    show t.sh.lv.length ≤ 1048576
    omega
theorem endsAt (h : Good x t) (k : Nat) (_hk : k ≤ x.size) : optEndsAt t k = (plc x k).1 := by
  rw [plc_fst, ← h.by_]
  cases t with
  | none => simp [optEndsAt, optSh, Sh.bO, Sh.lvO, lvBytes]
  | some t => exact Sh.endsAt_b t.sh k
theorem behindAt (h : Good x t) (k : Nat) (hk : k ≤ Lib.countByte x.data.toList 10) : optBehindAt t k = begL x.data.toList k := by
  rw [← h.ends] at hk
  rw [← h.by_]
  unfold begL
  cases t with
  | none =>
    have : k = 0 := Nat.le_zero.1 hk
    rw [if_pos this]
    rfl
  | some t =>
    show (if k = 0 then 0 else t.sh.behindAt k) = _
    split
    · rfl
    · exact Sh.behindAt_b t.sh k (by omega) hk
theorem of_built {t : Option Nd} (h : Built x (optSh t)) : Good x t := ⟨h.okO, h.bal, h.bytes⟩
theorem of_spliced {s e : Int} {u : ByteArray} {r : Option Nd} (h : Good x t) (hc : chk x.size s e u.size = 0) (hs : Spliced (optSh t) s e u (optSh r)) : Good (app x s e u) r := by
  obtain ⟨a, b, c, d, m, ⟨g1, g2, h1⟩, ⟨g3, g4, h2⟩, bm, hr⟩ := hs
  obtain ⟨_, _, hs0, hse, hex, _⟩ := chk_zero.1 hc
  have o1 := Sh.splitO_ok g1 g2 (optSh t) s h.ok
  have b1 := Sh.splitO_bal g1 g2 (optSh t) s h.bal
  have y1 := Sh.splitO_b g1 g2 (optSh t) s
  rw [← h1] at o1 b1 y1
  have o2 := Sh.splitO_ok g3 g4 b (e - s) o1.2
  have b2 := Sh.splitO_bal g3 g4 b (e - s) b1.2
  have y2 := Sh.splitO_b g3 g4 b (e - s)
  rw [← h2] at o2 b2 y2
  refine ⟨?_, ?_, ?_⟩
  · rw [hr]; exact Sh.joinO_ok (Sh.joinO_ok o1.1 bm.okO) o2.2
  · rw [hr]; exact Sh.joinO_bal (Sh.joinO_bal b1.1 bm.bal) b2.2
  · rw [hr, Sh.bO_join, Sh.bO_join, y1.1, y2.2, y1.2, bm.bytes, h.by_, List.drop_drop]
    have e1 : s.toNat + (e - s).toNat = e.toNat := by omega
    rw [e1]
    unfold app
    rw [ByteArray.data_append, ByteArray.data_append, Array.toList_append, Array.toList_append, Sh.ext_take, Sh.ext_drop]
end Good
theorem ba_toList (x : ByteArray) : (⟨x.data.toList.toArray⟩ : ByteArray) = x := by
  cases x
  rfl
section
variable {x : ByteArray} {t : Option Nd} {g : Nat} {w : World}
theorem new_g (s : ByteArray) (w : World) (h : s.size ≤ 65536) : Calls Try.prog 12 #[.string s] w fun e w' => ∃ (g : Nat) (t : Option Nd), e = .returned (.tuple #[.pointer (some ⟨g, 0, none⟩), .int .i64 0]) ∧ Rope w' g t ∧ Good s t ∧ Built s (optSh t) ∧ Below w.heap.size w w' := by
  refine (new_ok s w h).mono ?_
  rintro e w' ⟨g, t, rfl, hr, hb, hB⟩
  exact ⟨g, t, rfl, hr, Good.of_built hb, hb, hB⟩
theorem text_g (h : Rope w g t) (q : Good x t) (hx : x.size ≤ 65536) : Calls Try.prog 17 #[.pointer (some ⟨g, 0, none⟩)] w fun e w' => e = .returned (.string x) ∧ Below w.heap.size w w' := by
  refine (text_yes g t w h (q.few hx)).mono ?_
  rintro e w' ⟨rfl, hB⟩
  rw [q.bytes, ba_toList]
  exact ⟨rfl, hB⟩
theorem len_g (h : Rope w g t) (q : Good x t) : Calls Try.prog 29 #[.pointer (some ⟨g, 0, none⟩)] w fun e w' => e = .returned (.int .i64 x.size) ∧ w' = w := by
  refine (len_yes g t w h).mono ?_
  rintro e w' ⟨rfl, rfl⟩
  rw [q.size]
  exact ⟨rfl, rfl⟩
theorem lines_g (h : Rope w g t) (q : Good x t) (hx : x.size ≤ 65536) : Calls Try.prog 27 #[.pointer (some ⟨g, 0, none⟩)] w fun e w' => e = .returned (.int .i64 ((Lib.countByte x.data.toList 10 : Int) + 1)) ∧ w' = w := by
  refine (lines_yes g t w h (by have := optEnds_le t; have := q.size; omega)).mono ?_
  rintro e w' ⟨rfl, rfl⟩
  rw [q.ends]
  exact ⟨rfl, rfl⟩
theorem of_g (h : Rope w g t) (q : Good x t) (hx : x.size ≤ 65536) (k : Int) : Calls Try.prog 23 #[.pointer (some ⟨g, 0, none⟩), .int .i64 k] w fun e w' => e = .returned (.tuple #[.agg #[.int .i64 (ofP x k).1, .int .i64 (ofP x k).2.1], .int .i64 (ofP x k).2.2]) ∧ Below w.heap.size w w' := by
  have hz := q.size
  by_cases hk : k < 0 ∨ (x.size : Int) < k
  · rw [of_out x k hk]
    exact rope_of_bad g t k w h (by rw [hz]; exact hk)
  · obtain ⟨n, rfl⟩ : ∃ n : Nat, k = n := ⟨k.toNat, by omega⟩
    have hn : n ≤ x.size := by omega
    rw [of_in x n hn]
    have e1 := q.endsAt n hn
    have e2 := plc_line x n hn
    have e3 := q.behindAt (plc x n).1 e2
    have e4 := plc_snd x n hn
    have := rope_of_ok g t n w h (by omega) (by omega) (by rw [e1, q.ends]; exact e2)
    rw [e1, e3] at this
    have e5 : ((n : Int) - (begL x.data.toList (plc x n).1 : Nat)) = ((plc x n).2 : Nat) := by omega
    rw [e5] at this
    exact this
theorem at_g (h : Rope w g t) (q : Good x t) (hx : x.size ≤ 65536) (l c : Int) : Calls Try.prog 25 #[.pointer (some ⟨g, 0, none⟩), .agg #[.int .i64 l, .int .i64 c]] w fun e w' => e = .returned (.tuple #[.int .i64 (atP x l c).1, .int .i64 (atP x l c).2]) ∧ Below w.heap.size w w' := by
  have hz := q.size
  have he := q.ends
  have hz' : optSize t ≤ 1048576 := by omega
  by_cases h1 : l < 0
  · have e : atP x l c = (0, 4) := by unfold atP; rw [if_pos (Or.inl h1)]
    rw [e]
    exact rope_at_l0 g t l c w h h1
  · by_cases h2 : (Lib.countByte x.data.toList 10 : Int) + 1 ≤ l
    · have e : atP x l c = (0, 4) := by unfold atP; rw [if_pos (Or.inr (Or.inl h2))]
      rw [e]
      exact rope_at_l1 g t l c w h hz' (by omega) (by rw [he]; exact h2)
    · by_cases h3 : c < 0
      · have e : atP x l c = (0, 4) := by unfold atP; rw [if_pos (Or.inr (Or.inr (Or.inl h3)))]
        rw [e]
        exact rope_at_c0 g t l c w h hz' (by omega) (by rw [he]; omega) h3
      · obtain ⟨l', rfl⟩ : ∃ n : Nat, l = n := ⟨l.toNat, by omega⟩
        obtain ⟨c', rfl⟩ : ∃ n : Nat, c = n := ⟨c.toNat, by omega⟩
        have hl' : l' ≤ Lib.countByte x.data.toList 10 := by omega
        have := rope_at_in g t l' c' w h hz' (by rw [he]; exact hl')
        have e : optAt t l' c' = atP x l' c' := by
          rw [at_in x l' c' hl']
          have e2 : optTo t l' = toL x l' := by
            unfold optTo toL
            rw [he, hz]
            show (if l' < x.data.toList.count 10 then _ else _) = _
            split
            · rw [q.behindAt (l' + 1) (by assumption)]
            · rfl
          unfold optAt
          rw [e2, q.behindAt l' hl']
        rw [e] at this
        exact this
def byP (x : ByteArray) (k : Int) : Int × Int := if k < 0 ∨ (x.size : Int) ≤ k then (0, 4) else (byteOf x k.toNat, 0)
def slP (x : ByteArray) (f e : Int) : ByteArray × Int := if f < 0 ∨ e < f ∨ (x.size : Int) < e then (⟨#[]⟩, 4) else (x.extract f.toNat e.toNat, 0)
theorem byte_bad (g : Nat) (t : Option Nd) (k : Int) (w : World) (h : Rope w g t) (hk : k < 0 ∨ (optSize t : Int) ≤ k) :
    Calls Try.prog 22 #[.pointer (some ⟨g, 0, none⟩), .int .i64 k] w fun e w' => e = .returned (.tuple #[.int .u8 0, .int .i64 4]) ∧ w' = w := by
  have ht := there_yes g t w h
  have c1 := h.c1
  by_cases h0 : k < 0
  · have d1 : decide (k < 0) = true := decide_eq_true h0
    go_enter Try.func22, Try.ntmps22
    go_wp2_with (go_at_call 48; refine ht.mono ?_; rintro e w' ⟨rfl, rfl⟩)
    go_ret2
    exact ⟨rfl, rfl⟩
  · have d1 : decide (k < 0) = false := decide_eq_false h0
    cases t with
    | none =>
      rw [optPtr_none] at c1
      go_enter Try.func22, Try.ntmps22
      go_wp2_with (go_at_call 48; refine ht.mono ?_; rintro e w' ⟨rfl, rfl⟩)
      go_ret2
      exact ⟨rfl, rfl⟩
    | some t =>
      rw [optPtr_some] at c1
      have c3 := Nd.In.c3 (show t.In w from h.2)
      have hk2 : (t.sh.size : Int) ≤ k := by
        rcases hk with hk | hk
        · omega
        · exact hk
      have d2 : decide ((t.sh.size : Int) ≤ k) = true := decide_eq_true hk2
      go_enter Try.func22, Try.ntmps22
      go_wp2_with (go_at_call 48; refine ht.mono ?_; rintro e w' ⟨rfl, rfl⟩)
      go_ret2
      exact ⟨rfl, rfl⟩
theorem byte_g (h : Rope w g t) (q : Good x t) (hx : x.size ≤ 65536) (k : Int) : Calls Try.prog 22 #[.pointer (some ⟨g, 0, none⟩), .int .i64 k] w fun e w' => e = .returned (.tuple #[.int .u8 (byP x k).1, .int .i64 (byP x k).2]) ∧ w' = w := by
  have hz := q.size
  by_cases hk : k < 0 ∨ (x.size : Int) ≤ k
  · have e : byP x k = (0, 4) := if_pos hk
    rw [e]
    exact byte_bad g t k w h (by rw [hz]; exact hk)
  · have e : byP x k = (byteOf x k.toNat, 0) := if_neg hk
    rw [e]
    obtain ⟨n, rfl⟩ : ∃ n : Nat, k = n := ⟨k.toNat, by omega⟩
    have hn : n < x.size := by omega
    cases t with
    | none =>
      have hz : 0 = x.size := hz
      omega
    | some t =>
      have hz : t.sh.size = x.size := hz
      refine (byte_ok g t n w h q.ok (by omega) (by omega)).mono ?_
      rintro e w' ⟨rfl, rfl⟩
      have e2 : t.sh.byteAt n = byteOf x n := by
        rw [Sh.byteAt_b t.sh n (by omega), show Sh.bO (some t.sh) = x.data.toList from q.by_, ← byteOf_in x n hn, List.getD_eq_getElem?_getD, List.getElem?_eq_getElem (by simpa using hn)]
        rfl
      rw [e2]
      exact ⟨rfl, rfl⟩
theorem slice_g (h : Rope w g t) (q : Good x t) (hx : x.size ≤ 65536) (f e : Int) : Calls Try.prog 21 #[.pointer (some ⟨g, 0, none⟩), .agg #[.int .i64 f, .int .i64 e]] w fun en w' => en = .returned (.tuple #[.string (slP x f e).1, .int .i64 (slP x f e).2]) ∧ Below w.heap.size w w' := by
  have hz := q.size
  by_cases hk : f < 0 ∨ e < f ∨ (x.size : Int) < e
  · have e1 : slP x f e = (⟨#[]⟩, 4) := if_pos hk
    rw [e1]
    exact slice_bad g t f e w h (by rw [hz]; exact hk)
  · have e1 : slP x f e = (x.extract f.toNat e.toNat, 0) := if_neg hk
    rw [e1]
    obtain ⟨f', rfl⟩ : ∃ n : Nat, f = n := ⟨f.toNat, by omega⟩
    obtain ⟨e', rfl⟩ : ∃ n : Nat, e = n := ⟨e.toNat, by omega⟩
    refine (slice_ok g t f' e' w h (by omega) (by omega) (by omega)).mono ?_
    rintro en w' ⟨rfl, hB⟩
    have e2 : (⟨(cutB (optBytes t) f' e').toArray⟩ : ByteArray) = x.extract f' e' := by
      rw [show optBytes t = x.data.toList from q.bytes, ← cutB_extract, ba_toList]
    rw [e2]
    exact ⟨rfl, hB⟩
theorem splice_bad_g (h : Rope w g t) (q : Good x t) (s e : Int) (u : ByteArray) (hc : chk x.size s e u.size ≠ 0) :
    Calls Try.prog 18 #[.pointer (some ⟨g, 0, none⟩), .agg #[.int .i64 s, .int .i64 e, .string u]] w fun en w' => en = .returned (.tuple #[.pointer none, .int .i64 (chk x.size s e u.size)]) ∧ Below w.heap.size w w' := by
  rw [← q.size] at hc ⊢
  exact splice_bad g t s e u w h hc
theorem splice_g (h : Rope w g t) (q : Good x t) (s e : Int) (u : ByteArray) (hc : chk x.size s e u.size = 0) :
    Calls Try.prog 18 #[.pointer (some ⟨g, 0, none⟩), .agg #[.int .i64 s, .int .i64 e, .string u]] w fun en w' => ∃ (g' : Nat) (r : Option Nd), en = .returned (.tuple #[.pointer (some ⟨g', 0, none⟩), .int .i64 0]) ∧ Rope w' g' r ∧ Good (app x s e u) r ∧ Spliced (optSh t) s e u (optSh r) ∧ Below w.heap.size w w' := by
  have hc' : chk (optSize t) s e u.size = 0 := by rw [q.size]; exact hc
  refine (splice_ok g t s e u w h (optOk_sh q.ok) hc').mono ?_
  rintro en w' ⟨g', r, rfl, hr, hs, hB⟩
  exact ⟨g', r, rfl, hr, q.of_spliced hc hs, hs, hB⟩
theorem leaves_g (h : Rope w g t) (q : Good x t) (hx : x.size ≤ 65536) : Calls Try.prog 15 #[.pointer (some ⟨g, 0, none⟩)] w fun e w' => ∃ v, e = .returned v ∧ Texts w.heap.size w' v (optLv t) ∧ Below w.heap.size w w' := leaves_yes g t w h (q.many hx)
end
end Go.Proofs.Ythjbkiomnipjiaa

namespace Go.Proofs.Ythjbkiomnipjiaa
open Go Go.RowKit Pl
def X0 : ByteArray := ⟨#[97, 98, 99, 10, 100]⟩
def X1 : ByteArray := ⟨#[97, 88, 89, 10, 100]⟩
def XU : ByteArray := ⟨#[88, 89]⟩
theorem chk_x : chk X0.size 1 3 XU.size = 0 := by decide
theorem app_x : app X0 1 3 XU = X1 := by decide
theorem of_x : ofP X0 4 = (1, 0, 0) := by decide
theorem ln_x : Lib.countByte X0.data.toList 10 = 1 := by decide
theorem text_x0 {t : Option Nd} {g : Nat} {w : World} (h : Rope w g t) (q : Good X0 t) : Calls Try.prog 17 #[.pointer (some ⟨g, 0, none⟩)] w fun e w' => e = .returned (.string ⟨#[97, 98, 99, 10, 100]⟩) ∧ Below w.heap.size w w' := text_g h q (by decide)
theorem text_x1 {t : Option Nd} {g : Nat} {w : World} (h : Rope w g t) (q : Good X1 t) : Calls Try.prog 17 #[.pointer (some ⟨g, 0, none⟩)] w fun e w' => e = .returned (.string ⟨#[97, 88, 89, 10, 100]⟩) ∧ Below w.heap.size w w' := text_g h q (by decide)
set_option maxRecDepth 100000 in
set_option maxHeartbeats 4000000 in
theorem alive_yes (w : World) : Calls Try.prog 13 #[] w fun e w' => e = .returned (.bool true) ∧ Below w.heap.size w w' := by
  have hn := new_g X0 w (by decide)
  have hc := chk_x
  go_enter Try.func13, Try.ntmps13
  go_wp2_with (first
    | (go_at_call 12; refine hn.mono ?_; rintro e w1 ⟨g, t, rfl, hr, q, _, b1⟩; have hs := splice_g hr q 1 3 XU hc; rw [app_x] at hs)
    | (go_at_call 18; refine hs.mono ?_; rintro e w2 ⟨g2, t2, rfl, hr2, q2, _, b2⟩; have ho := of_g (hr.below b2) q (by decide) 4; rw [of_x] at ho)
    | (go_at_call 23; refine ho.mono ?_; rintro e w3 ⟨rfl, b3⟩; have hr3 := (hr2.below b3).alloc (.cells #[.int .i64 1, .int .i64 0] 52); have ba : Below w3.heap.size w3 (w3.alloc (.cells #[.int .i64 1, .int .i64 0] 52)) := (Below.refl _ _).alloc (Nat.le_refl _) _; have ca0 := acell w3 #[.int .i64 1, .int .i64 0] 52 0; have ca1 := acell w3 #[.int .i64 1, .int .i64 0] 52 1; have lt3 : w3.heap.size < (w3.alloc (.cells #[.int .i64 1, .int .i64 0] 52)).heap.size := (by rw [show (w3.alloc (.cells #[.int .i64 1, .int .i64 0] 52)).heap.size = w3.heap.size + 1 from Array.size_push _]; omega))
    | (go_at_call 17; refine (text_x1 hr3 q2).mono ?_; rintro e w4 ⟨rfl, b4⟩; have hr4 := (((hr.below b2).below b3).alloc (.cells #[.int .i64 1, .int .i64 0] 52)).below b4)
    | (go_at_call 17; refine (text_x0 hr4 q).mono ?_; rintro e w5 ⟨rfl, b5⟩; have cb0 := ((b4.trans (b5.mono b4.size)).cell (p := ⟨w3.heap.size, 0, none⟩) lt3).trans ca0; have cb1 := ((b4.trans (b5.mono b4.size)).cell (p := ⟨w3.heap.size, 1, none⟩) lt3).trans ca1; have hl := lines_g (hr4.below b5) q (by decide); rw [ln_x] at hl)
    | (go_at_call 27; refine hl.mono ?_; rintro e w6 ⟨rfl, rfl⟩))
  go_ret
  have B12 := b1.trans (b2.mono b1.size)
  have B13 := B12.trans (b3.mono B12.size)
  have B14 := B13.trans (ba.mono B13.size)
  have B15 := B14.trans (b4.mono B14.size)
  exact ⟨rfl, B15.trans (b5.mono B15.size)⟩
end Go.Proofs.Ythjbkiomnipjiaa

namespace Go.Proofs.Ythjbkiomnipjiaa
open Go Go.RowKit Pl
open Go.Proofs.YthjbkiomnipjiaaW.PrintWords (Drawn0)
theorem size_al (w : World) (o : Obj) : (w.alloc o).heap.size = w.heap.size + 1 := Array.size_push _
theorem below_al (w : World) (o : Obj) : Below w.heap.size w (w.alloc o) := (Below.refl _ _).alloc (Nat.le_refl _) _
def AllTrue (w : World) (e : Ending) (w' : World) : Prop := e = .returned (.bool true) ∧ Below w.heap.size w w'
theorem linesOf_g (X : ByteArray) (k : Int) (hx : X.size ≤ 65536) (w : World) : Calls Try.prog 24 #[.string X, .int .i64 k] w fun e w' => e = .returned (.tuple #[.agg #[.int .i64 (ofP X k).1, .int .i64 (ofP X k).2.1], .int .i64 (ofP X k).2.2]) ∧ Below w.heap.size w w' := lines_Of.calls 0 X k _ _ _ w (Aux.Of_eq 0 X k (by omega))
theorem linesAt_g (X : ByteArray) (l c : Int) (hx : X.size ≤ 65536) (w : World) : Calls Try.prog 26 #[.string X, .agg #[.int .i64 l, .int .i64 c]] w fun e w' => e = .returned (.tuple #[.int .i64 (atP X l c).1, .int .i64 (atP X l c).2]) ∧ Below w.heap.size w w' := lines_At.calls 0 X l c _ _ w (Aux.At_eq 0 X l c (by omega))
theorem linesCount_g (X : ByteArray) (hx : X.size ≤ 65536) (w : World) : Calls Try.prog 28 #[.string X] w fun e w' => e = .returned (.int .i64 ((Lib.countByte X.data.toList 10 : Int) + 1)) ∧ Below w.heap.size w w' := lines_Count.calls 0 X _ w (Aux.Count_eq 0 X (by omega))
theorem refOf_g (X : ByteArray) (k : Int) (hx : X.size ≤ 65536) (w : World) : Calls Try.prog 35 #[.string X, .int .i64 k] w fun e w' => e = .returned (.tuple #[.agg #[.int .i64 (ofP X k).1, .int .i64 (ofP X k).2.1], .int .i64 (ofP X k).2.2]) ∧ Below w.heap.size w w' := PAux.rootstockref02_Of.calls (X.size + 3) X k _ _ _ w (Aux.refOf_eq _ X k (by omega) (Nat.le_refl _))
theorem beg_begL (x : ByteArray) (l : Nat) (hl : l ≤ x.data.toList.count 10) : Go.Proofs.YthjbkiomnipjiaaW.PrintWords.rd (Aux.beg x x.size) (l : Int) = (begL x.data.toList l : Nat) := by
  obtain ⟨j, hj, hp, hr⟩ := Aux.beg_at x x.size (Nat.le_refl _) l (by rw [plc_all]; exact hl)
  have := plc_snd x j hj
  rw [hp] at this
  rw [hr]
  have e : 0 + begL x.data.toList l = j := this
  omega
open Go.Proofs.YthjbkiomnipjiaaW.PrintWords (rd bt) in
theorem refAt_eq (x : ByteArray) (hx : x.size ≤ 1048576) (l c : Int) : PAux.rootstockref02_At.f (x.size + 1) x l c = some (atP x l c) := by
  unfold PAux.rootstockref02_At.f
  rw [Aux.begins_eq x hx _ (Nat.lt_succ_self _), Option.bind_some]
  have hlen : (Aux.beg x x.size).length = x.data.toList.count 10 + 1 := by
    rw [Aux.beg_len x x.size (Nat.le_refl _), plc_all]
    rfl
  have hcz : x.data.toList.count 10 ≤ x.size := count_le x
  rw [hlen]
  by_cases h1 : l < 0
  · rw [if_pos h1]
    unfold atP
    rw [if_pos (Or.inl h1)]
    rfl
  · rw [if_neg h1]
    by_cases h2 : l ≥ ((x.data.toList.count 10 + 1 : Nat) : Int)
    · rw [if_pos h2]
      unfold atP
      rw [if_pos (Or.inr (Or.inl (by show ((x.data.toList.count 10 : Nat) : Int) + 1 ≤ l; omega)))]
      rfl
    · rw [if_neg h2]
      by_cases h3 : c < 0
      · rw [decide_eq_true h3]
        unfold atP
        rw [if_pos (Or.inr (Or.inr (Or.inl h3)))]
        rfl
      · rw [decide_eq_false h3]
        obtain ⟨l', rfl⟩ : ∃ n : Nat, l = n := ⟨l.toNat, by omega⟩
        obtain ⟨c', rfl⟩ : ∃ n : Nat, c = n := ⟨c.toNat, by omega⟩
        have hl' : l' ≤ x.data.toList.count 10 := by omega
        have hall : (plc x x.size).1 = x.data.toList.count 10 := plc_all x
        have hb0 : begL x.data.toList l' ≤ x.size := (begL_iff x l' x.size hl').2 (by rw [hall]; exact hl')
        rw [at_in x l' c' hl']
        simp only [PAux.rootstockref02_At.j0]
        rw [if_neg (by decide), hlen]
        have e1 : wrap64 ((l' : Int) + 1) = ((l' + 1 : Nat) : Int) := by unfold wrap64; omega
        rw [e1]
        by_cases h4 : l' < x.data.toList.count 10
        · have hb1 : begL x.data.toList (l' + 1) ≤ x.size := (begL_iff x (l' + 1) x.size h4).2 (by rw [hall]; exact h4)
          have e2 : toL x l' = (begL x.data.toList (l' + 1) : Int) - 1 := if_pos h4
          rw [if_pos (by omega), if_pos (by omega), if_pos (by omega), if_pos (by omega), beg_begL x (l' + 1) h4, beg_begL x l' hl', e2]
          have e3 : wrap64 (wrap64 (((begL x.data.toList (l' + 1) : Nat) : Int) - 1) - ((begL x.data.toList l' : Nat) : Int)) = ((begL x.data.toList (l' + 1) : Nat) : Int) - 1 - ((begL x.data.toList l' : Nat) : Int) := by unfold wrap64; omega
          rw [e3]
          by_cases h5 : ((begL x.data.toList (l' + 1) : Nat) : Int) - 1 - ((begL x.data.toList l' : Nat) : Int) < (c' : Int)
          · rw [if_pos h5, if_pos h5]
          · rw [if_neg h5, if_neg (by omega)]
            have e4 : wrap64 (((begL x.data.toList l' : Nat) : Int) + (c' : Int)) = ((begL x.data.toList l' : Nat) : Int) + c' := by unfold wrap64; omega
            rw [e4]
        · have e2 : toL x l' = x.size := if_neg h4
          rw [if_neg (by omega), if_pos (by omega), if_pos (by omega), beg_begL x l' hl', e2]
          have e3 : wrap64 ((x.size : Int) - ((begL x.data.toList l' : Nat) : Int)) = (x.size : Int) - ((begL x.data.toList l' : Nat) : Int) := by unfold wrap64; omega
          rw [e3]
          by_cases h5 : (x.size : Int) - ((begL x.data.toList l' : Nat) : Int) < (c' : Int)
          · rw [if_pos h5, if_pos h5]
          · rw [if_neg h5, if_neg (by omega)]
            have e4 : wrap64 (((begL x.data.toList l' : Nat) : Int) + (c' : Int)) = ((begL x.data.toList l' : Nat) : Int) + c' := by unfold wrap64; omega
            rw [e4]
theorem refAt_g (X : ByteArray) (l c : Int) (hx : X.size ≤ 65536) (w : World) : Calls Try.prog 36 #[.string X, .agg #[.int .i64 l, .int .i64 c]] w fun e w' => e = .returned (.tuple #[.int .i64 (atP X l c).1, .int .i64 (atP X l c).2]) ∧ Below w.heap.size w w' := PAux.rootstockref02_At.calls _ X l c _ _ w (refAt_eq X (by omega) l c)
theorem refCount_g (X : ByteArray) (hx : X.size ≤ 65536) (w : World) : Calls Try.prog 34 #[.string X] w fun e w' => e = .returned (.int .i64 ((Lib.countByte X.data.toList 10 : Int) + 1)) ∧ Below w.heap.size w w' := by
  refine PAux.rootstockref02_Count.calls (X.size + 1) X _ w ?_
  unfold PAux.rootstockref02_Count.f
  rw [Aux.begins_eq X (by omega) _ (Nat.lt_succ_self _), Option.bind_some, Aux.beg_len X X.size (Nat.le_refl _), plc_all]
  rfl
theorem refByte_g (X : ByteArray) (k : Int) (w : World) : Calls Try.prog 32 #[.string X, .int .i64 k] w fun e w' => e = .returned (.tuple #[.int .u8 (byP X k).1, .int .i64 (byP X k).2]) ∧ Drawn0 w w' := by
  refine PAux.rootstockref03_Byte.calls X k _ _ w ?_
  unfold PAux.rootstockref03_Byte.f byP
  by_cases h1 : k < 0
  · rw [if_pos h1, if_pos (Or.inl h1)]
  · by_cases h2 : k ≥ (X.size : Int)
    · rw [if_neg h1, if_pos h2, if_pos (Or.inr h2)]
    · rw [if_neg h1, if_neg h2, if_pos (by omega), if_pos (by omega), if_neg (by omega)]
      rfl
theorem refSlice_g (X : ByteArray) (f e : Int) (w : World) : Calls Try.prog 33 #[.string X, .agg #[.int .i64 f, .int .i64 e]] w fun en w' => en = .returned (.tuple #[.string (slP X f e).1, .int .i64 (slP X f e).2]) ∧ Below w.heap.size w w' := by
  refine PAux.rootstockref03_Slice.calls X f e _ _ w ?_
  unfold PAux.rootstockref03_Slice.f slP
  by_cases h1 : f < 0
  · rw [if_pos h1, if_pos (Or.inl h1)]
  · by_cases h2 : e < f
    · rw [if_neg h1, if_pos h2, if_pos (Or.inr (Or.inl h2))]
    · by_cases h3 : e > (X.size : Int)
      · rw [if_neg h1, if_neg h2, if_pos h3, if_pos (Or.inr (Or.inr h3))]
      · rw [if_neg h1, if_neg h2, if_neg h3, if_pos (by omega), if_pos (by omega), if_pos (by omega), if_neg (by omega)]
theorem refApply_g (X : ByteArray) (s e : Int) (u : ByteArray) (w : World) : Calls Try.prog 30 #[.string X, .agg #[.int .i64 s, .int .i64 e, .string u]] w fun en w' => en = .returned (.tuple #[.string (ans X s e u).1, .int .i64 (ans X s e u).2]) ∧ Below w.heap.size w w' := PAux.rootstockref01_Apply.calls 2 X s e u _ _ w (Aux.ref_Apply_eq 0 X s e u)
theorem undo_g (X : ByteArray) (s e : Int) (u : ByteArray) (w : World) : Calls Try.prog 19 #[.string X, .agg #[.int .i64 s, .int .i64 e, .string u]] w fun en w' => en = .returned (.tuple #[.agg #[.int .i64 (und X s e u).1, .int .i64 (und X s e u).2.1, .string (und X s e u).2.2.1], .int .i64 (und X s e u).2.2.2]) ∧ Below w.heap.size w w' := PAux.edits_Undo.calls 2 X s e u _ _ _ _ w (Aux.edits_Undo_eq 0 X s e u)
theorem high_l (n : Nat) (hn : n ≤ 1048576) : ∀ (k i : Nat), bits n < k → i + bits n ≤ 1048576 → PAux.rootstockref03_High.l0 k (n : Int) (i : Int) = some (2 * ((i + bits n : Nat) : Int) + 2) := by
  induction n using Nat.strongRecOn with
  | ind n ih =>
    intro k i hk hi
    obtain ⟨k, rfl⟩ : ∃ m, k = m + 1 := ⟨k - 1, by omega⟩
    show (if (n : Int) > 0 then _ else _) = _
    by_cases h0 : n = 0
    · subst h0
      rw [if_neg (by omega), bits_zero]
      have e : wrap64 (wrap64 (2 * (i : Int)) + 2) = 2 * ((i + 0 : Nat) : Int) + 2 := by
        rw [bits_zero] at hi
        unfold wrap64
        omega
      rw [e]
    · have hb := bits_pos h0
      rw [if_pos (by omega)]
      have e1 : wrap64 (Int.tdiv (n : Int) 2) = ((n / 2 : Nat) : Int) := by
        have : Int.tdiv (n : Int) 2 = ((n / 2 : Nat) : Int) := by rw [Int.tdiv_eq_ediv_of_nonneg (by omega)]; omega
        rw [this]
        unfold wrap64
        omega
      have e2 : wrap64 ((i : Int) + 1) = ((i + 1 : Nat) : Int) := by unfold wrap64; omega
      rw [e1, e2, ih (n / 2) (by omega) (by omega) k (i + 1) (by omega) (by omega), hb]
      have e3 : i + 1 + bits (n / 2) = i + (1 + bits (n / 2)) := by omega
      rw [e3]
theorem bits_le : ∀ n, bits n ≤ n := by
  intro n
  induction n using Nat.strongRecOn with
  | ind n ih =>
    by_cases h0 : n = 0
    · subst h0; rw [bits_zero]; exact Nat.le_refl _
    · rw [bits_pos h0]
      have := ih (n / 2) (by omega)
      omega
theorem high_g (n : Nat) (hn : n ≤ 65536) (w : World) : Calls Try.prog 40 #[.int .i64 n] w fun e w' => e = .returned (.int .i64 (2 * (bits n : Int) + 2)) ∧ Drawn0 w w' := by
  have hb := bits_le n
  refine PAux.rootstockref03_High.calls (bits n + 1) n _ w ?_
  unfold PAux.rootstockref03_High.f
  have := high_l n (by omega) (bits n + 1) 0 (by omega) (by omega)
  rw [Nat.zero_add] at this
  exact this
end Go.Proofs.Ythjbkiomnipjiaa
