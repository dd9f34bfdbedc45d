/- Stacks: the types' facts that their walks take: keys, maps, rows. -/
import Derived.Test.YteeiidkbihhekaaProg
import Derived.Below
import Derived.WalkKit
import Derived.WalkSmall
import Derived.Deep.LoopGhost
import Derived.Deep.QuietTactic
import Derived.BigQuiet
import Derived.BigRegion
import Derived.StillTailTactics
import Derived.Deep.RegionHeld3
import Derived.Lib.Hide
import Derived.Outline
import Derived.IntWalk
import Derived.Maps.GroupsBeside
import Derived.DeepKeys4
import Derived.WideKeyPair
import Derived.Lib.SmallJoins
set_option linter.unusedVariables false
set_option linter.unusedSimpArgs false
namespace Go.Proofs.Yteeiidkbihhekaa
open Go Go.RowKit Go.Maps Go.WideMaps
open Go.ChangeShapes (lits)
theorem laidOut : laidOutB Try.prog = true := by kernel_rfl
theorem row84 : (84 : TypeId) < Try.prog.types.size := of_decide_eq_true (by kernel_rfl)
theorem cells84 : Try.prog.cellsOf 84 = 2 := by kernel_rfl
theorem wide84 : (match Try.prog.underlying 84 with | some (.array _ _) | some (.struct _) => true | _ => false) = true := by rw [Try.underlying84]
theorem law84 : Keyed Try.prog 84 := Keyed.of_law (deep_law_laid laidOut (m := 2) (by omega) row84 (by kernel_rfl) wide84)
theorem law3 : Keyed Try.prog 3 := int_keyed Try.underlying3
theorem info3 : (Try.prog.info? 3).map (fun i => (i.zero, i.size, i.bytes)) = some (some (.int .i64 0), 1, 8) := by kernel_rfl
theorem info81 : (Try.prog.info? 81).map (fun i => (i.zero, i.size, i.bytes)) = some (some (.agg #[.int .i64 0, .int .i64 0, .slice none 0 0]), 3, 40) := by kernel_rfl
theorem info46 : (Try.prog.info? 46).map (fun i => (i.zero, i.size, i.bytes)) = some (some (.agg #[.int .i64 0, .int .i64 0]), 2, 16) := by kernel_rfl
theorem zero33 (w : World) : (zeroValue 33).run Try.prog w = .ok (.slice none 0 0) w := by kernel_rfl
theorem zero3 (w : World) : (zeroValue 3).run Try.prog w = .ok (.int .i64 0) w := by kernel_rfl
theorem arr84 : ArrKey Try.prog 84 3 2 := ⟨Try.underlying84, by kernel_rfl, by kernel_rfl, cells84⟩
/-- a number that an int holds -/
def Wf (a : Int) : Prop := (Lit.int .i64 a).wf = true
theorem Wf.of {a : Int} (h0 : -9223372036854775808 ≤ a) (h1 : a ≤ 9223372036854775807) : Wf a := WalkArith.wf_i64 ⟨h0, h1⟩
def kp (a b : Int) : Lit := .string (keyBytes [.int .i64 a, .int .i64 b])
theorem key_kp {a b : Int} (ha : Wf a) (hb : Wf b) : keyOf Try.prog 84 (.agg #[.int .i64 a, .int .i64 b]) = some (kp a b) :=
  keyOf_pair arr84 Try.underlying3 ⟨Try.prog.types.size - 1, by kernel_rfl⟩ ha hb
theorem kp_inj {a b c d : Int} (ha : Wf a) (hb : Wf b) (hc : Wf c) (hd : Wf d) (h : kp a b = kp c d) : a = c ∧ b = d := by
  have h1 : keyBytes [.int .i64 a, .int .i64 b] = keyBytes [.int .i64 c, .int .i64 d] := by simpa [kp] using h
  have := keyBytes_inj (l := [.int .i64 a, .int .i64 b]) (l' := [.int .i64 c, .int .i64 d]) ?_ ?_ ?_ h1
  · simpa using this
  · exact ⟨rfl, rfl, trivial⟩
  · intro x hx
    simp only [List.mem_cons, List.not_mem_nil, or_false] at hx
    rcases hx with rfl | rfl
    · exact ha
    · exact hb
  · intro x hx
    simp only [List.mem_cons, List.not_mem_nil, or_false] at hx
    rcases hx with rfl | rfl
    · exact hc
    · exact hd
structure N where
  st : Int
  lv : Int
  lk : List (Int × Int)
def lkCells (l : List (Int × Int)) : List Value := l.flatMap fun p => [.int .i64 p.1, .int .i64 p.2]
def nodeCells : List N → List Value → List Value
  | n :: ns, v :: vs => [.int .i64 n.st, .int .i64 n.lv, v] ++ nodeCells ns vs
  | _, _ => []
theorem nodeCells_snoc : ∀ (ns : List N) (vs : List Value) (n : N) (v : Value), vs.length = ns.length → nodeCells (ns ++ [n]) (vs ++ [v]) = nodeCells ns vs ++ [.int .i64 n.st, .int .i64 n.lv, v]
  | [], [], n, v, _ => rfl
  | [], _ :: _, n, v, h => by simp at h
  | _ :: _, [], n, v, h => by simp at h
  | m :: ns, u :: vs, n, v, h => by
    show [.int .i64 m.st, .int .i64 m.lv, u] ++ nodeCells (ns ++ [n]) (vs ++ [v]) = _
    rw [nodeCells_snoc ns vs n v (by simpa using h)]
    rfl
/-- one more than the number of the node with this state at this level; 0: there is none -/
def idx : List N → Int → Int → Nat
  | [], _, _ => 0
  | n :: ns, a, b => if n.st = a ∧ n.lv = b then 1 else if idx ns a b = 0 then 0 else idx ns a b + 1
theorem idx_le : ∀ (ns : List N) (a b : Int), idx ns a b ≤ ns.length
  | [], _, _ => Nat.le_refl _
  | n :: ns, a, b => by
    have := idx_le ns a b
    show (if n.st = a ∧ n.lv = b then 1 else if idx ns a b = 0 then 0 else idx ns a b + 1) ≤ ns.length + 1
    split
    · omega
    · split <;> omega
theorem idx_snoc (n : N) : ∀ (ns : List N) (a b : Int), idx (ns ++ [n]) a b = if idx ns a b ≠ 0 then idx ns a b else if n.st = a ∧ n.lv = b then ns.length + 1 else 0
  | [], a, b => by
    show (if n.st = a ∧ n.lv = b then 1 else if 0 = 0 then 0 else 0 + 1) = _
    simp [idx]
  | m :: ns, a, b => by
    have ih := idx_snoc n ns a b
    show (if m.st = a ∧ m.lv = b then 1 else if idx (ns ++ [n]) a b = 0 then 0 else idx (ns ++ [n]) a b + 1) = _
    rw [ih]
    show _ = if (if m.st = a ∧ m.lv = b then 1 else if idx ns a b = 0 then 0 else idx ns a b + 1) ≠ 0 then (if m.st = a ∧ m.lv = b then 1 else if idx ns a b = 0 then 0 else idx ns a b + 1) else if n.st = a ∧ n.lv = b then ns.length + 1 + 1 else 0
    by_cases h1 : m.st = a ∧ m.lv = b
    · simp [h1]
    · by_cases h2 : idx ns a b = 0
      · by_cases h3 : n.st = a ∧ n.lv = b <;> simp [h1, h2, h3]
      · simp [h1, h2]
theorem idx_zero (ns : List N) (a b : Int) : idx ns a b = 0 ↔ ∀ n ∈ ns, ¬ (n.st = a ∧ n.lv = b) := by
  induction ns with
  | nil => simp [idx]
  | cons n ns ih =>
    show (if n.st = a ∧ n.lv = b then 1 else if idx ns a b = 0 then 0 else idx ns a b + 1) = 0 ↔ _
    rw [List.forall_mem_cons, ← ih]
    by_cases h1 : n.st = a ∧ n.lv = b
    · simp only [h1, and_self, if_true, not_true, false_and, iff_false]
      omega
    · by_cases h2 : idx ns a b = 0
      · simp only [h1, h2, if_false, if_true, not_false_eq_true, and_self]
      · simp only [h1, h2, if_false, not_false_eq_true, true_and, iff_false]
        omega
/-- what the map from a state and a level reads as -/
def ByD (D : DataW Unit) (ns : List N) : Prop := IsMap D ∧ ∀ a b, Wf a → Wf b → D.atKey (kp a b) (.lit (.int .i64 0)) = .lit (.int .i64 (idx ns a b))
theorem keyLit_kp (a b : Int) : WideAt.IsKeyLit (kp a b) := by
  simp [kp, WideAt.IsKeyLit]
theorem ByD.put {D : DataW Unit} {ns : List N} (h : ByD D ns) {n : N} (ha : Wf n.st) (hb : Wf n.lv) (hz : idx ns n.st n.lv = 0) : ByD (D.put (kp n.st n.lv) (.lit (.int .i64 ((ns.length : Int) + 1)))) (ns ++ [n]) := by
  refine ⟨h.1.put _ _, ?_⟩
  intro a b wa wb
  rw [idx_snoc]
  by_cases hk : n.st = a ∧ n.lv = b
  · obtain ⟨rfl, rfl⟩ := hk
    rw [atKey_put_same h.1 (keyLit_kp _ _), hz]
    simp
  · rw [atKey_put_other (by intro e; exact hk ((kp_inj wa wb ha hb e).imp Eq.symm Eq.symm)), h.2 a b wa wb]
    simp only [ne_eq, hk, if_false]
    by_cases h0 : idx ns a b = 0
    · simp [h0]
    · simp [h0]
/-- the k-th of some values; nil -/
def vAt (vs : List Value) (i : Nat) : Value := vs.getD i (.slice none 0 0)
/-- the numbers of the nodes at a level, from k on -/
def rowsFrom (k : Int) : List N → Int → List Int
  | [], _ => []
  | n :: ns, l => if n.lv = l then k :: rowsFrom (k + 1) ns l else rowsFrom (k + 1) ns l
theorem rowsFrom_snoc (n : N) (l : Int) : ∀ (ns : List N) (k : Int), rowsFrom k (ns ++ [n]) l = rowsFrom k ns l ++ if n.lv = l then [k + (ns.length : Int)] else []
  | [], k => by
    show (if n.lv = l then k :: rowsFrom (k + 1) [] l else rowsFrom (k + 1) [] l) = _
    by_cases h : n.lv = l <;> simp [h, rowsFrom]
  | m :: ns, k => by
    have ih := rowsFrom_snoc n l ns (k + 1)
    show (if m.lv = l then k :: rowsFrom (k + 1) (ns ++ [n]) l else rowsFrom (k + 1) (ns ++ [n]) l) = (if m.lv = l then k :: rowsFrom (k + 1) ns l else rowsFrom (k + 1) ns l) ++ if n.lv = l then [k + ((ns.length + 1 : Nat) : Int)] else []
    have e : k + 1 + (ns.length : Int) = k + ((ns.length + 1 : Nat) : Int) := by omega
    rw [ih, e]
    by_cases h : m.lv = l <;> simp [h]
/-- what the map from a level reads as -/
def RowsD (G : DataW Unit) (ns : List N) : Prop := IsMap G ∧ ∀ l, Wf l → G.atKey (.int .i64 l) .nil = if rowsFrom 0 ns l = [] then .nil else .slice (lits .i64 (rowsFrom 0 ns l)) []
theorem lits_inj {a b : List Int} (h : (lits .i64 a : List (DataW Unit)) = lits .i64 b) : a = b := by
  unfold lits at h
  exact (List.map_inj_right (fun x y hxy => by cases hxy; rfl)).1 h
theorem RowsD.look {G : DataW Unit} {ns : List N} (h : RowsD G ns) {w : World} {base : Nat} {v : Value} {zs : List Int} {l : Int} (hl : Wf l) (hoi : w.ownsInts base 3 .i64 v zs) (hat : G.atKey (.int .i64 l) .nil = rowDatum .i64 v zs) : zs = rowsFrom 0 ns l := by
  rw [h.2 l hl] at hat
  rcases hoi.datum (H := Unit) with ⟨h1, h2⟩ | h1
  · rw [h1] at hat
    by_cases h0 : rowsFrom 0 ns l = []
    · rw [h0, h2]
    · rw [if_neg h0] at hat
      cases hat
  · rw [h1] at hat
    by_cases h0 : rowsFrom 0 ns l = []
    · rw [if_pos h0] at hat
      cases hat
    · rw [if_neg h0] at hat
      injection hat with e _
      exact (lits_inj e).symm
theorem RowsD.put {G : DataW Unit} {ns : List N} (h : RowsD G ns) {n : N} (hl : Wf n.lv) {w : World} {base : Nat} {v : Value} {zs : List Int} (hz : zs = rowsFrom 0 ns n.lv) (hoi : w.ownsInts base 3 .i64 v (zs ++ [(ns.length : Int)])) :
    RowsD (G.put (.int .i64 n.lv) (rowDatum .i64 v (zs ++ [(ns.length : Int)]))) (ns ++ [n]) := by
  refine ⟨h.1.put _ _, ?_⟩
  intro l wl
  rw [hoi.datum_pos (H := Unit) (by simp), rowsFrom_snoc]
  by_cases e : n.lv = l
  · subst e
    rw [atKey_put_same h.1 (by trivial), hz]
    simp
  · rw [atKey_put_other (by intro e1; injection e1 with _ e2; exact e e2.symm), h.2 l wl]
    simp [e]
/-- memory holds stacks with these nodes: its header, its rows, its maps, all from block B on -/
structure StM (w : World) (B g : Nat) (nv : Value) (bm br : Nat) (vs : List Value) (ns : List N) (p : Nat) : Prop where
  hd : w.heap[g]? = some (.cells #[nv, .map (some bm), .map (some br)] 76 (0, 0))
  gB : B ≤ g
  mB : B ≤ bm
  rB : B ≤ br
  mr : bm ≠ br
  len : vs.length = ns.length
  nod : w.ownsRow B 81 3 nv ns.length (nodeCells ns vs)
  lks : ∀ i, (h : i < ns.length) → w.ownsRow B 46 2 (vAt vs i) (ns[i]).lk.length (lkCells (ns[i]).lk)
  apart : ∀ i j, i < ns.length → j < ns.length → i ≠ j → (vAt vs i).ownBlock = none ∨ (vAt vs i).ownBlock ≠ (vAt vs j).ownBlock
  by_ : ∃ D, w.ownsMap Try.prog 84 (plainElem Try.prog 3) bm ns.length D ∧ ByD D ns
  rows : ∃ G : DataW Unit, w.ownsGroups Try.prog 3 (br + 1) 3 .i64 br ns.length G ∧ RowsD G ns
  wf : ∀ n ∈ ns, Wf n.st ∧ Wf n.lv
  few : ns.length ≤ 2097152
  lkp : ∀ n ∈ ns, n.lk.length ≤ p
/-- no block of the stacks is one of which No holds -/
structure Off (No : Nat → Prop) (w : World) (g bm br : Nat) (nv : Value) (vs : List Value) : Prop where
  hd : ¬ No g
  bm_ : ¬ No bm
  br_ : ¬ No br
  nv_ : ∀ k, nv.ownBlock = some k → ¬ No k
  vs_ : ∀ i k, (vAt vs i).ownBlock = some k → ¬ No k
  rows : w.Shuns br No
end Go.Proofs.Yteeiidkbihhekaa
