/- Trees of leaves, plainly: a leaf has its place in memory and its bytes. What the rope's functions make of them: level, join, split, build. No program. What level and join keep: sizes, leaves, bytes, balance. No program. What split keeps: sizes, leaves' bounds, bytes, balance. No program. A rope's tree of nodes with each node's place in memory; what memory holds of it; that it stays so while memory grows. The rope's inner functions, walked: leaf, branch, level, join come to the plain functions of YthjbkiomnipjiaaSh. The rope's level, walked: each of its five ways comes to Sh.level. The rope's level (its ways together) and join, walked. The rope's build, walked: a tree that is built as the text's cut says. The rope's split, walked: it comes to Sh.split. The rope's smaller methods, walked: there, tree, New, Len, Height, Lines; of a rope that New or Splice made. -/
import Derived.RowKit
import Derived.Lib.Bytealg
import Derived.Test.YthjbkiomnipjiaaProg
import Derived.Below
import Derived.WalkSmall
import Derived.Test.YthjbkiomnipjiaaShelf
import Derived.WalkKit
import Derived.Deep.LoopGhost
import Derived.Deep.QuietTactic
import Derived.BigQuiet
import Derived.BigRegion
import Derived.StillTailTactics
import Derived.Deep.RegionHeld3
import Derived.Lib.Hide
import Derived.Outline
import Derived.IntWalk
set_option linter.unusedVariables false
set_option linter.unusedSimpArgs false
namespace Go.Proofs.Ythjbkiomnipjiaa
open Go

inductive Sh where
  | leaf (b : Nat) (s : ByteArray)
  | node (l r : Sh)

namespace Sh
def size : Sh → Nat
  | leaf _ s => s.size
  | node l r => l.size + r.size
def ends : Sh → Nat
  | leaf _ s => Lib.countByte s.data.toList 10
  | node l r => l.ends + r.ends
def height : Sh → Nat
  | leaf _ _ => 0
  | node l r => 1 + max l.height r.height
def leaves : Sh → Nat
  | leaf _ _ => 1
  | node l r => l.leaves + r.leaves
/-- each leaf has a byte at least, and 64 at most -/
def Ok : Sh → Prop
  | leaf _ s => 1 ≤ s.size ∧ s.size ≤ 64
  | node l r => l.Ok ∧ r.Ok
/-- no branch is higher than the other by more than one -/
def Bal : Sh → Prop
  | leaf _ _ => True
  | node l r => l.Bal ∧ r.Bal ∧ l.height ≤ r.height + 1 ∧ r.height ≤ l.height + 1
/-- the leaves, in order -/
def lv : Sh → List (Nat × ByteArray)
  | leaf b s => [(b, s)]
  | node l r => l.lv ++ r.lv
/-- all bytes -/
def text : Sh → ByteArray
  | leaf _ s => s
  | node l r => l.text ++ r.text

theorem count_le (x : ByteArray) : Lib.countByte x.data.toList 10 ≤ x.size := by
  have : x.data.toList.count 10 ≤ x.data.toList.length := List.count_le_length
  exact Nat.le_trans this (Nat.le_of_eq Array.length_toList)
theorem ends_le : ∀ t : Sh, t.ends ≤ t.size
  | leaf _ s => count_le s
  | node l r => Nat.add_le_add (ends_le l) (ends_le r)
theorem leaves_le : ∀ t : Sh, t.Ok → t.leaves ≤ t.size
  | leaf _ _, h => h.1
  | node l r, h => Nat.add_le_add (leaves_le l h.1) (leaves_le r h.2)
theorem height_lt : ∀ t : Sh, t.height < t.leaves
  | leaf _ _ => Nat.zero_lt_one
  | node l r => by
    have h1 := height_lt l
    have h2 := height_lt r
    show 1 + max l.height r.height < l.leaves + r.leaves
    omega
theorem size_text : ∀ t : Sh, t.text.size = t.size
  | leaf _ _ => rfl
  | node l r => by
    show (l.text ++ r.text).size = l.size + r.size
    rw [ByteArray.size_append, size_text l, size_text r]
theorem size_pos : ∀ t : Sh, t.Ok → 1 ≤ t.size
  | leaf _ _, h => h.1
  | node l r, h => by
    have := size_pos l h.1
    show 1 ≤ l.size + r.size
    omega

def left : Sh → Sh
  | leaf b s => leaf b s
  | node l _ => l
def right : Sh → Sh
  | leaf b s => leaf b s
  | node _ r => r

/-- two of which one may be higher than the other by two -/
def level (a b : Sh) : Sh :=
  if b.height > a.height + 1 then
    if b.left.height > b.right.height then node (node a b.left.left) (node b.left.right b.right)
    else node (node a b.left) b.right
  else if a.height > b.height + 1 then
    if a.right.height > a.left.height then node (node a.left a.right.left) (node a.right.right b)
    else node a.left (node a.right b)
  else node a b

theorem left_lt {t : Sh} (h : 0 < t.height) : t.left.height < t.height := by
  cases t with
  | leaf b s => exact absurd h (Nat.lt_irrefl 0)
  | node l r => show l.height < 1 + max l.height r.height; omega
theorem right_lt {t : Sh} (h : 0 < t.height) : t.right.height < t.height := by
  cases t with
  | leaf b s => exact absurd h (Nat.lt_irrefl 0)
  | node l r => show r.height < 1 + max l.height r.height; omega

/-- one text behind the other -/
def join (a b : Sh) : Sh :=
  if a.height > b.height + 1 then level a.left (join a.right b)
  else if b.height > a.height + 1 then level (join a b.left) b.right
  else node a b
termination_by a.height + b.height
decreasing_by
  · have := right_lt (t := a) (by omega); omega
  · have := left_lt (t := b) (by omega); omega

def joinO : Option Sh → Option Sh → Option Sh
  | none, b => b
  | a, none => a
  | some a, some b => some (join a b)

def leafO (g : Nat) (s : ByteArray) : Option Sh := if s.size = 0 then none else some (leaf g s)

/-- the bytes ahead of a place, and the others; g, h: where new leaves come to lie -/
def split (g h : Nat) (t : Sh) (at_ : Int) : Option Sh × Option Sh :=
  if at_ ≤ 0 then (none, some t)
  else if (t.size : Int) ≤ at_ then (some t, none)
  else match t with
    | leaf _ s => (leafO g (s.extract 0 at_.toNat), leafO h (s.extract at_.toNat s.size))
    | node l r =>
      if at_ < l.size then ((split g h l at_).1, joinO (split g h l at_).2 (some r))
      else (joinO (some l) (split g h r (at_ - l.size)).1, (split g h r (at_ - l.size)).2)
def splitO (g h : Nat) : Option Sh → Int → Option Sh × Option Sh
  | none, _ => (none, none)
  | some t, at_ => split g h t at_
end Sh
end Go.Proofs.Ythjbkiomnipjiaa

namespace Go.Proofs.Ythjbkiomnipjiaa
open Go
namespace Sh
theorem lr {t : Sh} (h : 0 < t.height) : t = node t.left t.right := by
  cases t with
  | leaf b s => exact absurd h (Nat.lt_irrefl 0)
  | node l r => rfl

/-- Whatever adds up over branches adds up over level and join. -/
theorem level_hom {M : Type} (f : Sh → M) (op : M → M → M) (asc : ∀ x y z, op (op x y) z = op x (op y z)) (hf : ∀ l r, f (node l r) = op (f l) (f r)) (a b : Sh) : f (level a b) = op (f a) (f b) := by
  unfold level
  split
  · rename_i h1
    have e := lr (t := b) (by omega)
    split
    · rename_i h2
      have e2 := lr (t := b.left) (by omega)
      have hb : f b = op (op (f b.left.left) (f b.left.right)) (f b.right) := by
        conv => lhs; rw [e, hf, e2, hf]
      rw [hb, hf, hf, hf]
      simp only [asc]
    · have hb : f b = op (f b.left) (f b.right) := by conv => lhs; rw [e, hf]
      rw [hb, hf, hf, asc]
  · split
    · rename_i h1
      have e := lr (t := a) (by omega)
      split
      · rename_i h2
        have e2 := lr (t := a.right) (by omega)
        have ha : f a = op (f a.left) (op (f a.right.left) (f a.right.right)) := by
          conv => lhs; rw [e, hf, e2, hf]
        rw [ha, hf, hf, hf]
        simp only [asc]
      · have ha : f a = op (f a.left) (f a.right) := by conv => lhs; rw [e, hf]
        rw [ha, hf, hf, asc]
    · exact hf a b
theorem join_hom {M : Type} (f : Sh → M) (op : M → M → M) (asc : ∀ x y z, op (op x y) z = op x (op y z)) (hf : ∀ l r, f (node l r) = op (f l) (f r)) : ∀ (n : Nat) (a b : Sh), a.height + b.height ≤ n → f (join a b) = op (f a) (f b) := by
  intro n
  induction n with
  | zero =>
    intro a b h
    rw [join, if_neg (by omega), if_neg (by omega)]
    exact hf a b
  | succ n ih =>
    intro a b h
    rw [join]
    split
    · rename_i h1
      have e := lr (t := a) (by omega)
      have := right_lt (t := a) (by omega)
      have ha : f a = op (f a.left) (f a.right) := by conv => lhs; rw [e, hf]
      rw [level_hom f op asc hf, ih a.right b (by omega), ha, asc]
    · split
      · rename_i h1
        have e := lr (t := b) (by omega)
        have := left_lt (t := b) (by omega)
        have hb : f b = op (f b.left) (f b.right) := by conv => lhs; rw [e, hf]
        rw [level_hom f op asc hf, ih a b.left (by omega), hb, asc]
      · exact hf a b
theorem level_size (a b : Sh) : (level a b).size = a.size + b.size := level_hom size (· + ·) Nat.add_assoc (fun _ _ => rfl) a b
theorem level_lv (a b : Sh) : (level a b).lv = a.lv ++ b.lv := level_hom lv (· ++ ·) List.append_assoc (fun _ _ => rfl) a b
theorem join_size (a b : Sh) : (join a b).size = a.size + b.size := join_hom size (· + ·) Nat.add_assoc (fun _ _ => rfl) _ a b (Nat.le_refl _)
theorem join_ends (a b : Sh) : (join a b).ends = a.ends + b.ends := join_hom ends (· + ·) Nat.add_assoc (fun _ _ => rfl) _ a b (Nat.le_refl _)
theorem join_leaves (a b : Sh) : (join a b).leaves = a.leaves + b.leaves := join_hom leaves (· + ·) Nat.add_assoc (fun _ _ => rfl) _ a b (Nat.le_refl _)
theorem join_lv (a b : Sh) : (join a b).lv = a.lv ++ b.lv := join_hom lv (· ++ ·) List.append_assoc (fun _ _ => rfl) _ a b (Nat.le_refl _)
theorem join_text (a b : Sh) : (join a b).text = a.text ++ b.text := join_hom text (· ++ ·) (fun _ _ _ => ByteArray.append_assoc) (fun _ _ => rfl) _ a b (Nat.le_refl _)
theorem level_ok {a b : Sh} (ha : a.Ok) (hb : b.Ok) : (level a b).Ok := by
  have := level_hom Ok (· ∧ ·) (fun x y z => propext and_assoc) (fun _ _ => rfl) a b
  rw [this]
  exact ⟨ha, hb⟩
theorem join_ok {a b : Sh} (ha : a.Ok) (hb : b.Ok) : (join a b).Ok := by
  have := join_hom Ok (· ∧ ·) (fun x y z => propext and_assoc) (fun _ _ => rfl) _ a b (Nat.le_refl _)
  rw [this]
  exact ⟨ha, hb⟩

theorem height_node (l r : Sh) : (node l r).height = 1 + max l.height r.height := rfl
theorem bal_node (l r : Sh) : (node l r).Bal ↔ l.Bal ∧ r.Bal ∧ l.height ≤ r.height + 1 ∧ r.height ≤ l.height + 1 := Iff.rfl
theorem level_bal {a b : Sh} (ha : a.Bal) (hb : b.Bal) (h1 : a.height ≤ b.height + 2) (h2 : b.height ≤ a.height + 2) :
    (level a b).Bal ∧ (level a b).height ≤ max a.height b.height + 1 ∧ max a.height b.height ≤ (level a b).height ∧ (a.height ≤ b.height + 1 → b.height ≤ a.height + 1 → (level a b).height = 1 + max a.height b.height) := by
  unfold level
  split
  · rename_i c1
    have e := lr (t := b) (by omega)
    have eh : b.height = 1 + max b.left.height b.right.height := by conv => lhs; rw [e, height_node]
    have eb := hb
    rw [e, bal_node] at eb
    obtain ⟨b1, b2, b3, b4⟩ := eb
    split
    · rename_i c2
      have e2 := lr (t := b.left) (by omega)
      have eh2 : b.left.height = 1 + max b.left.left.height b.left.right.height := by conv => lhs; rw [e2, height_node]
      rw [e2, bal_node] at b1
      obtain ⟨d1, d2, d3, d4⟩ := b1
      simp only [bal_node, height_node]
      exact ⟨⟨⟨ha, d1, by omega, by omega⟩, ⟨d2, b2, by omega, by omega⟩, by omega, by omega⟩, by omega, by omega, by omega⟩
    · simp only [bal_node, height_node]
      exact ⟨⟨⟨ha, b1, by omega, by omega⟩, b2, by omega, by omega⟩, by omega, by omega, by omega⟩
  · split
    · rename_i c1
      have e := lr (t := a) (by omega)
      have eh : a.height = 1 + max a.left.height a.right.height := by conv => lhs; rw [e, height_node]
      have ea := ha
      rw [e, bal_node] at ea
      obtain ⟨b1, b2, b3, b4⟩ := ea
      split
      · rename_i c2
        have e2 := lr (t := a.right) (by omega)
        have eh2 : a.right.height = 1 + max a.right.left.height a.right.right.height := by conv => lhs; rw [e2, height_node]
        rw [e2, bal_node] at b2
        obtain ⟨d1, d2, d3, d4⟩ := b2
        simp only [bal_node, height_node]
        exact ⟨⟨⟨b1, d1, by omega, by omega⟩, ⟨d2, hb, by omega, by omega⟩, by omega, by omega⟩, by omega, by omega, by omega⟩
      · simp only [bal_node, height_node]
        exact ⟨⟨b1, ⟨b2, hb, by omega, by omega⟩, by omega, by omega⟩, by omega, by omega, by omega⟩
    · rw [bal_node, height_node]
      exact ⟨⟨ha, hb, by omega, by omega⟩, by omega, by omega, fun _ _ => rfl⟩
theorem join_bal : ∀ (n : Nat) (a b : Sh), a.height + b.height ≤ n → a.Bal → b.Bal → (join a b).Bal ∧ (join a b).height ≤ max a.height b.height + 1 ∧ max a.height b.height ≤ (join a b).height := by
  intro n
  induction n with
  | zero =>
    intro a b h ha hb
    rw [join, if_neg (by omega), if_neg (by omega), height_node, bal_node]
    exact ⟨⟨ha, hb, by omega, by omega⟩, by omega, by omega⟩
  | succ n ih =>
    intro a b h ha hb
    rw [join]
    split
    · rename_i c1
      have e := lr (t := a) (by omega)
      have eh : a.height = 1 + max a.left.height a.right.height := by conv => lhs; rw [e, height_node]
      have ea := ha
      rw [e, bal_node] at ea
      obtain ⟨b1, b2, b3, b4⟩ := ea
      obtain ⟨j1, j2, j3⟩ := ih a.right b (by omega) b2 hb
      obtain ⟨l1, l2, l3, l4⟩ := level_bal (a := a.left) (b := join a.right b) b1 j1 (by omega) (by omega)
      refine ⟨l1, by omega, ?_⟩
      by_cases g : a.left.height ≤ (join a.right b).height + 1 ∧ (join a.right b).height ≤ a.left.height + 1
      · have := l4 g.1 g.2
        omega
      · omega
    · split
      · rename_i c1
        have e := lr (t := b) (by omega)
        have eh : b.height = 1 + max b.left.height b.right.height := by conv => lhs; rw [e, height_node]
        have eb := hb
        rw [e, bal_node] at eb
        obtain ⟨b1, b2, b3, b4⟩ := eb
        obtain ⟨j1, j2, j3⟩ := ih a b.left (by omega) ha b1
        obtain ⟨l1, l2, l3, l4⟩ := level_bal (a := join a b.left) (b := b.right) j1 b2 (by omega) (by omega)
        refine ⟨l1, by omega, ?_⟩
        by_cases g : (join a b.left).height ≤ b.right.height + 1 ∧ b.right.height ≤ (join a b.left).height + 1
        · have := l4 g.1 g.2
          omega
        · omega
      · rw [height_node, bal_node]
        exact ⟨⟨ha, hb, by omega, by omega⟩, by omega, by omega⟩
end Sh
end Go.Proofs.Ythjbkiomnipjiaa

namespace Go.Proofs.Ythjbkiomnipjiaa
open Go
namespace Sh
def okO : Option Sh → Prop
  | none => True
  | some t => t.Ok
def sizeO : Option Sh → Nat
  | none => 0
  | some t => t.size
def balO : Option Sh → Prop
  | none => True
  | some t => t.Bal
def textO : Option Sh → ByteArray
  | none => ByteArray.empty
  | some t => t.text
def lvO : Option Sh → List (Nat × ByteArray)
  | none => []
  | some t => t.lv
theorem joinO_ok {a b : Option Sh} (ha : okO a) (hb : okO b) : okO (joinO a b) := by
  cases a with
  | none => exact hb
  | some a => cases b with
    | none => exact ha
    | some b => exact join_ok ha hb
theorem joinO_size (a b : Option Sh) : sizeO (joinO a b) = sizeO a + sizeO b := by
  cases a with
  | none => show sizeO b = 0 + sizeO b; omega
  | some a => cases b with
    | none => rfl
    | some b => exact join_size a b
theorem joinO_bal {a b : Option Sh} (ha : balO a) (hb : balO b) : balO (joinO a b) := by
  cases a with
  | none => exact hb
  | some a => cases b with
    | none => exact ha
    | some b => exact (join_bal _ a b (Nat.le_refl _) ha hb).1
theorem joinO_text (a b : Option Sh) : textO (joinO a b) = textO a ++ textO b := by
  cases a with
  | none => exact ByteArray.empty_append.symm
  | some a => cases b with
    | none => exact ByteArray.append_empty.symm
    | some b => exact join_text a b
theorem joinO_lv (a b : Option Sh) : lvO (joinO a b) = lvO a ++ lvO b := by
  cases a with
  | none => rfl
  | some a => cases b with
    | none => exact (List.append_nil _).symm
    | some b => exact join_lv a b
theorem sizeO_text (a : Option Sh) : (textO a).size = sizeO a := by
  cases a with
  | none => rfl
  | some a => exact size_text a
theorem split_keeps (g h : Nat) : ∀ (t : Sh) (k : Int), t.Ok → okO (split g h t k).1 ∧ okO (split g h t k).2 ∧ sizeO (split g h t k).1 + sizeO (split g h t k).2 = t.size := by
  intro t
  induction t with
  | leaf b s =>
    intro k ok
    unfold split
    split
    · exact ⟨trivial, ok, by show 0 + s.size = s.size; omega⟩
    · split
      · exact ⟨ok, trivial, rfl⟩
      · rename_i h1 h2
        have h2 : ¬ ((s.size : Int) ≤ k) := h2
        have ok1 : 1 ≤ s.size ∧ s.size ≤ 64 := ok
        have e1 : (s.extract 0 k.toNat).size = k.toNat := by rw [ByteArray.size_extract]; omega
        have e2 : (s.extract k.toNat s.size).size = s.size - k.toNat := by rw [ByteArray.size_extract]; omega
        show okO (leafO g _) ∧ okO (leafO h _) ∧ sizeO (leafO g _) + sizeO (leafO h _) = s.size
        unfold leafO
        rw [if_neg (by omega), if_neg (by omega)]
        refine ⟨?_, ?_, ?_⟩
        · show 1 ≤ (s.extract 0 k.toNat).size ∧ (s.extract 0 k.toNat).size ≤ 64
          omega
        · show 1 ≤ (s.extract k.toNat s.size).size ∧ (s.extract k.toNat s.size).size ≤ 64
          omega
        · show (s.extract 0 k.toNat).size + (s.extract k.toNat s.size).size = s.size
          omega
  | node l r ihl ihr =>
    intro k ok
    unfold split
    split
    · exact ⟨trivial, ok, by show 0 + (node l r).size = _; omega⟩
    · split
      · exact ⟨ok, trivial, rfl⟩
      · show okO (if k < l.size then _ else _ : Option Sh × Option Sh).1 ∧ okO (if k < l.size then _ else _ : Option Sh × Option Sh).2 ∧ sizeO (if k < l.size then _ else _ : Option Sh × Option Sh).1 + sizeO (if k < l.size then _ else _ : Option Sh × Option Sh).2 = l.size + r.size
        by_cases c : k < l.size
        · obtain ⟨a1, a2, a3⟩ := ihl k ok.1
          simp only [if_pos c]
          refine ⟨a1, joinO_ok a2 ok.2, ?_⟩
          rw [joinO_size]
          show _ + (_ + r.size) = _
          omega
        · obtain ⟨a1, a2, a3⟩ := ihr (k - l.size) ok.2
          simp only [if_neg c]
          refine ⟨joinO_ok ok.1 a1, a2, ?_⟩
          rw [joinO_size]
          show (l.size + _) + _ = _
          omega
end Sh
end Go.Proofs.Ythjbkiomnipjiaa

namespace Go.Proofs.Ythjbkiomnipjiaa
open Go Go.RowKit

inductive Nd where
  | leaf (b : Nat) (s : ByteArray)
  | node (b : Nat) (l r : Nd)

namespace Nd
def addr : Nd → Nat
  | leaf b _ => b
  | node b _ _ => b
def sh : Nd → Sh
  | leaf b s => .leaf b s
  | node _ l r => .node l.sh r.sh
def ptr (t : Nd) : Value := .pointer (some ⟨t.addr, 0, none⟩)
def lp : Nd → Value
  | leaf _ _ => .pointer none
  | node _ l _ => l.ptr
def rp : Nd → Value
  | leaf _ _ => .pointer none
  | node _ _ r => r.ptr
def str : Nd → ByteArray
  | leaf _ s => s
  | node _ _ _ => ⟨#[]⟩
def cells (t : Nd) : Array Value := #[t.lp, t.rp, .string t.str, .int .i64 t.sh.size, .int .i64 t.sh.ends, .int .i64 t.sh.height, .int .i64 t.sh.leaves]
/-- memory holds the tree -/
def In (w : World) : Nd → Prop
  | leaf b s => w.heap[b]? = some (.cells (leaf b s).cells 82 (0, 0))
  | node b l r => w.heap[b]? = some (.cells (node b l r).cells 82 (0, 0)) ∧ l.In w ∧ r.In w

theorem In.here {w : World} {t : Nd} (h : t.In w) : w.heap[t.addr]? = some (.cells t.cells 82 (0, 0)) := by
  cases t with
  | leaf b s => exact h
  | node b l r => exact h.1
theorem In.lt {w : World} {t : Nd} (h : t.In w) : t.addr < w.heap.size := by
  have := h.here
  exact (Array.getElem?_eq_some_iff.1 this).1
theorem In.below {w w' : World} (hb : Below w.heap.size w w') : ∀ {t : Nd}, t.In w → t.In w' := by
  intro t
  induction t with
  | leaf b s =>
    intro h
    exact (hb.block b (In.lt (t := .leaf b s) h)).trans h
  | node b l r ihl ihr =>
    intro h
    exact ⟨(hb.block b (In.lt (t := .node b l r) h)).trans h.1, ihl h.2.1, ihr h.2.2⟩
theorem In.cell {w : World} {t : Nd} (h : t.In w) (i : Nat) : w.cell? ⟨t.addr, i, none⟩ = t.cells[i]? := by
  have := h.here
  simp [World.cell?, this]
theorem In.c0 {w : World} {t : Nd} (h : t.In w) : w.cell? ⟨t.addr, 0, none⟩ = some t.lp := h.cell 0
theorem In.c1 {w : World} {t : Nd} (h : t.In w) : w.cell? ⟨t.addr, 1, none⟩ = some t.rp := h.cell 1
theorem In.c2 {w : World} {t : Nd} (h : t.In w) : w.cell? ⟨t.addr, 2, none⟩ = some (.string t.str) := h.cell 2
theorem In.c3 {w : World} {t : Nd} (h : t.In w) : w.cell? ⟨t.addr, 3, none⟩ = some (.int .i64 t.sh.size) := h.cell 3
theorem In.c4 {w : World} {t : Nd} (h : t.In w) : w.cell? ⟨t.addr, 4, none⟩ = some (.int .i64 t.sh.ends) := h.cell 4
theorem In.c5 {w : World} {t : Nd} (h : t.In w) : w.cell? ⟨t.addr, 5, none⟩ = some (.int .i64 t.sh.height) := h.cell 5
theorem In.c6 {w : World} {t : Nd} (h : t.In w) : w.cell? ⟨t.addr, 6, none⟩ = some (.int .i64 t.sh.leaves) := h.cell 6
end Nd

/-- a tree or none -/
def optPtr : Option Nd → Value
  | none => .pointer none
  | some t => .pointer (some ⟨t.addr, 0, none⟩)
def optIn (w : World) : Option Nd → Prop
  | none => True
  | some t => t.In w
def optSh (t : Option Nd) : Option Sh := t.map Nd.sh
theorem optIn.below {w w' : World} (hb : Below w.heap.size w w') {t : Option Nd} (h : optIn w t) : optIn w' t := by
  cases t with
  | none => trivial
  | some t => exact Nd.In.below hb h
/-- what a call that hands back a tree comes to -/
def Tree (P : Sh → Prop) (w : World) (e : Ending) (w' : World) : Prop := ∃ t : Nd, e = .returned (.pointer (some ⟨t.addr, 0, none⟩)) ∧ t.In w' ∧ P t.sh ∧ Below w.heap.size w w'
def TreeO (P : Option Sh → Prop) (w : World) (e : Ending) (w' : World) : Prop := ∃ t : Option Nd, e = .returned (optPtr t) ∧ optIn w' t ∧ P (optSh t) ∧ Below w.heap.size w w'
end Go.Proofs.Ythjbkiomnipjiaa

namespace Go.Proofs.Ythjbkiomnipjiaa
open Go Go.RowKit

theorem alloc_here (w : World) (o : Obj) : (w.alloc o).heap[w.heap.size]? = some o := Array.getElem?_push_size
theorem new_node (a b : Nd) (w : World) (ha : a.In w) (hb : b.In w) {x : Array Value} (hx : x = (Nd.node w.heap.size a b).cells) :
    (Nd.node w.heap.size a b).In ((w.alloc (.cells x 82)).drew) := by
  subst hx
  have hbel : Below w.heap.size w ((w.alloc (.cells (Nd.node w.heap.size a b).cells 82)).drew) := ((Below.refl _ _).alloc (Nat.le_refl _) _).drew
  exact ⟨alloc_here w _, Nd.In.below hbel ha, Nd.In.below hbel hb⟩
theorem node_cells (g : Nat) (a b : Nd) : #[.pointer (some ⟨a.addr, 0, none⟩), .pointer (some ⟨b.addr, 0, none⟩), .string ⟨#[]⟩, .int .i64 (a.sh.size + b.sh.size), .int .i64 (a.sh.ends + b.sh.ends), .int .i64 (1 + max (a.sh.height : Int) (b.sh.height : Int)), .int .i64 (a.sh.leaves + b.sh.leaves)] = (Nd.node g a b).cells := by
  have h : (1 + max (a.sh.height : Int) (b.sh.height : Int)) = (((1 + max a.sh.height b.sh.height : Nat)) : Int) := by omega
  rw [h]
  rfl
set_option maxRecDepth 100000 in
set_option maxHeartbeats 1000000 in
theorem branch_any (a b : Nd) (w : World) (ha : a.In w) (hb : b.In w) (oa : a.sh.Ok) (ob : b.sh.Ok) (h1 : a.sh.size + b.sh.size ≤ 1048576) :
    Calls Try.prog 61 #[.pointer (some ⟨a.addr, 0, none⟩), .pointer (some ⟨b.addr, 0, none⟩)] w (Tree (· = .node a.sh b.sh) w) := by
  have h2 : a.sh.ends + b.sh.ends ≤ 1048576 := by have := a.sh.ends_le; have := b.sh.ends_le; omega
  have h3 : a.sh.leaves + b.sh.leaves ≤ 1048576 := by have := a.sh.leaves_le oa; have := b.sh.leaves_le ob; omega
  have h4 : a.sh.height ≤ 1048576 := by have := a.sh.leaves_le oa; have := a.sh.height_lt; omega
  have h5 : b.sh.height ≤ 1048576 := by have := b.sh.leaves_le ob; have := b.sh.height_lt; omega
  have a3 := ha.c3
  have a4 := ha.c4
  have a5 := ha.c5
  have a6 := ha.c6
  have b3 := hb.c3
  have b4 := hb.c4
  have b5 := hb.c5
  have b6 := hb.c6
  have NN := Lib.hid (fun x => new_node a b w ha hb (x := x))
  go_enter Try.func61, Try.ntmps61
  go_wp2
  go_still_tail 40, (by kernel_rfl)
  go_wp2
  go_ret
  exact ⟨.node w.heap.size a b, rfl, NN.out _ (node_cells _ _ _), rfl, ((Below.refl _ _).alloc (Nat.le_refl _) _).drew⟩

theorem leaf_none (w : World) : Calls Try.prog 60 #[.string ⟨#[]⟩] w fun e w' => e = .returned (.pointer none) ∧ w = w' := by
  go_enter Try.func60, Try.ntmps60
  go_wp2
  go_ret
  exact ⟨rfl, rfl⟩
theorem toList_ne {s : ByteArray} (h : s.size ≠ 0) : s.toList ≠ [] := by
  rw [ByteArray.toList_eq]
  intro c
  have : s.data.toList.length = 0 := by rw [c]; rfl
  exact h (by rw [Array.length_toList] at this; exact this)
theorem leaf_some (s : ByteArray) (w : World) (h : s.size ≠ 0) :
    Calls Try.prog 60 #[.string s] w fun e w' => e = .returned (.pointer (some ⟨w.heap.size, 0, none⟩)) ∧ (Nd.leaf w.heap.size s).In w' ∧ Below w.heap.size w w' := by
  have hc := Try.strings_Count_one s 10
  have h3 : s.toList ≠ [] := toList_ne h
  have h2 : s.toList.isEmpty = false := by simpa using h3
  have hcl := Sh.count_le s
  have HN := Lib.hid (show ∀ x, x = (Nd.leaf w.heap.size s).cells → (Nd.leaf w.heap.size s).In (w.alloc (.cells x 82)) from by
    intro x hx
    rw [hx]
    exact alloc_here w _)
  go_enter Try.func60, Try.ntmps60
  go_wp2_with (go_at_call 56; refine (hc _).mono ?_; rintro e w' ⟨rfl, rfl⟩)
  go_ret
  exact ⟨rfl, HN.out _ rfl, (Below.refl _ _).alloc (Nat.le_refl _) _⟩
end Go.Proofs.Ythjbkiomnipjiaa

namespace Go.Proofs.Ythjbkiomnipjiaa
open Go Go.RowKit
set_option maxRecDepth 100000 in
set_option maxHeartbeats 2000000 in
theorem level_a1 (a bll blr br : Nd) (gb gl H HL : Nat) (w : World) (ia : a.In w) (hb : (Nd.node gb (.node gl bll blr) br).In w) (oa : a.sh.Ok) (ob : (Nd.node gb (.node gl bll blr) br).sh.Ok) (h0 : a.sh.size + (Nd.node gb (.node gl bll blr) br).sh.size ≤ 1048576) (hH : H = (Nd.node gb (.node gl bll blr) br).sh.height) (hHL : HL = (Nd.node gl bll blr).sh.height) (g1 : a.sh.height + 1 < H) (g2 : br.sh.height < HL) :
    Calls Try.prog 64 #[.pointer (some ⟨a.addr, 0, none⟩), .pointer (some ⟨gb, 0, none⟩)] w (Tree (· = .node (.node a.sh bll.sh) (.node blr.sh br.sh)) w) := by
  have h1 : a.sh.size + (bll.sh.size + blr.sh.size + br.sh.size) ≤ 1048576 := h0
  clear h0
  have cb0 : w.cell? ⟨gb, 0, none⟩ = some (.pointer (some ⟨gl, 0, none⟩)) := hb.c0
  have cl0 : w.cell? ⟨gl, 0, none⟩ = some (.pointer (some ⟨bll.addr, 0, none⟩)) := hb.2.1.c0
  have cl1 : w.cell? ⟨gl, 1, none⟩ = some (.pointer (some ⟨blr.addr, 0, none⟩)) := hb.2.1.c1
  have cl5 : w.cell? ⟨gl, 5, none⟩ = some (.int .i64 HL) := by rw [hHL]; exact hb.2.1.c5
  have l_gl : gl < w.heap.size := hb.2.1.lt
  have ibll := hb.2.1.2.1
  have iblr := hb.2.1.2.2
  have obll : bll.sh.Ok := ob.1.1
  have oblr : blr.sh.Ok := ob.1.2
  have d2 : decide (br.sh.height < HL) = true := decide_eq_true g2
  have d4 : decide ((br.sh.height : Int) < (HL : Int)) = true := decide_eq_true (by omega)
  clear hHL
  have cb1 : w.cell? ⟨gb, 1, none⟩ = some (.pointer (some ⟨br.addr, 0, none⟩)) := hb.c1
  have cb5 : w.cell? ⟨gb, 5, none⟩ = some (.int .i64 H) := by rw [hH]; exact hb.c5
  have cr5 := hb.2.2.c5
  have ca5 := ia.c5
  have l_gb : gb < w.heap.size := hb.lt
  have ibr := hb.2.2
  have obr : br.sh.Ok := ob.2
  have d1 : decide (a.sh.height + 1 < H) = true := decide_eq_true g1
  have hs1 : a.sh.height ≤ 1048576 := by have := a.sh.leaves_le oa; have := a.sh.height_lt; omega
  clear hH
  have d3 : decide ((a.sh.height : Int) + 1 < (H : Int)) = true := decide_eq_true (by omega)
  have s1 : IntKind.i64.wrap ((a.sh.height : Int) + 1) = (a.sh.height : Int) + 1 := IntWalk.i64_in _ (by omega)
  go_enter Try.func64, Try.ntmps64
  go_wp2
  go_quiet (fail)
  go_wp2
  generalize hwq : (World.drewN w _) = wq
  have hbq : Below w.heap.size w wq := by rw [← hwq]; (repeat (first | exact Below.refl _ _ | apply below_drewN))
  clear hwq
  have qa := ia.below hbq
  have qbll := ibll.below hbq
  have qblr := iblr.below hbq
  have qbr := ibr.below hbq
  have E0 := Lib.hid (show wq.cell? ⟨gb, 0, none⟩ = some (.pointer (some ⟨gl, 0, none⟩)) from (hbq.cell l_gb).trans cb0)
  have E1 := Lib.hid (show wq.cell? ⟨gb, 1, none⟩ = some (.pointer (some ⟨br.addr, 0, none⟩)) from (hbq.cell l_gb).trans cb1)
  have E2 := Lib.hid (show wq.cell? ⟨gl, 0, none⟩ = some (.pointer (some ⟨bll.addr, 0, none⟩)) from (hbq.cell l_gl).trans cl0)
  have E3 := Lib.hid (show wq.cell? ⟨gl, 1, none⟩ = some (.pointer (some ⟨blr.addr, 0, none⟩)) from (hbq.cell l_gl).trans cl1)
  have L_gb : gb < wq.heap.size := Nat.lt_of_lt_of_le l_gb hbq.size
  have L_gl : gl < wq.heap.size := Nat.lt_of_lt_of_le l_gl hbq.size
  clear cb0 cb1 cl0 cl1 cb5 cl5 cr5 ca5 d1 d2 d3 d4 s1
  have z1 : a.sh.size + bll.sh.size ≤ 1048576 := by omega
  have B0 : Below wq.heap.size wq wq.drew := (Below.refl _ _).drew
  have Qa_0 : a.In wq.drew := qa.below B0
  have Qbll_0 : bll.In wq.drew := qbll.below B0
  have Qblr_0 : blr.In wq.drew := qblr.below B0
  have Qbr_0 : br.In wq.drew := qbr.below B0
  go_region_held3 (fun w' => w'.cell? ⟨gb, 0, none⟩ = some (.pointer (some ⟨gl, 0, none⟩)) ∧ w'.cell? ⟨gb, 1, none⟩ = some (.pointer (some ⟨br.addr, 0, none⟩)) ∧ w'.cell? ⟨gl, 0, none⟩ = some (.pointer (some ⟨bll.addr, 0, none⟩)) ∧ w'.cell? ⟨gl, 1, none⟩ = some (.pointer (some ⟨blr.addr, 0, none⟩)))
    (first
      | exact ⟨(B3.cell L_gb).trans E0.out, (B3.cell L_gb).trans E1.out, (B3.cell L_gl).trans E2.out, (B3.cell L_gl).trans E3.out⟩
      | exact ⟨(B2.cell L_gb).trans E0.out, (B2.cell L_gb).trans E1.out, (B2.cell L_gl).trans E2.out, (B2.cell L_gl).trans E3.out⟩
      | exact ⟨(B1.cell L_gb).trans E0.out, (B1.cell L_gb).trans E1.out, (B1.cell L_gl).trans E2.out, (B1.cell L_gl).trans E3.out⟩
      | exact ⟨(B0.cell L_gb).trans E0.out, (B0.cell L_gb).trans E1.out, (B0.cell L_gl).trans E2.out, (B0.cell L_gl).trans E3.out⟩
      | fail)
    (first
      | ((with_reducible refine (branch_any a bll _ Qa_0 Qbll_0 oa obll z1).mono ?_)
         rintro e w1 ⟨t1, rfl, i1, s1, b1⟩
         have S1 : t1.sh = .node a.sh bll.sh := s1
         have B1 : Below wq.heap.size wq w1 := B0.trans b1
         have J1_1 : t1.In w1 := i1
         have Qa_1 : a.In w1 := Qa_0.below b1
         have Qbll_1 : bll.In w1 := Qbll_0.below b1
         have Qblr_1 : blr.In w1 := Qblr_0.below b1
         have Qbr_1 : br.In w1 := Qbr_0.below b1
         have p1 : t1.sh.Ok := by rw [S1]; exact ⟨oa, obll⟩
         have n1 : t1.sh.size = a.sh.size + bll.sh.size := by rw [S1]; rfl
         have z2 : blr.sh.size + br.sh.size ≤ 1048576 := by omega)
      | ((with_reducible refine (branch_any blr br _ Qblr_1 Qbr_1 oblr obr z2).mono ?_)
         rintro e w2 ⟨t2, rfl, i2, s2, b2⟩
         have S2 : t2.sh = .node blr.sh br.sh := s2
         have B2 : Below wq.heap.size wq w2 := B1.trans (b2.mono B1.size)
         have J2_2 : t2.In w2 := i2
         have J1_2 : t1.In w2 := J1_1.below b2
         have Qa_2 : a.In w2 := Qa_1.below b2
         have Qbll_2 : bll.In w2 := Qbll_1.below b2
         have Qblr_2 : blr.In w2 := Qblr_1.below b2
         have Qbr_2 : br.In w2 := Qbr_1.below b2
         have p2 : t2.sh.Ok := by rw [S2]; exact ⟨oblr, obr⟩
         have n2 : t2.sh.size = blr.sh.size + br.sh.size := by rw [S2]; rfl
         have z3 : t1.sh.size + t2.sh.size ≤ 1048576 := by omega)
      | ((with_reducible refine (branch_any t1 t2 _ J1_2 J2_2 p1 p2 z3).mono ?_)
         rintro e w3 ⟨t3, rfl, i3, s3, b3⟩
         have S3 : t3.sh = .node t1.sh t2.sh := s3
         have B3 : Below wq.heap.size wq w3 := B2.trans (b3.mono B2.size)
         have J3_3 : t3.In w3 := i3
         have J1_3 : t1.In w3 := J1_2.below b3
         have J2_3 : t2.In w3 := J2_2.below b3
         have Qa_3 : a.In w3 := Qa_2.below b3
         have Qbll_3 : bll.In w3 := Qbll_2.below b3
         have Qblr_3 : blr.In w3 := Qblr_2.below b3
         have Qbr_3 : br.In w3 := Qbr_2.below b3
         have p3 : t3.sh.Ok := by rw [S3]; exact ⟨p1, p2⟩
         have n3 : t3.sh.size = t1.sh.size + t2.sh.size := by rw [S3]; rfl)
      | fail)
  go_wp2
  go_ret
  exact ⟨t3, rfl, i3, by show t3.sh = _; rw [S3, S2, S1], hbq.trans (B3.mono hbq.size)⟩
set_option maxRecDepth 100000 in
set_option maxHeartbeats 2000000 in
theorem level_a2 (a bl br : Nd) (gb H : Nat) (w : World) (ia : a.In w) (hb : (Nd.node gb bl br).In w) (oa : a.sh.Ok) (ob : (Nd.node gb bl br).sh.Ok) (h0 : a.sh.size + (Nd.node gb bl br).sh.size ≤ 1048576) (hH : H = (Nd.node gb bl br).sh.height) (g1 : a.sh.height + 1 < H) (g2 : bl.sh.height ≤ br.sh.height) :
    Calls Try.prog 64 #[.pointer (some ⟨a.addr, 0, none⟩), .pointer (some ⟨gb, 0, none⟩)] w (Tree (· = .node (.node a.sh bl.sh) br.sh) w) := by
  have h1 : a.sh.size + (bl.sh.size + br.sh.size) ≤ 1048576 := h0
  clear h0
  have cb0 : w.cell? ⟨gb, 0, none⟩ = some (.pointer (some ⟨bl.addr, 0, none⟩)) := hb.c0
  have cl5 := hb.2.1.c5
  have ibl := hb.2.1
  have obl : bl.sh.Ok := ob.1
  have d2 : decide (br.sh.height < bl.sh.height) = false := decide_eq_false (by omega)
  have d4 : decide ((br.sh.height : Int) < (bl.sh.height : Int)) = false := decide_eq_false (by omega)
  have cb1 : w.cell? ⟨gb, 1, none⟩ = some (.pointer (some ⟨br.addr, 0, none⟩)) := hb.c1
  have cb5 : w.cell? ⟨gb, 5, none⟩ = some (.int .i64 H) := by rw [hH]; exact hb.c5
  have cr5 := hb.2.2.c5
  have ca5 := ia.c5
  have l_gb : gb < w.heap.size := hb.lt
  have ibr := hb.2.2
  have obr : br.sh.Ok := ob.2
  have d1 : decide (a.sh.height + 1 < H) = true := decide_eq_true g1
  have hs1 : a.sh.height ≤ 1048576 := by have := a.sh.leaves_le oa; have := a.sh.height_lt; omega
  clear hH
  have d3 : decide ((a.sh.height : Int) + 1 < (H : Int)) = true := decide_eq_true (by omega)
  have s1 : IntKind.i64.wrap ((a.sh.height : Int) + 1) = (a.sh.height : Int) + 1 := IntWalk.i64_in _ (by omega)
  go_enter Try.func64, Try.ntmps64
  go_wp2
  go_quiet (fail)
  go_wp2
  go_quiet (fail)
  go_wp2
  generalize hwq : (World.drewN (World.drewN w _) _) = wq
  have hbq : Below w.heap.size w wq := by rw [← hwq]; (repeat (first | exact Below.refl _ _ | apply below_drewN))
  clear hwq
  have qa := ia.below hbq
  have qbl := ibl.below hbq
  have qbr := ibr.below hbq
  have E0 := Lib.hid (show wq.cell? ⟨gb, 0, none⟩ = some (.pointer (some ⟨bl.addr, 0, none⟩)) from (hbq.cell l_gb).trans cb0)
  have E1 := Lib.hid (show wq.cell? ⟨gb, 1, none⟩ = some (.pointer (some ⟨br.addr, 0, none⟩)) from (hbq.cell l_gb).trans cb1)
  have L_gb : gb < wq.heap.size := Nat.lt_of_lt_of_le l_gb hbq.size
  clear cb0 cb1 cb5 cl5 cr5 ca5 d1 d2 d3 d4 s1
  have z1 : a.sh.size + bl.sh.size ≤ 1048576 := by omega
  have B0 : Below wq.heap.size wq wq.drew := (Below.refl _ _).drew
  have Qa_0 : a.In wq.drew := qa.below B0
  have Qbl_0 : bl.In wq.drew := qbl.below B0
  have Qbr_0 : br.In wq.drew := qbr.below B0
  go_region_held3 (fun w' => w'.cell? ⟨gb, 0, none⟩ = some (.pointer (some ⟨bl.addr, 0, none⟩)) ∧ w'.cell? ⟨gb, 1, none⟩ = some (.pointer (some ⟨br.addr, 0, none⟩)))
    (first
      | exact ⟨(B2.cell L_gb).trans E0.out, (B2.cell L_gb).trans E1.out⟩
      | exact ⟨(B1.cell L_gb).trans E0.out, (B1.cell L_gb).trans E1.out⟩
      | exact ⟨(B0.cell L_gb).trans E0.out, (B0.cell L_gb).trans E1.out⟩
      | fail)
    (first
      | ((with_reducible refine (branch_any a bl _ Qa_0 Qbl_0 oa obl z1).mono ?_)
         rintro e w1 ⟨t1, rfl, i1, s1, b1⟩
         have S1 : t1.sh = .node a.sh bl.sh := s1
         have B1 : Below wq.heap.size wq w1 := B0.trans b1
         have J1_1 : t1.In w1 := i1
         have Qa_1 : a.In w1 := Qa_0.below b1
         have Qbl_1 : bl.In w1 := Qbl_0.below b1
         have Qbr_1 : br.In w1 := Qbr_0.below b1
         have p1 : t1.sh.Ok := by rw [S1]; exact ⟨oa, obl⟩
         have n1 : t1.sh.size = a.sh.size + bl.sh.size := by rw [S1]; rfl
         have z2 : t1.sh.size + br.sh.size ≤ 1048576 := by omega)
      | ((with_reducible refine (branch_any t1 br _ J1_1 Qbr_1 p1 obr z2).mono ?_)
         rintro e w2 ⟨t2, rfl, i2, s2, b2⟩
         have S2 : t2.sh = .node t1.sh br.sh := s2
         have B2 : Below wq.heap.size wq w2 := B1.trans (b2.mono B1.size)
         have J2_2 : t2.In w2 := i2
         have J1_2 : t1.In w2 := J1_1.below b2
         have Qa_2 : a.In w2 := Qa_1.below b2
         have Qbl_2 : bl.In w2 := Qbl_1.below b2
         have Qbr_2 : br.In w2 := Qbr_1.below b2
         have p2 : t2.sh.Ok := by rw [S2]; exact ⟨p1, obr⟩
         have n2 : t2.sh.size = t1.sh.size + br.sh.size := by rw [S2]; rfl)
      | fail)
  go_wp2
  go_ret
  exact ⟨t2, rfl, i2, by show t2.sh = _; rw [S2, S1], hbq.trans (B2.mono hbq.size)⟩
set_option maxRecDepth 100000 in
set_option maxHeartbeats 2000000 in
theorem level_b1 (al arl arr b : Nd) (ga gr H HR : Nat) (w : World) (ha : (Nd.node ga al (.node gr arl arr)).In w) (ib : b.In w) (oa : (Nd.node ga al (.node gr arl arr)).sh.Ok) (ob : b.sh.Ok) (h0 : (Nd.node ga al (.node gr arl arr)).sh.size + b.sh.size ≤ 1048576) (hH : H = (Nd.node ga al (.node gr arl arr)).sh.height) (hHR : HR = (Nd.node gr arl arr).sh.height) (g1 : b.sh.height + 1 < H) (g2 : al.sh.height < HR) :
    Calls Try.prog 64 #[.pointer (some ⟨ga, 0, none⟩), .pointer (some ⟨b.addr, 0, none⟩)] w (Tree (· = .node (.node al.sh arl.sh) (.node arr.sh b.sh)) w) := by
  have h1 : (al.sh.size + (arl.sh.size + arr.sh.size)) + b.sh.size ≤ 1048576 := h0
  have hs2 : H ≤ 1048576 := by rw [hH]; have := Sh.leaves_le _ oa; have := Sh.height_lt (Nd.node ga al (.node gr arl arr)).sh; have := h0; omega
  clear h0
  have ca1 : w.cell? ⟨ga, 1, none⟩ = some (.pointer (some ⟨gr, 0, none⟩)) := ha.c1
  have cr0 : w.cell? ⟨gr, 0, none⟩ = some (.pointer (some ⟨arl.addr, 0, none⟩)) := ha.2.2.c0
  have cr1 : w.cell? ⟨gr, 1, none⟩ = some (.pointer (some ⟨arr.addr, 0, none⟩)) := ha.2.2.c1
  have cr5 : w.cell? ⟨gr, 5, none⟩ = some (.int .i64 HR) := by rw [hHR]; exact ha.2.2.c5
  have l_gr : gr < w.heap.size := ha.2.2.lt
  have iarl := ha.2.2.2.1
  have iarr := ha.2.2.2.2
  have oarl : arl.sh.Ok := oa.2.1
  have oarr : arr.sh.Ok := oa.2.2
  have d2 : decide (al.sh.height < HR) = true := decide_eq_true g2
  have d4 : decide ((al.sh.height : Int) < (HR : Int)) = true := decide_eq_true (by omega)
  clear hHR
  have ca0 : w.cell? ⟨ga, 0, none⟩ = some (.pointer (some ⟨al.addr, 0, none⟩)) := ha.c0
  have ca5 : w.cell? ⟨ga, 5, none⟩ = some (.int .i64 H) := by rw [hH]; exact ha.c5
  have cl5 := ha.2.1.c5
  have cb5 := ib.c5
  have l_ga : ga < w.heap.size := ha.lt
  have ial := ha.2.1
  have oal : al.sh.Ok := oa.1
  have d1 : decide (b.sh.height + 1 < H) = true := decide_eq_true g1
  have hs1 : b.sh.height ≤ 1048576 := by have := b.sh.leaves_le ob; have := b.sh.height_lt; omega
  clear hH
  have e1 : decide (H + 1 < b.sh.height) = false := decide_eq_false (by omega)
  have e2 : decide ((H : Int) + 1 < (b.sh.height : Int)) = false := decide_eq_false (by omega)
  have d3 : decide ((b.sh.height : Int) + 1 < (H : Int)) = true := decide_eq_true (by omega)
  have s1 : IntKind.i64.wrap ((b.sh.height : Int) + 1) = (b.sh.height : Int) + 1 := IntWalk.i64_in _ (by omega)
  have s2 : IntKind.i64.wrap ((H : Int) + 1) = (H : Int) + 1 := IntWalk.i64_in _ (by omega)
  go_enter Try.func64, Try.ntmps64
  go_wp2
  go_quiet (fail)
  go_wp2
  go_quiet (fail)
  go_wp2
  go_quiet (fail)
  go_wp2
  generalize hwq : (World.drewN (World.drewN (World.drewN w _) _) _) = wq
  have hbq : Below w.heap.size w wq := by rw [← hwq]; (repeat (first | exact Below.refl _ _ | apply below_drewN))
  clear hwq
  have qal := ial.below hbq
  have qarl := iarl.below hbq
  have qarr := iarr.below hbq
  have qb := ib.below hbq
  have E0 := Lib.hid (show wq.cell? ⟨ga, 0, none⟩ = some (.pointer (some ⟨al.addr, 0, none⟩)) from (hbq.cell l_ga).trans ca0)
  have E1 := Lib.hid (show wq.cell? ⟨ga, 1, none⟩ = some (.pointer (some ⟨gr, 0, none⟩)) from (hbq.cell l_ga).trans ca1)
  have E2 := Lib.hid (show wq.cell? ⟨gr, 0, none⟩ = some (.pointer (some ⟨arl.addr, 0, none⟩)) from (hbq.cell l_gr).trans cr0)
  have E3 := Lib.hid (show wq.cell? ⟨gr, 1, none⟩ = some (.pointer (some ⟨arr.addr, 0, none⟩)) from (hbq.cell l_gr).trans cr1)
  have L_ga : ga < wq.heap.size := Nat.lt_of_lt_of_le l_ga hbq.size
  have L_gr : gr < wq.heap.size := Nat.lt_of_lt_of_le l_gr hbq.size
  clear ca0 ca1 cr0 cr1 ca5 cl5 cr5 cb5 d1 d2 d3 d4 s1 s2 e1 e2
  have z1 : al.sh.size + arl.sh.size ≤ 1048576 := by omega
  have B0 : Below wq.heap.size wq wq.drew := (Below.refl _ _).drew
  have Qal_0 : al.In wq.drew := qal.below B0
  have Qarl_0 : arl.In wq.drew := qarl.below B0
  have Qarr_0 : arr.In wq.drew := qarr.below B0
  have Qb_0 : b.In wq.drew := qb.below B0
  go_region_held3 (fun w' => w'.cell? ⟨ga, 0, none⟩ = some (.pointer (some ⟨al.addr, 0, none⟩)) ∧ w'.cell? ⟨ga, 1, none⟩ = some (.pointer (some ⟨gr, 0, none⟩)) ∧ w'.cell? ⟨gr, 0, none⟩ = some (.pointer (some ⟨arl.addr, 0, none⟩)) ∧ w'.cell? ⟨gr, 1, none⟩ = some (.pointer (some ⟨arr.addr, 0, none⟩)))
    (first
      | exact ⟨(B3.cell L_ga).trans E0.out, (B3.cell L_ga).trans E1.out, (B3.cell L_gr).trans E2.out, (B3.cell L_gr).trans E3.out⟩
      | exact ⟨(B2.cell L_ga).trans E0.out, (B2.cell L_ga).trans E1.out, (B2.cell L_gr).trans E2.out, (B2.cell L_gr).trans E3.out⟩
      | exact ⟨(B1.cell L_ga).trans E0.out, (B1.cell L_ga).trans E1.out, (B1.cell L_gr).trans E2.out, (B1.cell L_gr).trans E3.out⟩
      | exact ⟨(B0.cell L_ga).trans E0.out, (B0.cell L_ga).trans E1.out, (B0.cell L_gr).trans E2.out, (B0.cell L_gr).trans E3.out⟩
      | fail)
    (first
      | ((with_reducible refine (branch_any al arl _ Qal_0 Qarl_0 oal oarl z1).mono ?_)
         rintro e w1 ⟨t1, rfl, i1, s1, b1⟩
         have S1 : t1.sh = .node al.sh arl.sh := s1
         have B1 : Below wq.heap.size wq w1 := B0.trans b1
         have J1_1 : t1.In w1 := i1
         have Qal_1 : al.In w1 := Qal_0.below b1
         have Qarl_1 : arl.In w1 := Qarl_0.below b1
         have Qarr_1 : arr.In w1 := Qarr_0.below b1
         have Qb_1 : b.In w1 := Qb_0.below b1
         have p1 : t1.sh.Ok := by rw [S1]; exact ⟨oal, oarl⟩
         have n1 : t1.sh.size = al.sh.size + arl.sh.size := by rw [S1]; rfl
         have z2 : arr.sh.size + b.sh.size ≤ 1048576 := by omega)
      | ((with_reducible refine (branch_any arr b _ Qarr_1 Qb_1 oarr ob z2).mono ?_)
         rintro e w2 ⟨t2, rfl, i2, s2, b2⟩
         have S2 : t2.sh = .node arr.sh b.sh := s2
         have B2 : Below wq.heap.size wq w2 := B1.trans (b2.mono B1.size)
         have J2_2 : t2.In w2 := i2
         have J1_2 : t1.In w2 := J1_1.below b2
         have Qal_2 : al.In w2 := Qal_1.below b2
         have Qarl_2 : arl.In w2 := Qarl_1.below b2
         have Qarr_2 : arr.In w2 := Qarr_1.below b2
         have Qb_2 : b.In w2 := Qb_1.below b2
         have p2 : t2.sh.Ok := by rw [S2]; exact ⟨oarr, ob⟩
         have n2 : t2.sh.size = arr.sh.size + b.sh.size := by rw [S2]; rfl
         have z3 : t1.sh.size + t2.sh.size ≤ 1048576 := by omega)
      | ((with_reducible refine (branch_any t1 t2 _ J1_2 J2_2 p1 p2 z3).mono ?_)
         rintro e w3 ⟨t3, rfl, i3, s3, b3⟩
         have S3 : t3.sh = .node t1.sh t2.sh := s3
         have B3 : Below wq.heap.size wq w3 := B2.trans (b3.mono B2.size)
         have J3_3 : t3.In w3 := i3
         have J1_3 : t1.In w3 := J1_2.below b3
         have J2_3 : t2.In w3 := J2_2.below b3
         have Qal_3 : al.In w3 := Qal_2.below b3
         have Qarl_3 : arl.In w3 := Qarl_2.below b3
         have Qarr_3 : arr.In w3 := Qarr_2.below b3
         have Qb_3 : b.In w3 := Qb_2.below b3
         have p3 : t3.sh.Ok := by rw [S3]; exact ⟨p1, p2⟩
         have n3 : t3.sh.size = t1.sh.size + t2.sh.size := by rw [S3]; rfl)
      | fail)
  go_wp2
  go_ret
  exact ⟨t3, rfl, i3, by show t3.sh = _; rw [S3, S2, S1], hbq.trans (B3.mono hbq.size)⟩
set_option maxRecDepth 100000 in
set_option maxHeartbeats 2000000 in
theorem level_b2 (al ar b : Nd) (ga H : Nat) (w : World) (ha : (Nd.node ga al ar).In w) (ib : b.In w) (oa : (Nd.node ga al ar).sh.Ok) (ob : b.sh.Ok) (h0 : (Nd.node ga al ar).sh.size + b.sh.size ≤ 1048576) (hH : H = (Nd.node ga al ar).sh.height) (g1 : b.sh.height + 1 < H) (g2 : ar.sh.height ≤ al.sh.height) :
    Calls Try.prog 64 #[.pointer (some ⟨ga, 0, none⟩), .pointer (some ⟨b.addr, 0, none⟩)] w (Tree (· = .node al.sh (.node ar.sh b.sh)) w) := by
  have h1 : (al.sh.size + ar.sh.size) + b.sh.size ≤ 1048576 := h0
  have hs2 : H ≤ 1048576 := by rw [hH]; have := Sh.leaves_le _ oa; have := Sh.height_lt (Nd.node ga al ar).sh; have := h0; omega
  clear h0
  have ca1 : w.cell? ⟨ga, 1, none⟩ = some (.pointer (some ⟨ar.addr, 0, none⟩)) := ha.c1
  have cr5 := ha.2.2.c5
  have iar := ha.2.2
  have oar : ar.sh.Ok := oa.2
  have d2 : decide (al.sh.height < ar.sh.height) = false := decide_eq_false (by omega)
  have d4 : decide ((al.sh.height : Int) < (ar.sh.height : Int)) = false := decide_eq_false (by omega)
  have ca0 : w.cell? ⟨ga, 0, none⟩ = some (.pointer (some ⟨al.addr, 0, none⟩)) := ha.c0
  have ca5 : w.cell? ⟨ga, 5, none⟩ = some (.int .i64 H) := by rw [hH]; exact ha.c5
  have cl5 := ha.2.1.c5
  have cb5 := ib.c5
  have l_ga : ga < w.heap.size := ha.lt
  have ial := ha.2.1
  have oal : al.sh.Ok := oa.1
  have d1 : decide (b.sh.height + 1 < H) = true := decide_eq_true g1
  have hs1 : b.sh.height ≤ 1048576 := by have := b.sh.leaves_le ob; have := b.sh.height_lt; omega
  clear hH
  have e1 : decide (H + 1 < b.sh.height) = false := decide_eq_false (by omega)
  have e2 : decide ((H : Int) + 1 < (b.sh.height : Int)) = false := decide_eq_false (by omega)
  have d3 : decide ((b.sh.height : Int) + 1 < (H : Int)) = true := decide_eq_true (by omega)
  have s1 : IntKind.i64.wrap ((b.sh.height : Int) + 1) = (b.sh.height : Int) + 1 := IntWalk.i64_in _ (by omega)
  have s2 : IntKind.i64.wrap ((H : Int) + 1) = (H : Int) + 1 := IntWalk.i64_in _ (by omega)
  go_enter Try.func64, Try.ntmps64
  go_wp2
  go_quiet (fail)
  go_wp2
  go_quiet (fail)
  go_wp2
  go_quiet (fail)
  go_wp2
  go_quiet (fail)
  go_wp2
  generalize hwq : (World.drewN (World.drewN (World.drewN (World.drewN w _) _) _) _) = wq
  have hbq : Below w.heap.size w wq := by rw [← hwq]; (repeat (first | exact Below.refl _ _ | apply below_drewN))
  clear hwq
  have qal := ial.below hbq
  have qar := iar.below hbq
  have qb := ib.below hbq
  have E0 := Lib.hid (show wq.cell? ⟨ga, 0, none⟩ = some (.pointer (some ⟨al.addr, 0, none⟩)) from (hbq.cell l_ga).trans ca0)
  have E1 := Lib.hid (show wq.cell? ⟨ga, 1, none⟩ = some (.pointer (some ⟨ar.addr, 0, none⟩)) from (hbq.cell l_ga).trans ca1)
  have L_ga : ga < wq.heap.size := Nat.lt_of_lt_of_le l_ga hbq.size
  clear ca0 ca1 ca5 cl5 cr5 cb5 d1 d2 d3 d4 s1 s2 e1 e2
  have z1 : ar.sh.size + b.sh.size ≤ 1048576 := by omega
  have B0 : Below wq.heap.size wq wq.drew := (Below.refl _ _).drew
  have Qal_0 : al.In wq.drew := qal.below B0
  have Qar_0 : ar.In wq.drew := qar.below B0
  have Qb_0 : b.In wq.drew := qb.below B0
  go_region_held3 (fun w' => w'.cell? ⟨ga, 0, none⟩ = some (.pointer (some ⟨al.addr, 0, none⟩)) ∧ w'.cell? ⟨ga, 1, none⟩ = some (.pointer (some ⟨ar.addr, 0, none⟩)))
    (first
      | exact ⟨(B2.cell L_ga).trans E0.out, (B2.cell L_ga).trans E1.out⟩
      | exact ⟨(B1.cell L_ga).trans E0.out, (B1.cell L_ga).trans E1.out⟩
      | exact ⟨(B0.cell L_ga).trans E0.out, (B0.cell L_ga).trans E1.out⟩
      | fail)
    (first
      | ((with_reducible refine (branch_any ar b _ Qar_0 Qb_0 oar ob z1).mono ?_)
         rintro e w1 ⟨t1, rfl, i1, s1, b1⟩
         have S1 : t1.sh = .node ar.sh b.sh := s1
         have B1 : Below wq.heap.size wq w1 := B0.trans b1
         have J1_1 : t1.In w1 := i1
         have Qal_1 : al.In w1 := Qal_0.below b1
         have Qar_1 : ar.In w1 := Qar_0.below b1
         have Qb_1 : b.In w1 := Qb_0.below b1
         have p1 : t1.sh.Ok := by rw [S1]; exact ⟨oar, ob⟩
         have n1 : t1.sh.size = ar.sh.size + b.sh.size := by rw [S1]; rfl
         have z2 : al.sh.size + t1.sh.size ≤ 1048576 := by omega)
      | ((with_reducible refine (branch_any al t1 _ Qal_1 J1_1 oal p1 z2).mono ?_)
         rintro e w2 ⟨t2, rfl, i2, s2, b2⟩
         have S2 : t2.sh = .node al.sh t1.sh := s2
         have B2 : Below wq.heap.size wq w2 := B1.trans (b2.mono B1.size)
         have J2_2 : t2.In w2 := i2
         have J1_2 : t1.In w2 := J1_1.below b2
         have Qal_2 : al.In w2 := Qal_1.below b2
         have Qar_2 : ar.In w2 := Qar_1.below b2
         have Qb_2 : b.In w2 := Qb_1.below b2
         have p2 : t2.sh.Ok := by rw [S2]; exact ⟨oal, p1⟩
         have n2 : t2.sh.size = al.sh.size + t1.sh.size := by rw [S2]; rfl)
      | fail)
  go_wp2
  go_ret
  exact ⟨t2, rfl, i2, by show t2.sh = _; rw [S2, S1], hbq.trans (B2.mono hbq.size)⟩
set_option maxRecDepth 100000 in
set_option maxHeartbeats 2000000 in
theorem level_c (a b : Nd) (w : World) (ia : a.In w) (ib : b.In w) (oa : a.sh.Ok) (ob : b.sh.Ok) (h0 : a.sh.size + b.sh.size ≤ 1048576) (g1 : b.sh.height ≤ a.sh.height + 1) (g2 : a.sh.height ≤ b.sh.height + 1) :
    Calls Try.prog 64 #[.pointer (some ⟨a.addr, 0, none⟩), .pointer (some ⟨b.addr, 0, none⟩)] w (Tree (· = .node a.sh b.sh) w) := by
  have ca5 := ia.c5
  have cb5 := ib.c5
  have hs1 : a.sh.height ≤ 1048576 := by have := a.sh.leaves_le oa; have := a.sh.height_lt; omega
  have hs2 : b.sh.height ≤ 1048576 := by have := b.sh.leaves_le ob; have := b.sh.height_lt; omega
  have d1 : decide (a.sh.height + 1 < b.sh.height) = false := decide_eq_false (by omega)
  have d2 : decide (b.sh.height + 1 < a.sh.height) = false := decide_eq_false (by omega)
  have d3 : decide ((a.sh.height : Int) + 1 < (b.sh.height : Int)) = false := decide_eq_false (by omega)
  have d4 : decide ((b.sh.height : Int) + 1 < (a.sh.height : Int)) = false := decide_eq_false (by omega)
  have s1 : IntKind.i64.wrap ((a.sh.height : Int) + 1) = (a.sh.height : Int) + 1 := IntWalk.i64_in _ (by omega)
  have s2 : IntKind.i64.wrap ((b.sh.height : Int) + 1) = (b.sh.height : Int) + 1 := IntWalk.i64_in _ (by omega)
  go_enter Try.func64, Try.ntmps64
  go_wp2
  go_quiet (fail)
  go_wp2
  go_quiet (fail)
  go_wp2
  go_quiet (fail)
  go_wp2
  go_quiet (fail)
  generalize hwq : (World.drewN (World.drewN (World.drewN (World.drewN w _) _) _) _) = wq
  have hbq : Below w.heap.size w wq := by rw [← hwq]; (repeat (first | exact Below.refl _ _ | apply below_drewN))
  clear hwq
  have qa := ia.below hbq
  have qb := ib.below hbq
  clear ca5 cb5 d1 d2 d3 d4 s1 s2
  go_wp2_with (go_at_call 61; (with_reducible refine (branch_any a b _ qa qb oa ob h0).mono ?_); rintro e w1 ⟨t1, rfl, i1, s1, b1⟩)
  go_ret
  exact ⟨t1, rfl, i1, s1, hbq.trans (b1.mono hbq.size)⟩
end Go.Proofs.Ythjbkiomnipjiaa

namespace Go.Proofs.Ythjbkiomnipjiaa
open Go Go.RowKit
theorem level_any (a b : Nd) (w : World) (ia : a.In w) (ib : b.In w) (oa : a.sh.Ok) (ob : b.sh.Ok) (h0 : a.sh.size + b.sh.size ≤ 1048576) :
    Calls Try.prog 64 #[.pointer (some ⟨a.addr, 0, none⟩), .pointer (some ⟨b.addr, 0, none⟩)] w (Tree (· = Sh.level a.sh b.sh) w) := by
  unfold Sh.level
  split
  · rename_i c1
    cases b with
    | leaf gb s => exact absurd c1 (by show ¬ (0 > a.sh.height + 1); omega)
    | node gb bl br =>
      split
      · rename_i c2
        cases bl with
        | leaf gl s => exact absurd c2 (by show ¬ (0 > br.sh.height); omega)
        | node gl bll blr => exact level_a1 a bll blr br gb gl _ _ w ia ib oa ob h0 rfl rfl c1 c2
      · rename_i c2
        exact level_a2 a bl br gb _ w ia ib oa ob h0 rfl c1 (Nat.le_of_not_lt c2)
  · rename_i c0
    split
    · rename_i c1
      cases a with
      | leaf ga s => exact absurd c1 (by show ¬ (0 > b.sh.height + 1); omega)
      | node ga al ar =>
        split
        · rename_i c2
          cases ar with
          | leaf gr s => exact absurd c2 (by show ¬ (0 > al.sh.height); omega)
          | node gr arl arr => exact level_b1 al arl arr b ga gr _ _ w ia ib oa ob h0 rfl rfl c1 c2
        · rename_i c2
          exact level_b2 al ar b ga _ w ia ib oa ob h0 rfl c1 (Nat.le_of_not_lt c2)
    · rename_i c1
      exact level_c a b w ia ib oa ob h0 (by omega) (by omega)

/-- join, at trees of so much height -/
def JoinTo (n : Nat) : Prop := ∀ (a b : Nd) (w : World), a.In w → b.In w → a.sh.Ok → b.sh.Ok → a.sh.size + b.sh.size ≤ 1048576 → a.sh.height + b.sh.height ≤ n →
    Calls Try.prog 51 #[.pointer (some ⟨a.addr, 0, none⟩), .pointer (some ⟨b.addr, 0, none⟩)] w (Tree (· = Sh.join a.sh b.sh) w)
set_option maxRecDepth 100000 in
set_option maxHeartbeats 2000000 in
theorem join_a (al ar b : Nd) (ga H n : Nat) (w : World) (IH : JoinTo n) (ha : (Nd.node ga al ar).In w) (ib : b.In w) (oa : (Nd.node ga al ar).sh.Ok) (ob : b.sh.Ok) (h0 : (Nd.node ga al ar).sh.size + b.sh.size ≤ 1048576) (hH : H = (Nd.node ga al ar).sh.height) (g1 : b.sh.height + 1 < H) (gn : H + b.sh.height ≤ n + 1) :
    Calls Try.prog 51 #[.pointer (some ⟨ga, 0, none⟩), .pointer (some ⟨b.addr, 0, none⟩)] w (Tree (· = Sh.level al.sh (Sh.join ar.sh b.sh)) w) := by
  have h1 : (al.sh.size + ar.sh.size) + b.sh.size ≤ 1048576 := h0
  have hs2 : H ≤ 1048576 := by rw [hH]; have := Sh.leaves_le _ oa; have := Sh.height_lt (Nd.node ga al ar).sh; have := h0; omega
  have hs1 : b.sh.height ≤ 1048576 := by have := b.sh.leaves_le ob; have := b.sh.height_lt; omega
  have nn : ar.sh.height + b.sh.height ≤ n := by have : H = 1 + max al.sh.height ar.sh.height := hH; omega
  clear h0 gn
  have c0 : w.cell? ⟨ga, 0, none⟩ = some (.pointer (some ⟨al.addr, 0, none⟩)) := ha.c0
  have c1 : w.cell? ⟨ga, 1, none⟩ = some (.pointer (some ⟨ar.addr, 0, none⟩)) := ha.c1
  have c5 : w.cell? ⟨ga, 5, none⟩ = some (.int .i64 H) := by rw [hH]; exact ha.c5
  have cb5 := ib.c5
  have l_ga : ga < w.heap.size := ha.lt
  have ial := ha.2.1
  have iar := ha.2.2
  have oal : al.sh.Ok := oa.1
  have oar : ar.sh.Ok := oa.2
  clear hH
  have d1 : decide (b.sh.height + 1 < H) = true := decide_eq_true g1
  have d3 : decide ((b.sh.height : Int) + 1 < (H : Int)) = true := decide_eq_true (by omega)
  have e1 : decide (H + 1 < b.sh.height) = false := decide_eq_false (by omega)
  have e2 : decide ((H : Int) + 1 < (b.sh.height : Int)) = false := decide_eq_false (by omega)
  have s1 : IntKind.i64.wrap ((b.sh.height : Int) + 1) = (b.sh.height : Int) + 1 := IntWalk.i64_in _ (by omega)
  have s2 : IntKind.i64.wrap ((H : Int) + 1) = (H : Int) + 1 := IntWalk.i64_in _ (by omega)
  go_enter Try.func51, Try.ntmps51
  go_wp2
  go_quiet (fail)
  go_wp2
  generalize hwq : (World.drewN w _) = wq
  have hbq : Below w.heap.size w wq := by rw [← hwq]; (repeat (first | exact Below.refl _ _ | apply below_drewN))
  clear hwq
  have qal := ial.below hbq
  have qar := iar.below hbq
  have qb := ib.below hbq
  have E0 := Lib.hid (show wq.cell? ⟨ga, 0, none⟩ = some (.pointer (some ⟨al.addr, 0, none⟩)) from (hbq.cell l_ga).trans c0)
  have E1 := Lib.hid (show wq.cell? ⟨ga, 1, none⟩ = some (.pointer (some ⟨ar.addr, 0, none⟩)) from (hbq.cell l_ga).trans c1)
  have L_ga : ga < wq.heap.size := Nat.lt_of_lt_of_le l_ga hbq.size
  clear c0 c1 c5 cb5 d1 d3 e1 e2 s1 s2
  have z1 : ar.sh.size + b.sh.size ≤ 1048576 := by omega
  unfold JoinTo at IH
  have B0 : Below wq.heap.size wq wq.drew := (Below.refl _ _).drew
  have Qal_0 : al.In wq.drew := qal.below B0
  have Qar_0 : ar.In wq.drew := qar.below B0
  have Qb_0 : b.In wq.drew := qb.below B0
  go_region_held3 (fun w' => w'.cell? ⟨ga, 0, none⟩ = some (.pointer (some ⟨al.addr, 0, none⟩)) ∧ w'.cell? ⟨ga, 1, none⟩ = some (.pointer (some ⟨ar.addr, 0, none⟩)))
    (first
      | exact ⟨(B2.cell L_ga).trans E0.out, (B2.cell L_ga).trans E1.out⟩
      | exact ⟨(B1.cell L_ga).trans E0.out, (B1.cell L_ga).trans E1.out⟩
      | exact ⟨(B0.cell L_ga).trans E0.out, (B0.cell L_ga).trans E1.out⟩
      | fail)
    (first
      | ((with_reducible refine (IH ar b _ Qar_0 Qb_0 oar ob z1 nn).mono ?_)
         rintro e w1 ⟨t1, rfl, i1, s1, b1⟩
         have S1 : t1.sh = Sh.join ar.sh b.sh := s1
         have B1 : Below wq.heap.size wq w1 := B0.trans b1
         have J1_1 : t1.In w1 := i1
         have Qal_1 : al.In w1 := Qal_0.below b1
         have Qar_1 : ar.In w1 := Qar_0.below b1
         have Qb_1 : b.In w1 := Qb_0.below b1
         have p1 : t1.sh.Ok := by rw [S1]; exact Sh.join_ok oar ob
         have n1 : t1.sh.size = ar.sh.size + b.sh.size := by rw [S1]; exact Sh.join_size _ _
         have z2 : al.sh.size + t1.sh.size ≤ 1048576 := by omega)
      | ((with_reducible refine (level_any al t1 _ Qal_1 J1_1 oal p1 z2).mono ?_)
         rintro e w2 ⟨t2, rfl, i2, s2, b2⟩
         have S2 : t2.sh = Sh.level al.sh t1.sh := s2
         have B2 : Below wq.heap.size wq w2 := B1.trans (b2.mono B1.size)
         have J2_2 : t2.In w2 := i2
         have J1_2 : t1.In w2 := J1_1.below b2
         have Qal_2 : al.In w2 := Qal_1.below b2
         have Qar_2 : ar.In w2 := Qar_1.below b2
         have Qb_2 : b.In w2 := Qb_1.below b2
         have p2 : t2.sh.Ok := by rw [S2]; exact Sh.level_ok oal p1
         have n2 : t2.sh.size = al.sh.size + t1.sh.size := by rw [S2]; exact Sh.level_size _ _)
      | fail)
  go_wp2
  go_ret
  exact ⟨t2, rfl, i2, by show t2.sh = _; rw [S2, S1], hbq.trans (B2.mono hbq.size)⟩
set_option maxRecDepth 100000 in
set_option maxHeartbeats 2000000 in
theorem join_b (a bl br : Nd) (gb H n : Nat) (w : World) (IH : JoinTo n) (ia : a.In w) (hb : (Nd.node gb bl br).In w) (oa : a.sh.Ok) (ob : (Nd.node gb bl br).sh.Ok) (h0 : a.sh.size + (Nd.node gb bl br).sh.size ≤ 1048576) (hH : H = (Nd.node gb bl br).sh.height) (g1 : a.sh.height + 1 < H) (gn : a.sh.height + H ≤ n + 1) :
    Calls Try.prog 51 #[.pointer (some ⟨a.addr, 0, none⟩), .pointer (some ⟨gb, 0, none⟩)] w (Tree (· = Sh.level (Sh.join a.sh bl.sh) br.sh) w) := by
  have h1 : a.sh.size + (bl.sh.size + br.sh.size) ≤ 1048576 := h0
  have hs2 : H ≤ 1048576 := by rw [hH]; have := Sh.leaves_le _ ob; have := Sh.height_lt (Nd.node gb bl br).sh; have := h0; omega
  have hs1 : a.sh.height ≤ 1048576 := by have := a.sh.leaves_le oa; have := a.sh.height_lt; omega
  have nn : a.sh.height + bl.sh.height ≤ n := by have : H = 1 + max bl.sh.height br.sh.height := hH; omega
  clear h0 gn
  have c0 : w.cell? ⟨gb, 0, none⟩ = some (.pointer (some ⟨bl.addr, 0, none⟩)) := hb.c0
  have c1 : w.cell? ⟨gb, 1, none⟩ = some (.pointer (some ⟨br.addr, 0, none⟩)) := hb.c1
  have c5 : w.cell? ⟨gb, 5, none⟩ = some (.int .i64 H) := by rw [hH]; exact hb.c5
  have cb5 := ia.c5
  have l_gb : gb < w.heap.size := hb.lt
  have ibl := hb.2.1
  have ibr := hb.2.2
  have obl : bl.sh.Ok := ob.1
  have obr : br.sh.Ok := ob.2
  clear hH
  have d1 : decide (a.sh.height + 1 < H) = true := decide_eq_true g1
  have d3 : decide ((a.sh.height : Int) + 1 < (H : Int)) = true := decide_eq_true (by omega)
  have e1 : decide (H + 1 < a.sh.height) = false := decide_eq_false (by omega)
  have e2 : decide ((H : Int) + 1 < (a.sh.height : Int)) = false := decide_eq_false (by omega)
  have s1 : IntKind.i64.wrap ((a.sh.height : Int) + 1) = (a.sh.height : Int) + 1 := IntWalk.i64_in _ (by omega)
  have s2 : IntKind.i64.wrap ((H : Int) + 1) = (H : Int) + 1 := IntWalk.i64_in _ (by omega)
  go_enter Try.func51, Try.ntmps51
  go_wp2
  go_quiet (fail)
  go_wp2
  go_quiet (fail)
  go_wp2
  generalize hwq : (World.drewN (World.drewN w _) _) = wq
  have hbq : Below w.heap.size w wq := by rw [← hwq]; (repeat (first | exact Below.refl _ _ | apply below_drewN))
  clear hwq
  have qa := ia.below hbq
  have qbl := ibl.below hbq
  have qbr := ibr.below hbq
  have E0 := Lib.hid (show wq.cell? ⟨gb, 0, none⟩ = some (.pointer (some ⟨bl.addr, 0, none⟩)) from (hbq.cell l_gb).trans c0)
  have E1 := Lib.hid (show wq.cell? ⟨gb, 1, none⟩ = some (.pointer (some ⟨br.addr, 0, none⟩)) from (hbq.cell l_gb).trans c1)
  have L_gb : gb < wq.heap.size := Nat.lt_of_lt_of_le l_gb hbq.size
  clear c0 c1 c5 cb5 d1 d3 e1 e2 s1 s2
  have z1 : a.sh.size + bl.sh.size ≤ 1048576 := by omega
  unfold JoinTo at IH
  have B0 : Below wq.heap.size wq wq.drew := (Below.refl _ _).drew
  have Qa_0 : a.In wq.drew := qa.below B0
  have Qbl_0 : bl.In wq.drew := qbl.below B0
  have Qbr_0 : br.In wq.drew := qbr.below B0
  go_region_held3 (fun w' => w'.cell? ⟨gb, 0, none⟩ = some (.pointer (some ⟨bl.addr, 0, none⟩)) ∧ w'.cell? ⟨gb, 1, none⟩ = some (.pointer (some ⟨br.addr, 0, none⟩)))
    (first
      | exact ⟨(B2.cell L_gb).trans E0.out, (B2.cell L_gb).trans E1.out⟩
      | exact ⟨(B1.cell L_gb).trans E0.out, (B1.cell L_gb).trans E1.out⟩
      | exact ⟨(B0.cell L_gb).trans E0.out, (B0.cell L_gb).trans E1.out⟩
      | fail)
    (first
      | ((with_reducible refine (IH a bl _ Qa_0 Qbl_0 oa obl z1 nn).mono ?_)
         rintro e w1 ⟨t1, rfl, i1, s1, b1⟩
         have S1 : t1.sh = Sh.join a.sh bl.sh := s1
         have B1 : Below wq.heap.size wq w1 := B0.trans b1
         have J1_1 : t1.In w1 := i1
         have Qa_1 : a.In w1 := Qa_0.below b1
         have Qbl_1 : bl.In w1 := Qbl_0.below b1
         have Qbr_1 : br.In w1 := Qbr_0.below b1
         have p1 : t1.sh.Ok := by rw [S1]; exact Sh.join_ok oa obl
         have n1 : t1.sh.size = a.sh.size + bl.sh.size := by rw [S1]; exact Sh.join_size _ _
         have z2 : t1.sh.size + br.sh.size ≤ 1048576 := by omega)
      | ((with_reducible refine (level_any t1 br _ J1_1 Qbr_1 p1 obr z2).mono ?_)
         rintro e w2 ⟨t2, rfl, i2, s2, b2⟩
         have S2 : t2.sh = Sh.level t1.sh br.sh := s2
         have B2 : Below wq.heap.size wq w2 := B1.trans (b2.mono B1.size)
         have J2_2 : t2.In w2 := i2
         have J1_2 : t1.In w2 := J1_1.below b2
         have Qa_2 : a.In w2 := Qa_1.below b2
         have Qbl_2 : bl.In w2 := Qbl_1.below b2
         have Qbr_2 : br.In w2 := Qbr_1.below b2
         have p2 : t2.sh.Ok := by rw [S2]; exact Sh.level_ok p1 obr
         have n2 : t2.sh.size = t1.sh.size + br.sh.size := by rw [S2]; exact Sh.level_size _ _)
      | fail)
  go_wp2
  go_ret
  exact ⟨t2, rfl, i2, by show t2.sh = _; rw [S2, S1], hbq.trans (B2.mono hbq.size)⟩
set_option maxRecDepth 100000 in
set_option maxHeartbeats 2000000 in
theorem join_c (a b : Nd) (w : World) (ia : a.In w) (ib : b.In w) (oa : a.sh.Ok) (ob : b.sh.Ok) (h0 : a.sh.size + b.sh.size ≤ 1048576) (g1 : b.sh.height ≤ a.sh.height + 1) (g2 : a.sh.height ≤ b.sh.height + 1) :
    Calls Try.prog 51 #[.pointer (some ⟨a.addr, 0, none⟩), .pointer (some ⟨b.addr, 0, none⟩)] w (Tree (· = .node a.sh b.sh) w) := by
  have ca5 := ia.c5
  have cb5 := ib.c5
  have hs1 : a.sh.height ≤ 1048576 := by have := a.sh.leaves_le oa; have := a.sh.height_lt; omega
  have hs2 : b.sh.height ≤ 1048576 := by have := b.sh.leaves_le ob; have := b.sh.height_lt; omega
  have d1 : decide (a.sh.height + 1 < b.sh.height) = false := decide_eq_false (by omega)
  have d2 : decide (b.sh.height + 1 < a.sh.height) = false := decide_eq_false (by omega)
  have d3 : decide ((a.sh.height : Int) + 1 < (b.sh.height : Int)) = false := decide_eq_false (by omega)
  have d4 : decide ((b.sh.height : Int) + 1 < (a.sh.height : Int)) = false := decide_eq_false (by omega)
  have s1 : IntKind.i64.wrap ((a.sh.height : Int) + 1) = (a.sh.height : Int) + 1 := IntWalk.i64_in _ (by omega)
  have s2 : IntKind.i64.wrap ((b.sh.height : Int) + 1) = (b.sh.height : Int) + 1 := IntWalk.i64_in _ (by omega)
  go_enter Try.func51, Try.ntmps51
  go_wp2
  go_quiet (fail)
  go_wp2
  go_quiet (fail)
  generalize hwq : (World.drewN (World.drewN w _) _) = wq
  have hbq : Below w.heap.size w wq := by rw [← hwq]; (repeat (first | exact Below.refl _ _ | apply below_drewN))
  clear hwq
  have qa := ia.below hbq
  have qb := ib.below hbq
  clear ca5 cb5 d1 d2 d3 d4 s1 s2
  go_wp2_with (go_at_call 61; (with_reducible refine (branch_any a b _ qa qb oa ob h0).mono ?_); rintro e w1 ⟨t1, rfl, i1, s1, b1⟩)
  go_ret
  exact ⟨t1, rfl, i1, s1, hbq.trans (b1.mono hbq.size)⟩
theorem join_all : ∀ n, JoinTo n := by
  intro n
  induction n with
  | zero =>
    intro a b w ia ib oa ob h0 hn
    have e : Sh.join a.sh b.sh = .node a.sh b.sh := by rw [Sh.join, if_neg (by omega), if_neg (by omega)]
    rw [e]
    exact join_c a b w ia ib oa ob h0 (by omega) (by omega)
  | succ n ih =>
    intro a b w ia ib oa ob h0 hn
    rw [Sh.join]
    split
    · rename_i c1
      cases a with
      | leaf ga s => exact absurd c1 (by show ¬ (0 > b.sh.height + 1); omega)
      | node ga al ar => exact join_a al ar b ga _ n w ih ia ib oa ob h0 rfl c1 hn
    · rename_i c0
      split
      · rename_i c1
        cases b with
        | leaf gb s => exact absurd c1 (by show ¬ (0 > a.sh.height + 1); omega)
        | node gb bl br => exact join_b a bl br gb _ n w ih ia ib oa ob h0 rfl c1 hn
      · rename_i c1
        exact join_c a b w ia ib oa ob h0 (by omega) (by omega)
theorem join_any (a b : Nd) (w : World) (ia : a.In w) (ib : b.In w) (oa : a.sh.Ok) (ob : b.sh.Ok) (h0 : a.sh.size + b.sh.size ≤ 1048576) :
    Calls Try.prog 51 #[.pointer (some ⟨a.addr, 0, none⟩), .pointer (some ⟨b.addr, 0, none⟩)] w (Tree (· = Sh.join a.sh b.sh) w) := join_all _ a b w ia ib oa ob h0 (Nat.le_refl _)
theorem join_nil_left (b : Option Nd) (w : World) : Calls Try.prog 51 #[.pointer none, optPtr b] w fun e w' => e = .returned (optPtr b) ∧ w = w' := by
  cases b with
  | none =>
    unfold optPtr
    go_enter Try.func51, Try.ntmps51
    go_wp2
    go_ret
    exact ⟨rfl, rfl⟩
  | some b =>
    unfold optPtr
    go_enter Try.func51, Try.ntmps51
    go_wp2
    go_ret
    exact ⟨rfl, rfl⟩
theorem join_nil_right (a : Nd) (w : World) : Calls Try.prog 51 #[.pointer (some ⟨a.addr, 0, none⟩), .pointer none] w fun e w' => e = .returned (.pointer (some ⟨a.addr, 0, none⟩)) ∧ w = w' := by
  go_enter Try.func51, Try.ntmps51
  go_wp2
  go_ret
  exact ⟨rfl, rfl⟩
def optOk (t : Option Nd) : Prop := match t with | none => True | some t => t.sh.Ok
def optSize (t : Option Nd) : Nat := match t with | none => 0 | some t => t.sh.size
/-- join, of trees that may be none -/
theorem join_opt (a b : Option Nd) (w : World) (ia : optIn w a) (ib : optIn w b) (oa : optOk a) (ob : optOk b) (h0 : optSize a + optSize b ≤ 1048576) :
    Calls Try.prog 51 #[optPtr a, optPtr b] w (TreeO (· = Sh.joinO (optSh a) (optSh b)) w) := by
  cases a with
  | none => exact (join_nil_left b w).mono fun e w' ⟨he, hw⟩ => ⟨b, he, hw ▸ ib, rfl, hw ▸ Below.refl _ _⟩
  | some a =>
    cases b with
    | none => exact (join_nil_right a w).mono fun e w' ⟨he, hw⟩ => ⟨some a, he, hw ▸ ia, rfl, hw ▸ Below.refl _ _⟩
    | some b => exact (join_any a b w ia ib oa ob h0).mono fun e w' ⟨t, he, it, st, bt⟩ => ⟨some t, he, it, congrArg some st, bt⟩
end Go.Proofs.Ythjbkiomnipjiaa

namespace Go.Proofs.Ythjbkiomnipjiaa
open Go Go.RowKit
def cut (s : ByteArray) : Nat := (s.size + 63) / 64 / 2 * 64
inductive Built : ByteArray → Option Sh → Prop where
  | none : Built ⟨#[]⟩ Option.none
  | leaf (g : Nat) (s : ByteArray) : 1 ≤ s.size → s.size ≤ 64 → Built s (some (.leaf g s))
  | node (s : ByteArray) (l r : Sh) : 64 < s.size → Built (s.extract 0 (cut s)) (some l) → Built (s.extract (cut s) s.size) (some r) → Built s (some (.node l r))
theorem Built.ok {s : ByteArray} {t : Option Sh} (h : Built s t) : (∀ x, t = some x → x.Ok ∧ x.size = s.size) := by
  induction h with
  | none => intro x e; cases e
  | leaf g s h1 h2 => intro x e; cases e; exact ⟨⟨h1, h2⟩, rfl⟩
  | node s l r h1 _ _ ih1 ih2 =>
    intro x e
    cases e
    obtain ⟨a1, a2⟩ := ih1 l rfl
    obtain ⟨b1, b2⟩ := ih2 r rfl
    refine ⟨⟨a1, b1⟩, ?_⟩
    show l.size + r.size = s.size
    rw [a2, b2, ByteArray.size_extract, ByteArray.size_extract]
    have : cut s ≤ s.size := by unfold cut; omega
    omega
theorem Built.some {s : ByteArray} {t : Option Sh} (h : Built s t) (h1 : s.size ≠ 0) : ∃ x, t = Option.some x := by
  cases h with
  | none => exact absurd rfl h1
  | leaf g s _ _ => exact ⟨_, rfl⟩
  | node s l r _ _ _ => exact ⟨_, rfl⟩
def BuildTo (n : Nat) : Prop := ∀ (s : ByteArray) (w : World), s.size ≤ n → s.size ≤ 1048576 → Calls Try.prog 39 #[.string s] w (TreeO (Built s) w)
theorem build_small (s : ByteArray) (w : World) (h : s.size ≤ 64) : Calls Try.prog 39 #[.string s] w (TreeO (Built s) w) := by
  have hd : decide (s.size ≤ 64) = true := decide_eq_true h
  by_cases h0 : s.size = 0
  · have e : s = ⟨#[]⟩ := by
      have := ByteArray.size_eq_zero_iff.1 h0
      rw [this]
      rfl
    subst e
    go_enter Try.func39, Try.ntmps39
    go_wp2_with (go_at_call 60; refine (leaf_none _).mono ?_; rintro e w' ⟨rfl, rfl⟩)
    go_ret
    exact ⟨none, rfl, trivial, Built.none, Below.refl _ _⟩
  · have hl := leaf_some s w h0
    go_enter Try.func39, Try.ntmps39
    go_wp2_with (go_at_call 60; refine hl.mono ?_; rintro e w' ⟨rfl, hin, hbel⟩)
    go_ret
    exact ⟨some (.leaf w.heap.size s), rfl, hin, Built.leaf _ _ (by omega) h, hbel⟩
set_option maxRecDepth 100000 in
set_option maxHeartbeats 1000000 in
theorem build_big (n : Nat) (IH : BuildTo n) (s : ByteArray) (w : World) (hn : s.size ≤ n + 1) (hs : s.size ≤ 1048576) (h : 64 < s.size) : Calls Try.prog 39 #[.string s] w (TreeO (Built s) w) := by
  have hd : decide (s.size ≤ 64) = false := decide_eq_false (by omega)
  have hc : ((cut s : Nat) : Int) = ((s.size : Int) + 64 - 1) / 64 / 2 * 64 := by unfold cut; omega
  have c1 : 64 ≤ cut s := by unfold cut; omega
  have c2 : cut s + 1 ≤ s.size := by unfold cut; omega
  have HC := Lib.hid hc
  clear hc
  go_enter Try.func39, Try.ntmps39
  go_wp2
  generalize hN : ((s.size : Int) + 64 - 1) / 64 / 2 * 64 = N
  obtain rfl : N = ((cut s : Nat) : Int) := hN.symm.trans HC.out.symm
  clear hN HC hd
  have k0 : (0 : Int) ≤ ((cut s : Nat) : Int) := Int.natCast_nonneg _
  have k1 : ((cut s : Nat) : Int) ≤ (s.size : Int) := by omega
  have z1 : (s.extract 0 (cut s)).size = cut s := by rw [ByteArray.size_extract]; omega
  have z2 : (s.extract (cut s) s.size).size = s.size - cut s := by rw [ByteArray.size_extract]; omega
  have y1 : (s.extract 0 (cut s)).size ≤ n := by omega
  have y2 : (s.extract (cut s) s.size).size ≤ n := by omega
  have x1 : (s.extract 0 (cut s)).size ≤ 1048576 := by omega
  have x2 : (s.extract (cut s) s.size).size ≤ 1048576 := by omega
  have n1 : (s.extract 0 (cut s)).size ≠ 0 := by omega
  have n2 : (s.extract (cut s) s.size).size ≠ 0 := by omega
  have Z := Lib.hid z1
  have Z2 := Lib.hid z2
  clear z1 z2
  unfold BuildTo at IH
  go_region_held3 (fun _ => True) (trivial)
    (first
      | ((with_reducible refine (IH (s.extract 0 (cut s)) _ y1 x1).mono ?_)
         rintro e w1 ⟨t1, rfl, i1, s1, b1⟩
         obtain ⟨u1, hu1⟩ : ∃ u, t1 = some u := by
           obtain ⟨x, hx⟩ := s1.some n1
           cases t1 with
           | none => cases hx
           | some u => exact ⟨u, rfl⟩
         subst hu1
         unfold optPtr)
      | ((with_reducible refine (IH (s.extract (cut s) s.size) _ y2 x2).mono ?_)
         rintro e w2 ⟨t2, rfl, i2, s2, b2⟩
         obtain ⟨u2, hu2⟩ : ∃ u, t2 = some u := by
           obtain ⟨x, hx⟩ := s2.some n2
           cases t2 with
           | none => cases hx
           | some u => exact ⟨u, rfl⟩
         subst hu2
         unfold optPtr
         obtain ⟨p1, q1⟩ := s1.ok u1.sh rfl
         obtain ⟨p2, q2⟩ := s2.ok u2.sh rfl
         have j1 : u1.In w2 := Nd.In.below b2 (show u1.In w1 from i1)
         have j2 : u2.In w2 := i2
         have z3 : u1.sh.size + u2.sh.size ≤ 1048576 := by rw [q1, q2, Z.out, Z2.out]; omega)
      | ((with_reducible refine (branch_any u1 u2 _ j1 j2 p1 p2 z3).mono ?_)
         rintro e w3 ⟨t3, rfl, i3, s3, b3⟩)
      | fail)
  go_wp2
  go_ret
  have hb1 : Below w.heap.size w w1 := (Below.refl _ _).drew.trans b1
  have hb2 : Below w.heap.size w w2 := hb1.trans (b2.mono hb1.size)
  refine ⟨some t3, rfl, i3, ?_, hb2.trans (b3.mono hb2.size)⟩
  have S3 : t3.sh = .node u1.sh u2.sh := s3
  show Built s (some t3.sh)
  rw [S3]
  exact Built.node s _ _ h s1 s2
theorem build_all : ∀ n, BuildTo n := by
  intro n
  induction n with
  | zero => intro s w hn hs; exact build_small s w (by omega)
  | succ n ih =>
    intro s w hn hs
    by_cases h : s.size ≤ 64
    · exact build_small s w h
    · exact build_big n ih s w hn hs (by omega)
theorem build_any (s : ByteArray) (w : World) (hs : s.size ≤ 1048576) : Calls Try.prog 39 #[.string s] w (TreeO (Built s) w) := build_all _ s w (Nat.le_refl _) hs
end Go.Proofs.Ythjbkiomnipjiaa

namespace Go.Proofs.Ythjbkiomnipjiaa
open Go Go.RowKit

/-- what a call that hands back two trees comes to -/
def Pair (P : Option Sh × Option Sh → Prop) (w : World) (e : Ending) (w' : World) : Prop :=
  ∃ t u : Option Nd, e = .returned (.tuple #[optPtr t, optPtr u]) ∧ optIn w' t ∧ optIn w' u ∧ P (optSh t, optSh u) ∧ Below w.heap.size w w'
def SplitAs (t : Option Sh) (k : Int) (p : Option Sh × Option Sh) : Prop := ∃ g h : Nat, p = Sh.splitO g h t k

theorem split_nil (k : Int) (w : World) : Calls Try.prog 50 #[.pointer none, .int .i64 k] w (Pair (SplitAs none k) w) := by
  go_enter Try.func50, Try.ntmps50
  go_wp2
  go_ret2
  exact ⟨none, none, rfl, trivial, trivial, ⟨0, 0, rfl⟩, Below.refl _ _⟩
theorem split_low (t : Nd) (k : Int) (w : World) (it : t.In w) (hk : k ≤ 0) : Calls Try.prog 50 #[.pointer (some ⟨t.addr, 0, none⟩), .int .i64 k] w (Pair (SplitAs (some t.sh) k) w) := by
  have d : decide (k ≤ 0) = true := decide_eq_true hk
  go_enter Try.func50, Try.ntmps50
  go_wp2
  go_ret2
  refine ⟨none, some t, rfl, trivial, it, ⟨0, 0, ?_⟩, Below.refl _ _⟩
  show (none, some t.sh) = Sh.split 0 0 t.sh k
  unfold Sh.split
  rw [if_pos hk]
theorem split_high (t : Nd) (k : Int) (w : World) (it : t.In w) (hk : 0 < k) (h2 : (t.sh.size : Int) ≤ k) : Calls Try.prog 50 #[.pointer (some ⟨t.addr, 0, none⟩), .int .i64 k] w (Pair (SplitAs (some t.sh) k) w) := by
  have d : decide (k ≤ 0) = false := decide_eq_false (by omega)
  have d2 : decide ((t.sh.size : Int) ≤ k) = true := decide_eq_true h2
  have c3 := it.c3
  go_enter Try.func50, Try.ntmps50
  go_wp2
  go_ret2
  refine ⟨some t, none, rfl, it, trivial, ⟨0, 0, ?_⟩, Below.refl _ _⟩
  show (some t.sh, none) = Sh.split 0 0 t.sh k
  unfold Sh.split
  rw [if_neg (by omega), if_pos h2]
set_option maxRecDepth 100000 in
set_option maxHeartbeats 1000000 in
theorem split_leaf (b : Nat) (s : ByteArray) (k : Int) (w : World) (it : (Nd.leaf b s).In w) (hk : 0 < k) (h2 : k < (s.size : Int)) (hs : s.size ≤ 64) :
    Calls Try.prog 50 #[.pointer (some ⟨b, 0, none⟩), .int .i64 k] w (Pair (SplitAs (some (Nd.leaf b s).sh) k) w) := by
  have d : decide (k ≤ 0) = false := decide_eq_false (by omega)
  have d2 : decide ((s.size : Int) ≤ k) = false := decide_eq_false (by omega)
  have c3 : w.cell? ⟨b, 3, none⟩ = some (.int .i64 s.size) := it.c3
  have c0 : w.cell? ⟨b, 0, none⟩ = some (.pointer none) := it.c0
  have c2 : w.cell? ⟨b, 2, none⟩ = some (.string s) := it.c2
  have lb : b < w.heap.size := it.lt
  go_enter Try.func50, Try.ntmps50
  go_wp2
  have n1 : (s.extract 0 k.toNat).size ≠ 0 := by rw [ByteArray.size_extract]; omega
  have n2 : (s.extract k.toNat s.size).size ≠ 0 := by rw [ByteArray.size_extract]; omega
  have m1 := Lib.hid n1
  have m2 := Lib.hid n2
  clear n1 n2 d d2 c3 c0
  have hk0 : (0 : Int) ≤ k := by omega
  have hk1 : k ≤ (s.size : Int) := by omega
  have C2 := Lib.hid c2
  clear c2
  have B0 : Below w.heap.size w w.drew := (Below.refl _ _).drew
  go_region_held3 (fun w' => w'.cell? ⟨b, 2, none⟩ = some (.string s))
    (first
      | exact (B2.cell lb).trans C2.out
      | exact (B1.cell lb).trans C2.out
      | exact (B0.cell lb).trans C2.out
      | fail)
    (first
      | ((with_reducible refine (leaf_some (s.extract 0 k.toNat) _ m1.out).mono ?_)
         rintro e w1 ⟨rfl, i1, b1⟩
         have B1 : Below w.heap.size w w1 := B0.trans b1)
      | ((with_reducible refine (leaf_some (s.extract k.toNat s.size) _ m2.out).mono ?_)
         rintro e w2 ⟨rfl, i2, b2⟩
         have B2 : Below w.heap.size w w2 := B1.trans (b2.mono B1.size))
      | fail)
  all_goals
    go_wp2
    go_ret2
    refine ⟨some (.leaf _ (s.extract 0 k.toNat)), some (.leaf _ (s.extract k.toNat s.size)), rfl, Nd.In.below b2 i1, i2, ⟨w.drew.heap.size, w1.heap.size, ?_⟩, B2⟩
    show (some (Sh.leaf _ _), some (Sh.leaf _ _)) = Sh.split _ _ (Sh.leaf b s) k
    unfold Sh.split
    rw [if_neg (by omega), if_neg (by show ¬ ((s.size : Int) ≤ k); omega)]
    show _ = (Sh.leafO _ _, Sh.leafO _ _)
    unfold Sh.leafO
    rw [if_neg m1.out, if_neg m2.out]
    rfl
theorem optOk_sh {t : Option Nd} (h : Sh.okO (optSh t)) : optOk t := by
  cases t with
  | none => trivial
  | some t => exact h
theorem optSize_sh (t : Option Nd) : optSize t = Sh.sizeO (optSh t) := by
  cases t with
  | none => rfl
  | some t => rfl
theorem join_opt_r (a : Option Nd) (b : Nd) (w : World) (ia : optIn w a) (ib : b.In w) (oa : optOk a) (ob : b.sh.Ok) (h0 : optSize a + b.sh.size ≤ 1048576) :
    Calls Try.prog 51 #[optPtr a, .pointer (some ⟨b.addr, 0, none⟩)] w (TreeO (· = Sh.joinO (optSh a) (some b.sh)) w) := join_opt a (some b) w ia ib oa ob h0
theorem join_opt_l (a : Nd) (b : Option Nd) (w : World) (ia : a.In w) (ib : optIn w b) (oa : a.sh.Ok) (ob : optOk b) (h0 : a.sh.size + optSize b ≤ 1048576) :
    Calls Try.prog 51 #[.pointer (some ⟨a.addr, 0, none⟩), optPtr b] w (TreeO (· = Sh.joinO (some a.sh) (optSh b)) w) := join_opt (some a) b w ia ib oa ob h0
def SplitsAt (t : Nd) : Prop := ∀ (k : Int) (w : World), t.In w → t.sh.Ok → t.sh.size ≤ 1048576 → -1048576 ≤ k → k ≤ 1048576 →
    Calls Try.prog 50 #[.pointer (some ⟨t.addr, 0, none⟩), .int .i64 k] w (Pair (SplitAs (some t.sh) k) w)
theorem split_facts {l : Nd} {k : Int} {t u : Option Nd} (ol : l.sh.Ok) (s : SplitAs (some l.sh) k (optSh t, optSh u)) : optOk t ∧ optOk u ∧ optSize t + optSize u = l.sh.size := by
  obtain ⟨g, h, hs⟩ := s
  have hs : (optSh t, optSh u) = Sh.split g h l.sh k := hs
  obtain ⟨a1, a2, a3⟩ := Sh.split_keeps g h l.sh k ol
  have e1 : optSh t = (Sh.split g h l.sh k).1 := congrArg Prod.fst hs
  have e2 : optSh u = (Sh.split g h l.sh k).2 := congrArg Prod.snd hs
  rw [← e1] at a1 a3
  rw [← e2] at a2 a3
  exact ⟨optOk_sh a1, optOk_sh a2, by rw [optSize_sh, optSize_sh, a3]⟩
theorem split_left (b : Nat) (l r : Nd) (IH : SplitsAt l) (k : Int) (w : World) (it : (Nd.node b l r).In w) (ok : (Nd.node b l r).sh.Ok) (hz : (Nd.node b l r).sh.size ≤ 1048576) (hk : 0 < k) (h2 : k < (l.sh.size : Int)) :
    Calls Try.prog 50 #[.pointer (some ⟨b, 0, none⟩), .int .i64 k] w (Pair (SplitAs (some (Nd.node b l r).sh) k) w) := by
  have hz' : l.sh.size + r.sh.size ≤ 1048576 := hz
  clear hz
  have ol : l.sh.Ok := ok.1
  have or_ : r.sh.Ok := ok.2
  have d : decide (k ≤ 0) = false := decide_eq_false (by omega)
  have d2 : decide (((l.sh.size : Int) + (r.sh.size : Int)) ≤ k) = false := decide_eq_false (by omega)
  have d3 : decide (k < (l.sh.size : Int)) = true := decide_eq_true h2
  have c3 : w.cell? ⟨b, 3, none⟩ = some (.int .i64 ((l.sh.size : Int) + (r.sh.size : Int))) := it.c3
  have c0 : w.cell? ⟨b, 0, none⟩ = some (.pointer (some ⟨l.addr, 0, none⟩)) := it.c0
  have c1 : w.cell? ⟨b, 1, none⟩ = some (.pointer (some ⟨r.addr, 0, none⟩)) := it.c1
  have lc3 := it.2.1.c3
  have lb : b < w.heap.size := it.lt
  have il := it.2.1
  have ir := it.2.2
  unfold SplitsAt at IH
  have z1 : l.sh.size ≤ 1048576 := by omega
  have z2 : -1048576 ≤ k := by omega
  have z3 : k ≤ 1048576 := by omega
  have zz := Lib.hid hz'
  clear hz'
  go_enter Try.func50, Try.ntmps50
  go_wp2_with (first
    | (go_at_call 50; (with_reducible refine (IH k _ il ol z1 z2 z3).mono ?_); rintro e w1 ⟨t1, u1, rfl, i1, j1, s1, b1⟩; have c1' := (b1.cell (p := ⟨b, 1, none⟩) lb).trans c1; have ir1 := ir.below b1; obtain ⟨o1, o2, o3⟩ := split_facts ol s1; have zs : optSize u1 + r.sh.size ≤ 1048576 := (by have := zz.out; omega))
    | (go_at_call 51; (with_reducible refine (join_opt_r u1 r _ j1 ir1 o2 or_ zs).mono ?_); rintro e w2 ⟨t2, rfl, i2, s2, b2⟩))
  go_ret2
  have B2 : Below w.heap.size w w2 := b1.trans (b2.mono b1.size)
  obtain ⟨g, h, hs⟩ := s1
  have hs : (optSh t1, optSh u1) = Sh.split g h l.sh k := hs
  refine ⟨t1, t2, rfl, optIn.below b2 i1, i2, ⟨g, h, ?_⟩, B2⟩
  show (optSh t1, optSh t2) = Sh.split g h (.node l.sh r.sh) k
  rw [show optSh t2 = Sh.joinO (optSh u1) (some r.sh) from s2, show optSh t1 = (Sh.split g h l.sh k).1 from congrArg Prod.fst hs, show optSh u1 = (Sh.split g h l.sh k).2 from congrArg Prod.snd hs]
  conv => rhs; unfold Sh.split
  have hz := zz.out
  rw [if_neg (by omega), if_neg (by show ¬ (((l.sh.size + r.sh.size : Nat) : Int) ≤ k); omega)]
  show _ = if k < (l.sh.size : Int) then _ else _
  rw [if_pos h2]
set_option maxRecDepth 100000 in
set_option maxHeartbeats 1000000 in
theorem split_right (b : Nat) (l r : Nd) (IH : SplitsAt r) (k : Int) (w : World) (it : (Nd.node b l r).In w) (ok : (Nd.node b l r).sh.Ok) (hz : (Nd.node b l r).sh.size ≤ 1048576) (h1 : (l.sh.size : Int) ≤ k) (h0 : 0 < k) (h2 : k < ((l.sh.size + r.sh.size : Nat) : Int)) :
    Calls Try.prog 50 #[.pointer (some ⟨b, 0, none⟩), .int .i64 k] w (Pair (SplitAs (some (Nd.node b l r).sh) k) w) := by
  have hz' : l.sh.size + r.sh.size ≤ 1048576 := hz
  clear hz
  have ol : l.sh.Ok := ok.1
  have or_ : r.sh.Ok := ok.2
  have d : decide (k ≤ 0) = false := decide_eq_false (by omega)
  have d2 : decide (((l.sh.size : Int) + (r.sh.size : Int)) ≤ k) = false := decide_eq_false (by omega)
  have d3 : decide (k < (l.sh.size : Int)) = false := decide_eq_false (by omega)
  have c3 : w.cell? ⟨b, 3, none⟩ = some (.int .i64 ((l.sh.size : Int) + (r.sh.size : Int))) := it.c3
  have c0 : w.cell? ⟨b, 0, none⟩ = some (.pointer (some ⟨l.addr, 0, none⟩)) := it.c0
  have c1 : w.cell? ⟨b, 1, none⟩ = some (.pointer (some ⟨r.addr, 0, none⟩)) := it.c1
  have lc3 := it.2.1.c3
  have lb : b < w.heap.size := it.lt
  have ll : l.addr < w.heap.size := it.2.1.lt
  have il := it.2.1
  have ir := it.2.2
  unfold SplitsAt at IH
  have z1 : r.sh.size ≤ 1048576 := by omega
  have z2 : -1048576 ≤ k - (l.sh.size : Int) := by omega
  have z3 : k - (l.sh.size : Int) ≤ 1048576 := by omega
  have zz := Lib.hid hz'
  have h2' := Lib.hid h2
  clear hz' h2
  have sw : IntKind.i64.wrap (k - (l.sh.size : Int)) = k - (l.sh.size : Int) := IntWalk.i64_in _ (by omega)
  have C0 := Lib.hid c0
  have C1 := Lib.hid c1
  have LC := Lib.hid lc3
  have B0 : Below w.heap.size w w.drew := (Below.refl _ _).drew
  have ir0 : r.In w.drew := ir.below B0
  go_enter Try.func50, Try.ntmps50
  go_wp2
  clear c0 c1 c3 lc3 d d2 d3
  go_region_held3 (fun w' => w'.cell? ⟨b, 1, none⟩ = some (.pointer (some ⟨r.addr, 0, none⟩)) ∧ w'.cell? ⟨b, 0, none⟩ = some (.pointer (some ⟨l.addr, 0, none⟩)) ∧ w'.cell? ⟨l.addr, 3, none⟩ = some (.int .i64 l.sh.size))
    (first
      | exact ⟨(b1.cell (p := ⟨b, 1, none⟩) lb).trans C1.out, (b1.cell (p := ⟨b, 0, none⟩) lb).trans C0.out, (b1.cell (p := ⟨l.addr, 3, none⟩) ll).trans LC.out⟩
      | exact ⟨(B0.cell lb).trans C1.out, (B0.cell lb).trans C0.out, (B0.cell ll).trans LC.out⟩
      | fail)
    (first
      | ((with_reducible refine (IH (k - (l.sh.size : Int)) _ ir0 or_ z1 z2 z3).mono ?_)
         rintro e w1 ⟨t1, u1, rfl, i1, j1, s1, b1⟩)
      | fail)
  all_goals
    have B1 : Below w.heap.size w w1 := B0.trans b1
    have c0' := (B1.cell (p := ⟨b, 0, none⟩) lb).trans C0.out
    have il1 := il.below B1
    obtain ⟨o1, o2, o3⟩ := split_facts or_ s1
    have zs : l.sh.size + optSize t1 ≤ 1048576 := by have := zz.out; omega
    go_wp2_with (go_at_call 51; (with_reducible refine (join_opt_l l t1 _ il1 i1 ol o1 zs).mono ?_); rintro e w2 ⟨t2, rfl, i2, s2, b2⟩)
    go_ret2
    have B2 : Below w.heap.size w w2 := B1.trans (b2.mono B1.size)
    obtain ⟨g, h, hs⟩ := s1
    have hs : (optSh t1, optSh u1) = Sh.split g h r.sh (k - (l.sh.size : Int)) := hs
    refine ⟨t2, u1, rfl, i2, optIn.below b2 j1, ⟨g, h, ?_⟩, B2⟩
    show (optSh t2, optSh u1) = Sh.split g h (.node l.sh r.sh) k
    rw [show optSh t2 = Sh.joinO (some l.sh) (optSh t1) from s2, show optSh t1 = (Sh.split g h r.sh (k - (l.sh.size : Int))).1 from congrArg Prod.fst hs, show optSh u1 = (Sh.split g h r.sh (k - (l.sh.size : Int))).2 from congrArg Prod.snd hs]
    conv => rhs; unfold Sh.split
    have hz := h2'.out
    rw [if_neg (by omega), if_neg (by show ¬ (((l.sh.size + r.sh.size : Nat) : Int) ≤ k); omega)]
    show _ = if k < (l.sh.size : Int) then _ else _
    rw [if_neg (by omega)]
theorem split_some : ∀ t : Nd, SplitsAt t := by
  intro t
  induction t with
  | leaf b s =>
    intro k w it ok hz _ _
    by_cases h0 : k ≤ 0
    · exact split_low (.leaf b s) k w it h0
    · by_cases h1 : (s.size : Int) ≤ k
      · exact split_high (.leaf b s) k w it (by omega) h1
      · exact split_leaf b s k w it (by omega) (by omega) ok.2
  | node b l r ihl ihr =>
    intro k w it ok hz _ _
    by_cases h0 : k ≤ 0
    · exact split_low (.node b l r) k w it h0
    · by_cases h1 : (((Nd.node b l r).sh.size : Nat) : Int) ≤ k
      · exact split_high (.node b l r) k w it (by omega) h1
      · have h1' : ¬ ((l.sh.size + r.sh.size : Nat) : Int) ≤ k := h1
        by_cases h2 : k < (l.sh.size : Int)
        · exact split_left b l r ihl k w it ok hz (by omega) h2
        · exact split_right b l r ihr k w it ok hz (by omega) (by omega) (by omega)
theorem split_any (t : Option Nd) (k : Int) (w : World) (it : optIn w t) (ok : optOk t) (hz : optSize t ≤ 1048576) (h1 : -1048576 ≤ k) (h2 : k ≤ 1048576) :
    Calls Try.prog 50 #[optPtr t, .int .i64 k] w (Pair (SplitAs (optSh t) k) w) := by
  cases t with
  | none => exact split_nil k w
  | some t => exact split_some t k w it ok hz h1 h2
end Go.Proofs.Ythjbkiomnipjiaa

namespace Go.Proofs.Ythjbkiomnipjiaa
open Go Go.RowKit

/-- memory holds a made rope with this root -/
def Rope (w : World) (g : Nat) (t : Option Nd) : Prop := w.heap[g]? = some (.cells #[.bool true, optPtr t] 73 (0, 0)) ∧ optIn w t
theorem Rope.lt {w : World} {g : Nat} {t : Option Nd} (h : Rope w g t) : g < w.heap.size := (Array.getElem?_eq_some_iff.1 h.1).1
theorem Rope.below {w w' : World} (hb : Below w.heap.size w w') {g : Nat} {t : Option Nd} (h : Rope w g t) : Rope w' g t := ⟨(hb.block g h.lt).trans h.1, optIn.below hb h.2⟩
theorem Rope.c0 {w : World} {g : Nat} {t : Option Nd} (h : Rope w g t) : w.cell? ⟨g, 0, none⟩ = some (.bool true) := by simp [World.cell?, h.1]
theorem Rope.c1 {w : World} {g : Nat} {t : Option Nd} (h : Rope w g t) : w.cell? ⟨g, 1, none⟩ = some (optPtr t) := by simp [World.cell?, h.1]

theorem there_yes (g : Nat) (t : Option Nd) (w : World) (h : Rope w g t) : Calls Try.prog 48 #[.pointer (some ⟨g, 0, none⟩)] w fun e w' => e = .returned (.bool true) ∧ w = w' := by
  have c0 := h.c0
  go_enter Try.func48, Try.ntmps48
  go_wp2
  go_ret
  exact ⟨rfl, rfl⟩
theorem tree_yes (g : Nat) (t : Option Nd) (w : World) (h : Rope w g t) : Calls Try.prog 42 #[.pointer (some ⟨g, 0, none⟩)] w fun e w' => e = .returned (optPtr t) ∧ w = w' := by
  have ht := there_yes g t w h
  have c1 := h.c1
  go_enter Try.func42, Try.ntmps42
  go_wp2_with (go_at_call 48; refine ht.mono ?_; rintro e w' ⟨rfl, rfl⟩)
  go_ret
  exact ⟨rfl, rfl⟩
theorem len_yes (g : Nat) (t : Option Nd) (w : World) (h : Rope w g t) : Calls Try.prog 29 #[.pointer (some ⟨g, 0, none⟩)] w fun e w' => e = .returned (.int .i64 (optSize t)) ∧ w = w' := by
  have ht := tree_yes g t w h
  cases t with
  | none =>
    unfold optPtr at ht
    go_enter Try.func29, Try.ntmps29
    go_wp2_with (go_at_call 42; refine ht.mono ?_; rintro e w' ⟨rfl, rfl⟩)
    go_ret
    exact ⟨rfl, rfl⟩
  | some t =>
    unfold optPtr at ht
    have c3 := Nd.In.c3 (show t.In w from h.2)
    go_enter Try.func29, Try.ntmps29
    go_wp2_with (go_at_call 42; refine ht.mono ?_; rintro e w' ⟨rfl, rfl⟩)
    go_ret
    exact ⟨rfl, rfl⟩
def optHeight (t : Option Nd) : Nat := match t with | none => 0 | some t => t.sh.height
def optEnds (t : Option Nd) : Nat := match t with | none => 0 | some t => t.sh.ends
theorem height_yes (g : Nat) (t : Option Nd) (w : World) (h : Rope w g t) : Calls Try.prog 37 #[.pointer (some ⟨g, 0, none⟩)] w fun e w' => e = .returned (.int .i64 (optHeight t)) ∧ w = w' := by
  have ht := tree_yes g t w h
  cases t with
  | none =>
    unfold optPtr at ht
    go_enter Try.func37, Try.ntmps37
    go_wp2_with (go_at_call 42; refine ht.mono ?_; rintro e w' ⟨rfl, rfl⟩)
    go_ret
    exact ⟨rfl, rfl⟩
  | some t =>
    unfold optPtr at ht
    have c5 := Nd.In.c5 (show t.In w from h.2)
    go_enter Try.func37, Try.ntmps37
    go_wp2_with (go_at_call 42; refine ht.mono ?_; rintro e w' ⟨rfl, rfl⟩)
    go_ret
    exact ⟨rfl, rfl⟩
theorem lines_yes (g : Nat) (t : Option Nd) (w : World) (h : Rope w g t) (hb : optEnds t ≤ 1048576) : Calls Try.prog 27 #[.pointer (some ⟨g, 0, none⟩)] w fun e w' => e = .returned (.int .i64 ((optEnds t : Int) + 1)) ∧ w = w' := by
  have ht := there_yes g t w h
  have c1 := h.c1
  cases t with
  | none =>
    unfold optPtr at c1
    go_enter Try.func27, Try.ntmps27
    go_wp2_with (go_at_call 48; refine ht.mono ?_; rintro e w' ⟨rfl, rfl⟩)
    go_ret
    exact ⟨rfl, rfl⟩
  | some t =>
    unfold optPtr at c1
    have c4 := Nd.In.c4 (show t.In w from h.2)
    have hb' : t.sh.ends ≤ 1048576 := hb
    go_enter Try.func27, Try.ntmps27
    go_wp2_with (go_at_call 48; refine ht.mono ?_; rintro e w' ⟨rfl, rfl⟩)
    go_ret
    exact ⟨rfl, rfl⟩
/-- what a call that hands back a rope and no error comes to -/
def Roped (P : Option Sh → Prop) (w : World) (e : Ending) (w' : World) : Prop := ∃ (g : Nat) (t : Option Nd), e = .returned (.tuple #[.pointer (some ⟨g, 0, none⟩), .int .i64 0]) ∧ Rope w' g t ∧ P (optSh t) ∧ Below w.heap.size w w'
theorem new_long (s : ByteArray) (w : World) (h : 65536 < s.size) : Calls Try.prog 12 #[.string s] w fun e w' => e = .returned (.tuple #[.pointer none, .int .i64 3]) ∧ w = w' := by
  have d : decide (65536 < s.size) = true := decide_eq_true h
  have d2 : decide ((65536 : Int) < (s.size : Int)) = true := decide_eq_true (by omega)
  go_enter Try.func12, Try.ntmps12
  go_wp2
  go_ret2
  exact ⟨rfl, rfl⟩
theorem new_rope {w w1 : World} {t : Option Nd} (h : optIn w1 t) (hb : Below w.heap.size w w1) {x : Array Value} (hx : x = #[.bool true, optPtr t]) : Rope (w1.alloc (.cells x 73)) w1.heap.size t := by
  subst hx
  exact ⟨alloc_here w1 _, optIn.below ((Below.refl _ _).alloc (Nat.le_refl _) _) h⟩
theorem new_ok (s : ByteArray) (w : World) (h : s.size ≤ 65536) : Calls Try.prog 12 #[.string s] w (Roped (Built s) w) := by
  have d : decide (65536 < s.size) = false := decide_eq_false (by omega)
  have d2 : decide ((65536 : Int) < (s.size : Int)) = false := decide_eq_false (by omega)
  have hbld := build_any s w (by omega)
  go_enter Try.func12, Try.ntmps12
  go_wp2_with (go_at_call 39; refine hbld.mono ?_; rintro e w1 ⟨t, rfl, it, bt, hb⟩; cases t <;> unfold optPtr)
  · go_wp2
    go_ret2
    exact ⟨w1.heap.size, none, rfl, new_rope it hb rfl, bt, hb.alloc hb.size _⟩
  · rename_i t
    go_wp2
    go_ret2
    exact ⟨w1.heap.size, some t, rfl, new_rope it hb rfl, bt, hb.alloc hb.size _⟩
end Go.Proofs.Ythjbkiomnipjiaa
