/- What Shared counts of lists of leaves; how many leaves a Splice keeps. No program. -/
import Derived.Test.YthjbkiomnipjiaaRopeV
set_option linter.unusedVariables false
set_option linter.unusedSimpArgs false
namespace Go.Proofs.Ythjbkiomnipjiaa
open Go
theorem comm_self : ∀ l : List Nat, comm l l = l.length
  | [] => rfl
  | a :: l => by
    show (if a = a then 1 + comm l l else 0) = l.length + 1
    rw [if_pos rfl, comm_self l]
    omega
theorem comm_symm : ∀ l m : List Nat, comm l m = comm m l
  | [], m => by rw [comm_nil_left, comm_nil_right]
  | a :: l, [] => rfl
  | a :: l, b :: m => by
    show (if a = b then 1 + comm l m else 0) = (if b = a then 1 + comm m l else 0)
    by_cases h : a = b
    · rw [if_pos h, if_pos h.symm, comm_symm l m]
    · rw [if_neg h, if_neg (fun e => h e.symm)]
theorem comm_pre : ∀ p l m : List Nat, comm (p ++ l) (p ++ m) = p.length + comm l m
  | [], l, m => by simp
  | a :: p, l, m => by
    show (if a = a then 1 + comm (p ++ l) (p ++ m) else 0) = _
    rw [if_pos rfl, comm_pre p l m, List.length_cons]
    omega
theorem shared_self (l : List Nat) : shared l l = l.length := by
  unfold shared
  rw [comm_self, List.drop_eq_nil_of_le (Nat.le_refl _)]
  rfl
theorem shared_symm (l m : List Nat) : shared l m = shared m l := by
  unfold shared
  rw [comm_symm l m, comm_symm (l.drop _).reverse]
theorem shared_le (l m : List Nat) : shared l m ≤ m.length := by
  unfold shared
  have h1 := (comm_le l m).2
  have h2 := (comm_le (l.drop (comm l m)).reverse (m.drop (comm l m)).reverse).2
  rw [List.length_reverse, List.length_drop] at h2
  omega
/-- two lists whose first k places agree -/
theorem comm_ge : ∀ (k : Nat) (l m : List Nat), k ≤ l.length → k ≤ m.length → l.take k = m.take k → k ≤ comm l m
  | 0, _, _, _, _, _ => Nat.zero_le _
  | k + 1, [], _, h, _, _ => absurd h (by simp)
  | k + 1, _ :: _, [], _, h, _ => absurd h (by simp)
  | k + 1, a :: l, b :: m, h1, h2, h => by
    simp only [List.take_succ_cons, List.cons.injEq] at h
    have := comm_ge k l m (by simpa using h1) (by simpa using h2) h.2
    show k + 1 ≤ (if a = b then 1 + comm l m else 0)
    rw [if_pos h.1]
    omega
theorem take_pre (s p : List Nat) (n : Nat) (h : n ≤ p.length) : (p ++ s).take n = p.take n := by
  rw [List.take_append_of_le_length h]
theorem shared_ge (p a b s : List Nat) : p.length + s.length ≤ shared (p ++ a ++ s) (p ++ b ++ s) := by
  unfold shared
  have hc : comm (p ++ a ++ s) (p ++ b ++ s) = p.length + comm (a ++ s) (b ++ s) := by rw [List.append_assoc, List.append_assoc, comm_pre]
  have h1 := comm_le (p ++ a ++ s) (p ++ b ++ s)
  generalize hcc : comm (p ++ a ++ s) (p ++ b ++ s) = c at *
  have l1 : (p ++ a ++ s).length = p.length + a.length + s.length := by simp; omega
  have l2 : (p ++ b ++ s).length = p.length + b.length + s.length := by simp; omega
  have k1 : ((p ++ a ++ s).drop c).reverse = ((p ++ a ++ s).reverse).take ((p ++ a ++ s).length - c) := by rw [List.reverse_drop]
  have k2 : ((p ++ b ++ s).drop c).reverse = ((p ++ b ++ s).reverse).take ((p ++ b ++ s).length - c) := by rw [List.reverse_drop]
  obtain ⟨K, hK⟩ : ∃ K, K = min s.length (min ((p ++ a ++ s).length - c) ((p ++ b ++ s).length - c)) := ⟨_, rfl⟩
  have hk := comm_ge K ((p ++ a ++ s).drop c).reverse ((p ++ b ++ s).drop c).reverse (by rw [List.length_reverse, List.length_drop]; omega) (by rw [List.length_reverse, List.length_drop]; omega) (by
    rw [k1, k2, List.take_take, List.take_take, Nat.min_eq_left (by omega : K ≤ (p ++ a ++ s).length - c), Nat.min_eq_left (by omega : K ≤ (p ++ b ++ s).length - c), List.reverse_append, take_pre _ _ _ (by rw [List.length_reverse]; omega), List.reverse_append, take_pre _ _ _ (by rw [List.length_reverse]; omega)])
  omega
namespace Sh
/-- what a split makes of a list of leaves -/
def Parts (l x y : List (Nat × ByteArray)) : Prop := ∃ P M S T U, l = P ++ (M ++ S) ∧ x = P ++ T ∧ y = U ++ S ∧ ((M = [] ∧ T = [] ∧ U = []) ∨ (M.length = 1 ∧ T.length ≤ 1 ∧ U.length ≤ 1))
theorem leafO_lv (g : Nat) (s : ByteArray) : (lvO (leafO g s)).length ≤ 1 := by
  unfold leafO
  split
  · exact Nat.zero_le _
  · exact Nat.le_refl _
theorem split_parts (g h : Nat) : ∀ (t : Sh) (k : Int), Parts t.lv (lvO (split g h t k).1) (lvO (split g h t k).2) := by
  intro t
  induction t with
  | leaf b s =>
    intro k
    unfold split
    split
    · exact ⟨[], [], [(b, s)], [], [], rfl, rfl, rfl, Or.inl ⟨rfl, rfl, rfl⟩⟩
    · split
      · exact ⟨[(b, s)], [], [], [], [], rfl, rfl, rfl, Or.inl ⟨rfl, rfl, rfl⟩⟩
      · exact ⟨[], [(b, s)], [], _, _, rfl, rfl, (List.append_nil _).symm, Or.inr ⟨rfl, leafO_lv g _, leafO_lv h _⟩⟩
  | node l r ihl ihr =>
    intro k
    unfold split
    split
    · exact ⟨[], [], l.lv ++ r.lv, [], [], rfl, rfl, rfl, Or.inl ⟨rfl, rfl, rfl⟩⟩
    · split
      · exact ⟨l.lv ++ r.lv, [], [], [], [], by simp [lv], by simp [lvO, lv], rfl, Or.inl ⟨rfl, rfl, rfl⟩⟩
      · dsimp only
        split
        · obtain ⟨P, M, S, T, U, e1, e2, e3, hh⟩ := ihl k
          refine ⟨P, M, S ++ r.lv, T, U, ?_, e2, ?_, hh⟩
          · show l.lv ++ r.lv = _
            rw [e1]
            simp
          · rw [joinO_lv, e3]
            simp [lvO]
        · obtain ⟨P, M, S, T, U, e1, e2, e3, hh⟩ := ihr (k - l.size)
          refine ⟨l.lv ++ P, M, S, T, U, ?_, ?_, e3, hh⟩
          · show l.lv ++ r.lv = _
            rw [e1]
            simp
          · rw [joinO_lv, e2]
            simp [lvO]
theorem splitO_parts (g h : Nat) (t : Option Sh) (k : Int) : Parts (lvO t) (lvO (splitO g h t k).1) (lvO (splitO g h t k).2) := by
  cases t with
  | none => exact ⟨[], [], [], [], [], rfl, rfl, rfl, Or.inl ⟨rfl, rfl, rfl⟩⟩
  | some t => exact split_parts g h t k
end Sh
theorem Built.leaves {s : ByteArray} {t : Option Sh} (h : Built s t) : (Sh.lvO t).length = (s.size + 63) / 64 := by
  induction h with
  | none => rfl
  | leaf g s h1 h2 =>
    show 1 = _
    omega
  | node s l r h1 _ _ ih1 ih2 =>
    have hc : cut s = (s.size + 63) / 64 / 2 * 64 := rfl
    rw [ByteArray.size_extract] at ih1 ih2
    show (l.lv ++ r.lv).length = _
    have i1 : l.lv.length = _ := ih1
    have i2 : r.lv.length = _ := ih2
    rw [List.length_append, i1, i2]
    omega
/-- where the second part of a split begins behind what the first part's cut left -/
theorem suffix_parts {T2 S : List (Nat × ByteArray)} {x y : List (Nat × ByteArray)} (h : Sh.Parts (T2 ++ S) x y) (hT : T2.length ≤ 1) : ∃ T' S1 S2, y = T' ++ S2 ∧ S = S1 ++ S2 ∧ T'.length ≤ 1 := by
  obtain ⟨P, M, S', T, U, e1, _, e3, hh⟩ := h
  rcases hh with ⟨rfl, rfl, rfl⟩ | ⟨hM, _, hU⟩
  · simp only [List.nil_append] at e1 e3
    rcases List.append_eq_append_iff.1 e1 with ⟨c, h1, h2⟩ | ⟨c, h1, h2⟩
    · exact ⟨[], c, S', by simp [e3], h2, Nat.zero_le _⟩
    · refine ⟨c, [], S, by rw [e3, h2], rfl, ?_⟩
      have := congrArg List.length h1
      rw [List.length_append] at this
      omega
  · rw [← List.append_assoc] at e1
    rcases List.append_eq_append_iff.1 e1 with ⟨c, h1, h2⟩ | ⟨c, h1, h2⟩
    · exact ⟨U, c, S', e3, h2, hU⟩
    · have hl := congrArg List.length h1
      rw [List.length_append, List.length_append] at hl
      have : c = [] := List.eq_nil_of_length_eq_zero (by omega)
      subst this
      exact ⟨U, [], S', e3, by rw [h2]; rfl, hU⟩
/-- nearly all leaves behind an edit are the old ones -/
theorem Spliced.shared_ge {t r : Option Sh} {s e : Int} {u : ByteArray} (h : Spliced t s e u r) : (Sh.lvO r).length ≤ shared ((Sh.lvO t).map fun x => x.1) ((Sh.lvO r).map fun x => x.1) + 2 + (u.size + 63) / 64 := by
  obtain ⟨a, b, c, d, m, ⟨g1, g2, h1⟩, ⟨g3, g4, h2⟩, bm, hr⟩ := h
  have p1 := Sh.splitO_parts g1 g2 t s
  have p2 := Sh.splitO_parts g3 g4 b (e - s)
  rw [← h1] at p1
  rw [← h2] at p2
  obtain ⟨P, M, S, T, U, e1, e2, e3, hh⟩ := p1
  have e2 : Sh.lvO a = P ++ T := e2
  have e3 : Sh.lvO b = U ++ S := e3
  have hU : U.length ≤ 1 := by rcases hh with ⟨_, _, rfl⟩ | ⟨_, _, h⟩ <;> simp_all
  have hT : T.length ≤ 1 := by rcases hh with ⟨_, rfl, _⟩ | ⟨_, h, _⟩ <;> simp_all
  rw [e3] at p2
  obtain ⟨T', S1, S2, e4, e5, hT'⟩ := suffix_parts p2 hU
  have e4 : Sh.lvO d = T' ++ S2 := e4
  have er : Sh.lvO r = P ++ (T ++ Sh.lvO m ++ T') ++ S2 := by
    rw [hr, Sh.joinO_lv, Sh.joinO_lv, e2, e4]
    simp
  have et : Sh.lvO t = P ++ (M ++ S1) ++ S2 := by
    rw [e1, e5]
    simp
  have hm := bm.leaves
  have hs := Go.Proofs.Ythjbkiomnipjiaa.shared_ge (P.map fun x => x.1) ((M ++ S1).map fun x => x.1) ((T ++ Sh.lvO m ++ T').map fun x => x.1) (S2.map fun x => x.1)
  rw [← List.map_append, ← List.map_append, ← List.map_append, ← List.map_append, ← er, ← et, List.length_map, List.length_map] at hs
  have hl : (Sh.lvO r).length = P.length + (T.length + (Sh.lvO m).length + T'.length) + S2.length := by rw [er]; simp; omega
  omega
end Go.Proofs.Ythjbkiomnipjiaa
