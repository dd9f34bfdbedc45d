/- Plain laws of edits: numbers and bytes alone, no program. Check, Apply, At as functions on Int and ByteArray, and what follows of them. -/
import Derived.RowKit
namespace Go.Proofs.Ytncnloaclpaefaa.Pl
open Go.RowKit

def chk (n s e m : Int) : Int := if n < 0 ∨ n > 65536 then 2 else if s < 0 ∨ s > e ∨ e > n then 10 else if m > 65536 - n + (e - s) then 3 else 0

def app (x : ByteArray) (s e : Int) (t : ByteArray) : ByteArray := ((x.extract 0 s.toNat) ++ t) ++ (x.extract e.toNat x.size)

def ans (x : ByteArray) (s e : Int) (t : ByteArray) : ByteArray × Int := if chk x.size s e t.size = 0 then (app x s e t, 0) else ((⟨#[]⟩ : ByteArray), chk x.size s e t.size)

def und (x : ByteArray) (s e : Int) (t : ByteArray) : Int × Int × ByteArray × Int := if chk x.size s e t.size = 0 then (s, s + t.size, x.extract s.toNat e.toNat, 0) else (0, 0, (⟨#[]⟩ : ByteArray), chk x.size s e t.size)

def mov (s e m a : Int) : Int := if a ≤ s then a else if a ≥ e then a - (e - s) + m else if a ≤ s + m then a else s + m

def upr (s e m : Int) : Bool := decide (s ≥ 0) && (decide (s ≤ e) && (decide (e ≤ 65536) && decide (m ≤ 65536)))

def atf (s e m a : Int) : Int := if upr s e m = true ∧ 0 ≤ a ∧ a ≤ 65536 then mov s e m a else 0

def img (s e m f t : Int) : Int × Int := if upr s e m = true ∧ 0 ≤ f ∧ f ≤ t ∧ t ≤ 65536 then (mov s e m f, mov s e m t) else (0, 0)

theorem chk_zero {n s e m : Int} : chk n s e m = 0 ↔ 0 ≤ n ∧ n ≤ 65536 ∧ 0 ≤ s ∧ s ≤ e ∧ e ≤ n ∧ m ≤ 65536 - n + (e - s) := by
  unfold chk
  repeat' split
  all_goals omega

theorem size_app {x : ByteArray} {s e : Int} {t : ByteArray} (h0 : 0 ≤ s) (h1 : s ≤ e) (h2 : e ≤ x.size) : ((app x s e t).size : Int) = x.size - (e - s) + t.size := by
  unfold app
  simp only [ByteArray.size_append, ByteArray.size_extract]
  omega

theorem app_pre {x t : ByteArray} {s e : Int} (h2 : s ≤ x.size) : (app x s e t).extract 0 s.toNat = x.extract 0 s.toNat := by
  unfold app
  rw [ByteArray.append_assoc, ByteArray.extract_append_eq_left]
  simp only [ByteArray.size_extract]
  omega

theorem app_mid {x t : ByteArray} {s e : Int} (h0 : 0 ≤ s) (h2 : s ≤ x.size) : (app x s e t).extract s.toNat (s + t.size).toNat = t := by
  unfold app
  rw [ByteArray.append_assoc]
  have hs : (x.extract 0 s.toNat).size = s.toNat := by simp only [ByteArray.size_extract]; omega
  have e1 : s.toNat = (x.extract 0 s.toNat).size + 0 := by omega
  have e2 : (s + t.size).toNat = (x.extract 0 s.toNat).size + t.size := by omega
  rw [e2]
  conv => lhs; arg 2; rw [e1]
  rw [ByteArray.extract_append_size_add, ByteArray.extract_append_eq_left rfl]

theorem app_suf {x t : ByteArray} {s e : Int} (h0 : 0 ≤ s) (h2 : s ≤ x.size) : (app x s e t).extract (s + t.size).toNat (app x s e t).size = x.extract e.toNat x.size := by
  unfold app
  refine ByteArray.extract_append_eq_right ?_ ?_
  · simp only [ByteArray.size_append, ByteArray.size_extract]; omega
  · simp only [ByteArray.size_append]

theorem app_same {x : ByteArray} {s e : Int} (h0 : 0 ≤ s) (h1 : s ≤ e) (h2 : e ≤ x.size) : app x s e (x.extract s.toNat e.toNat) = x := by
  unfold app
  rw [← ByteArray.extract_eq_extract_append_extract s.toNat (by omega) (by omega), ← ByteArray.extract_eq_extract_append_extract e.toNat (by omega) (by omega), ByteArray.extract_zero_size]

theorem app_back {x t : ByteArray} {s e : Int} (h0 : 0 ≤ s) (h1 : s ≤ e) (h2 : e ≤ x.size) : app (app x s e t) s (s + t.size) (x.extract s.toNat e.toNat) = x := by
  have h := app_same h0 h1 h2
  conv => rhs; rw [← h]
  show ((app x s e t).extract 0 s.toNat ++ x.extract s.toNat e.toNat) ++ (app x s e t).extract (s + t.size).toNat (app x s e t).size = _
  rw [app_pre (by omega), app_suf h0 (by omega)]
  rfl

theorem app_nothing {x : ByteArray} {s : Int} (h0 : 0 ≤ s) (h2 : s ≤ x.size) : app x s s (⟨#[]⟩ : ByteArray) = x := by
  have h := app_same (x := x) h0 (Int.le_refl s) h2
  rw [ByteArray.extract_same] at h
  exact h

/-- Two edits, the second one right behind the first one's new bytes, are one. -/
theorem app_join {x t u : ByteArray} {s e n : Int} (h0 : 0 ≤ s) (h1 : s ≤ e) (h2 : e ≤ x.size) (hn : 0 ≤ n) :
    app (app x s e t) (s + t.size) (s + t.size + n) u = app x s (e + n) (t ++ u) := by
  have hA : (x.extract 0 s.toNat).size = s.toNat := by simp only [ByteArray.size_extract]; omega
  have e1 : (app x s e t).extract 0 (s + t.size).toNat = x.extract 0 s.toNat ++ t := by
    unfold app
    rw [ByteArray.extract_append_eq_left]
    simp only [ByteArray.size_append]; omega
  have e2 : (app x s e t).extract (s + t.size + n).toNat (app x s e t).size = x.extract (e + n).toNat x.size := by
    have hs := size_app (t := t) h0 h1 h2
    unfold app at hs ⊢
    have z1 : (s + t.size + n).toNat = (x.extract 0 s.toNat ++ t).size + n.toNat := by simp only [ByteArray.size_append]; omega
    have z2 : (x.extract 0 s.toNat ++ t ++ x.extract e.toNat x.size).size = (x.extract 0 s.toNat ++ t).size + (x.extract e.toNat x.size).size := by simp only [ByteArray.size_append]
    rw [z1, z2, ByteArray.extract_append_size_add, ByteArray.extract_extract]
    congr 1
    · omega
    · simp only [ByteArray.size_extract]; omega
  show ((app x s e t).extract 0 (s + t.size).toNat ++ u) ++ (app x s e t).extract (s + t.size + n).toNat (app x s e t).size = _
  rw [e1, e2]
  unfold app
  rw [ByteArray.append_assoc (a := x.extract 0 s.toNat)]

theorem app_of {x A B C t : ByteArray} {s e : Int} (hx : x = A ++ (B ++ C)) (hs : s.toNat = A.size) (he : e.toNat = A.size + B.size) : app x s e t = A ++ (t ++ C) := by
  subst hx
  unfold app
  rw [ByteArray.extract_append_eq_left hs, ← ByteArray.append_assoc (a := A) (b := B), ByteArray.extract_append_eq_right (a := A ++ B) (b := C) (by rw [ByteArray.size_append]; exact he) ByteArray.size_append, ByteArray.append_assoc]

theorem five {x : ByteArray} {s e p q : Nat} (h1 : s ≤ e) (h2 : e ≤ p) (h3 : p ≤ q) (h4 : q ≤ x.size) :
    x = x.extract 0 s ++ (x.extract s e ++ (x.extract e p ++ (x.extract p q ++ x.extract q x.size))) := by
  rw [← ByteArray.extract_eq_extract_append_extract q (by omega) (by omega), ← ByteArray.extract_eq_extract_append_extract p (by omega) (by omega),
    ← ByteArray.extract_eq_extract_append_extract e (by omega) (by omega), ← ByteArray.extract_eq_extract_append_extract s (by omega) (by omega), ByteArray.extract_zero_size]

theorem sz {x : ByteArray} {i j : Nat} (h : i ≤ j) (h1 : j ≤ x.size) : (x.extract i j).size = j - i := by rw [ByteArray.size_extract]; omega

/-- Two edits apart: which is done first makes no difference. -/
theorem app_apart {x t u : ByteArray} {s e p q : Int} (h0 : 0 ≤ s) (h1 : s ≤ e) (h2 : e ≤ p) (h3 : p ≤ q) (h4 : q ≤ x.size) :
    app (app x s e t) (p - (e - s) + t.size) (q - (e - s) + t.size) u = app (app x p q u) s e t := by
  have hx := five (x := x) (s := s.toNat) (e := e.toNat) (p := p.toNat) (q := q.toNat) (by omega) (by omega) (by omega) (by omega)
  have k0 := sz (x := x) (i := 0) (j := s.toNat) (by omega) (by omega)
  have k1 := sz (x := x) (i := s.toNat) (j := e.toNat) (by omega) (by omega)
  have k2 := sz (x := x) (i := e.toNat) (j := p.toNat) (by omega) (by omega)
  have k3 := sz (x := x) (i := p.toNat) (j := q.toNat) (by omega) (by omega)
  generalize x.extract 0 s.toNat = A at hx k0
  generalize x.extract s.toNat e.toNat = B at hx k1
  generalize x.extract e.toNat p.toNat = M at hx k2
  generalize x.extract p.toNat q.toNat = N at hx k3
  generalize x.extract q.toNat x.size = C at hx
  clear h4
  have a1 : app x s e t = A ++ (t ++ (M ++ (N ++ C))) := app_of hx (by omega) (by omega)
  have a2 : app x p q u = (A ++ (B ++ M)) ++ (u ++ C) := app_of (B := N) (by rw [hx]; simp only [ByteArray.append_assoc]) (by simp only [ByteArray.size_append]; omega) (by simp only [ByteArray.size_append]; omega)
  have a3 : app (app x s e t) (p - (e - s) + t.size) (q - (e - s) + t.size) u = (A ++ (t ++ M)) ++ (u ++ C) := app_of (B := N) (by rw [a1]; simp only [ByteArray.append_assoc]) (by simp only [ByteArray.size_append]; omega) (by simp only [ByteArray.size_append]; omega)
  have a4 : app (app x p q u) s e t = A ++ (t ++ (M ++ (u ++ C))) := app_of (B := B) (by rw [a2]; simp only [ByteArray.append_assoc]) (by omega) (by omega)
  rw [a3, a4]
  simp only [ByteArray.append_assoc]

end Go.Proofs.Ytncnloaclpaefaa.Pl
