/- Stacks: slices that come in: bytes, pushes, asks. -/
import Derived.Test.YteeiidkbihhekaaSkA
import Derived.Deep.Slices
import Derived.Deep.Strs
import Derived.ProofKit
import Derived.OpenShut
namespace Go.Proofs.Yteeiidkbihhekaa
open Go Go.ChangeShapes Go.WideShapes Go.RowKit Go.Deep Go.Joins
structure Quad where
  a : Int
  b : Int
  c : Int
  d : Int
/-- memory holds these quadruples from address A on -/
def QuadsR (w : World) (A : Option Addr) (l : List Quad) : Prop :=
  ∀ i (h : i < l.length), ∃ ad, A = some ad ∧ w.cell? (ad.add (i * 4)) = some (.int .i64 l[i].a) ∧ w.cell? ⟨(ad.add (i * 4)).block, (ad.add (i * 4)).off + 1, none⟩ = some (.int .i64 l[i].b) ∧
    w.cell? ⟨(ad.add (i * 4)).block, (ad.add (i * 4)).off + 2, none⟩ = some (.int .i64 l[i].c) ∧ w.cell? ⟨(ad.add (i * 4)).block, (ad.add (i * 4)).off + 3, none⟩ = some (.int .i64 l[i].d)
def QWf (l : List Quad) : Prop := ∀ q ∈ l, Wf q.a ∧ Wf q.b ∧ Wf q.c ∧ Wf q.d
def BytesR (w : World) (A : Option Addr) (l : List Int) : Prop :=
  ∀ i (h : i < l.length), ∃ ad, A = some ad ∧ w.cell? (ad.add i) = some (.int .u8 l[i])
def BWf (l : List Int) : Prop := ∀ z ∈ l, 0 ≤ z ∧ z ≤ 255
theorem QuadsR.below {w w' : World} {A : Option Addr} {l : List Quad} (h : QuadsR w A l) (b : Below w.heap.size w w') : QuadsR w' A l := by
  intro i hi
  obtain ⟨ad, e, h0, h1, h2, h3⟩ := h i hi
  exact ⟨ad, e, (b.cell (World.block_lt_of_cell? _ _ h0)).trans h0, (b.cell (World.block_lt_of_cell? _ _ h1)).trans h1, (b.cell (World.block_lt_of_cell? _ _ h2)).trans h2, (b.cell (World.block_lt_of_cell? _ _ h3)).trans h3⟩
theorem BytesR.below {w w' : World} {A : Option Addr} {l : List Int} (h : BytesR w A l) (b : Below w.heap.size w w') : BytesR w' A l := by
  intro i hi
  obtain ⟨ad, e, h0⟩ := h i hi
  exact ⟨ad, e, (b.cell (World.block_lt_of_cell? _ _ h0)).trans h0⟩
theorem field_add (ad : Addr) (m j : Nat) (hj : 0 < j) : ad.add (m + j) = ⟨(ad.add m).block, (ad.add m).off + j, none⟩ := by
  unfold Addr.add
  by_cases hm : m = 0
  · subst hm
    simp [Nat.ne_of_gt hj]
  · simp [hm, Nat.add_assoc]
theorem cells48 : Try.prog.cellsOf 48 = 4 := by kernel_rfl
theorem cells70 : Try.prog.cellsOf 70 = 4 := by kernel_rfl
theorem one3 : Try.prog.cellsOf 3 = 1 := by kernel_rfl
theorem one5 : Try.prog.cellsOf 5 = 1 := by kernel_rfl
set_option maxRecDepth 100000 in
theorem open_quads {H : Type} {enc : TypeId × Value → H} {w : World} {base : Nat} {spare : Nat → Bool} {held : Bool} {r : Reach} {b0 : Nat} {v : Value} {d : DataW H} {p : List MemPlace} {T E : TypeId} {f0 f1 f2 f3 : Field}
    (hT : Try.prog.underlying T = some (.slice E)) (hE : Try.prog.underlying E = some (.struct #[f0, f1, f2, f3])) (hC : Try.prog.cellsOf E = 4) (t0 : f0.type = 3 ∧ f0.offset = 0) (t1 : f1.type = 3 ∧ f1.offset = 1) (t2 : f2.type = 3 ∧ f2.offset = 2) (t3 : f3.type = 3 ∧ f3.offset = 3)
    (hv : Value.okWide Try.prog w r b0 T v) (h : DataW.Trod enc Try.prog w base spare held T v d p) :
    ∃ A cap l, v = .slice A l.length cap ∧ QuadsR w A l ∧ QWf l ∧ l.length ≤ cap ∧ l.length ≤ maxLen := by
  obtain ⟨a, len, cap, rfl⟩ := okWide_slice hT hv
  obtain ⟨fuel, hf⟩ := h
  have hf' : DataW.trod enc Try.prog w base spare held fuel T [.slice a len cap] = some (d, p) := by simpa [Value.cells] using hf
  rcases open_slice hT hf' with ⟨h1, _⟩ | ⟨a', len', cap', m, n, D, Pl, h1, hb, hl, hm, hmm, _, hx⟩
  · simp only [List.cons.injEq, Value.slice.injEq] at h1
    obtain ⟨⟨rfl, rfl, rfl⟩, _⟩ := h1
    exact ⟨none, 0, [], rfl, fun i hi => absurd hi (by simp), fun q hq => absurd hq (by simp), Nat.le_refl _, Nat.zero_le _⟩
  · simp only [List.cons.injEq, Value.slice.injEq] at h1
    obtain ⟨⟨rfl, rfl, rfl⟩, _⟩ := h1
    have hlm : len ≤ m := by rw [hmm]; split <;> omega
    have each : ∀ i, i < len → ∃ x : Quad, (∀ j u, ([Value.int .i64 x.a, .int .i64 x.b, .int .i64 x.c, .int .i64 x.d])[j]? = some u → w.cell? (a'.add (i * 4 + j)) = some u) ∧ Wf x.a ∧ Wf x.b ∧ Wf x.c ∧ Wf x.d := by
      intro i hi
      obtain ⟨cs', g1, g2⟩ := hx i (by omega)
      rw [hC] at g1
      obtain ⟨_, hlen, hcell⟩ := World.cells?_some g1
      obtain ⟨y0, y1, y2, y3, n', _, _, k0, k1, k2, k3⟩ := trod_struct4 hE g2
      match cs', hlen with
      | [v0, v1, v2, v3], _ =>
        have e0 : DataW.trod enc Try.prog w base spare held n' 3 [v0] = some y0 := by simpa [t0.1, t0.2, one3] using k0
        have e1 : DataW.trod enc Try.prog w base spare held n' 3 [v1] = some y1 := by simpa [t1.1, t1.2, one3] using k1
        have e2 : DataW.trod enc Try.prog w base spare held n' 3 [v2] = some y2 := by simpa [t2.1, t2.2, one3] using k2
        have e3 : DataW.trod enc Try.prog w base spare held n' 3 [v3] = some y3 := by simpa [t3.1, t3.2, one3] using k3
        obtain ⟨x0, z0, rfl, w0⟩ := DataW.trod_int Try.underlying3 e0
        obtain ⟨x1, z1, rfl, w1⟩ := DataW.trod_int Try.underlying3 e1
        obtain ⟨x2, z2, rfl, w2⟩ := DataW.trod_int Try.underlying3 e2
        obtain ⟨x3, z3, rfl, w3⟩ := DataW.trod_int Try.underlying3 e3
        obtain rfl : v0 = .int .i64 x0 := by simpa using z0
        obtain rfl : v1 = .int .i64 x1 := by simpa using z1
        obtain rfl : v2 = .int .i64 x2 := by simpa using z2
        obtain rfl : v3 = .int .i64 x3 := by simpa using z3
        refine ⟨⟨x0, x1, x2, x3⟩, ?_, w0, w1, w2, w3⟩
        intro j u hj
        have hj3 : j < 4 := by
          rcases Nat.lt_or_ge j 4 with h | h
          · exact h
          · rw [List.getElem?_eq_none (by simpa using h)] at hj
            cases hj
        have hc := hcell j hj3
        rw [add_add] at hc
        rw [hc]
        exact hj
    haveI : Inhabited Quad := ⟨⟨0, 0, 0, 0⟩⟩
    obtain ⟨q, hq⟩ := choose_lt each
    refine ⟨some a', cap, (List.range len).map q, ?_, ?_, ?_, ?_, ?_⟩
    · simp
    · intro i hi
      have hi' : i < len := by simpa using hi
      have e : ((List.range len).map q)[i] = q i := by simp
      rw [e]
      have hc := (hq i hi').1
      refine ⟨a', rfl, hc 0 _ rfl, ?_, ?_, ?_⟩
      · rw [← field_add _ _ 1 (by omega)]
        exact hc 1 _ rfl
      · rw [← field_add _ _ 2 (by omega)]
        exact hc 2 _ rfl
      · rw [← field_add _ _ 3 (by omega)]
        exact hc 3 _ rfl
    · intro x hx
      obtain ⟨i, hi, rfl⟩ := List.mem_map.1 hx
      exact (hq i (by simpa using hi)).2
    · simpa using hl
    · simp
      omega
set_option maxRecDepth 100000 in
theorem open_pushes {H : Type} {enc : TypeId × Value → H} {w : World} {base : Nat} {spare : Nat → Bool} {held : Bool} {r : Reach} {b0 : Nat} {v : Value} {d : DataW H} {p : List MemPlace} (hv : Value.okWide Try.prog w r b0 37 v) (h : DataW.Trod enc Try.prog w base spare held 37 v d p) :
    ∃ A cap l, v = .slice A l.length cap ∧ QuadsR w A l ∧ QWf l ∧ l.length ≤ cap ∧ l.length ≤ maxLen :=
  open_quads Try.underlying37 Try.underlying48 cells48 ⟨rfl, rfl⟩ ⟨rfl, rfl⟩ ⟨rfl, rfl⟩ ⟨rfl, rfl⟩ hv h
set_option maxRecDepth 100000 in
theorem open_asks {H : Type} {enc : TypeId × Value → H} {w : World} {base : Nat} {spare : Nat → Bool} {held : Bool} {r : Reach} {b0 : Nat} {v : Value} {d : DataW H} {p : List MemPlace} (hv : Value.okWide Try.prog w r b0 57 v) (h : DataW.Trod enc Try.prog w base spare held 57 v d p) :
    ∃ A cap l, v = .slice A l.length cap ∧ QuadsR w A l ∧ QWf l ∧ l.length ≤ cap ∧ l.length ≤ maxLen :=
  open_quads Try.underlying57 Try.underlying70 cells70 ⟨rfl, rfl⟩ ⟨rfl, rfl⟩ ⟨rfl, rfl⟩ ⟨rfl, rfl⟩ hv h
set_option maxRecDepth 100000 in
theorem open_bytes {H : Type} {enc : TypeId × Value → H} {w : World} {base : Nat} {spare : Nat → Bool} {held : Bool} {r : Reach} {b0 : Nat} {v : Value} {d : DataW H} {p : List MemPlace} (hv : Value.okWide Try.prog w r b0 22 v) (h : DataW.Trod enc Try.prog w base spare held 22 v d p) :
    ∃ A cap l, v = .slice A l.length cap ∧ BytesR w A l ∧ BWf l ∧ l.length ≤ cap ∧ l.length ≤ maxLen := by
  obtain ⟨a, len, cap, rfl⟩ := okWide_slice Try.underlying22 hv
  obtain ⟨fuel, hf⟩ := h
  have hf' : DataW.trod enc Try.prog w base spare held fuel 22 [.slice a len cap] = some (d, p) := by simpa [Value.cells] using hf
  rcases open_slice1 Try.underlying22 one5 hf' with ⟨h1, _⟩ | ⟨a', len', cap', m, n, V, D, Pl, h1, hb, hl, hm, hmm, _, hx⟩
  · simp only [List.cons.injEq, Value.slice.injEq] at h1
    obtain ⟨⟨rfl, rfl, rfl⟩, _⟩ := h1
    exact ⟨none, 0, [], rfl, fun i hi => absurd hi (by simp), fun q hq => absurd hq (by simp), Nat.le_refl _, Nat.zero_le _⟩
  · simp only [List.cons.injEq, Value.slice.injEq] at h1
    obtain ⟨⟨rfl, rfl, rfl⟩, _⟩ := h1
    have hlm : len ≤ m := by rw [hmm]; split <;> omega
    have each : ∀ i, i < len → ∃ x : Int, w.cell? (a'.add i) = some (.int .u8 x) ∧ 0 ≤ x ∧ x ≤ 255 := by
      intro i hi
      obtain ⟨g1, g2⟩ := hx i (by omega)
      obtain ⟨x, e, _, hw⟩ := DataW.trod_int Try.underlying5 g2
      have e' : V i = .int .u8 x := by simpa using e
      rw [e'] at g1
      refine ⟨x, g1, ?_⟩
      have := hw
      simp [Lit.wf, IntKind.min, IntKind.max, IntKind.signed, IntKind.bits] at this
      omega
    obtain ⟨q, hq⟩ := choose_lt each
    refine ⟨some a', cap, (List.range len).map q, ?_, ?_, ?_, ?_, ?_⟩
    · simp
    · intro i hi
      have hi' : i < len := by simpa using hi
      have e : ((List.range len).map q)[i] = q i := by simp
      rw [e]
      exact ⟨a', rfl, (hq i hi').1⟩
    · intro x hx
      obtain ⟨i, hi, rfl⟩ := List.mem_map.1 hx
      exact (hq i (by simpa using hi)).2
    · simpa using hl
    · simp
      omega
theorem byte_wf {x : Int} (h : (Lit.int .u8 x).wf = true) : 0 ≤ x ∧ x ≤ 255 := by
  simp [Lit.wf, IntKind.min, IntKind.max, IntKind.signed, IntKind.bits] at h
  omega
end Go.Proofs.Yteeiidkbihhekaa
