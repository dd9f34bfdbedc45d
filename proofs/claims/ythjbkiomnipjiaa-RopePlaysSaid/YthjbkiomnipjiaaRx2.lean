/- The rope's Splice, walked. The rope's each, walked, with a closure that is told by an invariant; the closures of Text and list. The rope's Byte, walked. The rope's ends, walked: how many line ends stand ahead of a place. The rope's behind, walked: the place behind the k-th line end. The rope's Of and At, walked: of an offset or a place, in the rope's own terms. strings.Builder's WriteString at this program, walked: copyCheck's refusal stands where the shelf's text has the panic, so the shelf's own contract doesn't lie here. The rope's Text, walked: the leaves' bytes, one behind the other. The rope's list, walked: the leaves' addresses, in order. -/
import Derived.Test.YthjbkiomnipjiaaRx1
import Derived.Test.YthjbkiomnipjiaaAux
import Derived.Test.YthjbkiomnipjiaaShelfB
import Derived.Lib.Strings
import Derived.Lib.Slices
import Derived.Shelf.RegionOpenPlain
set_option linter.unusedVariables false
set_option linter.unusedSimpArgs false
namespace Go.Proofs.Ythjbkiomnipjiaa
open Go Go.RowKit Pl

theorem optPtr_none : optPtr none = .pointer none := rfl
theorem optPtr_some (t : Nd) : optPtr (some t) = .pointer (some ⟨t.addr, 0, none⟩) := rfl
theorem acell (w : World) (cs : Array Value) (T : TypeId) (i : Nat) : (w.alloc (.cells cs T)).cell? ⟨w.heap.size, i, none⟩ = cs[i]? := by
  have h := alloc_here w (.cells cs T)
  unfold World.cell?
  simp only [h]
  rfl
set_option maxRecDepth 100000 in
set_option maxHeartbeats 2000000 in
theorem splice_bad (g : Nat) (t : Option Nd) (s e : Int) (x : ByteArray) (w : World) (h : Rope w g t) (hc : chk (optSize t) s e x.size ≠ 0) :
    Calls Try.prog 18 #[.pointer (some ⟨g, 0, none⟩), .agg #[.int .i64 s, .int .i64 e, .string x]] w fun en w' => en = .returned (.tuple #[.pointer none, .int .i64 (chk (optSize t) s e x.size)]) ∧ Below w.heap.size w w' := by
  have BA : Below w.heap.size w (w.alloc (.cells #[.int .i64 s, .int .i64 e, .string x] 36)) := (Below.refl _ _).alloc (Nat.le_refl _) _
  have h1 := h.below BA
  have ht := there_yes g t _ h1
  have hC := fun W => PAux.edits_Check.calls 2 (optSize t) s e x _ W (Aux.edits_Check_eq 0 (optSize t) s e x)
  generalize chk (optSize t) s e x.size = C at hc hC
  have hne : (C != 0) = true := by rw [bne_iff_ne]; exact hc
  have hne2 : (C == 0) = false := by rw [beq_eq_false_iff_ne]; exact hc
  have HC := Lib.hid hC
  clear hC
  have a0 := acell w #[.int .i64 s, .int .i64 e, .string x] 36 0
  have a1 := acell w #[.int .i64 s, .int .i64 e, .string x] 36 1
  have a2 := acell w #[.int .i64 s, .int .i64 e, .string x] 36 2
  have A0 := Lib.hid a0
  have A1 := Lib.hid a1
  have A2 := Lib.hid a2
  have hsz : (w.alloc (.cells #[.int .i64 s, .int .i64 e, .string x] 36)).heap.size = w.heap.size + 1 := Array.size_push _
  have HS := Lib.hid hsz
  clear a0 a1 a2 hsz
  go_enter Try.func18, Try.ntmps18
  go_wp2_with (go_at_call 48; refine ht.mono ?_; rintro en w' ⟨rfl, rfl⟩)
  clear ht
  generalize w.alloc (.cells #[.int .i64 s, .int .i64 e, .string x] 36) = W1 at *
  have B0 : Below W1.heap.size W1 W1.drew := (Below.refl _ _).drew
  have h2 := h1.below B0
  have lk : w.heap.size < W1.heap.size := by have := HS.out; omega
  go_region_held3 (fun w' => w'.cell? ⟨w.heap.size, 0, none⟩ = some (.int .i64 s) ∧ w'.cell? ⟨w.heap.size, 1, none⟩ = some (.int .i64 e) ∧ w'.cell? ⟨w.heap.size, 2, none⟩ = some (.string x))
    (first
      | exact ⟨(b2.cell lk).trans A0.out, (b2.cell lk).trans A1.out, (b2.cell lk).trans A2.out⟩
      | exact ⟨(B0.cell lk).trans A0.out, (B0.cell lk).trans A1.out, (B0.cell lk).trans A2.out⟩
      | fail)
    (first
      | ((with_reducible refine (len_yes g t _ h2).mono ?_)
         rintro en w1 ⟨rfl, rfl⟩)
      | ((with_reducible refine (HC.out _).mono ?_)
         rintro en w2 ⟨rfl, b2⟩)
      | fail)
  all_goals
    go_wp2
    go_ret2
    exact ⟨rfl, BA.trans ((B0.trans b2).mono BA.size)⟩
theorem split_factsO {t : Option Sh} {k : Int} {a b : Option Nd} (ot : Sh.okO t) (s : SplitAs t k (optSh a, optSh b)) : optOk a ∧ optOk b ∧ optSize a + optSize b = Sh.sizeO t := by
  obtain ⟨g, h, hs⟩ := s
  cases t with
  | none =>
    have e1 : optSh a = none := congrArg Prod.fst hs
    have e2 : optSh b = none := congrArg Prod.snd hs
    refine ⟨optOk_sh (by rw [e1]; trivial), optOk_sh (by rw [e2]; trivial), ?_⟩
    rw [optSize_sh, optSize_sh, e1, e2]
    rfl
  | some t =>
    have hs : (optSh a, optSh b) = Sh.split g h t k := hs
    obtain ⟨a1, a2, a3⟩ := Sh.split_keeps g h t k ot
    rw [← hs] at a1 a2 a3
    exact ⟨optOk_sh a1, optOk_sh a2, by rw [optSize_sh, optSize_sh]; exact a3⟩
theorem okO_of {t : Option Nd} (h : optOk t) : Sh.okO (optSh t) := by
  cases t with
  | none => trivial
  | some t => exact h
theorem join_facts {a b c : Option Nd} (oa : optOk a) (ob : optOk b) (h : optSh c = Sh.joinO (optSh a) (optSh b)) : optOk c ∧ optSize c = optSize a + optSize b := by
  refine ⟨optOk_sh (by rw [h]; exact Sh.joinO_ok (okO_of oa) (okO_of ob)), ?_⟩
  rw [optSize_sh, h, Sh.joinO_size, ← optSize_sh, ← optSize_sh]
theorem built_facts {x : ByteArray} {m : Option Nd} (h : Built x (optSh m)) : optOk m ∧ optSize m = x.size := by
  cases m with
  | none =>
    refine ⟨trivial, ?_⟩
    show 0 = x.size
    have h : Built x none := h
    cases h
    rfl
  | some m =>
    obtain ⟨h1, h2⟩ := h.ok m.sh rfl
    exact ⟨h1, h2⟩
/-- the tree behind an edit: what stood ahead, what comes, what stood behind -/
def Spliced (t : Option Sh) (s e : Int) (x : ByteArray) (r : Option Sh) : Prop := ∃ (a b c d m : Option Sh), SplitAs t s (a, b) ∧ SplitAs b (e - s) (c, d) ∧ Built x m ∧ r = Sh.joinO (Sh.joinO a m) d
set_option maxRecDepth 100000 in
set_option maxHeartbeats 4000000 in
theorem splice_ok (g : Nat) (t : Option Nd) (s e : Int) (x : ByteArray) (w : World) (h : Rope w g t) (ot : optOk t) (hc : chk (optSize t) s e x.size = 0) :
    Calls Try.prog 18 #[.pointer (some ⟨g, 0, none⟩), .agg #[.int .i64 s, .int .i64 e, .string x]] w (Roped (Spliced (optSh t) s e x) w) := by
  have BA : Below w.heap.size w (w.alloc (.cells #[.int .i64 s, .int .i64 e, .string x] 36)) := (Below.refl _ _).alloc (Nat.le_refl _) _
  have h1 := h.below BA
  have ht := there_yes g t _ h1
  have hC := fun W => PAux.edits_Check.calls 2 (optSize t) s e x _ W (Aux.edits_Check_eq 0 (optSize t) s e x)
  obtain ⟨y1, y2, y3, y4, y5, y6⟩ := chk_zero.1 hc
  rw [hc] at hC
  have HC := Lib.hid hC
  clear hC
  have a0 := acell w #[.int .i64 s, .int .i64 e, .string x] 36 0
  have a1 := acell w #[.int .i64 s, .int .i64 e, .string x] 36 1
  have a2 := acell w #[.int .i64 s, .int .i64 e, .string x] 36 2
  have A0 := Lib.hid a0
  have A1 := Lib.hid a1
  have A2 := Lib.hid a2
  have hsz : (w.alloc (.cells #[.int .i64 s, .int .i64 e, .string x] 36)).heap.size = w.heap.size + 1 := Array.size_push _
  have HS := Lib.hid hsz
  clear a0 a1 a2 hsz
  go_enter Try.func18, Try.ntmps18
  go_wp2_with (go_at_call 48; refine ht.mono ?_; rintro en w' ⟨rfl, rfl⟩)
  clear ht
  generalize w.alloc (.cells #[.int .i64 s, .int .i64 e, .string x] 36) = W1 at *
  have B0 : Below W1.heap.size W1 W1.drew := (Below.refl _ _).drew
  have h2 := h1.below B0
  have lk : w.heap.size < W1.heap.size := by have := HS.out; omega
  go_region_held3 (fun w' => w'.cell? ⟨w.heap.size, 0, none⟩ = some (.int .i64 s) ∧ w'.cell? ⟨w.heap.size, 1, none⟩ = some (.int .i64 e) ∧ w'.cell? ⟨w.heap.size, 2, none⟩ = some (.string x))
    (first
      | exact ⟨(b2.cell lk).trans A0.out, (b2.cell lk).trans A1.out, (b2.cell lk).trans A2.out⟩
      | exact ⟨(B0.cell lk).trans A0.out, (B0.cell lk).trans A1.out, (B0.cell lk).trans A2.out⟩
      | fail)
    (first
      | ((with_reducible refine (len_yes g t _ h2).mono ?_)
         rintro en w1 ⟨rfl, rfl⟩)
      | ((with_reducible refine (HC.out _).mono ?_)
         rintro en w2 ⟨rfl, b2⟩)
      | fail)
  all_goals
    go_wp2
    have C1 := Lib.hid ((b2.cell (p := ⟨g, 1, none⟩) h2.lt).trans h2.c1)
    have D0 := Lib.hid ((b2.cell lk).trans A0.out)
    have D1 := Lib.hid ((b2.cell lk).trans A1.out)
    have D2 := Lib.hid ((b2.cell lk).trans A2.out)
    have it := optIn.below b2 h2.2
    have lg2 : g < w2.heap.size := Nat.lt_of_lt_of_le h2.lt b2.size
    have lk2 : w.heap.size < w2.heap.size := Nat.lt_of_lt_of_le lk b2.size
    have Bw2 : Below w.heap.size w w2 := BA.trans ((B0.trans b2).mono BA.size)
    clear h1 h2 b2 A0 A1 A2 lk HC HS
    have B3 : Below w2.heap.size w2 w2.drew := (Below.refl _ _).drew
    have it2 := optIn.below B3 it
    have v1 : optSize t ≤ 1048576 := by omega
    have v2 : -1048576 ≤ s := by omega
    have v3 : s ≤ 1048576 := by omega
    have v4 : -1048576 ≤ e - s := by omega
    have v5 : e - s ≤ 1048576 := by omega
    have v6 : x.size ≤ 1048576 := by omega
    go_region_held3 (fun w' => w'.cell? ⟨g, 1, none⟩ = some (optPtr t) ∧ w'.cell? ⟨w.heap.size, 0, none⟩ = some (.int .i64 s))
      (first
        | exact ⟨(b4.cell lg2).trans C1.out, (b4.cell lk2).trans D0.out⟩
        | exact ⟨(B3.cell lg2).trans C1.out, (B3.cell lk2).trans D0.out⟩
        | fail)
      (first
        | ((with_reducible refine (split_any t s _ it2 ot v1 v2 v3).mono ?_)
           rintro en w4 ⟨a, b, rfl, ia, ib, sab, b4⟩)
        | fail)
  all_goals
    have B4 : Below w2.heap.size w2 w4 := B3.trans b4
    obtain ⟨oa, ob, zab⟩ := split_factsO (okO_of ot) sab
    have d0 := (B4.cell lk2).trans D0.out
    have d1 := (B4.cell lk2).trans D1.out
    have d2 := (B4.cell lk2).trans D2.out
    have lk4 : w.heap.size < w4.heap.size := Nat.lt_of_lt_of_le lk2 B4.size
    have u1 : optSize b ≤ 1048576 := by rw [← optSize_sh] at zab; omega
    have za : optSize a + optSize b = optSize t := by rw [optSize_sh t]; exact zab
    have ZA := Lib.hid za
    clear za zab C1 D0 D1
    go_wp2_with (first
      | (go_at_call 50; (with_reducible refine (split_any b (e - s) _ ib ob u1 v4 v5).mono ?_); rintro en w5 ⟨c, d, rfl, ic, id_, scd, b5⟩; have d2' := (b5.cell lk4).trans d2; have ia5 := optIn.below b5 ia; obtain ⟨oc, od, zcd⟩ := split_factsO (okO_of ob) scd; have ZC := Lib.hid zcd; clear zcd)
      | (go_at_call 39; (with_reducible refine (build_any x _ v6).mono ?_); rintro en w6 ⟨m, rfl, im, bm, b6⟩; have ia6 := optIn.below b6 ia5; have id6 := optIn.below b6 id_; obtain ⟨om, zm⟩ := built_facts bm; have v7 : optSize a + optSize m ≤ 1048576 := (by have := ZA.out; omega); have ZM := Lib.hid zm; clear zm)
      | (go_at_call 51; (with_reducible refine (join_opt a m _ ia6 im oa om v7).mono ?_); rintro en w7 ⟨j, rfl, ij, sj, b7⟩; have id7 := optIn.below b7 id6; obtain ⟨oj, zj⟩ := join_facts oa om sj; have v8 : optSize j + optSize d ≤ 1048576 := (by have h1 := ZA.out; have h2 := ZC.out; have h3 := ZM.out; rw [← optSize_sh] at h2; omega); clear zj)
      | (go_at_call 51; (with_reducible refine (join_opt j d _ ij id7 oj od v8).mono ?_); rintro en w8 ⟨r, rfl, ir, sr, b8⟩; cases r <;> simp only [optPtr_none, optPtr_some]))
  all_goals
    go_wp2
    go_ret2
    have B5 := B4.trans (b5.mono B4.size)
    have B6 := B5.trans (b6.mono B5.size)
    have B7 := B6.trans (b7.mono B6.size)
    have B8 := B7.trans (b8.mono B7.size)
    have BW := Bw2.trans (B8.mono Bw2.size)
    exact ⟨w8.heap.size, _, rfl, new_rope ir BW rfl, ⟨_, _, _, _, _, sab, scd, bm, (show _ = _ from sr).trans (by rw [show optSh j = _ from sj])⟩, BW.alloc BW.size _⟩
end Go.Proofs.Ythjbkiomnipjiaa

namespace Go.Proofs.Ythjbkiomnipjiaa
open Go Go.RowKit

/-- the closure keeps the invariant: one leaf more -/
def Keeps45 (w0 : World) (cap : Value) (P : List (Nat × ByteArray) → Prop) (Inv : List (Nat × ByteArray) → World → Prop) : Prop := ∀ (d : List (Nat × ByteArray)) (b : Nat) (s : ByteArray) (w : World), Inv d w → P (d ++ [(b, s)]) → (Nd.leaf b s).In w0 →
    Calls Try.prog 45 #[.pointer (some ⟨b, 0, none⟩), cap] w fun e w' => e = .returned (.bool true) ∧ Inv (d ++ [(b, s)]) w'
theorem each_leaf45 (w0 : World) (cap : Value) (P : List (Nat × ByteArray) → Prop) (Inv : List (Nat × ByteArray) → World → Prop) (hP : ∀ d e, P (d ++ e) → P d) (hB : ∀ d w, Inv d w → Below w0.heap.size w0 w) (hF : Keeps45 w0 cap P Inv) (b : Nat) (s : ByteArray) (it : (Nd.leaf b s).In w0) (d : List (Nat × ByteArray)) (w : World) (hd : Inv d w) (hp : P (d ++ [(b, s)])) :
    Calls Try.prog 44 #[.pointer (some ⟨b, 0, none⟩), .func (.func 45) #[] #[cap]] w fun e w' => e = .returned (.bool true) ∧ Inv (d ++ [(b, s)]) w' := by
  have c0 : w.cell? ⟨b, 0, none⟩ = some (.pointer none) := ((hB d w hd).cell (p := ⟨b, 0, none⟩) it.lt).trans it.c0
  have hf := hF d b s w hd hp it
  go_enter Try.func44, Try.ntmps44
  go_wp2_with (go_at_call 45; refine hf.mono ?_; rintro e w' ⟨rfl, hi⟩)
  go_ret
  exact ⟨rfl, hi⟩
theorem each45 (w0 : World) (cap : Value) (P : List (Nat × ByteArray) → Prop) (Inv : List (Nat × ByteArray) → World → Prop) (hP : ∀ d e, P (d ++ e) → P d) (hB : ∀ d w, Inv d w → Below w0.heap.size w0 w) (hF : Keeps45 w0 cap P Inv) : ∀ (t : Nd), t.In w0 → ∀ (d : List (Nat × ByteArray)) (w : World), Inv d w → P (d ++ t.sh.lv) →
    Calls Try.prog 44 #[.pointer (some ⟨t.addr, 0, none⟩), .func (.func 45) #[] #[cap]] w fun e w' => e = .returned (.bool true) ∧ Inv (d ++ t.sh.lv) w' := by
  intro t
  induction t with
  | leaf b s => intro it d w hd hp; exact each_leaf45 w0 cap P Inv hP hB hF b s it d w hd hp
  | node b l r ihl ihr =>
    intro it d w hd hp
    have e : d ++ (Nd.node b l r).sh.lv = (d ++ l.sh.lv) ++ r.sh.lv := (List.append_assoc _ _ _).symm
    rw [e] at hp ⊢
    clear e
    have hl := ihl it.2.1 d w hd (hP _ _ hp)
    have hr := fun w hd => ihr it.2.2 (d ++ l.sh.lv) w hd hp
    have HR := Lib.hid hr
    clear hr ihl ihr
    have c0 : w.cell? ⟨b, 0, none⟩ = some (.pointer (some ⟨l.addr, 0, none⟩)) := ((hB d w hd).cell (p := ⟨b, 0, none⟩) it.lt).trans it.c0
    have k1 : ∀ d w, Inv d w → w.cell? ⟨b, 1, none⟩ = some (.pointer (some ⟨r.addr, 0, none⟩)) := fun d w hd => ((hB d w hd).cell (p := ⟨b, 1, none⟩) it.lt).trans it.c1
    have K1 := Lib.hid k1
    clear k1
    show Calls Try.prog 44 #[.pointer (some ⟨b, 0, none⟩), .func (.func 45) #[] #[cap]] w _
    go_enter Try.func44, Try.ntmps44
    go_wp2_with (first
      | (go_at_call 44; (with_reducible refine hl.mono ?_); rintro e w1 ⟨rfl, hi1⟩; have c1 := K1.out _ w1 hi1)
      | (go_at_call 44; (with_reducible refine (HR.out _ hi1).mono ?_); rintro e w2 ⟨rfl, hi2⟩))
    go_ret
    exact ⟨rfl, hi2⟩

/-- the closure keeps the invariant: one leaf more -/
def Keeps62 (w0 : World) (cap : Value) (P : List (Nat × ByteArray) → Prop) (Inv : List (Nat × ByteArray) → World → Prop) : Prop := ∀ (d : List (Nat × ByteArray)) (b : Nat) (s : ByteArray) (w : World), Inv d w → P (d ++ [(b, s)]) → (Nd.leaf b s).In w0 →
    Calls Try.prog 62 #[.pointer (some ⟨b, 0, none⟩), cap] w fun e w' => e = .returned (.bool true) ∧ Inv (d ++ [(b, s)]) w'
theorem each_leaf62 (w0 : World) (cap : Value) (P : List (Nat × ByteArray) → Prop) (Inv : List (Nat × ByteArray) → World → Prop) (hP : ∀ d e, P (d ++ e) → P d) (hB : ∀ d w, Inv d w → Below w0.heap.size w0 w) (hF : Keeps62 w0 cap P Inv) (b : Nat) (s : ByteArray) (it : (Nd.leaf b s).In w0) (d : List (Nat × ByteArray)) (w : World) (hd : Inv d w) (hp : P (d ++ [(b, s)])) :
    Calls Try.prog 44 #[.pointer (some ⟨b, 0, none⟩), .func (.func 62) #[] #[cap]] w fun e w' => e = .returned (.bool true) ∧ Inv (d ++ [(b, s)]) w' := by
  have c0 : w.cell? ⟨b, 0, none⟩ = some (.pointer none) := ((hB d w hd).cell (p := ⟨b, 0, none⟩) it.lt).trans it.c0
  have hf := hF d b s w hd hp it
  go_enter Try.func44, Try.ntmps44
  go_wp2_with (go_at_call 62; refine hf.mono ?_; rintro e w' ⟨rfl, hi⟩)
  go_ret
  exact ⟨rfl, hi⟩
theorem each62 (w0 : World) (cap : Value) (P : List (Nat × ByteArray) → Prop) (Inv : List (Nat × ByteArray) → World → Prop) (hP : ∀ d e, P (d ++ e) → P d) (hB : ∀ d w, Inv d w → Below w0.heap.size w0 w) (hF : Keeps62 w0 cap P Inv) : ∀ (t : Nd), t.In w0 → ∀ (d : List (Nat × ByteArray)) (w : World), Inv d w → P (d ++ t.sh.lv) →
    Calls Try.prog 44 #[.pointer (some ⟨t.addr, 0, none⟩), .func (.func 62) #[] #[cap]] w fun e w' => e = .returned (.bool true) ∧ Inv (d ++ t.sh.lv) w' := by
  intro t
  induction t with
  | leaf b s => intro it d w hd hp; exact each_leaf62 w0 cap P Inv hP hB hF b s it d w hd hp
  | node b l r ihl ihr =>
    intro it d w hd hp
    have e : d ++ (Nd.node b l r).sh.lv = (d ++ l.sh.lv) ++ r.sh.lv := (List.append_assoc _ _ _).symm
    rw [e] at hp ⊢
    clear e
    have hl := ihl it.2.1 d w hd (hP _ _ hp)
    have hr := fun w hd => ihr it.2.2 (d ++ l.sh.lv) w hd hp
    have HR := Lib.hid hr
    clear hr ihl ihr
    have c0 : w.cell? ⟨b, 0, none⟩ = some (.pointer (some ⟨l.addr, 0, none⟩)) := ((hB d w hd).cell (p := ⟨b, 0, none⟩) it.lt).trans it.c0
    have k1 : ∀ d w, Inv d w → w.cell? ⟨b, 1, none⟩ = some (.pointer (some ⟨r.addr, 0, none⟩)) := fun d w hd => ((hB d w hd).cell (p := ⟨b, 1, none⟩) it.lt).trans it.c1
    have K1 := Lib.hid k1
    clear k1
    show Calls Try.prog 44 #[.pointer (some ⟨b, 0, none⟩), .func (.func 62) #[] #[cap]] w _
    go_enter Try.func44, Try.ntmps44
    go_wp2_with (first
      | (go_at_call 44; (with_reducible refine hl.mono ?_); rintro e w1 ⟨rfl, hi1⟩; have c1 := K1.out _ w1 hi1)
      | (go_at_call 44; (with_reducible refine (HR.out _ hi1).mono ?_); rintro e w2 ⟨rfl, hi2⟩))
    go_ret
    exact ⟨rfl, hi2⟩
end Go.Proofs.Ythjbkiomnipjiaa

namespace Go.Proofs.Ythjbkiomnipjiaa
open Go Go.RowKit
theorem addr_leaf (b : Nat) (s : ByteArray) : (Nd.leaf b s).addr = b := rfl
theorem addr_node (b : Nat) (l r : Nd) : (Nd.node b l r).addr = b := rfl
def byteOf (s : ByteArray) (k : Nat) : Int := if h : k < s.size then ((s[k]'h).toNat : Int) else 0
theorem byteOf_in (s : ByteArray) (k : Nat) (h : k < s.size) : ((s[k]'h).toNat : Int) = byteOf s k := by unfold byteOf; rw [dif_pos h]
def Sh.byteAt : Sh → Nat → Int
  | .leaf _ s, k => byteOf s k
  | .node l r, k => if k < l.size then l.byteAt k else r.byteAt (k - l.size)
structure Kept (p : Prop) : Prop where
  out : p
set_option maxHeartbeats 2000000 in
theorem byte_ok (g : Nat) (t : Nd) (k : Nat) (w : World) (h : Rope w g (some t)) (ok : t.sh.Ok) (hz : t.sh.size ≤ 1048576) (hk : k < t.sh.size) :
    Calls Try.prog 22 #[.pointer (some ⟨g, 0, none⟩), .int .i64 k] w fun e w' => e = .returned (.tuple #[.int .u8 (t.sh.byteAt k), .int .i64 0]) ∧ w = w' := by
  have ht := there_yes g (some t) w h
  have c1 : w.cell? ⟨g, 1, none⟩ = some (.pointer (some ⟨t.addr, 0, none⟩)) := h.c1
  have it : t.In w := h.2
  have c3 := it.c3
  have d1 : decide ((k : Int) < 0) = false := decide_eq_false (by omega)
  have d2 : decide (t.sh.size ≤ k) = false := decide_eq_false (by omega)
  go_enter Try.func22, Try.ntmps22
  go_wp2_with (go_at_call 48; refine ht.mono ?_; rintro e w' ⟨rfl, rfl⟩)
  clear ht c1 c3 d1 d2
  go_loopg [1, 6] t.sh.height (fun gk a n wr => ∃ (u : Nd) (j : Nat), wr = w ∧ a = .int .i64 j ∧ n = .pointer (some ⟨u.addr, 0, none⟩) ∧ Kept (u.In w ∧ u.sh.Ok ∧ u.sh.size ≤ 1048576 ∧ j < u.sh.size ∧ u.sh.height ≤ gk ∧ u.sh.byteAt j = t.sh.byteAt k))
  case atStart => exact ⟨t, k, rfl, rfl, rfl, ⟨it, ok, hz, hk, Nat.le_refl _, rfl⟩⟩
  case round =>
    obtain ⟨u, j, rfl, rfl, rfl, K⟩ := hrel
    cases u with
    | leaf b s =>
      have c0 : wr.cell? ⟨b, 0, none⟩ = some (.pointer none) := K.out.1.c0
      have c2 : wr.cell? ⟨b, 2, none⟩ = some (.string s) := K.out.1.c2
      have hj : j < s.size := K.out.2.2.2.1
      have hb := byteOf_in s j hj
      have HB := Lib.hid hb
      clear hb
      simp only [addr_leaf]
      go_wp2
      go_ret2
      refine ⟨?_, rfl⟩
      have e := K.out.2.2.2.2.2
      rw [← e]
      show Ending.returned (.tuple #[.int .u8 ((s[j]'hj).toNat : Int), .int .i64 0]) = _
      rw [HB.out]
      rfl
    | node b l r =>
      have c0 : wr.cell? ⟨b, 0, none⟩ = some (.pointer (some ⟨l.addr, 0, none⟩)) := K.out.1.c0
      have c1 : wr.cell? ⟨b, 1, none⟩ = some (.pointer (some ⟨r.addr, 0, none⟩)) := K.out.1.c1
      have l3 := K.out.1.2.1.c3
      have hz' : l.sh.size + r.sh.size ≤ 1048576 := K.out.2.2.1
      have hj : j < l.sh.size + r.sh.size := K.out.2.2.2.1
      have hh : 1 + max l.sh.height r.sh.height ≤ gk := K.out.2.2.2.2.1
      by_cases hlt : j < l.sh.size
      · simp only [addr_node]
        go_wp2
        go_roundg (gk - 1)
        case measure => omega
        case rel => exact ⟨l, j, rfl, rfl, rfl, ⟨K.out.1.2.1, K.out.2.1.1, by omega, hlt, by omega, (if_pos hlt).symm.trans K.out.2.2.2.2.2⟩⟩
      · simp only [addr_node]
        go_wp2
        go_roundg (gk - 1)
        case measure => omega
        case rel => exact ⟨r, j - l.sh.size, rfl, by rw [Int.ofNat_sub (by omega)], rfl, ⟨K.out.1.2.2, K.out.2.1.2, by omega, by omega, by omega, (if_neg hlt).symm.trans K.out.2.2.2.2.2⟩⟩
end Go.Proofs.Ythjbkiomnipjiaa

namespace Go.Proofs.Ythjbkiomnipjiaa
open Go Go.RowKit
def Sh.endsAt : Sh → Nat → Nat
  | .leaf _ s, k => Lib.countByte (s.extract 0 k).data.toList 10
  | .node l r, k => if k < l.size then l.endsAt k else l.ends + r.endsAt (k - l.size)
theorem Sh.endsAt_le : ∀ (t : Sh) (k : Nat), k ≤ t.size → t.endsAt k ≤ k
  | .leaf _ s, k, h => by
    refine Nat.le_trans (Sh.count_le _) ?_
    rw [ByteArray.size_extract]
    omega
  | .node l r, k, h => by
    have h : k ≤ l.size + r.size := h
    show (if k < l.size then l.endsAt k else l.ends + r.endsAt (k - l.size)) ≤ k
    split
    · exact Sh.endsAt_le l k (by omega)
    · have h1 := Sh.endsAt_le r (k - l.size) (by omega)
      have h2 := l.ends_le
      omega
theorem ends_none (k : Nat) (w : World) : Calls Try.prog 53 #[.pointer none, .int .i64 k] w fun e w' => e = .returned (.int .i64 0) ∧ w = w' := by
  go_enter Try.func53, Try.ntmps53
  go_wp2
  go_loopg [0, 1, 5] 0 (fun gk n a q wr => wr = w ∧ n = .pointer none ∧ a = .int .i64 k ∧ q = .int .i64 0)
  case atStart => exact ⟨rfl, rfl, rfl, rfl⟩
  case round =>
    obtain ⟨rfl, rfl, rfl, rfl⟩ := hrel
    go_wp2
    go_ret
    exact ⟨rfl, rfl⟩
set_option maxHeartbeats 2000000 in
theorem ends_some (t : Nd) (k : Nat) (w : World) (it : t.In w) (hz : t.sh.size ≤ 1048576) (hk : k ≤ t.sh.size) :
    Calls Try.prog 53 #[.pointer (some ⟨t.addr, 0, none⟩), .int .i64 k] w fun e w' => e = .returned (.int .i64 (t.sh.endsAt k)) ∧ w = w' := by
  go_enter Try.func53, Try.ntmps53
  go_wp2
  go_loopg [0, 1, 5] t.sh.height (fun gk n a q wr => ∃ (u : Nd) (j c : Nat), wr = w ∧ a = .int .i64 j ∧ n = .pointer (some ⟨u.addr, 0, none⟩) ∧ q = .int .i64 c ∧ Kept (u.In w ∧ u.sh.size ≤ 1048576 ∧ j ≤ u.sh.size ∧ u.sh.height ≤ gk ∧ c + u.sh.endsAt j = t.sh.endsAt k ∧ c + u.sh.size ≤ 1048576))
  case atStart => exact ⟨t, k, 0, rfl, rfl, rfl, rfl, ⟨it, hz, hk, Nat.le_refl _, Nat.zero_add _, by omega⟩⟩
  case round =>
    obtain ⟨u, j, c, rfl, rfl, rfl, rfl, K⟩ := hrel
    cases u with
    | leaf b s =>
      have c0 : wr.cell? ⟨b, 0, none⟩ = some (.pointer none) := K.out.1.c0
      have c2 : wr.cell? ⟨b, 2, none⟩ = some (.string s) := K.out.1.c2
      have hj : j ≤ s.size := K.out.2.2.1
      have hc : c + s.size ≤ 1048576 := K.out.2.2.2.2.2
      have hs := Try.strings_Count_one (s.extract 0 j) 10
      have hcl := Sh.count_le (s.extract 0 j)
      have hsz : (s.extract 0 j).size ≤ s.size := by rw [ByteArray.size_extract]; omega
      have e : c + Lib.countByte (s.extract 0 j).data.toList 10 = t.sh.endsAt k := K.out.2.2.2.2.1
      have E := Lib.hid e
      clear e
      have HSS := Lib.hid hs
      clear hs
      generalize Lib.countByte (s.extract 0 j).data.toList 10 = m at hcl E HSS
      simp only [addr_leaf]
      go_wp2_with (go_at_call 56; refine (HSS.out _).mono ?_; rintro e w' ⟨rfl, rfl⟩)
      go_ret
      refine ⟨?_, rfl⟩
      rw [← E.out]
      rfl
    | node b l r =>
      have c0 : wr.cell? ⟨b, 0, none⟩ = some (.pointer (some ⟨l.addr, 0, none⟩)) := K.out.1.c0
      have c1 : wr.cell? ⟨b, 1, none⟩ = some (.pointer (some ⟨r.addr, 0, none⟩)) := K.out.1.c1
      have l3 := K.out.1.2.1.c3
      have l4 := K.out.1.2.1.c4
      have hz' : l.sh.size + r.sh.size ≤ 1048576 := K.out.2.1
      have hj : j ≤ l.sh.size + r.sh.size := K.out.2.2.1
      have hh : 1 + max l.sh.height r.sh.height ≤ gk := K.out.2.2.2.1
      have hc : c + (l.sh.size + r.sh.size) ≤ 1048576 := K.out.2.2.2.2.2
      have he := l.sh.ends_le
      have e : c + (if j < l.sh.size then l.sh.endsAt j else l.sh.ends + r.sh.endsAt (j - l.sh.size)) = t.sh.endsAt k := K.out.2.2.2.2.1
      have E := Lib.hid e
      clear e
      by_cases hlt : j < l.sh.size
      · simp only [addr_node]
        go_wp2
        go_roundg (gk - 1)
        case measure => omega
        case rel => exact ⟨l, j, c, rfl, rfl, rfl, rfl, ⟨K.out.1.2.1, by omega, by omega, by omega, by have := E.out; rwa [if_pos hlt] at this, by omega⟩⟩
      · simp only [addr_node]
        go_wp2
        go_roundg (gk - 1)
        case measure => omega
        case rel => exact ⟨r, j - l.sh.size, c + l.sh.ends, rfl, by rw [Int.ofNat_sub (by omega)], rfl, rfl, ⟨K.out.1.2.2, by omega, by omega, by omega, by have := E.out; rw [if_neg hlt] at this; omega, by omega⟩⟩
end Go.Proofs.Ythjbkiomnipjiaa

namespace Go.Proofs.Ythjbkiomnipjiaa
open Go Go.RowKit
/-- how many bytes up to the k-th line end, itself too; k from 1 on -/
def nlP : List UInt8 → Nat → Nat
  | [], _ => 0
  | b :: l, k => if b = 10 then (if k = 1 then 1 else 1 + nlP l (k - 1)) else 1 + nlP l k
def Sh.behindAt : Sh → Nat → Nat
  | .leaf _ s, k => nlP s.data.toList k
  | .node l r, k => if k ≤ l.ends then l.behindAt k else l.size + r.behindAt (k - l.ends)
theorem behind_zero (o : Option Nd) (w : World) : Calls Try.prog 54 #[optPtr o, .int .i64 0] w fun e w' => e = .returned (.int .i64 0) ∧ w = w' := by
  go_enter Try.func54, Try.ntmps54
  go_wp2
  go_ret
  exact ⟨rfl, rfl⟩
theorem drop_cons (s : ByteArray) (i : Nat) (h : i < s.size) : s.data.toList.drop i = s[i] :: s.data.toList.drop (i + 1) := by
  rw [List.drop_eq_getElem_cons (by simpa using h)]; rfl
set_option maxHeartbeats 4000000 in
theorem behind_some (t : Nd) (k : Nat) (w : World) (it : t.In w) (hz : t.sh.size ≤ 1048576) (h0 : 1 ≤ k) (hk : k ≤ t.sh.ends) :
    Calls Try.prog 54 #[.pointer (some ⟨t.addr, 0, none⟩), .int .i64 k] w fun e w' => e = .returned (.int .i64 (t.sh.behindAt k)) ∧ w = w' := by
  have hne : ((k : Int) == 0) = false := by rw [beq_eq_false_iff_ne]; omega
  go_enter Try.func54, Try.ntmps54
  go_wp2
  clear hne
  go_loopg [0, 1, 5] t.sh.height (fun gk n a q wr => ∃ (u : Nd) (j c : Nat), wr = w ∧ a = .int .i64 j ∧ n = .pointer (some ⟨u.addr, 0, none⟩) ∧ q = .int .i64 c ∧ Kept (u.In w ∧ u.sh.size ≤ 1048576 ∧ 1 ≤ j ∧ j ≤ u.sh.ends ∧ u.sh.height ≤ gk ∧ c + u.sh.behindAt j = t.sh.behindAt k ∧ c + u.sh.size ≤ 1048576))
  case atStart => exact ⟨t, k, 0, rfl, rfl, rfl, rfl, ⟨it, hz, h0, hk, Nat.le_refl _, Nat.zero_add _, by omega⟩⟩
  case round =>
    obtain ⟨u, j, c, rfl, rfl, rfl, rfl, K⟩ := hrel
    cases u with
    | node b l r =>
      have c0 : wr.cell? ⟨b, 0, none⟩ = some (.pointer (some ⟨l.addr, 0, none⟩)) := K.out.1.c0
      have c1 : wr.cell? ⟨b, 1, none⟩ = some (.pointer (some ⟨r.addr, 0, none⟩)) := K.out.1.c1
      have l3 := K.out.1.2.1.c3
      have l4 := K.out.1.2.1.c4
      have hz' : l.sh.size + r.sh.size ≤ 1048576 := K.out.2.1
      have hj1 : 1 ≤ j := K.out.2.2.1
      have hj : j ≤ l.sh.ends + r.sh.ends := K.out.2.2.2.1
      have hh : 1 + max l.sh.height r.sh.height ≤ gk := K.out.2.2.2.2.1
      have hc : c + (l.sh.size + r.sh.size) ≤ 1048576 := K.out.2.2.2.2.2.2
      have he := l.sh.ends_le
      have her := r.sh.ends_le
      have hjb : j ≤ 2097152 := by omega
      have e : c + (if j ≤ l.sh.ends then l.sh.behindAt j else l.sh.size + r.sh.behindAt (j - l.sh.ends)) = t.sh.behindAt k := K.out.2.2.2.2.2.1
      have E := Lib.hid e
      clear e
      by_cases hlt : j ≤ l.sh.ends
      · simp only [addr_node]
        go_wp2
        go_roundg (gk - 1)
        case measure => omega
        case rel => exact ⟨l, j, c, rfl, rfl, rfl, rfl, ⟨K.out.1.2.1, by omega, hj1, hlt, by omega, by have := E.out; rwa [if_pos hlt] at this, by omega⟩⟩
      · simp only [addr_node]
        go_wp2
        go_roundg (gk - 1)
        case measure => omega
        case rel => exact ⟨r, j - l.sh.ends, c + l.sh.size, rfl, by rw [Int.ofNat_sub (by omega)], rfl, rfl, ⟨K.out.1.2.2, by omega, by omega, by omega, by omega, by have := E.out; rw [if_neg hlt] at this; omega, by omega⟩⟩
    | leaf b s =>
      have c0 : wr.cell? ⟨b, 0, none⟩ = some (.pointer none) := K.out.1.c0
      have c2 : wr.cell? ⟨b, 2, none⟩ = some (.string s) := K.out.1.c2
      have hj1 : 1 ≤ j := K.out.2.2.1
      have hj : j ≤ s.data.toList.count 10 := K.out.2.2.2.1
      have hc : c + s.size ≤ 1048576 := K.out.2.2.2.2.2.2
      have e : c + nlP s.data.toList j = t.sh.behindAt k := K.out.2.2.2.2.2.1
      have E := Lib.hid e
      clear e
      simp only [addr_leaf]
      go_wp2
      go_loopg [1, 54] s.size (fun gi a i w2 => ∃ (m p : Nat), w2 = wr ∧ a = .int .i64 p ∧ i = .int .i64 m ∧ Kept (m + gi = s.size ∧ 1 ≤ p ∧ p ≤ (s.data.toList.drop m).count 10 ∧ m + nlP (s.data.toList.drop m) p = nlP s.data.toList j))
      case atStart => exact ⟨0, j, rfl, rfl, rfl, ⟨Nat.zero_add _, hj1, hj, Nat.zero_add _⟩⟩
      case round =>
        obtain ⟨m, p, rfl, rfl, rfl, L⟩ := hrel
        have hp1 : 1 ≤ p := L.out.2.1
        have hpc : p ≤ (s.data.toList.drop m).count 10 := L.out.2.2.1
        have hmz : m < s.size := by
          rcases Nat.lt_or_ge m s.size with h | h
          · exact h
          · rw [List.drop_eq_nil_of_le (by simpa using h)] at hpc
            simp at hpc
            omega
        have hd := drop_cons s m hmz
        have hle : m ≤ 1048576 := by omega
        have hpb : p ≤ 1048576 := by
          have h1 := List.count_le_length (a := (10 : UInt8)) (l := s.data.toList.drop m)
          have h2 : (s.data.toList.drop m).length ≤ s.size := by simp [← ByteArray.size_data]
          omega
        have hL1 := L.out.1
        have hrel4 := L.out.2.2.2
        rw [hd] at hpc hrel4
        by_cases hb : s[m] = 10
        · have hbb : (((s[m]).toNat : Int) == 10) = true := by rw [hb]; rfl
          by_cases hp : p = 1
          · have hq : ((p : Int) - 1 == 0) = true := by rw [hp]; rfl
            go_wp2
            go_ret
            refine ⟨?_, rfl⟩
            rw [← E.out, ← hrel4, hp]
            show Ending.returned (Value.int IntKind.i64 _) = Ending.returned (Value.int IntKind.i64 _)
            simp only [nlP, hb, if_pos]
            congr 1
          · have hq : ((p : Int) - 1 == 0) = false := by rw [beq_eq_false_iff_ne]; omega
            go_wp2
            go_roundg (gk - 1)
            case measure => omega
            case rel =>
              simp only [nlP, hb, if_pos, if_neg hp] at hrel4
              rw [List.count_cons, if_pos (by rw [hb]; rfl)] at hpc
              exact ⟨m + 1, p - 1, rfl, by rw [Int.ofNat_sub hp1]; rfl, rfl, ⟨by omega, by omega, by omega, by omega⟩⟩
        · have hbb : (((s[m]).toNat : Int) == 10) = false := by
            rw [beq_eq_false_iff_ne]; intro h; apply hb; exact UInt8.toNat_inj.1 (by simpa using Int.ofNat_inj.1 h)
          go_wp2
          go_roundg (gk - 1)
          case measure => omega
          case rel =>
            simp only [nlP, if_neg hb] at hrel4
            rw [List.count_cons, if_neg (by simpa using hb)] at hpc
            exact ⟨m + 1, p, rfl, rfl, rfl, ⟨by omega, by omega, by omega, by omega⟩⟩
end Go.Proofs.Ythjbkiomnipjiaa

namespace Go.Proofs.Ythjbkiomnipjiaa
open Go Go.RowKit
def optEndsAt (t : Option Nd) (k : Nat) : Nat := match t with | none => 0 | some t => t.sh.endsAt k
def optBehindAt (t : Option Nd) (k : Nat) : Nat := match t with | none => 0 | some t => if k = 0 then 0 else t.sh.behindAt k
theorem Rope.alloc {w : World} {g : Nat} {t : Option Nd} (h : Rope w g t) (x : Obj) : Rope (w.alloc x) g t := h.below ((Below.refl _ _).alloc (Nat.le_refl _) _)
theorem nlP_le : ∀ (l : List UInt8) (k : Nat), nlP l k ≤ l.length
  | [], _ => Nat.le_refl _
  | b :: l, k => by
    have h1 := nlP_le l k
    have h2 := nlP_le l (k - 1)
    simp only [nlP, List.length_cons]
    split
    · split <;> omega
    · omega
theorem Sh.behindAt_le : ∀ (t : Sh) (k : Nat), t.behindAt k ≤ t.size
  | .leaf _ s, k => by
    have := nlP_le s.data.toList k
    have h2 : s.data.toList.length = s.size := by simp [← ByteArray.size_data]
    show nlP s.data.toList k ≤ s.size
    omega
  | .node l r, k => by
    have h1 := Sh.behindAt_le l k
    have h2 := Sh.behindAt_le r (k - l.ends)
    show (if k ≤ l.ends then l.behindAt k else l.size + r.behindAt (k - l.ends)) ≤ l.size + r.size
    split <;> omega
theorem optBehindAt_le (t : Option Nd) (k : Nat) : optBehindAt t k ≤ optSize t := by
  cases t with
  | none => exact Nat.le_refl _
  | some t =>
    show (if k = 0 then 0 else t.sh.behindAt k) ≤ t.sh.size
    have := t.sh.behindAt_le k
    split <;> omega
theorem ends_opt (t : Option Nd) (k : Nat) (w : World) (it : optIn w t) (hz : optSize t ≤ 1048576) (hk : k ≤ optSize t) :
    Calls Try.prog 53 #[optPtr t, .int .i64 k] w fun e w' => e = .returned (.int .i64 (optEndsAt t k)) ∧ w = w' := by
  cases t with
  | none => exact ends_none k w
  | some t => exact ends_some t k w it hz hk
theorem behind_opt (t : Option Nd) (k : Nat) (w : World) (it : optIn w t) (hz : optSize t ≤ 1048576) (hk : k ≤ optEnds t) :
    Calls Try.prog 54 #[optPtr t, .int .i64 k] w fun e w' => e = .returned (.int .i64 (optBehindAt t k)) ∧ w = w' := by
  cases t with
  | none =>
    have : k = 0 := Nat.le_zero.1 hk
    subst this
    exact behind_zero none w
  | some t =>
    by_cases h0 : k = 0
    · subst h0; exact behind_zero (some t) w
    · have := behind_some t k w it hz (by omega) hk
      have e : optBehindAt (some t) k = t.sh.behindAt k := if_neg h0
      rw [e]
      exact this
theorem Sh.endsAt_ends : ∀ (t : Sh) (k : Nat), t.endsAt k ≤ t.ends
  | .leaf _ s, k => by
    show Lib.countByte (s.extract 0 k).data.toList 10 ≤ Lib.countByte s.data.toList 10
    rw [ByteArray.data_extract, Array.toList_extract]
    simp only [List.extract_eq_take_drop, List.drop_zero]
    exact (List.take_sublist _ _).count_le 10
  | .node l r, k => by
    have h1 := Sh.endsAt_ends l k
    have h2 := Sh.endsAt_ends r (k - l.size)
    show (if k < l.size then l.endsAt k else l.ends + r.endsAt (k - l.size)) ≤ l.ends + r.ends
    split <;> omega
theorem rope_of_bad (g : Nat) (t : Option Nd) (k : Int) (w : World) (h : Rope w g t) (hk : k < 0 ∨ (optSize t : Int) < k) : Calls Try.prog 23 #[.pointer (some ⟨g, 0, none⟩), .int .i64 k] w fun e w' => e = .returned (.tuple #[.agg #[.int .i64 0, .int .i64 0], .int .i64 4]) ∧ Below w.heap.size w w' := by
  have h1 := h.alloc (.cells #[.int .i64 0, .int .i64 0] 52)
  have ht := there_yes g t _ h1
  have hl := len_yes g t _ h1
  by_cases h0 : k < 0
  · have d1 : decide (k < 0) = true := decide_eq_true h0
    go_enter Try.func23, Try.ntmps23
    go_wp2_with (first | (go_at_call 48; refine ht.mono ?_; rintro e w1 ⟨rfl, rfl⟩) | (go_at_call 29; refine hl.mono ?_; rintro e w1 ⟨rfl, rfl⟩))
    refine bodyPost_ret (v := .tuple #[.agg #[.int .i64 0, .int .i64 0], .int .i64 4]) (by simp [results, Try.results23, go_sem]) rfl ⟨rfl, ?_⟩
    exact (Below.refl _ _).alloc (Nat.le_refl _) _
  · have d1 : decide (k < 0) = false := decide_eq_false h0
    have d2 : decide ((optSize t : Int) < k) = true := decide_eq_true (by omega)
    go_enter Try.func23, Try.ntmps23
    go_wp2_with (first | (go_at_call 48; refine ht.mono ?_; rintro e w1 ⟨rfl, rfl⟩) | (go_at_call 29; refine hl.mono ?_; rintro e w1 ⟨rfl, rfl⟩))
    refine bodyPost_ret (v := .tuple #[.agg #[.int .i64 0, .int .i64 0], .int .i64 4]) (by simp [results, Try.results23, go_sem]) rfl ⟨rfl, ?_⟩
    exact (Below.refl _ _).alloc (Nat.le_refl _) _
theorem rope_of_ok (g : Nat) (t : Option Nd) (k : Nat) (w : World) (h : Rope w g t) (hz : optSize t ≤ 1048576) (hk : k ≤ optSize t) (he : optEndsAt t k ≤ optEnds t) : Calls Try.prog 23 #[.pointer (some ⟨g, 0, none⟩), .int .i64 k] w fun e w' => e = .returned (.tuple #[.agg #[.int .i64 (optEndsAt t k), .int .i64 ((k : Int) - optBehindAt t (optEndsAt t k))], .int .i64 0]) ∧ Below w.heap.size w w' := by
  have h1 := h.alloc (.cells #[.int .i64 0, .int .i64 0] 52)
  have ht := there_yes g t _ h1
  have hl := len_yes g t _ h1
  have h2 := ends_opt t k _ h1.2 hz hk
  have h3 := behind_opt t (optEndsAt t k) _ h1.2 hz he
  have c1 := h1.c1
  have hb := optBehindAt_le t (optEndsAt t k)
  have d1 : decide ((k : Int) < 0) = false := decide_eq_false (by omega)
  have d2 : decide (optSize t < k) = false := decide_eq_false (by omega)
  have d3 : decide ((optSize t : Int) < (k : Int)) = false := decide_eq_false (by omega)
  generalize optBehindAt t (optEndsAt t k) = m at h3 hb ⊢
  generalize optEndsAt t k = q at h2 h3 ⊢
  generalize optPtr t = v at h2 h3 c1
  generalize optSize t = z at hl hb d2 d3 hz hk
  go_enter Try.func23, Try.ntmps23
  go_wp2_with (first | (go_at_call 48; refine ht.mono ?_; rintro e w1 ⟨rfl, rfl⟩) | (go_at_call 29; refine hl.mono ?_; rintro e w1 ⟨rfl, rfl⟩) | (go_at_call 53; refine h2.mono ?_; rintro e w1 ⟨rfl, rfl⟩) | (go_at_call 54; refine h3.mono ?_; rintro e w1 ⟨rfl, rfl⟩))
  refine bodyPost_ret (v := .tuple #[.agg #[.int .i64 q, .int .i64 ((k : Int) - m)], .int .i64 0]) (by simp [results, Try.results23, go_sem]) rfl ⟨rfl, ?_⟩
  exact (Below.refl _ _).alloc (Nat.le_refl _) _
theorem rope_at_l0 (g : Nat) (t : Option Nd) (l c : Int) (w : World) (h : Rope w g t) (hl : l < 0) : Calls Try.prog 25 #[.pointer (some ⟨g, 0, none⟩), .agg #[.int .i64 l, .int .i64 c]] w fun e w' => e = .returned (.tuple #[.int .i64 0, .int .i64 4]) ∧ Below w.heap.size w w' := by
  have h1 := h.alloc (.cells #[.int .i64 l, .int .i64 c] 52)
  have ht := there_yes g t _ h1
  have d1 : decide (l < 0) = true := decide_eq_true hl
  go_enter Try.func25, Try.ntmps25
  go_wp2_with (first | (go_at_call 48; refine ht.mono ?_; rintro e w1 ⟨rfl, rfl⟩))
  go_quiet (fail)
  go_wp2
  go_ret2
  exact ⟨rfl, below_drewN ((Below.refl _ _).alloc (Nat.le_refl _) _) _⟩
theorem Rope.drew {w : World} {g : Nat} {t : Option Nd} (h : Rope w g t) (n : Nat) : Rope (w.drewN n) g t := h.below (below_drewN (Below.refl _ _) n)
theorem optEnds_le (t : Option Nd) : optEnds t ≤ optSize t := by cases t with | none => exact Nat.le_refl _ | some t => exact t.sh.ends_le
theorem lines_q (g : Nat) (t : Option Nd) (w : World) (h : Rope w g t) (hb : optSize t ≤ 1048576) (n : Nat) : Calls Try.prog 27 #[.pointer (some ⟨g, 0, none⟩)] (w.drewN n) fun e w' => e = .returned (.int .i64 ((optEnds t : Int) + 1)) ∧ w' = w.drewN n :=
  (lines_yes g t _ (h.drew n) (Nat.le_trans (optEnds_le t) hb)).mono fun _ _ h => ⟨h.1, h.2.symm⟩
theorem rope_at_l1 (g : Nat) (t : Option Nd) (l c : Int) (w : World) (h : Rope w g t) (hz : optSize t ≤ 1048576) (hl : 0 ≤ l) (hm : (optEnds t : Int) + 1 ≤ l) : Calls Try.prog 25 #[.pointer (some ⟨g, 0, none⟩), .agg #[.int .i64 l, .int .i64 c]] w fun e w' => e = .returned (.tuple #[.int .i64 0, .int .i64 4]) ∧ Below w.heap.size w w' := by
  have h1 := h.alloc (.cells #[.int .i64 l, .int .i64 c] 52)
  have ht := there_yes g t _ h1
  have hc := lines_q g t _ h1 hz
  have d1 : decide (l < 0) = false := decide_eq_false (by omega)
  generalize optEnds t = m at hc hm
  have d2 : decide ((m : Int) + 1 ≤ l) = true := decide_eq_true hm
  go_enter Try.func25, Try.ntmps25
  go_wp2_with (first | (go_at_call 48; refine ht.mono ?_; rintro e w1 ⟨rfl, rfl⟩))
  go_quiet ((go_at_call 27; go_loud (exact Calls.quiet_of_same (hc _))))
  go_wp2
  go_ret2
  exact ⟨rfl, below_drewN ((Below.refl _ _).alloc (Nat.le_refl _) _) _⟩
theorem rope_at_c0 (g : Nat) (t : Option Nd) (l c : Int) (w : World) (h : Rope w g t) (hz : optSize t ≤ 1048576) (hl : 0 ≤ l) (hm : l ≤ (optEnds t : Int)) (h0 : c < 0) : Calls Try.prog 25 #[.pointer (some ⟨g, 0, none⟩), .agg #[.int .i64 l, .int .i64 c]] w fun e w' => e = .returned (.tuple #[.int .i64 0, .int .i64 4]) ∧ Below w.heap.size w w' := by
  have h1 := h.alloc (.cells #[.int .i64 l, .int .i64 c] 52)
  have ht := there_yes g t _ h1
  have hc := lines_q g t _ h1 hz
  have d1 : decide (l < 0) = false := decide_eq_false (by omega)
  generalize optEnds t = m at hc hm
  have d2 : decide ((m : Int) + 1 ≤ l) = false := decide_eq_false (by omega)
  have d3 : decide (c < 0) = true := decide_eq_true h0
  go_enter Try.func25, Try.ntmps25
  go_wp2_with (first | (go_at_call 48; refine ht.mono ?_; rintro e w1 ⟨rfl, rfl⟩))
  go_quiet ((go_at_call 27; go_loud (exact Calls.quiet_of_same (hc _))))
  go_wp2
  go_ret2
  exact ⟨rfl, below_drewN ((Below.refl _ _).alloc (Nat.le_refl _) _) _⟩
theorem len_q (g : Nat) (t : Option Nd) (w : World) (h : Rope w g t) (n : Nat) : Calls Try.prog 29 #[.pointer (some ⟨g, 0, none⟩)] (w.drewN n) fun e w' => e = .returned (.int .i64 (optSize t)) ∧ w' = w.drewN n :=
  (len_yes g t _ (h.drew n)).mono fun _ _ h => ⟨h.1, h.2.symm⟩
theorem behind_q (g : Nat) (t : Option Nd) (k : Nat) (w : World) (h : Rope w g t) (hz : optSize t ≤ 1048576) (hk : k ≤ optEnds t) (n : Nat) : Calls Try.prog 54 #[optPtr t, .int .i64 k] (w.drewN n) fun e w' => e = .returned (.int .i64 (optBehindAt t k)) ∧ w' = w.drewN n :=
  (behind_opt t k _ (h.drew n).2 hz hk).mono fun _ _ h => ⟨h.1, h.2.symm⟩
/-- where a line ends, its line end not counted -/
def optTo (t : Option Nd) (l : Nat) : Int := if l < optEnds t then (optBehindAt t (l + 1) : Int) - 1 else optSize t
def optAt (t : Option Nd) (l c : Nat) : Int × Int := if optTo t l - optBehindAt t l < c then (0, 4) else ((optBehindAt t l : Int) + c, 0)
set_option maxHeartbeats 1000000 in
theorem rope_at_in (g : Nat) (t : Option Nd) (l c : Nat) (w : World) (h : Rope w g t) (hz : optSize t ≤ 1048576) (hm : l ≤ optEnds t) : Calls Try.prog 25 #[.pointer (some ⟨g, 0, none⟩), .agg #[.int .i64 l, .int .i64 c]] w fun e w' => e = .returned (.tuple #[.int .i64 (optAt t l c).1, .int .i64 (optAt t l c).2]) ∧ Below w.heap.size w w' := by
  have h1 := h.alloc (.cells #[.int .i64 l, .int .i64 c] 52)
  have b1 : Below w.heap.size w (w.alloc (.cells #[.int .i64 l, .int .i64 c] 52)) := (Below.refl _ _).alloc (Nat.le_refl _) _
  have l0 : (w.alloc (.cells #[.int .i64 l, .int .i64 c] 52)).cell? ⟨w.heap.size, 0, none⟩ = some (.int .i64 l) := by (unfold World.cell?; rw [alloc_here]; rfl)
  have l1 : (w.alloc (.cells #[.int .i64 l, .int .i64 c] 52)).cell? ⟨w.heap.size, 1, none⟩ = some (.int .i64 c) := by (unfold World.cell?; rw [alloc_here]; rfl)
  have ht := there_yes g t _ h1
  have hc := lines_q g t _ h1 hz
  have d1 : decide ((l : Int) < 0) = false := decide_eq_false (by omega)
  have d2 : decide ((optEnds t : Int) + 1 ≤ l) = false := decide_eq_false (by omega)
  have d3 : decide ((c : Int) < 0) = false := decide_eq_false (by omega)
  go_enter Try.func25, Try.ntmps25
  go_wp2_with (first | (go_at_call 48; refine ht.mono ?_; rintro e w1 ⟨rfl, rfl⟩))
  go_quiet ((go_at_call 27; go_loud (exact Calls.quiet_of_same (hc _))))
  clear ht hc
  generalize hw1 : World.drewN (w.alloc (.cells #[.int .i64 l, .int .i64 c] 52)) _ = w1
  have r1 : Rope w1 g t := hw1 ▸ h1.drew _
  have b2 : Below w.heap.size w w1 := hw1 ▸ below_drewN b1 _
  have l0 : w1.cell? ⟨w.heap.size, 0, none⟩ = some (.int .i64 l) := by rw [← hw1]; exact l0
  have l1 : w1.cell? ⟨w.heap.size, 1, none⟩ = some (.int .i64 c) := by rw [← hw1]; exact l1
  clear hw1
  have c1 := r1.c1
  have hlen := len_q g t w1 r1
  have hbe := behind_q g t l w1 r1 hz hm
  go_wp2
  go_quiet (first | (go_at_call 29; go_loud (exact Calls.quiet_of_same (hlen _))) | (go_at_call 54; go_loud (exact Calls.quiet_of_same (hbe _))))
  generalize hw2 : World.drewN w1 _ = w2
  have r2 : Rope w2 g t := hw2 ▸ r1.drew _
  have b3 : Below w.heap.size w w2 := hw2 ▸ below_drewN b2 _
  have m0 : w2.cell? ⟨w.heap.size, 0, none⟩ = some (.int .i64 l) := by rw [← hw2]; exact l0
  have m1 : w2.cell? ⟨w.heap.size, 1, none⟩ = some (.int .i64 c) := by rw [← hw2]; exact l1
  clear hw2 hlen hbe l0 l1 c1
  have hc2 := lines_q g t w2 r2 hz
  have w1' : IntKind.i64.wrap ((l : Int) + 1) = (l : Int) + 1 := IntWalk.i64_in _ (by have := optEnds_le t; omega)
  by_cases hlt : l < optEnds t
  · have d4 : decide ((l : Int) + 1 < (optEnds t : Int) + 1) = true := decide_eq_true (by omega)
    go_wp2
    go_quiet ((go_at_call 27; go_loud (exact Calls.quiet_of_same (hc2 _))))
    generalize hw3 : World.drewN w2 _ = w3
    have r3 : Rope w3 g t := hw3 ▸ r2.drew _
    have b4 : Below w.heap.size w w3 := hw3 ▸ below_drewN b3 _
    have n0 : w3.cell? ⟨w.heap.size, 0, none⟩ = some (.int .i64 l) := by rw [← hw3]; exact m0
    have n1 : w3.cell? ⟨w.heap.size, 1, none⟩ = some (.int .i64 c) := by rw [← hw3]; exact m1
    clear hw3 hc2 m0 m1
    have c3 := r3.c1
    have hbe3 := behind_q g t (l + 1) w3 r3 hz hlt
    have e : ((l + 1 : Nat) : Int) = (l : Int) + 1 := rfl
    rw [e] at hbe3
    have hx1 := optBehindAt_le t (l + 1)
    have hx2 := optBehindAt_le t l
    have w2' : IntKind.i64.wrap ((optBehindAt t (l + 1) : Int) - 1) = (optBehindAt t (l + 1) : Int) - 1 := IntWalk.i64_in _ (by omega)
    go_wp2
    go_quiet ((go_at_call 54; go_loud (exact Calls.quiet_of_same (hbe3 _))))
    generalize hw4 : World.drewN w3 _ = w4
    have b5 : Below w.heap.size w w4 := hw4 ▸ below_drewN b4 _
    have p1 : w4.cell? ⟨w.heap.size, 1, none⟩ = some (.int .i64 c) := by rw [← hw4]; exact n1
    clear hw4 hbe3
    by_cases hfar : (optBehindAt t (l + 1) : Int) - 1 - optBehindAt t l < c
    · have d5 : decide ((optBehindAt t (l + 1) : Int) - 1 - optBehindAt t l < (c : Int)) = true := decide_eq_true hfar
      have hv : optAt t l c = (0, 4) := by unfold optAt optTo; rw [if_pos hlt, if_pos hfar]
      go_wp2
      go_ret2
      exact ⟨by first | rfl | (rw [hv]; rfl), b5⟩
    · have d5 : decide ((optBehindAt t (l + 1) : Int) - 1 - optBehindAt t l < (c : Int)) = false := decide_eq_false hfar
      have hcb : (c : Int) ≤ 1048576 := by omega
      have hv : optAt t l c = ((optBehindAt t l : Int) + c, 0) := by unfold optAt optTo; rw [if_pos hlt, if_neg hfar]
      go_wp2
      go_ret2
      exact ⟨by first | rfl | (rw [hv]; rfl), b5⟩
  · have d4 : decide ((l : Int) + 1 < (optEnds t : Int) + 1) = false := decide_eq_false (by omega)
    go_wp2
    go_quiet ((go_at_call 27; go_loud (exact Calls.quiet_of_same (hc2 _))))
    generalize hw4 : World.drewN w2 _ = w4
    have b5 : Below w.heap.size w w4 := hw4 ▸ below_drewN b3 _
    have p1 : w4.cell? ⟨w.heap.size, 1, none⟩ = some (.int .i64 c) := by rw [← hw4]; exact m1
    clear hw4 hc2
    have hx2 := optBehindAt_le t l
    by_cases hfar : (optSize t : Int) - optBehindAt t l < c
    · have d5 : decide ((optSize t : Int) - optBehindAt t l < (c : Int)) = true := decide_eq_true hfar
      have hv : optAt t l c = (0, 4) := by unfold optAt optTo; rw [if_neg hlt, if_pos hfar]
      go_wp2
      go_ret2
      exact ⟨by first | rfl | (rw [hv]; rfl), b5⟩
    · have d5 : decide ((optSize t : Int) - optBehindAt t l < (c : Int)) = false := decide_eq_false hfar
      have hcb : (c : Int) ≤ 1048576 := by omega
      have hv : optAt t l c = ((optBehindAt t l : Int) + c, 0) := by unfold optAt optTo; rw [if_neg hlt, if_neg hfar]
      go_wp2
      go_ret2
      exact ⟨by first | rfl | (rw [hv]; rfl), b5⟩
end Go.Proofs.Ythjbkiomnipjiaa

namespace Go.Proofs.Ythjbkiomnipjiaa
open Go Go.RowKit Go.Shelf
set_option maxRecDepth 100000 in
theorem check_used (b : Nat) (w : World) (h0 : w.cell? ⟨b, 0, none⟩ = some (.pointer (some ⟨b, 0, none⟩))) :
    Calls Try.prog 63 #[.pointer (some ⟨b, 0, none⟩)] w fun e w' => e = .returned (.tuple #[]) ∧ w' = w := by
  obtain ⟨j, hj, _⟩ := Option.map_eq_some_iff.1 Try.Builder_Extra_169.sizeBuilder
  go_enter Try.func63, Try.ntmps63
  go_wp2
  rw [Lib.run_neq_ptr_same w _ Try.underlying83 hj]
  go_wp2
  go_end0
  exact ⟨rfl, rfl⟩
set_option maxRecDepth 100000 in
theorem check_fresh (b : Nat) (w : World) (h0 : w.cell? ⟨b, 0, none⟩ = some (.pointer none)) (hsh : w.shape? b = some (86, 2)) (hfz : w.frozen? ⟨b, 0, none⟩ = false) :
    Calls Try.prog 63 #[.pointer (some ⟨b, 0, none⟩)] w fun e w' => e = .returned (.tuple #[]) ∧ w' = w.setCell ⟨b, 0, none⟩ (.pointer (some ⟨b, 0, none⟩)) := by
  obtain ⟨j, hj, hjs⟩ := Option.map_eq_some_iff.1 Try.Builder_Extra_169.sizeBuilder
  go_enter Try.func63, Try.ntmps63
  go_wp2
  rw [Lib.run_to_unsafe w ⟨b, 0, none⟩ Try.underlying83 Try.underlying107 hj (by rw [hjs]; decide) hsh (Nat.zero_lt_succ 1)]
  simp only [Result.andThen]
  rw [Oper.upon_value]
  go_wp2
  rw [run_callFunc_extern Try.func68 (by kernel_rfl) (by kernel_rfl) (by kernel_rfl) (e := Extern.AbiNoEscape.same) (by kernel_rfl)]
  rw [Lib.run_noEscape]
  simp only [Result.andThen]
  rw [Oper.upon_value]
  go_wp2
  rw [Lib.run_from_unsafe w ⟨b, 0, none⟩ Try.underlying107 Try.underlying83 hj hsh Try.Builder_Extra_169.liesBuilder]
  simp only [Result.andThen]
  rw [Oper.upon_value]
  go_wp2
  go_end0
  exact ⟨rfl, rfl⟩
theorem check_any (B b : Nat) (bs : List Value) (w : World) (h : Lib.IsBuilder 86 5 B b bs w) :
    Calls Try.prog 63 #[.pointer (some ⟨b, 0, none⟩)] w fun e w' => e = .returned (.tuple #[]) ∧ (Lib.BuilderAt 86 5 B b (.pointer (some ⟨b, 0, none⟩)) bs w' ∧ Below B w w') := by
  rcases h with h | h
  · refine (check_fresh b w h.cell0 h.shape h.frozen0).mono ?_
    rintro e w' ⟨rfl, rfl⟩
    exact ⟨rfl, h.used _, (Below.refl B w).setCell (p := ⟨b, 0, none⟩) h.1 _⟩
  · refine (check_used b w h.cell0).mono ?_
    rintro e w' ⟨rfl, rfl⟩
    exact ⟨rfl, h, Below.refl B _⟩
set_option maxHeartbeats 2000000 in
set_option maxRecDepth 100000 in
theorem write_string (B b : Nat) (bs : List Value) (s : ByteArray) (w : World) (h : Lib.IsBuilder 86 5 B b bs w) (hlen : bs.length + s.size ≤ 140737488355328) (hBw : B ≤ w.heap.size) :
    Calls Try.prog 46 #[.pointer (some ⟨b, 0, none⟩), .string s] w fun e w' => e = .returned (.tuple #[.int .i64 s.size, .nilIface]) ∧ (Lib.BuilderAt 86 5 B b (.pointer (some ⟨b, 0, none⟩)) (bs ++ Lib.strCells s) w' ∧ Below B w w') := by
  obtain ⟨i0, hi, hz0, hz1, hz2⟩ := info_parts Try.Builder_Extra_169.infoByte
  go_enter Try.func46, Try.ntmps46
  go_wp2_with (go_at_call 63; refine (check_any B b bs _ h).mono ?_)
  rintro e w1 ⟨rfl, h1, hb1⟩
  obtain ⟨hB, v, hbk, hown, hne⟩ := h1
  have c0 : w1.cell? ⟨b, 0, none⟩ = some (.pointer (some ⟨b, 0, none⟩)) := by rw [Lib.cell_of_heap hbk]; rfl
  have c1 : w1.cell? ⟨b, 1, none⟩ = some v := by rw [Lib.cell_of_heap hbk]; rfl
  go_wp2_with (at_builtin; refine Lib.wpList_append_own_string _ rfl _ _ 84 9 rfl B 5 i0 Try.underlying84 Try.underlying9 hi hz0 hz1 hz2 _ _ _ rfl hown s rfl ?c3 ?c4 ?c5 ?_)
  case c3 => unfold maxLen; omega
  case c4 => omega
  case c5 => have := hb1.size; omega
  intro v' w2 hown' hgrow _
  have hlt : b < w1.heap.size := by
    rcases Nat.lt_or_ge b w1.heap.size with h' | h'
    · exact h'
    · simp [Array.getElem?_eq_none h'] at hbk
  have hb2 : w2.heap[b]? = some (.cells #[.pointer (some ⟨b, 0, none⟩), v] 86 (0, 0)) := by
    rw [hgrow.block b hlt (fun e => hne e.symm)]
    exact hbk
  have d0 : w2.cell? ⟨b, 0, none⟩ = some (.pointer (some ⟨b, 0, none⟩)) := by rw [Lib.cell_of_heap hb2]; rfl
  have d1 : w2.cell? ⟨b, 1, none⟩ = some v := by rw [Lib.cell_of_heap hb2]; rfl
  have f1 : w2.frozen? ⟨b, 1, none⟩ = false := Lib.frozen_of_heap hb2 1
  obtain ⟨ao, n', cap, rfl⟩ : ∃ ao n' cap, v' = .slice ao n' cap := by
    rcases hown'.2 with ⟨hv, _⟩ | ⟨g, cap, cur, hv, _⟩
    · exact ⟨_, _, _, hv⟩
    · exact ⟨_, _, _, hv⟩
  go_wp2
  go_ret2
  refine ⟨rfl, ?_, ?_⟩
  · exact Lib.BuilderAt.put (T := 86) (e := 5) hB hb2 (bs' := bs ++ Lib.strCells s) (by simpa [Lib.strCells_length] using hown') Try.Builder_Extra_169.neB5
  · exact (hb1.grown hgrow (by have := hb1.size; omega) (fun k hk => (hown.lt k hk).1)).setCell (p := ⟨b, 1, none⟩) hB _
end Go.Proofs.Ythjbkiomnipjiaa

namespace Go.Proofs.Ythjbkiomnipjiaa
open Go Go.RowKit Go.Shelf
/-- the bytes of some leaves -/
def lvBytes (d : List (Nat × ByteArray)) : List UInt8 := d.flatMap fun x => x.2.data.toList
theorem lvBytes_append (d e : List (Nat × ByteArray)) : lvBytes (d ++ e) = lvBytes d ++ lvBytes e := List.flatMap_append
def Few (d : List (Nat × ByteArray)) : Prop := (lvBytes d).length ≤ 1048576
theorem Few.of (d e : List (Nat × ByteArray)) (h : Few (d ++ e)) : Few d := by
  unfold Few at h ⊢
  rw [lvBytes_append, List.length_append] at h
  omega
/-- the builder in the block behind this world holds these leaves' bytes -/
def Holds (w0 : World) (d : List (Nat × ByteArray)) (w : World) : Prop := Lib.IsBuilder 86 5 w0.heap.size w0.heap.size (Lib.byteCells (lvBytes d)) w ∧ Below w0.heap.size w0 w
theorem text_keeps (w0 : World) : Keeps45 w0 (.pointer (some ⟨w0.heap.size, 0, none⟩)) Few (Holds w0) := by
  intro d b s w hd hp it
  have c2 : w.cell? ⟨b, 2, none⟩ = some (.string s) := (hd.2.cell (p := ⟨b, 2, none⟩) it.lt).trans it.c2
  have hl : (Lib.byteCells (lvBytes d)).length + s.size ≤ 140737488355328 := by
    unfold Few at hp
    rw [lvBytes_append, List.length_append] at hp
    rw [Lib.byteCells_length]
    have : (lvBytes [(b, s)]).length = s.size := by simp [lvBytes, ← ByteArray.size_data]
    omega
  have hw := write_string w0.heap.size w0.heap.size _ s w hd.1 hl hd.2.size
  go_enter Try.func45, Try.ntmps45
  go_wp2_with (go_at_call 46; refine hw.mono ?_; rintro e w1 ⟨rfl, h1, b1⟩)
  go_ret
  refine ⟨rfl, ?_, hd.2.trans b1⟩
  rw [lvBytes_append, Lib.byteCells_append]
  refine Or.inr ?_
  have e : lvBytes [(b, s)] = s.data.toList := by simp [lvBytes]
  rw [e, ← Lib.strCells_eq]
  exact h1
theorem each_none (f : Value) (w : World) : Calls Try.prog 44 #[.pointer none, f] w fun e w' => e = .returned (.bool true) ∧ w = w' := by
  go_enter Try.func44, Try.ntmps44
  go_wp2
  go_ret
  exact ⟨rfl, rfl⟩
def optLv (t : Option Nd) : List (Nat × ByteArray) := match t with | none => [] | some t => t.sh.lv
theorem text_yes (g : Nat) (t : Option Nd) (w : World) (h : Rope w g t) (hf : Few (optLv t)) :
    Calls Try.prog 17 #[.pointer (some ⟨g, 0, none⟩)] w fun e w' => e = .returned (.string ⟨(lvBytes (optLv t)).toArray⟩) ∧ Below w.heap.size w w' := by
  have h1 := h.alloc (.cells #[.pointer none, .slice none 0 0] 86)
  have ht := tree_yes g t _ h1
  have b1 : Below w.heap.size w (w.alloc (.cells #[.pointer none, .slice none 0 0] 86)) := (Below.refl _ _).alloc (Nat.le_refl _) _
  have i0 : Holds w [] (w.alloc (.cells #[.pointer none, .slice none 0 0] 86)) := ⟨Lib.fresh_isBuilder 86 5 w, b1⟩
  cases t with
  | none =>
    rw [optPtr_none] at ht
    have hs := Try.Builder_String_any w.heap.size w.heap.size [] (w.alloc (.cells #[.pointer none, .slice none 0 0] 86)) i0.1 b1.size
    go_enter Try.func17, Try.ntmps17
    go_wp2_with (first | (go_at_call 42; refine ht.mono ?_; rintro e w1 ⟨rfl, rfl⟩) | (go_at_call 44; refine (each_none _ _).mono ?_; rintro e w1 ⟨rfl, rfl⟩) | (go_at_call 47; refine hs.mono ?_; rintro e w3 ⟨rfl, b3⟩))
    go_ret
    exact ⟨rfl, b1.trans b3⟩
  | some t =>
    rw [optPtr_some] at ht
    have he := each45 w _ Few (Holds w) Few.of (fun d w h => h.2) (text_keeps w) t h.2 [] _ i0 hf
    go_enter Try.func17, Try.ntmps17
    go_wp2_with (first | (go_at_call 42; refine ht.mono ?_; rintro e w1 ⟨rfl, rfl⟩) | (go_at_call 44; refine he.mono ?_; rintro e w2 ⟨rfl, hi⟩) | (go_at_call 47; refine (Try.Builder_String_any w.heap.size w.heap.size _ _ hi.1 hi.2.size).mono ?_; rintro e w3 ⟨rfl, b3⟩))
    go_ret
    exact ⟨rfl, hi.2.trans b3⟩
end Go.Proofs.Ythjbkiomnipjiaa

namespace Go.Proofs.Ythjbkiomnipjiaa
open Go Go.RowKit Go.Shelf
theorem info71 : (Try.prog.info? 71).map (fun i => (i.zero, i.size, i.bytes)) = some (some (.pointer none), 1, 8) := by kernel_rfl
def lvPtrs (d : List (Nat × ByteArray)) : List Value := d.map fun x => .pointer (some ⟨x.1, 0, none⟩)
def NotMany (d : List (Nat × ByteArray)) : Prop := d.length ≤ 1048576
theorem NotMany.of (d e : List (Nat × ByteArray)) (h : NotMany (d ++ e)) : NotMany d := by
  unfold NotMany at h ⊢
  rw [List.length_append] at h
  omega
def Lists (w0 : World) (d : List (Nat × ByteArray)) (w : World) : Prop := ∃ v, w.heap[w0.heap.size]? = some (.cells #[v] 78 (0, 0)) ∧ w.ownsRow (w0.heap.size + 1) 71 1 v d.length (lvPtrs d) ∧ Below w0.heap.size w0 w
theorem list_keeps (w0 : World) : Keeps62 w0 (.pointer (some ⟨w0.heap.size, 0, none⟩)) NotMany (Lists w0) := by
  intro d b s w hd hp it
  obtain ⟨v, hv, hown, hb⟩ := hd
  have hp' : d.length + 1 ≤ 1048576 := by unfold NotMany at hp; simpa using hp
  obtain ⟨i0, hi, hz0, hz1, hz2⟩ := info_parts info71
  have c0 := cell_of_one hv
  have hlt : w0.heap.size < w.heap.size := (Array.getElem?_eq_some_iff.1 hv).1
  go_enter Try.func62, Try.ntmps62
  go_wp2_with (at_builtin; refine wpList_append_own _ rfl _ _ 78 rfl (w0.heap.size + 1) 71 i0 (.pointer none) 1 8 Try.underlying78 hi hz0 hz1 hz2 rfl (by decide) _ _ _ rfl (hown.alloc _) ⟨w.heap.size, 0, none⟩ 1 1 [.pointer (some ⟨b, 0, none⟩)] rfl rfl ?c1 ?c2 ?c3 ?c4 ?c5 ?_)
  case c1 =>
    intro j u hj
    match j, hj with
    | 0, hj => simp at hj; subst hj; simp [Addr.add]
  case c2 => intro u hu; simp at hu; subst hu; rfl
  case c3 => unfold maxLen; omega
  case c4 => omega
  case c5 => simp; omega
  intro v' w2 hown' hgrow _
  have hne : v.ownBlock ≠ some w0.heap.size := fun h => by have := (hown.lt _ h).1; omega
  have hv1 : (w.alloc (.cells #[.pointer (some ⟨b, 0, none⟩)] 71)).heap[w0.heap.size]? = some (.cells #[v] 78 (0, 0)) := (((Below.refl (w0.heap.size + 1) w).alloc (by omega) _).block _ (by omega)).trans hv
  have hv2 : w2.heap[w0.heap.size]? = some (.cells #[v] 78 (0, 0)) := (hgrow.block _ (by simp; omega) (fun h => hne h.symm)).trans hv1
  have c2 := cell_of_one hv2
  have f2 := free_of_one hv2
  have hb2 : Below w0.heap.size w0 w2 := (hb.alloc (by omega) _).grown hgrow (by simp; omega) (fun k hk => by have := (hown.lt k hk).1; omega)
  obtain ⟨ao, n', cap, rfl⟩ : ∃ ao n' cap, v' = .slice ao n' cap := by
    rcases hown'.2 with ⟨hv, _⟩ | ⟨g, cap, cur, hv, _⟩
    · exact ⟨_, _, _, hv⟩
    · exact ⟨_, _, _, hv⟩
  go_wp2
  go_ret
  refine ⟨rfl, _, one_setCell hv2, ?_, hb2.setCell (p := ⟨w0.heap.size, 0, none⟩) (Nat.le_refl _) _⟩
  have e1 : (d ++ [(b, s)]).length = d.length + 1 := by simp
  have e2 : lvPtrs (d ++ [(b, s)]) = lvPtrs d ++ [.pointer (some ⟨b, 0, none⟩)] := by simp [lvPtrs]
  rw [e1, e2]
  exact ownsRow_setCell_other hown' (fun h => by have := (hown'.lt _ h).1; simp at this; omega) _
theorem own_slice {w : World} {B : Nat} {T : TypeId} {z : Nat} {v : Value} {n : Nat} {xs : List Value} (h : w.ownsRow B T z v n xs) : ∃ ao n' cap, v = .slice ao n' cap := by
  rcases h.2 with ⟨hv, _⟩ | ⟨g, cap, cur, hv, _⟩
  · exact ⟨_, _, _, hv⟩
  · exact ⟨_, _, _, hv⟩
/-- a slice that holds the leaves' addresses -/
def Leavs (B : Nat) (w : World) (v : Value) (d : List (Nat × ByteArray)) : Prop := w.ownsRow B 71 1 v d.length (lvPtrs d)
theorem list_any (t : Option Nd) (w : World) (it : optIn w t) (hm : NotMany (optLv t)) :
    Calls Try.prog 41 #[optPtr t] w fun e w' => ∃ v, e = .returned v ∧ Leavs (w.heap.size + 1) w' v (optLv t) ∧ Below w.heap.size w w' := by
  have b1 : Below w.heap.size w (w.alloc (.cells #[.slice none 0 0] 78)) := (Below.refl _ _).alloc (Nat.le_refl _) _
  have i0 : Lists w [] (w.alloc (.cells #[.slice none 0 0] 78)) := ⟨_, alloc_here w _, World.ownsRow_nil _ _ _ _, b1⟩
  cases t with
  | none =>
    rw [optPtr_none]
    go_enter Try.func41, Try.ntmps41
    go_wp2_with (go_at_call 44; refine (each_none _ _).mono ?_; rintro e w1 ⟨rfl, rfl⟩)
    go_ret
    exact ⟨_, rfl, World.ownsRow_nil _ _ _ _, b1⟩
  | some t =>
    rw [optPtr_some]
    have he := each62 w _ NotMany (Lists w) NotMany.of (fun d w h => h.choose_spec.2.2) (list_keeps w) t it [] _ i0 hm
    go_enter Try.func41, Try.ntmps41
    go_wp2_with (go_at_call 44; refine he.mono ?_; rintro e w2 ⟨rfl, v, hv, ho, hb⟩; have c2 := cell_of_one hv; obtain ⟨ao, n', cap, rfl⟩ := own_slice ho)
    go_ret
    exact ⟨_, rfl, ho, hb⟩
end Go.Proofs.Ythjbkiomnipjiaa
