/- The law RopePlays, walked: it returns true, for every text and list of edits. -/
import Derived.Test.YthjbkiomnipjiaaRopeX
import Derived.Test.YthjbkiomnipjiaaGo
set_option linter.unusedVariables false
set_option linter.unusedSimpArgs false
namespace Go.Proofs.Ythjbkiomnipjiaa.Plays
open Go Go.RowKit Pl PAux
open Go.Proofs.YthjbkiomnipjiaaW.PrintWords (Kd rd)
theorem ed_at {w : World} {A : Option Addr} {l : List S36} {n : Nat} (h : Kd.C k36 w A l.length l) (hn : n < l.length) : ∃ ad, A = some ad ∧ w.cell? (ad.add (n * 3)) = some (.int .i64 (ed l n).f0) ∧ w.cell? ⟨(ad.add (n * 3)).block, (ad.add (n * 3)).off + 1, none⟩ = some (.int .i64 (ed l n).f1) ∧ w.cell? ⟨(ad.add (n * 3)).block, (ad.add (n * 3)).off + 2, none⟩ = some (.string (ed l n).f2) :=
  at_T36 h (n : Int) (by omega) (by omega)
theorem info22 : (Try.prog.info? 22).map (fun i => (i.zero, i.size, i.bytes)) = some (some (.pointer none), 1, 8) := by kernel_rfl
theorem own_typed {w : World} {B e z n : Nat} {v : Value} {xs : List Value} (h : w.ownsRow B e z v n xs) {k : Nat} (hk : v.ownBlock = some k) : ∃ cur, w.heap[k]? = some (.cells cur e (0, 0)) := by
  rcases h.2 with ⟨rfl, _⟩ | ⟨g, cap, cur, rfl, _, hg, _⟩
  · simp [Value.ownBlock] at hk
  · have : g = k := by simpa [Value.ownBlock] using hk
    subst this
    exact ⟨cur, hg⟩
theorem own_grown {w w' : World} {B e z n : Nat} {v : Value} {xs : List Value} (h : w.ownsRow B e z v n xs) {row : Option Nat} (hg : w.grownBy w' row) (hne : ∀ k, v.ownBlock = some k → some k ≠ row) : w'.ownsRow B e z v n xs := by
  refine ⟨h.1, ?_⟩
  rcases h.2 with hn | ⟨g, cap, cur, hv, hB, hb, rest⟩
  · exact .inl hn
  · exact .inr ⟨g, cap, cur, hv, hB, (hg.block g (Array.getElem?_eq_some_iff.1 hb).1 (hne g (by rw [hv]; rfl))).trans hb, rest⟩
theorem own_apart {w : World} {B B' e e' z z' n n' : Nat} {v u : Value} {xs ys : List Value} (h : w.ownsRow B e z v n xs) (h' : w.ownsRow B' e' z' u n' ys) (he : e ≠ e') : ∀ k, v.ownBlock = some k → some k ≠ u.ownBlock := by
  intro k hk hu
  obtain ⟨c, hc⟩ := own_typed h hk
  obtain ⟨c', hc'⟩ := own_typed h' hu.symm
  rw [hc] at hc'
  cases hc'
  exact he rfl
theorem nd_grown {w w' : World} {B e z n : Nat} {u : Value} {ys : List Value} (h' : w.ownsRow B e z u n ys) (he : e ≠ 82) (hg : w.grownBy w' u.ownBlock) : ∀ {t : Nd}, t.In w → t.In w' := by
  have key : ∀ (k : Nat) (cs : Array Value), w.heap[k]? = some (.cells cs 82 (0, 0)) → w'.heap[k]? = some (.cells cs 82 (0, 0)) := by
    intro k cs hk
    refine (hg.block k (Array.getElem?_eq_some_iff.1 hk).1 ?_).trans hk
    intro hu
    obtain ⟨c, hc⟩ := own_typed h' hu.symm
    rw [hk] at hc
    cases hc
    exact he rfl
  intro t
  induction t with
  | leaf b s => intro h; exact key b _ h
  | node b l r ihl ihr => intro h; exact ⟨key b _ h.1, ihl h.2.1, ihr h.2.2⟩
theorem rope_grown {w w' : World} {B e z n : Nat} {u : Value} {ys : List Value} (h' : w.ownsRow B e z u n ys) (he : e ≠ 82) (he' : e ≠ 73) (hg : w.grownBy w' u.ownBlock) {g : Nat} {t : Option Nd} (h : Rope w g t) : Rope w' g t := by
  refine ⟨?_, ?_⟩
  · refine (hg.block g h.lt ?_).trans h.1
    intro hu
    obtain ⟨c, hc⟩ := own_typed h' hu.symm
    rw [h.1] at hc
    cases hc
    exact he' rfl
  · have := h.2
    cases t with
    | none => trivial
    | some t => exact nd_grown h' he hg this
structure PInv (w wr : World) (X : ByteArray) (g : Nat) (t : Option Nd) (v7 v8 : Value) (ds : List (Nat × ByteArray)) : Prop where
  low : Below w.heap.size w wr
  rope : Rope wr g t
  good : Good X t
  fits : X.size ≤ 65536
  r7 : wr.ownsRow w.heap.size 22 1 v7 ds.length (lvPtrs ds)
  r8 : wr.ownsRow w.heap.size 9 1 v8 ds.length (lvTexts ds)
  all : ∀ y ∈ ds, ∃ u, Rope wr y.1 u ∧ Good y.2 u ∧ y.2.size ≤ 65536
theorem PInv.below {w wr w' : World} {X : ByteArray} {g : Nat} {t : Option Nd} {v7 v8 : Value} {ds : List (Nat × ByteArray)} (h : PInv w wr X g t v7 v8 ds) (hb : Below wr.heap.size wr w') : PInv w w' X g t v7 v8 ds :=
  ⟨h.low.trans (hb.mono h.low.size), h.rope.below hb, h.good, h.fits, own_below h.r7 hb, own_below h.r8 hb, fun y hy => by obtain ⟨u, h1, h2⟩ := h.all y hy; exact ⟨u, h1.below hb, h2⟩⟩
set_option maxRecDepth 100000 in
set_option maxHeartbeats 4000000 in
theorem plays_long (x : ByteArray) (A : Option Addr) (n cap : Nat) (w : World) (hx : 65536 < x.size) : Calls Try.prog 9 #[.string x, .slice A n cap] w (AllTrue w) := by
  go_enter Try.func9, Try.ntmps9
  go_wp2_with (first
    | (go_at_call 12; (with_reducible refine (new_long x _ hx).mono ?_); rintro en w1 ⟨rfl, rfl⟩)
    | (go_at_call 13; (with_reducible refine (alive_yes _).mono ?_); rintro en w4 ⟨rfl, b4⟩))
  go_ret
  exact ⟨rfl, b4⟩
set_option maxRecDepth 100000 in
set_option maxHeartbeats 4000000 in
theorem plays_big (x : ByteArray) (A : Option Addr) (n cap : Nat) (w : World) (hx : x.size ≤ 65536) (h : 60 < n ∨ 3000 < x.size) : Calls Try.prog 9 #[.string x, .slice A n cap] w (AllTrue w) := by
  by_cases h1 : 60 < n
  · have d1 : decide (60 < n) = true := decide_eq_true h1
    have d1' : decide ((60 : Int) < (n : Int)) = true := decide_eq_true (by omega)
    go_enter Try.func9, Try.ntmps9
    go_wp2_with (first
      | (go_at_call 12; (with_reducible refine (new_g x _ hx).mono ?_); rintro en w3 ⟨g, t, rfl, hr, q, _, b3⟩)
      | (go_at_call 13; (with_reducible refine (alive_yes _).mono ?_); rintro en w4 ⟨rfl, b4⟩))
    go_ret
    exact ⟨rfl, b3.trans (b4.mono b3.size)⟩
  · have d1 : decide (60 < n) = false := decide_eq_false h1
    have d1' : decide ((60 : Int) < (n : Int)) = false := decide_eq_false (by omega)
    have d2 : decide (3000 < x.size) = true := decide_eq_true (by omega)
    have d2' : decide ((3000 : Int) < (x.size : Int)) = true := decide_eq_true (by omega)
    go_enter Try.func9, Try.ntmps9
    go_wp2_with (first
      | (go_at_call 12; (with_reducible refine (new_g x _ hx).mono ?_); rintro en w3 ⟨g, t, rfl, hr, q, _, b3⟩)
      | (go_at_call 13; (with_reducible refine (alive_yes _).mono ?_); rintro en w4 ⟨rfl, b4⟩))
    go_ret
    exact ⟨rfl, b3.trans (b4.mono b3.size)⟩
theorem start {w w1 : World} {x : ByteArray} {g : Nat} {t : Option Nd} (b1 : Below w.heap.size w w1) (hr : Rope w1 g t) (q : Good x t) (hx : x.size ≤ 65536) :
    PInv w ((w1.alloc (.cells #[.pointer (some ⟨g, 0, none⟩)] 22)).alloc (.cells #[.string x] 9)) x g t (.slice (some ⟨w1.heap.size, 0, none⟩) 1 1) (.slice (some ⟨w1.heap.size + 1, 0, none⟩) 1 1) [(g, x)] := by
  have z1 := size_al w1 (.cells #[.pointer (some ⟨g, 0, none⟩)] 22)
  have b2 := below_al w1 (.cells #[.pointer (some ⟨g, 0, none⟩)] 22)
  have b3 := below_al (w1.alloc (.cells #[.pointer (some ⟨g, 0, none⟩)] 22)) (.cells #[.string x] 9)
  have b := b2.trans (b3.mono b2.size)
  have s1 := b1.size
  refine ⟨b1.trans (b.mono b1.size), hr.below b, q, hx, ?_, ?_, ?_⟩
  · refine ⟨rfl, Or.inr ⟨w1.heap.size, 1, #[.pointer (some ⟨g, 0, none⟩)], rfl, s1, ?_, Nat.le_refl _, by unfold maxLen; omega, rfl, rfl⟩⟩
    rw [b3.block w1.heap.size (by omega)]
    exact alloc_here w1 _
  · refine ⟨rfl, Or.inr ⟨w1.heap.size + 1, 1, #[.string x], rfl, by omega, ?_, Nat.le_refl _, by unfold maxLen; omega, rfl, rfl⟩⟩
    rw [← z1]
    exact alloc_here _ _
  · intro y hy
    have : y = (g, x) := by simpa using hy
    subst this
    exact ⟨t, hr.below b, q, hx⟩
/-- both lists with the new rope and its text put behind -/
theorem PInv.put {w w11 w12 w13 : World} {X Y : ByteArray} {g g6 : Nat} {t t6 : Option Nd} {v7 v8 v7' v8' : Value} {ds : List (Nat × ByteArray)} (I : PInv w w11 X g t v7 v8 ds) (hr : Rope w11 g6 t6) (q6 : Good Y t6) (hY : Y.size ≤ 65536)
    (o7 : w12.ownsRow w.heap.size 22 1 v7' (ds.length + 1) (lvPtrs ds ++ [.pointer (some ⟨g6, 0, none⟩)])) (h7 : (w11.alloc (.cells #[.pointer (some ⟨g6, 0, none⟩)] 22)).grownBy w12 v7.ownBlock)
    (o8 : w13.ownsRow w.heap.size 9 1 v8' (ds.length + 1) (lvTexts ds ++ [.string Y])) (h8 : (w12.alloc (.cells #[.string Y] 9)).grownBy w13 v8.ownBlock) (m8 : w12.ownsRow w.heap.size 9 1 v8 ds.length (lvTexts ds)) :
    PInv w w13 Y g6 t6 v7' v8' (ds ++ [(g6, Y)]) := by
  have J := I.below (below_al w11 (.cells #[.pointer (some ⟨g6, 0, none⟩)] 22))
  have hr1 := hr.below (below_al w11 (.cells #[.pointer (some ⟨g6, 0, none⟩)] 22))
  have hr2 := rope_grown J.r7 (by decide) (by decide) h7 hr1
  have hr3 := hr2.below (below_al w12 (.cells #[.string Y] 9))
  have m8' := own_below m8 (below_al w12 (.cells #[.string Y] 9))
  have hr4 := rope_grown m8' (by decide) (by decide) h8 hr3
  have L1 : Below w.heap.size w w12 := J.low.grown h7 J.low.size (fun k hk => (J.r7.lt k hk).1)
  have L2 : Below w.heap.size w (w12.alloc (.cells #[.string Y] 9)) := L1.alloc L1.size _
  have L3 : Below w.heap.size w w13 := L2.grown h8 L2.size (fun k hk => (m8'.lt k hk).1)
  have el : (ds ++ [(g6, Y)]).length = ds.length + 1 := by simp
  have e7 : lvPtrs (ds ++ [(g6, Y)]) = lvPtrs ds ++ [.pointer (some ⟨g6, 0, none⟩)] := by simp [lvPtrs]
  have e8 : lvTexts (ds ++ [(g6, Y)]) = lvTexts ds ++ [.string Y] := by simp [lvTexts]
  refine ⟨L3, hr4, q6, hY, ?_, ?_, ?_⟩
  · rw [el, e7]
    have o7' := own_below o7 (below_al w12 (.cells #[.string Y] 9))
    exact own_grown o7' h8 (own_apart o7' m8' (by decide))
  · rw [el, e8]
    exact o8
  · intro y hy
    rcases List.mem_append.1 hy with hy | hy
    · obtain ⟨u, h1, h2⟩ := J.all y hy
      have h3 := rope_grown J.r7 (by decide) (by decide) h7 h1
      exact ⟨u, rope_grown m8' (by decide) (by decide) h8 (h3.below (below_al w12 _)), h2⟩
    · have : y = (g6, Y) := by simpa using hy
      subst this
      exact ⟨t6, hr4, q6, hY⟩
set_option maxRecDepth 100000 in
set_option maxHeartbeats 16000000 in
theorem plays_main (x : ByteArray) (A : Option Addr) (l : List S36) (cap : Nat) (w : World) (hx : x.size ≤ 3000) (hl : l.length ≤ 60) (hA : Kd.C k36 w A l.length l) (hcap : l.length ≤ cap) : Calls Try.prog 9 #[.string x, .slice A l.length cap] w (AllTrue w) := by
  have hx' : x.size ≤ 65536 := by omega
  have d1 : decide (3000 < x.size) = false := decide_eq_false (by omega)
  have d1' : decide ((3000 : Int) < (x.size : Int)) = false := decide_eq_false (by omega)
  have d2 : decide (60 < l.length) = false := decide_eq_false (by omega)
  have d2' : decide ((60 : Int) < (l.length : Int)) = false := decide_eq_false (by omega)
  obtain ⟨i0, hi, hz0, hz1, hz2⟩ := info_parts info22
  obtain ⟨i9, hi9, hy0, hy1, hy2⟩ := info_parts info9
  go_enter Try.func9, Try.ntmps9
  go_wp2_with (first
    | (go_at_call 12; (with_reducible refine (new_g x _ hx').mono ?_); rintro en w3 ⟨g0, t0, rfl, hr0, q0, _, b3⟩))
  clear d1 d1' d2 d2'
  have I0 := start b3 hr0 q0 hx'
  go_loopg [0, 5, 7, 8, 9] l.length (fun gk s r v7 v8 i wr => ∃ (n g : Nat) (t : Option Nd) (X : ByteArray) (ds : List (Nat × ByteArray)), i = .int .i64 n ∧ r = .pointer (some ⟨g, 0, none⟩) ∧ s = .string X ∧ Kept (n + gk = l.length ∧ ds.length ≤ n + 1) ∧ Kept (PInv w wr X g t v7 v8 ds))
  case atStart => exact ⟨0, g0, t0, x, [(g0, x)], rfl, rfl, rfl, ⟨by omega, Nat.le_refl _⟩, ⟨I0⟩⟩
  case round =>
    obtain ⟨n, g, t, X, ds, rfl, rfl, rfl, hn, hI⟩ := hrel
    obtain ⟨hn', hdl⟩ := hn.out
    have I := hI.out
    obtain ⟨a7, n7, c7, rfl⟩ := own_slice I.r7
    obtain ⟨a8, n8, c8, rfl⟩ := own_slice I.r8
    by_cases hlt : n < l.length
    · have e1 : decide (n < l.length) = true := decide_eq_true hlt
      have e1' : decide ((n : Int) < (l.length : Int)) = true := decide_eq_true (by omega)
      have CA := Lib.hid (fun w' (hb : Below w.heap.size w w') => ed_at (Kd.C_below hA hb) hlt)
      obtain ⟨ad, hAd, k0, k1, k2⟩ := CA.out wr I.low
      subst hAd
      have nz : n < 2097152 := by omega
      generalize ed l n = u at *
      by_cases hbig : 3000 < u.f2.size
      · have e3 : decide (3000 < u.f2.size) = true := decide_eq_true hbig
        have e3' : decide ((3000 : Int) < (u.f2.size : Int)) = true := decide_eq_true (by omega)
        go_wp2
        go_roundg (gk - 1)
        case measure => omega
        case rel => exact ⟨n + 1, g, t, X, ds, rfl, rfl, rfl, ⟨by omega, by omega⟩, ⟨I⟩⟩
      · have e3 : decide (3000 < u.f2.size) = false := decide_eq_false hbig
        have e3' : decide ((3000 : Int) < (u.f2.size : Int)) = false := decide_eq_false (by omega)
        have hap := fun w => refApply_g X u.f0 u.f1 u.f2 w
        rw [ans_er] at hap
        by_cases hc : er1 X u = 0
        · have hsp := fun (w : World) (h : Rope w g t) => splice_g h I.good u.f0 u.f1 u.f2 (show chk X.size u.f0 u.f1 u.f2.size = 0 from hc)
          rw [← tx1_ok hc] at hsp
          rw [ans_ok hc, hc] at hap
          have hts := tx1_size (e := u) I.fits
          generalize tx1 X u = Y at *
          go_wp2_with (first
            | (go_at_call 18; (with_reducible refine (hsp _ I.rope).mono ?_); rintro en w6 ⟨g6, t6, rfl, hr6, q6, _, b6⟩; have I6 := I.below b6; obtain ⟨ad6, h6, k0, k1, k2⟩ := CA.out w6 I6.low; cases h6)
            | (go_at_call 30; (with_reducible refine (hap _).mono ?_); rintro en w7 ⟨rfl, b7⟩; have I7 := I6.below b7; have hr7 := hr6.below b7)
            | (go_at_call 14; (with_reducible refine (right_yes _ hr7 q6 hts).mono ?_); rintro en w8 ⟨rfl, b8⟩; have I8 := I7.below b8; have hr8 := hr7.below b8; obtain ⟨ad8, h8, k0, k1, k2⟩ := CA.out w8 I8.low; cases h8)
            | (go_at_call 31; (with_reducible refine (asked_yes _ hr8 q6 hts u.f0).mono ?_); rintro en w9 ⟨rfl, b9⟩; have I9 := I8.below b9; have hr9 := hr8.below b9)
            | (go_at_call 31; (with_reducible refine (asked_yes _ hr9 q6 hts _).mono ?_); rintro en w10 ⟨rfl, b10⟩; have I10 := I9.below b10; have hr10 := hr9.below b10)
            | (go_at_call 31; (with_reducible refine (asked_yes _ hr10 q6 hts _).mono ?_); rintro en w11 ⟨rfl, b11⟩; have I11 := I10.below b11; have hr11 := hr10.below b11)
            | (at_builtin; refine wpList_append_own _ rfl _ _ 65 rfl w.heap.size 22 i0 (.pointer none) 1 8 Try.underlying65 hi hz0 hz1 hz2 rfl (by decide) _ _ _ rfl (I11.r7.alloc _) ⟨w11.heap.size, 0, none⟩ 1 1 [.pointer (some ⟨g6, 0, none⟩)] rfl rfl ?c1 ?c2 ?c3 ?c4 ?c5 ?_))
          case c1 =>
            intro j u hj
            match j, hj with
            | 0, hj => simp at hj; subst hj; simp [Addr.add]
          case c2 => intro u hu; simp at hu; subst hu; rfl
          case c3 => unfold maxLen; omega
          case c4 => omega
          case c5 => have := I11.low.size; simp; omega
          intro v7' w12 o7 h7 _
          have J := I11.below (below_al w11 (.cells #[.pointer (some ⟨g6, 0, none⟩)] 22))
          have m8 := own_grown J.r8 h7 (own_apart J.r8 J.r7 (by decide))
          have L12 : Below w.heap.size w w12 := J.low.grown h7 J.low.size (fun k hk => (J.r7.lt k hk).1)
          obtain ⟨A7, N7, C7, rfl⟩ := own_slice o7
          go_wp2_with (at_builtin; refine wpList_append_own _ rfl _ _ 28 rfl w.heap.size 9 i9 (.string ⟨#[]⟩) 1 16 Try.underlying28 hi9 hy0 hy1 hy2 rfl (by decide) _ _ _ rfl (m8.alloc _) ⟨w12.heap.size, 0, none⟩ 1 1 [.string Y] rfl rfl ?c1 ?c2 ?c3 ?c4 ?c5 ?_)
          case c1 =>
            intro j u hj
            match j, hj with
            | 0, hj => simp at hj; subst hj; simp [Addr.add]
          case c2 => intro u hu; simp at hu; subst hu; rfl
          case c3 => unfold maxLen; omega
          case c4 => omega
          case c5 => have := L12.size; simp; omega
          intro v8' w13 o8 h8 _
          have I13 := I11.put hr11 q6 hts o7 h7 o8 h8 m8
          obtain ⟨A8, N8, C8, rfl⟩ := own_slice o8
          go_wp2
          go_roundg (gk - 1)
          case measure => omega
          case rel => exact ⟨n + 1, g6, t6, Y, ds ++ [(g6, Y)], rfl, rfl, rfl, ⟨by omega, by simp; omega⟩, ⟨I13⟩⟩
        · have hsp : ∀ (w : World), Rope w g t → Calls Try.prog 18 #[.pointer (some ⟨g, 0, none⟩), .agg #[.int .i64 u.f0, .int .i64 u.f1, .string u.f2]] w fun en w' => en = .returned (.tuple #[.pointer none, .int .i64 (er1 X u)]) ∧ Below w.heap.size w w' := fun w h => splice_bad_g h I.good u.f0 u.f1 u.f2 hc
          have hbne : (er1 X u != 0) = true := bne_iff_ne.2 hc
          generalize er1 X u = C at *
          go_wp2_with (first
            | (go_at_call 18; (with_reducible refine (hsp _ I.rope).mono ?_); rintro en w6 ⟨rfl, b6⟩; have I6 := I.below b6; obtain ⟨ad6, h6, k0, k1, k2⟩ := CA.out w6 I6.low; cases h6)
            | (go_at_call 30; (with_reducible refine (hap _).mono ?_); rintro en w7 ⟨rfl, b7⟩; have I7 := I6.below b7))
          go_roundg (gk - 1)
          case measure => omega
          case rel => exact ⟨n + 1, g, t, X, ds, rfl, rfl, rfl, ⟨by omega, by omega⟩, ⟨I7⟩⟩
    · have e1 : decide (n < l.length) = false := decide_eq_false hlt
      have e1' : decide ((n : Int) < (l.length : Int)) = false := decide_eq_false (by omega)
      have hn7 : n7 = ds.length := by
        rcases I.r7.2 with ⟨hv, h0⟩ | ⟨_, _, _, hv, _⟩
        · simp only [Value.slice.injEq] at hv
          omega
        · simp only [Value.slice.injEq] at hv
          exact hv.2.1
      subst hn7
      have hdz : ds.length ≤ 61 := by omega
      clear hn hI hA
      go_wp2
      have hn8 : n8 = ds.length := by
        rcases I.r8.2 with ⟨hv, h0⟩ | ⟨_, _, _, hv, _⟩
        · simp only [Value.slice.injEq] at hv
          omega
        · simp only [Value.slice.injEq] at hv
          exact hv.2.1
      subst hn8
      go_loopg [14] ds.length (fun gj i w5 => ∃ j : Nat, i = .int .i64 j ∧ Kept (j + gj = ds.length) ∧ Kept (PInv w w5 X g t (.slice a7 ds.length c7) (.slice a8 ds.length c8) ds))
      case atStart => exact ⟨0, rfl, ⟨by omega⟩, ⟨I⟩⟩
      case round =>
        clear I
        obtain ⟨j, rfl, hj, hI⟩ := hrel
        have hj' := hj.out
        have I := hI.out
        by_cases hlt : j < ds.length
        · have e1 : decide (j < ds.length) = true := decide_eq_true hlt
          have e1' : decide ((j : Int) < (ds.length : Int)) = true := decide_eq_true (by omega)
          obtain ⟨b7, cc7, hv7, _, lt7, _, rd7⟩ := own_read I.r7 (by omega)
          obtain ⟨b8, cc8, hv8, _, lt8, _, rd8⟩ := own_read I.r8 (by omega)
          simp only [Value.slice.injEq] at hv7 hv8
          obtain ⟨rfl, -, -⟩ := hv7
          obtain ⟨rfl, -, -⟩ := hv8
          have c0 : wr.cell? ⟨b7, j, none⟩ = some (.pointer (some ⟨(ds[j]).1, 0, none⟩)) := by
            rw [rd7 j hlt]
            simp [lvPtrs, hlt]
          have c1 : wr.cell? ⟨b8, j, none⟩ = some (.string (ds[j]).2) := by
            rw [rd8 j hlt]
            simp [lvTexts, hlt]
          obtain ⟨u, hu, qu, zu⟩ := I.all _ (List.getElem_mem hlt)
          clear rd7 rd8
          generalize ds[j] = y at *
          have jz : j < 2097152 := by omega
          have bd : Below wr.heap.size wr wr.drew := (Below.refl _ _).drew
          have hri := right_yes _ (hu.below bd) qu zu
          have C0 := Lib.hid c0
          have C1 := Lib.hid c1
          go_wp2
          go_region_held3 (fun w' => w'.cell? ⟨b7, j, none⟩ = some (.pointer (some ⟨y.1, 0, none⟩)) ∧ w'.cell? ⟨b8, j, none⟩ = some (.string y.2))
            (first
              | exact ⟨c0, c1⟩
              | exact ⟨((bd.trans b9).cell (p := ⟨b7, j, none⟩) lt7).trans C0.out, ((bd.trans b9).cell (p := ⟨b8, j, none⟩) lt8).trans C1.out⟩
              | fail)
            (first
              | ((with_reducible refine hri.mono ?_)
                 rintro en w9 ⟨rfl, b9⟩)
              | fail)
          all_goals
            go_wp2
            go_roundg (gk - 1)
            case measure => omega
            case rel => exact ⟨j + 1, rfl, ⟨by omega⟩, ⟨I.below (bd.trans b9)⟩⟩
        · have e1 : decide (j < ds.length) = false := decide_eq_false hlt
          have e1' : decide ((j : Int) < (ds.length : Int)) = false := decide_eq_false (by omega)
          go_wp2_with (first
            | (go_at_call 13; (with_reducible refine (alive_yes _).mono ?_); rintro en w15 ⟨rfl, b15⟩))
          go_ret
          exact ⟨rfl, I.low.trans (b15.mono I.low.size)⟩
end Go.Proofs.Ythjbkiomnipjiaa.Plays
namespace Go.Proofs.Ythjbkiomnipjiaa
open Go Go.RowKit PAux
open Go.Proofs.YthjbkiomnipjiaaW.PrintWords (Kd)
/-- RopePlays returns true, whatever it is asked. -/
theorem law_plays (x : ByteArray) (A : Option Addr) (cap : Nat) (l : List S36) (w : World) (hA : Kd.C k36 w A l.length l) (hcap : l.length ≤ cap) : Calls Try.prog 9 #[.string x, .slice A l.length cap] w (AllTrue w) := by
  by_cases h0 : 65536 < x.size
  · exact Plays.plays_long x A _ cap w h0
  · by_cases h1 : 60 < l.length ∨ 3000 < x.size
    · exact Plays.plays_big x A _ cap w (by omega) h1
    · exact Plays.plays_main x A l cap w (by omega) (by omega) hA hcap
end Go.Proofs.Ythjbkiomnipjiaa
