/- The laws' right, walked: the leaves of a rope are its text's, and it is no higher than may be. -/
import Derived.Test.YthjbkiomnipjiaaRx3
set_option linter.unusedVariables false
set_option linter.unusedSimpArgs false
namespace Go.Proofs.Ythjbkiomnipjiaa
open Go Go.RowKit Pl
open Go.Proofs.YthjbkiomnipjiaaW.PrintWords (Drawn0)
/-- how many bytes the first leaves have -/
def pre (d : List (Nat × ByteArray)) (k : Nat) : Nat := (lvBytes (d.take k)).length
theorem pre_zero (d : List (Nat × ByteArray)) : pre d 0 = 0 := rfl
theorem lvBytes_one (x : Nat × ByteArray) : lvBytes [x] = x.2.data.toList := by simp [lvBytes]
theorem pre_succ (d : List (Nat × ByteArray)) (k : Nat) (h : k < d.length) : pre d (k + 1) = pre d k + (d[k]).2.size := by
  unfold pre
  rw [List.take_succ_eq_append_getElem h, lvBytes_append, List.length_append, lvBytes_one, Array.length_toList]
  rfl
theorem pre_all (d : List (Nat × ByteArray)) (x : ByteArray) (hd : lvBytes d = x.data.toList) : pre d d.length = x.size := by
  unfold pre
  rw [List.take_length, hd, Array.length_toList]
  rfl
theorem pre_le (d : List (Nat × ByteArray)) (x : ByteArray) (hd : lvBytes d = x.data.toList) (k : Nat) : pre d k ≤ x.size := by
  have h := congrArg lvBytes (List.take_append_drop k d)
  rw [lvBytes_append, hd] at h
  have := congrArg List.length h
  rw [List.length_append] at this
  have hz : x.data.toList.length = x.data.size := Array.length_toList
  show (lvBytes (d.take k)).length ≤ x.data.size
  omega
theorem pre_cut (d : List (Nat × ByteArray)) (x : ByteArray) (hd : lvBytes d = x.data.toList) (k : Nat) (h : k < d.length) : x.extract (pre d k) (pre d k + (d[k]).2.size) = (d[k]).2 := by
  have e : x.data.toList = lvBytes (d.take k) ++ ((d[k]).2.data.toList ++ lvBytes (d.drop (k + 1))) := by
    rw [← hd, ← lvBytes_one, ← lvBytes_append, ← lvBytes_append]
    congr 1
    rw [List.singleton_append, ← List.drop_eq_getElem_cons h, List.take_append_drop]
  have hs : (d[k]).2.data.toList.length = (d[k]).2.size := by rw [Array.length_toList]; rfl
  have : (x.extract (pre d k) (pre d k + (d[k]).2.size)).data.toList = (d[k]).2.data.toList := by
    rw [cutB_extract, e]
    unfold cutB pre
    generalize lvBytes (d.take k) = a
    generalize lvBytes (d.drop (k + 1)) = c
    rw [← hs]
    generalize (d[k]).2.data.toList = b
    rw [List.take_append, List.take_of_length_le (by omega), Nat.add_sub_cancel_left, List.drop_append, List.drop_eq_nil_of_le (Nat.le_refl _), Nat.sub_self, List.take_append_of_le_length (Nat.le_refl _), List.take_length]
    rfl
  rw [← ba_toList (x.extract _ _), this, ba_toList]
theorem Sh.high_zero : ∀ t : Sh, t.height = 0 ↔ t.leaves = 1
  | .leaf _ _ => ⟨fun _ => rfl, fun _ => rfl⟩
  | .node l r => by
    have h1 := l.leaves_pos
    have h2 := r.leaves_pos
    have e : (Sh.node l r).height = 1 + max l.height r.height := rfl
    have e2 : (Sh.node l r).leaves = l.leaves + r.leaves := rfl
    omega
theorem Good.high {x : ByteArray} {t : Option Nd} (q : Good x t) : ((optLv t).length = 0 ∧ optHeight t = 0) ∨ ((optLv t).length = 1 ∧ optHeight t = 0) ∨ (2 ≤ (optLv t).length ∧ 1 ≤ optHeight t ∧ optHeight t ≤ 2 * bits (optLv t).length) := by
  have hb := q.bal
  cases t with
  | none => exact Or.inl ⟨rfl, rfl⟩
  | some t =>
    have h1 := Sh.high_bits _ t.sh (Nat.le_refl _) hb
    have h2 := Sh.lv_length t.sh
    have h3 := Sh.high_zero t.sh
    have h4 := t.sh.leaves_pos
    refine Or.inr ?_
    show (t.sh.lv.length = 1 ∧ t.sh.height = 0) ∨ (2 ≤ t.sh.lv.length ∧ 1 ≤ t.sh.height ∧ t.sh.height ≤ 2 * bits t.sh.lv.length)
    rw [h2]
    omega
theorem run_cut_y {s y : ByteArray} {P : Nat} (hc : s.extract P (P + y.size) = y) (hy : P + y.size ≤ s.size) (w : World) : (Instr.slice 9 (.string s) (some (.int .i64 P)) (some (.int .i64 ((P : Int) + (y.size : Int)))) none).run Try.prog w = .ok (.string y) w := by
  have := run_cut s P (P + y.size) (Nat.le_add_right _ _) hy w
  rw [hc] at this
  exact this
set_option maxRecDepth 100000 in
set_option maxHeartbeats 8000000 in
theorem right_yes {x : ByteArray} {t : Option Nd} {g : Nat} (w : World) (h : Rope w g t) (q : Good x t) (hx : x.size ≤ 65536) : Calls Try.prog 14 #[.pointer (some ⟨g, 0, none⟩), .string x] w (AllTrue w) := by
  have hl := leaves_g h q hx
  have hb := q.bytes
  have hm := q.many hx
  have hok : ∀ y ∈ optLv t, 1 ≤ y.2.size ∧ y.2.size ≤ 64 := by
    have := q.ok
    cases t with
    | none => intro y hy; cases hy
    | some t => exact Sh.lv_ok t.sh this
  have hd : (optLv t).length ≤ 1048576 := hm
  go_enter Try.func14, Try.ntmps14
  go_wp2_with (first | (go_at_call 15; (with_reducible refine hl.mono ?_); rintro en w1 ⟨v, rfl, ho, b1⟩; obtain ⟨ao, n', cap, rfl⟩ := own_slice ho))
  have hlen : n' = (optLv t).length := by
    rcases ho.2 with ⟨hv, h0⟩ | ⟨_, _, _, hv, _⟩
    · cases hv; exact h0.symm
    · cases hv; rfl
  subst hlen
  go_loopg [6, 7] (optLv t).length (fun gk a i wr => ∃ k : Nat, i = .int .i64 k ∧ a = .int .i64 (pre (optLv t) k) ∧ Kept (k + gk = (optLv t).length) ∧ Kept (∃ n, wr = w1.drewN n))
  case atStart => exact ⟨0, rfl, rfl, ⟨by omega⟩, ⟨0, rfl⟩⟩
  case round =>
    obtain ⟨k, rfl, rfl, hk, hw⟩ := hrel
    have hk' := hk.out
    by_cases hlt : k < (optLv t).length
    · have d1 : decide (k < (optLv t).length) = true := decide_eq_true hlt
      have d1' : decide ((k : Int) < ((optLv t).length : Int)) = true := decide_eq_true (by omega)
      obtain ⟨a, cap', hv, hBa, halt, _, hread⟩ := own_read ho (by omega)
      cases hv
      have hwr : Below w1.heap.size w1 wr := by obtain ⟨n, rfl⟩ := hw.out; exact below_drewN (Below.refl _ _) n
      have c0 : wr.cell? ⟨a, k, none⟩ = some (.string ((optLv t)[k]).2) := by
        rw [hwr.cell (p := ⟨a, k, none⟩) halt, hread k hlt]
        simp [lvTexts, hlt]
      have hs := hok _ (List.getElem_mem hlt)
      have hcut := pre_cut _ x hb k hlt
      have hpl := pre_le _ x hb (k + 1)
      have hps := pre_succ _ k hlt
      rw [hps] at hpl
      clear hread
      generalize pre (optLv t) k = P at hcut hpl hps ⊢
      generalize ((optLv t)[k]).2 = y at c0 hs hcut hpl hps
      have kz : k < 2097152 := by omega
      have e2 : decide (y.size < 1) = false := decide_eq_false (by omega)
      have e3 : decide (64 < y.size) = false := decide_eq_false (by omega)
      have e2' : decide ((y.size : Int) < 1) = false := decide_eq_false (by omega)
      have e3' : decide ((64 : Int) < (y.size : Int)) = false := decide_eq_false (by omega)
      have e4 : decide ((x.size : Int) - (P : Int) < (y.size : Int)) = false := decide_eq_false (by omega)
      have wr1 : IntKind.i64.wrap ((x.size : Int) - (P : Int)) = (x.size : Int) - (P : Int) := IntWalk.i64_in _ (by omega)
      have wr2 : IntKind.i64.wrap ((P : Int) + (y.size : Int)) = (P : Int) + (y.size : Int) := IntWalk.i64_in _ (by omega)
      have rc := fun w => run_cut_y hcut hpl w
      go_wp2
      go_quiet (fail)
      go_wp2
      go_roundg (gk - 1)
      case measure => omega
      case rel =>
        refine ⟨k + 1, rfl, by rw [hps]; rfl, ⟨by omega⟩, ?_⟩
        obtain ⟨n, rfl⟩ := hw.out
        exact ⟨_, World.drewN_drewN _ _ _⟩
    · have hkn : k = (optLv t).length := by omega
      have hpa := pre_all _ x hb
      rw [← hkn] at hpa
      have d1 : decide (k < (optLv t).length) = false := decide_eq_false hlt
      have d1' : decide ((k : Int) < ((optLv t).length : Int)) = false := decide_eq_false (by omega)
      have hwr : Below w1.heap.size w1 wr := by obtain ⟨n, rfl⟩ := hw.out; exact below_drewN (Below.refl _ _) n
      have hr := (h.below b1).below hwr
      have hh := height_yes g t wr hr
      have hln := len_g hr q
      have htx := text_g hr q hx
      have B := b1.trans (hwr.mono b1.size)
      have hhi := q.high
      have hn6 : (optLv t).length ≤ 65536 := by
        have h1 := q.size
        have h2 := q.ok
        cases t with
        | none => exact Nat.zero_le _
        | some t =>
          have h3 : t.sh.lv.length = t.sh.leaves := Sh.lv_length _
          have h4 := Sh.leaves_le t.sh h2
          have h5 : t.sh.size = x.size := h1
          show t.sh.lv.length ≤ 65536
          omega
      rw [hpa]
      clear hwr hok hm hl hb q hlt ho hpa
      subst hkn
      generalize optHeight t = H at hh hhi
      generalize (optLv t).length = n at *
      have hg := high_g n hn6
      rcases hhi with ⟨rfl, rfl⟩ | ⟨rfl, rfl⟩ | ⟨h1, h2, h3⟩
      · go_wp2_with (first
          | (go_at_call 37; (with_reducible refine hh.mono ?_); rintro en w3 ⟨rfl, rfl⟩)
          | (go_at_call 29; (with_reducible refine hln.mono ?_); rintro en w3 ⟨rfl, rfl⟩)
          | (go_at_call 17; (with_reducible refine htx.mono ?_); rintro en w4 ⟨rfl, b4⟩))
        go_ret
        exact ⟨rfl, B.trans (b4.mono B.size)⟩
      · have hg : ∀ w, Calls Try.prog 40 #[.int .i64 1] w fun e w' => e = .returned (.int .i64 (2 * (bits 1 : Int) + 2)) ∧ Drawn0 w w' := fun w => high_g 1 (by omega) w
        have hle : decide ((0 : Int) ≤ 2 * (bits 1 : Int) + 2) = true := decide_eq_true (by omega)
        go_wp2_with (first
          | (go_at_call 37; (with_reducible refine hh.mono ?_); rintro en w3 ⟨rfl, rfl⟩)
          | (go_at_call 29; (with_reducible refine hln.mono ?_); rintro en w3 ⟨rfl, rfl⟩)
          | (go_at_call 17; (with_reducible refine htx.mono ?_); rintro en w4 ⟨rfl, b4⟩)
          | (go_at_call 40; (with_reducible refine (hg _).mono ?_); rintro en w5 ⟨rfl, dr⟩; obtain ⟨m5, rfl⟩ := dr.out))
        go_ret
        exact ⟨rfl, below_drewN (B.trans (b4.mono B.size)) _⟩
      · have hle : decide ((H : Int) ≤ 2 * (bits n : Int) + 2) = true := decide_eq_true (by omega)
        have a1 : decide (0 < n) = true := decide_eq_true (by omega)
        have a1' : decide ((0 : Int) < (n : Int)) = true := decide_eq_true (by omega)
        have a2 : ((H : Int) == 0) = false := by rw [beq_eq_false_iff_ne]; omega
        have a3 : ((n : Int) == 1) = false := by rw [beq_eq_false_iff_ne]; omega
        have a4 : decide ((0 : Int) ≤ (H : Int)) = true := decide_eq_true (by omega)
        have a5 : ((n : Int) == 0) = false := by rw [beq_eq_false_iff_ne]; omega
        go_wp2_with (first
          | (go_at_call 37; (with_reducible refine hh.mono ?_); rintro en w3 ⟨rfl, rfl⟩)
          | (go_at_call 29; (with_reducible refine hln.mono ?_); rintro en w3 ⟨rfl, rfl⟩)
          | (go_at_call 17; (with_reducible refine htx.mono ?_); rintro en w4 ⟨rfl, b4⟩)
          | (go_at_call 40; (with_reducible refine (hg _).mono ?_); rintro en w5 ⟨rfl, dr⟩; obtain ⟨m5, rfl⟩ := dr.out))
        go_ret
        exact ⟨rfl, below_drewN (B.trans (b4.mono B.size)) _⟩
end Go.Proofs.Ythjbkiomnipjiaa
