/- Stacks: Push. -/
import Derived.Test.YteeiidkbihhekaaSkG
import Derived.Deep.RegionHeldLaw
import Derived.Deep.RegionLaw
import Derived.Deep.AppendLies
import Derived.Maps.AppendAt
set_option linter.unusedVariables false
set_option linter.unusedSimpArgs false
namespace Go.Proofs.Yteeiidkbihhekaa
open Go Go.RowKit Go.Maps Go.WideMaps
def answer (a : Int) (b : Bool) (e : Int) : Ending := .returned (.tuple #[.int .i64 a, .bool b, .int .i64 e])
theorem eql73 (w : World) (b : Nat) : (binOp .eql 73 (.map (some b)) (.map none)).run Try.prog w = .ok (.bool false) w := by kernel_rfl
theorem neq73 (w : World) (b : Nat) : (binOp .neq 73 (.map (some b)) (.map none)).run Try.prog w = .ok (.bool true) w := by kernel_rfl
theorem own_block_cells {w : World} {B e z n k : Nat} {v : Value} {xs : List Value} (h : w.ownsRow B e z v n xs) (hk : v.ownBlock = some k) : ∃ cur cap, w.heap[k]? = some (.cells cur e (0, 0)) ∧ v = .slice (some ⟨k, 0, none⟩) n cap := by
  rcases h.2 with ⟨hv, _⟩ | ⟨g', cap'', cur, hv, _, hg', _⟩
  · rw [hv] at hk
    simp [Value.ownBlock] at hk
  · rw [hv] at hk
    have : g' = k := by simpa [Value.ownBlock] using hk
    subst this
    exact ⟨cur, _, hg', hv⟩
variable {w : World} {B g bm br p : Nat} {nv : Value} {vs : List Value} {ns : List N}
set_option maxRecDepth 100000 in
theorem push_bad (h : StM w B g nv bm br vs ns p) (on st lv ov : Int) (hk : ¬ (0 ≤ on ∧ on < ns.length)) : Calls Try.prog 10 #[.pointer (some ⟨g, 0, none⟩), .int .i64 on, .int .i64 st, .int .i64 lv, .int .i64 ov] w fun e w' => e = answer 0 false 4 ∧ w' = w := by
  have ht := there_in h on
  rw [decide_eq_false hk] at ht
  have c1 := h.c1
  have eq73 := eql73
  go_enter Try.func10, Try.ntmps10
  go_wp2_with (first | (go_at_call 28; (with_reducible refine ht.mono ?_); rintro en w1 ⟨rfl, rfl⟩))
  refine bodyPost_ret (v := .tuple #[.int .i64 0, .bool false, .int .i64 4]) (by simp [results, Try.results10, go_sem]) rfl ⟨rfl, rfl⟩
set_option maxRecDepth 100000 in
theorem push_arg (h : StM w B g nv bm br vs ns p) (i : Nat) (hi : i < ns.length) (st lv ov : Int) (hk : st < 0 ∨ ov < 0 ∨ lv ≤ (ns[i]).lv) : Calls Try.prog 10 #[.pointer (some ⟨g, 0, none⟩), .int .i64 i, .int .i64 st, .int .i64 lv, .int .i64 ov] w fun e w' => e = answer 0 false 2 ∧ w' = w := by
  have ht := there_in h i
  have e0 : decide (0 ≤ (i : Int) ∧ (i : Int) < ns.length) = true := decide_eq_true ⟨by omega, by omega⟩
  rw [e0] at ht
  have c0 := h.c0
  have c1 := h.c1
  have eq73 := eql73
  obtain ⟨a, cap, rfl, _, _, _, _, x1, _⟩ := h.node i hi
  have d1 : decide (i < ns.length) = true := decide_eq_true hi
  have d1' : decide ((i : Int) < (ns.length : Int)) = true := decide_eq_true (by omega)
  generalize (ns[i]).lv = L at *
  by_cases h1 : st < 0
  · have q1 : decide (st < 0) = true := decide_eq_true h1
    clear hk
    go_enter Try.func10, Try.ntmps10
    go_wp2_with (first | (go_at_call 28; (with_reducible refine ht.mono ?_); rintro en w1 ⟨rfl, rfl⟩))
    refine bodyPost_ret (v := .tuple #[.int .i64 0, .bool false, .int .i64 2]) (by simp [results, Try.results10, go_sem]) rfl ⟨rfl, rfl⟩
  · have q1 : decide (st < 0) = false := decide_eq_false h1
    by_cases h2 : ov < 0
    · have q2 : decide (ov < 0) = true := decide_eq_true h2
      clear hk
      go_enter Try.func10, Try.ntmps10
      go_wp2_with (first | (go_at_call 28; (with_reducible refine ht.mono ?_); rintro en w1 ⟨rfl, rfl⟩))
      refine bodyPost_ret (v := .tuple #[.int .i64 0, .bool false, .int .i64 2]) (by simp [results, Try.results10, go_sem]) rfl ⟨rfl, rfl⟩
    · have q2 : decide (ov < 0) = false := decide_eq_false h2
      have h3 : lv ≤ L := by omega
      have q3 : decide (lv ≤ L) = true := decide_eq_true h3
      clear hk
      go_enter Try.func10, Try.ntmps10
      go_wp2_with (first | (go_at_call 28; (with_reducible refine ht.mono ?_); rintro en w1 ⟨rfl, rfl⟩))
      refine bodyPost_ret (v := .tuple #[.int .i64 0, .bool false, .int .i64 2]) (by simp [results, Try.results10, go_sem]) rfl ⟨rfl, rfl⟩
set_option maxRecDepth 100000 in
theorem push_full (h : StM w B g nv bm br vs ns p) (i : Nat) (hi : i < ns.length) (st lv ov : Int) (hst : Wf st) (hlv : Wf lv) (h1 : 0 ≤ st) (h2 : 0 ≤ ov) (h3 : (ns[i]).lv < lv) (hz : idx ns st lv = 0) (hf : ns.length = 2097152) : Calls Try.prog 10 #[.pointer (some ⟨g, 0, none⟩), .int .i64 i, .int .i64 st, .int .i64 lv, .int .i64 ov] w fun e w' => e = answer 0 false 3 ∧ w' = w := by
  have ht := there_in h i
  have e0 : decide (0 ≤ (i : Int) ∧ (i : Int) < ns.length) = true := decide_eq_true ⟨by omega, by omega⟩
  rw [e0] at ht
  have hfi := find_in h st lv hst hlv
  rw [hz] at hfi
  have c0 := h.c0
  have c1 := h.c1
  have eq73 := eql73
  obtain ⟨a, cap, rfl, _, _, _, _, x1, _⟩ := h.node i hi
  have d1 : decide (i < ns.length) = true := decide_eq_true hi
  have d1' : decide ((i : Int) < (ns.length : Int)) = true := decide_eq_true (by omega)
  generalize (ns[i]).lv = L at *
  have q1 : decide (st < 0) = false := decide_eq_false (by omega)
  have q2 : decide (ov < 0) = false := decide_eq_false (by omega)
  have q3 : decide (lv ≤ L) = false := decide_eq_false (by omega)
  have hf' : (ns.length : Int) = 2097152 := by omega
  go_enter Try.func10, Try.ntmps10
  go_wp2_with (first | (go_at_call 28; (with_reducible refine ht.mono ?_); rintro en w1 ⟨rfl, rfl⟩) | (go_at_call 23; (with_reducible refine hfi.mono ?_); rintro en w1 ⟨rfl, rfl⟩))
  refine bodyPost_ret (v := .tuple #[.int .i64 0, .bool false, .int .i64 3]) (by simp [results, Try.results10, go_sem]) rfl ⟨rfl, rfl⟩
end Go.Proofs.Yteeiidkbihhekaa
