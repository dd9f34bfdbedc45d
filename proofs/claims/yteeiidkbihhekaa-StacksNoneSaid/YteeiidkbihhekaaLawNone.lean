/- Stacks that are none answer nothing: the law StacksNone returns true, for any numbers. -/
import Derived.Test.YteeiidkbihhekaaSkQ
namespace Go.Proofs.Yteeiidkbihhekaa
open Go Go.RowKit
theorem lawNone (a b c d x y z u : Int) (w : World) (_ : (Lit.int .i64 a).wf = true) (hb : (Lit.int .i64 b).wf = true) (hc : (Lit.int .i64 c).wf = true) (_ : (Lit.int .i64 d).wf = true) (_ : (Lit.int .i64 x).wf = true) (_ : (Lit.int .i64 y).wf = true) (_ : (Lit.int .i64 z).wf = true) (_ : (Lit.int .i64 u).wf = true) :
    Calls Try.prog 7 #[.agg #[.int .i64 a, .int .i64 b, .int .i64 c, .int .i64 d], .agg #[.int .i64 x, .int .i64 y, .int .i64 z, .int .i64 u]] w fun e w' => e = .returned (.bool true) ∧ Below w.heap.size w w' :=
  law_None w a b c d x y z u hb hc
end Go.Proofs.Yteeiidkbihhekaa
