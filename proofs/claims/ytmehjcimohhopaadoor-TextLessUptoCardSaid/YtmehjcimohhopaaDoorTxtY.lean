/- Nothing is greater than it was: the law, for lists of any length. No statement is proved here. -/
import Derived.Test.YtmehjcimohhopaaDoorTxtW
namespace Go.Proofs.YtmehjcimohhopaaDoor
open Go.RowKit

theorem textLess_all {S : Nat → Prop} (va vb : Value) (l more : List Pr) (w : World) (hl : PairsAt S w va l) (hb : PairsAt S w vb more) (hv : ∀ p ∈ l, p.2.size < 4294967281) (hv2 : ∀ p ∈ more, p.2.size < 4294967281) (hm : Mx w) :
    Calls Tryd.prog 5 #[va, vb] w fun e w' => e = .returned (.bool true) ∧ Below w.heap.size w w' := by
  by_cases h : 100 < l.length ∨ 100 < more.length
  · exact textLess_long va vb l more w hl hb hm h
  · exact textLess_any va vb l more w hl hb hv hv2 hm (by omega) (by omega)
end Go.Proofs.YtmehjcimohhopaaDoor
