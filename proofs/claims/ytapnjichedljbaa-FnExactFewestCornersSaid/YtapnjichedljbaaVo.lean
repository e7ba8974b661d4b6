/- What a law asks of its arguments: no list longer than any may be. -/
import Derived.Test.YtapnjichedljbaaVn
namespace Go.Proofs.Ytapnjichedljbaa
open Go.RowKit
def LensOk : (ts : List Ty) → Args ts → Prop
  | [], _ => True
  | t :: ts, x => t.lenOk x.1 ∧ LensOk ts x.2
def lawCon (ts : List Ty) : Con := mkCon ts (LensOk ts) fun _ => .val (.one (.d (.bool true)))
end Go.Proofs.Ytapnjichedljbaa
