/- ReportTexts, with one bound. -/
import Derived.Test.YtgjningfpkoooaaDoorQs
import Derived.Test.YtgjningfpkoooaaDoorQr
namespace Go.Proofs.YtgjningfpkoooaaDoor.Ro
set_option linter.unusedVariables false
set_option linter.unusedSimpArgs false
open Go.RowKit Go.Proofs.YtgjningfpkoooaaDoor.W

theorem l_texts (A : Option Addr) (n c : Nat) (A2 : Option Addr) (m c2 : Nat) (r : Rp) (w : World) (hG : Gw w) (h : RepAt w 0 A n c A2 m c2 r) (hu : wgt r ≤ 1048576) :
    Calls Tryd.prog 8 #[.agg #[.slice A n c, .slice A2 m c2]] w (TrueP w) := c_reptexts A n c A2 m c2 r w hG h (wgt_fit hu)
end Go.Proofs.YtgjningfpkoooaaDoor.Ro
