/- ReportBack, with one bound. -/
import Derived.Test.YtgjningfpkoooaaDoorQs
namespace Go.Proofs.YtgjningfpkoooaaDoor.Ro
set_option linter.unusedVariables false
set_option linter.unusedSimpArgs false
open Go.RowKit Go.Proofs.YtgjningfpkoooaaDoor.W

theorem l_back (A : Option Addr) (n c : Nat) (A2 : Option Addr) (m c2 : Nat) (r : Rp) (s : ByteArray) (w : World) (hG : Gw w) (h : RepAt w 0 A n c A2 m c2 r) (hs : s.size ≤ 140737488351232) (hu : wgt r + s.size ≤ 1048576) :
    Calls Tryd.prog 10 #[.agg #[.slice A n c, .slice A2 m c2], .string s] w (TrueP w) := c_repback A n c A2 m c2 r s w hG h (by omega) (by omega)
end Go.Proofs.YtgjningfpkoooaaDoor.Ro
