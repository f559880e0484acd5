/- ReportSames, with one bound. -/
import Derived.Test.YtgjningfpkoooaaDoorQt
namespace Go.Proofs.YtgjningfpkoooaaDoor.Ro
set_option linter.unusedVariables false
set_option linter.unusedSimpArgs false
open Go.RowKit Go.Proofs.YtgjningfpkoooaaDoor.W

theorem l_sames (A : Option Addr) (n c : Nat) (A2 : Option Addr) (m c2 : Nat) (r : Rp) (P : Option Addr) (k d : Nat) (P2 : Option Addr) (l d2 : Nat) (q : Rp) (w : World) (hG : Gw w) (hr : RepAt w 0 A n c A2 m c2 r) (hq : RepAt w 0 P k d P2 l d2 q) (hu : wgt r + wgt q ≤ 1048576) :
    Calls Tryd.prog 11 #[.agg #[.slice A n c, .slice A2 m c2], .agg #[.slice P k d, .slice P2 l d2]] w (TrueP w) := c_repsames A n c A2 m c2 r P k d P2 l d2 q w hG hr hq (wgt_fit (by omega)) (wgt_fit (by omega))
end Go.Proofs.YtgjningfpkoooaaDoor.Ro
