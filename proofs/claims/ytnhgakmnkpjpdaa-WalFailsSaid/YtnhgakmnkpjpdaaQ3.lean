-- MADE BY xrun.sh, a turned copy of the kit's print: not typed by hand
import Derived.Test.YtnhgakmnkpjpdaaQ0
import Derived.Test.YtnhgakmnkpjpdaaQ2
namespace Go.Proofs.Ytnhgakmnkpjpdaa.Q
open Go.RowKit Go.Proofs.YtnhgakmnkpjpdaaW.PrintWords Go.Proofs.YtnhgakmnkpjpdaaW.PrintLast Go.Proofs.YtnhgakmnkpjpdaaW.PrintMore
attribute [local go_sem] max2_int min2_int max_two min_two max_three min_three max_four min_four   -- for this text's walks alone
set_option linter.unusedVariables false
set_option linter.unusedSimpArgs false

/-! ### quittanceref05_New: function 31 -/
/-! ### quittanceref06_New: function 9 -/
/-! ### quittanceref05_Texts: function 38 -/
/-! ### quittanceref05_Put: function 65 -/
end Go.Proofs.Ytnhgakmnkpjpdaa.Q
