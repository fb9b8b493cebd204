/- ReportEvalError yields true at every law, scope and evaluation error whose reading is of bulk at most 1048576, and leaves what was there as it was. -/
import Derived.Test.YthfkhokmgolabaaDoorA5
namespace Go.Proofs.YthfkhokmgolabaaDoor
theorem reportEvalError_proved : Rows.ReportEvalErrorUptoCardSaid := Go.Fx.Tryd.card_law54_ReportEvalError
end Go.Proofs.YthfkhokmgolabaaDoor
