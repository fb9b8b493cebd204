/- ReportResult yields true at every law, scope and result whose reading is of bulk at most 1048576, and leaves what was there as it was. -/
import Derived.Test.YthfkhokmgolabaaDoorA5
namespace Go.Proofs.YthfkhokmgolabaaDoor
theorem reportResult_proved : Rows.ReportResultUptoCardSaid := Go.Fx.Tryd.card_law54_ReportResult
end Go.Proofs.YthfkhokmgolabaaDoor
