/- ReportBalances yields true at every slice of balances whose reading is of bulk at most 1048576, and leaves what was there as it was. -/
import Derived.Test.YthfkhokmgolabaaDoorA5
namespace Go.Proofs.YthfkhokmgolabaaDoor
theorem reportBalances_proved : Rows.ReportBalancesUptoCardSaid := Go.Fx.Tryd.card_law54_ReportBalances
end Go.Proofs.YthfkhokmgolabaaDoor
