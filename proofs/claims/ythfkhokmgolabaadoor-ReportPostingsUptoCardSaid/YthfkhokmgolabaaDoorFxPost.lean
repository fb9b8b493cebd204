/- ReportPostings yields true at every slice of postings whose reading is of bulk at most 1048576, and leaves what was there as it was. -/
import Derived.Test.YthfkhokmgolabaaDoorFxQ3
namespace Go.Proofs.YthfkhokmgolabaaDoor
theorem reportPostings_proved : Rows.ReportPostingsUptoCardSaid := Go.Fx.Tryd.cardUpto
end Go.Proofs.YthfkhokmgolabaaDoor
