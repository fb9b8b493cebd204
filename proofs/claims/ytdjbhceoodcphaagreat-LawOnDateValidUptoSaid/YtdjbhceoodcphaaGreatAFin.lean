/- The restriction of a valid law to a valid date is a valid law: the statement LawOnDateValid, where what is read is of bulk at most 1048576. -/
import Derived.Test.YtdjbhceoodcphaaGreatA5
namespace Go.Proofs.YtdjbhceoodcphaaGreat
theorem lawOnDateValid_proved : Rows.LawOnDateValidUptoSaid := Go.Fx.Tryz.said_law17_LawOnDateValid
end Go.Proofs.YtdjbhceoodcphaaGreat
