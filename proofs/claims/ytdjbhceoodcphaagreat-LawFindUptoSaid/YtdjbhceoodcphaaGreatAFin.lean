/- law.Find yields the indices that the reference yields, for every law and any names: the statement LawFind, where what is read is of bulk at most 1048576. -/
import Derived.Test.YtdjbhceoodcphaaGreatA4
namespace Go.Proofs.YtdjbhceoodcphaaGreat
theorem lawFind_proved : Rows.LawFindUptoSaid := Go.Fx.Tryz.said_law17_LawFind
end Go.Proofs.YtdjbhceoodcphaaGreat
