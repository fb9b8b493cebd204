/- law.Find and the reference's Find yield the same three indices for every law and every two names, where what is read is of bulk at most 1048576; the statement's awake check is computed. -/
import Derived.Test.YtdjbhceoodcphaaGreatA9
namespace Go.Proofs.YtdjbhceoodcphaaGreat
theorem lawFind_proved : Rows.LawFindUptoSaid := Go.Fx.Tryz.said_law17_LawFind
end Go.Proofs.YtdjbhceoodcphaaGreat
