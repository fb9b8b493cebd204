/- law.Equal agrees with the reference on any two laws, a clone of a law equals it, and writing into one clone changes neither the law nor another clone: the statement LawClone, where what is read is of bulk at most 1048576. -/
import Derived.Test.YtdjbhceoodcphaaGreatA5
namespace Go.Proofs.YtdjbhceoodcphaaGreat
theorem lawClone_proved : Rows.LawCloneUptoSaid := Go.Fx.Tryz.said_law17_LawClone
end Go.Proofs.YtdjbhceoodcphaaGreat
