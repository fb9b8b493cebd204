/- In a law that law.Validate accepts, every guard has the type bool, every value has the type of its definition, and every scope has an order of all its definitions: the statement LawWellTyped, for arguments whose bulk is at most 1048576. -/
import Derived.Test.YtdjbhceoodcphaaGreatA5
namespace Go.Proofs.YtdjbhceoodcphaaGreat
theorem lawWellTyped_proved : Rows.LawWellTypedUptoSaid := Go.Fx.Tryz.said_law17_LawWellTyped
end Go.Proofs.YtdjbhceoodcphaaGreat
