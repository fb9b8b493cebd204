/- A valid law becomes invalid when one of its definitions, or one of its scopes, is repeated: the statement LawDuplicate, where what is read is of bulk at most 1048576. -/
import Derived.Test.YtdjbhceoodcphaaA5
namespace Go.Proofs.Ytdjbhceoodcphaa
theorem lawDuplicate_proved : Rows.LawDuplicateUptoSaid := Go.Fx.Try.said_law17_LawDuplicate
end Go.Proofs.Ytdjbhceoodcphaa
