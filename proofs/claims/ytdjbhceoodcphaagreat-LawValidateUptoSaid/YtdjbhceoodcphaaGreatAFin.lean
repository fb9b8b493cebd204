/- For every law, law.Validate returns the error that the reference returns, and the statement's awake check holds: the statement LawValidate, where what is read is of bulk at most 1048576. -/
import Derived.Test.YtdjbhceoodcphaaGreatA6
namespace Go.Proofs.YtdjbhceoodcphaaGreat
theorem lawValidate_proved : Rows.LawValidateUptoSaid := Go.Fx.Tryz.said_law17_LawValidate
end Go.Proofs.YtdjbhceoodcphaaGreat
