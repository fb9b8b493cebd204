/- law.Signature and law.SymbolNames yield what the reference's functions yield, for every law and every scope index, where what is read is of bulk at most 1048576; the statement's awake check is computed. -/
import Derived.Test.YtdjbhceoodcphaaGreatA9
namespace Go.Proofs.YtdjbhceoodcphaaGreat
theorem lawSignature_proved : Rows.LawSignatureUptoSaid := Go.Fx.Tryz.said_law17_LawSignature
end Go.Proofs.YtdjbhceoodcphaaGreat
