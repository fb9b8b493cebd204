/- law.Signature and law.SymbolNames yield what the reference's functions yield, for every law and every scope index: the statement LawSignature, where what is read is of bulk at most 1048576. -/
import Derived.Test.YtdjbhceoodcphaaGreatA4
namespace Go.Proofs.YtdjbhceoodcphaaGreat
theorem lawSignature_proved : Rows.LawSignatureUptoSaid := Go.Fx.Tryz.said_law17_LawSignature
end Go.Proofs.YtdjbhceoodcphaaGreat
