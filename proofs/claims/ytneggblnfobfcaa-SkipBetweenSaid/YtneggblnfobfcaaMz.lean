/- The row of SkipBetween: whatever the outcomes of as many ends more as the doubt says are, the chance that follows from all ends, if both teams choose their styles best, lies between the bounds of the hope. No condition. -/
import Derived.Test.YtneggblnfobfcaaM10
namespace Go.Proofs.Ytneggblnfobfcaa
theorem skipBetween_holds : Rows.SkipBetweenSaid := skipBetween_holds' kflS_ok
#print axioms skipBetween_holds
end Go.Proofs.Ytneggblnfobfcaa
