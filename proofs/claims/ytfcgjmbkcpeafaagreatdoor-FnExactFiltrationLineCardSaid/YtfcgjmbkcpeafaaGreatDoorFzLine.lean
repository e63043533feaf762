/- PROVED: for every input the law FnExactFiltrationLine returns true and each argument reads afterwards as it read before (the statement 'FnExactFiltrationLineCardSaid' of the given Rows).
Conditions: none beyond those which the given statement itself names. This text is one part of the proof. -/
import Derived.Test.YtfcgjmbkcpeafaaGreatDoorFyPlain
import Derived.Test.YtfcgjmbkcpeafaaGreatDoorFwCard

namespace Go.Proofs.YtfcgjmbkcpeafaaGreatDoor
open Go
/-- **FiltrationLine is the reference's, for all arguments.** -/
theorem filtrationLine_holds : Rows.FnExactFiltrationLineCardSaid := card_of Qt.plain
end Go.Proofs.YtfcgjmbkcpeafaaGreatDoor
