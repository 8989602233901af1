/- Does a call tell 'true'. Definitions alone. -/
import Derived.Test.YtemkiobojboceaaGreatEvK2
namespace Go.Proofs.YtemkiobojboceaaGreat.Ev
open Go
noncomputable def tells (o : Out) : Bool := orF (ob o fun r => onB r.1 fun b => some b)
end Go.Proofs.YtemkiobojboceaaGreat.Ev
