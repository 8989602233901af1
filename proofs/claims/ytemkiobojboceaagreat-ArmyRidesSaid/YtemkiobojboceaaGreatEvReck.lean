/- The law's reckoning, by the kernel. -/
import Derived.Test.YtemkiobojboceaaGreatRows
import Derived.Test.YtemkiobojboceaaGreatEvK3
import Derived.KernelRfl
namespace Go.Proofs.YtemkiobojboceaaGreat.armyRides
open Go Go.Proofs Go.Proofs.YtemkiobojboceaaGreat.Ev
noncomputable def M : Env := ⟨Tryz.prog, fun t => @Bool.rec (fun _ => Nat) 0 2 (orB (Nat.beq t 34) (Nat.beq t 107)), fun f => Nat.beq f 132⟩
theorem reckoned (n : Nat) : tells ((fns M 3000).call 3 [.agg [.far 0 0 0, .far 1 0 0, .far 2 0 0, .far 3 0 0, .far 4 0 0, .far 5 0 0, .far 6 0 0, .far 7 0 0, .far 8 n 1, .far 9 0 0, .far 10 0 0]] .nil 0) = true := by kernel_rfl
end Go.Proofs.YtemkiobojboceaaGreat.armyRides
