/- An element of a list of fixes. -/
import Derived.Test.YthplhibdapjjgaaGreatDoorTpC
namespace Go.Proofs.YthplhibdapjjgaaGreatDoor
open Go.RowKit

theorem getF_some {l : List Fx} {i : Nat} {x : Fx} (h : l[i]? = some x) : getF l i = x := by simp [getF, List.getD, h]
end Go.Proofs.YthplhibdapjjgaaGreatDoor
