/-
  Type assertions on expected versions: what each yields, by the program's tables. No condition.
-/
import Derived.Test.YtmnmaibhjhhakaaGreatDoorBase
namespace Go.Proofs.YtmnmaibhjhhakaaGreatDoor
end Go.Proofs.YtmnmaibhjhhakaaGreatDoor
