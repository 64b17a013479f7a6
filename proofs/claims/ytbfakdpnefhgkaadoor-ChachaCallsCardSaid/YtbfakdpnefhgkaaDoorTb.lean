/-
  The package's tables that are read, as they lie in memory. Plain data.
-/
import Derived.Test.YtbfakdpnefhgkaaDoorMem
namespace Go.Proofs.YtbfakdpnefhgkaaDoor
open Mem
def colNums : List Nat := [0, 4, 8, 12, 1, 5, 9, 13, 2, 6, 10, 14, 3, 7, 11, 15, 0, 5, 10, 15, 1, 6, 11, 12, 2, 7, 8, 13, 3, 4, 9, 14]
def colTab : Array Value := (colNums.map fun (n : Nat) => Value.int .i64 n).toArray
namespace Sl
def tabs : List (Nat × Array Value) := [(0, colTab)]
end Sl
end Go.Proofs.YtbfakdpnefhgkaaDoor
