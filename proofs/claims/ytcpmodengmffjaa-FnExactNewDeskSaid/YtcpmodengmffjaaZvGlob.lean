/- The program's tables that are read: block by block. (One text a seat.) -/
import Derived.Orders
namespace Go.Proofs.Ytcpmodengmffjaa.Zv
open Go
def globTab (_ : Nat) : Option (Array Value) := none
end Go.Proofs.Ytcpmodengmffjaa.Zv
