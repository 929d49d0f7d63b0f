/- The number of a word's lowest bit, by the table. -/
import Derived.Test.YthpgiimaadohcaaDoorZvF
namespace Go.Proofs.YthpgiimaadohcaaDoor.Zv
open Go
/-- The place in the table. -/
def tzIdx (x : Int) : Int := IntKind.u64.wrap (bits BinOp.and IntKind.u64 x (IntKind.u64.wrap (-x)) * 285870213051353865) / 288230376151711744
def tzv (x : Int) : Int := if x = 0 then 64 else tzTab.getD (tzIdx x).toNat 0
def tzX (args : List Value) (h : VH) : Option (Value × VH) := match args with
  | [.int .u64 x] => some (.int .i64 (tzv x), h)
  | _ => none
end Go.Proofs.YthpgiimaadohcaaDoor.Zv
