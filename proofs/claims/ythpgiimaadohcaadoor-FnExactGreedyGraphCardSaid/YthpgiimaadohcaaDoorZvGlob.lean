/- The program's tables that are read: block by block. (One text a seat: here the table of bit numbers lies in block 0.) -/
import Derived.Orders
namespace Go.Proofs.YthpgiimaadohcaaDoor.Zv
open Go
def tzTab : List Int := [0, 1, 56, 2, 57, 49, 28, 3, 61, 58, 42, 50, 38, 29, 17, 4, 62, 47, 59, 36, 45, 43, 51, 22, 53, 39, 33, 30, 24, 18, 12, 5, 63, 55, 48, 27, 60, 41, 37, 16, 46, 35, 44, 21, 52, 32, 23, 11, 54, 26, 40, 15, 34, 20, 31, 10, 25, 14, 19, 9, 13, 8, 7, 6]
def tzCells : Array Value := (tzTab.map (Value.int .u8)).toArray
def globTab : Nat → Option (Array Value)
  | 0 => some tzCells
  | _ => none
end Go.Proofs.YthpgiimaadohcaaDoor.Zv
