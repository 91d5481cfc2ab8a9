/-
  A version as a caller hands it in. Nothing of the program in it.
-/
import Derived.Test.YtckkccnebjacdaaGreatMgOwn
namespace Go.Proofs.YtckkccnebjacdaaGreat
/-- A version as a caller hands it in. -/
structure VerV where
  wr : Int
  ts : Int
  tomb : Bool
  val : ByteArray
def VerV.cells (v : VerV) : Array Value := #[.int .i64 v.wr, .int .i64 v.ts, .bool v.tomb, .string v.val]
end Go.Proofs.YtckkccnebjacdaaGreat
