/-
  A part of the walk and of the plain law of one given statement. No condition.
-/
import Derived.Test.YtlmgjjmighajdaaSq

namespace Go.Sx
open Go.Sl
structure Part where
  lot : Int
  mass : Int
  deriving DecidableEq
def PartT : Ty Part := Ty.flat 2 (fun p => [.int .i64 p.lot, .int .i64 p.mass]) (fun _ => rfl) (fun _ => rfl)
structure Lot where
  id : Int
  owner : Int
  grade : Int
  wet : Int
  deriving DecidableEq
def LotT : Ty Lot := Ty.flat 4 (fun p => [.int .i64 p.id, .int .i64 p.owner, .int .i64 p.grade, .int .i64 p.wet]) (fun _ => rfl) (fun _ => rfl)
structure Deed where
  kind : Int
  lot : Int
  frm : Int
  to : Int
  mass : Int
  deriving DecidableEq
def DeedT : Ty Deed := Ty.flat 5 (fun p => [.int .i64 p.kind, .int .i64 p.lot, .int .i64 p.frm, .int .i64 p.to, .int .i64 p.mass]) (fun _ => rfl) (fun _ => rfl)
structure Account where
  lot : Int
  poured : Int
  drawn : Int
  lost : Int
  left : Int
  deriving DecidableEq
def AccountT : Ty Account := Ty.flat 5 (fun p => [.int .i64 p.lot, .int .i64 p.poured, .int .i64 p.drawn, .int .i64 p.lost, .int .i64 p.left]) (fun _ => rfl) (fun _ => rfl)
structure Trail where
  deed : Int
  mass : Int
  deriving DecidableEq
def TrailT : Ty Trail := Ty.flat 2 (fun p => [.int .i64 p.deed, .int .i64 p.mass]) (fun _ => rfl) (fun _ => rfl)
structure Ratio where
  n : Int
  d : Int
  deriving DecidableEq
def RatioT : Ty Ratio := Ty.flat 2 (fun p => [.int .i64 p.n, .int .i64 p.d]) (fun _ => rfl) (fun _ => rfl)
structure A4 where
  a0 : Int
  a1 : Int
  a2 : Int
  a3 : Int
  deriving DecidableEq
def A4T : Ty A4 := Ty.flat 4 (fun p => [.int .i64 p.a0, .int .i64 p.a1, .int .i64 p.a2, .int .i64 p.a3]) (fun _ => rfl) (fun _ => rfl)
structure A5 where
  a0 : Int
  a1 : Int
  a2 : Int
  a3 : Int
  a4 : Int
  deriving DecidableEq
def A5T : Ty A5 := Ty.flat 5 (fun p => [.int .i64 p.a0, .int .i64 p.a1, .int .i64 p.a2, .int .i64 p.a3, .int .i64 p.a4]) (fun _ => rfl) (fun _ => rfl)
structure Rng where
  lo : Int
  hi : Int
  deriving DecidableEq
def RngT : Ty Rng := Ty.flat 2 (fun p => [.int .i64 p.lo, .int .i64 p.hi]) (fun _ => rfl) (fun _ => rfl)
structure Pt where
  x : Int
  lo : Int
  hi : Int
  deriving DecidableEq
def PtT : Ty Pt := Ty.flat 3 (fun p => [.int .i64 p.x, .int .i64 p.lo, .int .i64 p.hi]) (fun _ => rfl) (fun _ => rfl)
end Go.Sx
