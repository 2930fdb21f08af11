/-
  Layer 36 (chunk): the iterator chunk.parts: what it hands over.
-/
import Derived.Test.YtnjmhnogpgnbmaaD2
namespace Go.Proofs.Ytnjmhnogpgnbmaa
open Go.Lad
/-- a text's parts of n bytes; the last one may be shorter -/
def cutN (n : Nat) : Nat → List UInt8 → List (List UInt8)
  | 0, _ => []
  | f + 1, s => match s with
    | [] => []
    | c :: r => (c :: r).take n :: cutN n f ((c :: r).drop n)
def partsF (s : List UInt8) (n : Int) : Option (List (List UInt8)) := bif leZ 1 n then some (cutN n.toNat s.length s) else none
def restF (s : List UInt8) (n : Int) : Nat → List UInt8
  | 0 => s
  | k + 1 => (restF s n k).drop n.toNat
def itPartsFn : List TObj → Option (List (List UInt8))
  | [.box _ [.v .str s], .box _ [.v (.int .i64) n]] => partsF s n
  | _ => none
def itPartsAt : List TObj → Nat → List TObj
  | [.box t [.v .str s], .box u [.v (.int .i64) n]], k => [.box t [.v .str (restF s n k)], .box u [.v (.int .i64) n]]
  | l, _ => l
end Go.Proofs.Ytnjmhnogpgnbmaa
