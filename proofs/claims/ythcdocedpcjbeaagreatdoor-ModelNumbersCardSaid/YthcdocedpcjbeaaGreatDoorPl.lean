/-
  The plain side: what the model's functions compute, on lists. No program here.
-/
import Derived.Test.YthcdocedpcjbeaaGreatDoorProg
namespace Go.Proofs.YthcdocedpcjbeaaGreatDoor

/-- An entry. -/
structure Ent where
  val : ByteArray
  flags : Int
  exp : Int
  cas : Int

/-- A command. -/
structure Cmd where
  kind : Int
  keys : List ByteArray
  flags : Int
  exp : Int
  val : ByteArray
  cas : Int
  delta : Int
  quiet : Bool

structure Hit where
  key : ByteArray
  flags : Int
  val : ByteArray
  cas : Int

structure Res where
  code : Int
  hits : List Hit
  n : Int

namespace Pl
def empty : ByteArray := ⟨#[]⟩
def second (now : Int) : Bool := decide (1 ≤ now) && decide (now ≤ 2147483647)
def ends (now exp : Int) : Int :=
  if exp < 0 then 1 else if 0 < exp ∧ exp ≤ 2592000 then min (exp + now) 4294967295 else min exp 4294967295
def gone (e now : Int) : Bool := decide (0 < e) && decide (e ≤ now)
def isKind (k : Int) : Bool := decide (1 ≤ k) && decide (k ≤ 15)
def isReads (k : Int) : Bool := decide (1 ≤ k) && decide (k ≤ 4)
def stores (k : Int) : Bool := decide (5 ≤ k) && decide (k ≤ 10)
def hasEnds (k : Int) : Bool := k == 3 || (k == 4 || (k == 14 || (k == 5 || (k == 6 || (k == 7 || k == 10)))))
def keysOk (k n : Int) : Bool :=
  if isReads k then decide (1 ≤ n) && decide (n ≤ 8) else if k == 15 then n == 0 else n == 1
def keyByte (b : UInt8) : Bool := decide (33 ≤ b.toNat) && decide (b.toNat ≤ 126)
def isKey (s : ByteArray) : Bool := decide (1 ≤ s.size) && (decide (s.size ≤ 32) && s.data.toList.all keyByte)
/-- are the fields that the kind does not have as they must be? -/
def same (c : Cmd) : Bool :=
  ((if !stores c.kind || !hasEnds c.kind then 0 else c.flags) == c.flags) &&
  (((if !stores c.kind then empty else c.val) == c.val) &&
  (((if !hasEnds c.kind then 0 else c.exp) == c.exp) &&
  (((if c.kind != 10 then 0 else c.cas) == c.cas) &&
  (((if c.kind != 12 && c.kind != 13 then 0 else c.delta) == c.delta) &&
  ((if isReads c.kind then false else c.quiet) == c.quiet)))))
def check (c : Cmd) : Int :=
  if isKind c.kind then
    (if same c && (keysOk c.kind c.keys.length && c.keys.all isKey) then (if c.val.size ≤ 2000 then 0 else 7) else 6)
  else 70
end Pl
end Go.Proofs.YthcdocedpcjbeaaGreatDoor
