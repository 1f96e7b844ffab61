/- The records, and their cells. No conditions. -/
import Derived.Test.YtbekogkbdmaobaaEf25
namespace Go.Proofs.Ytbekogkbdmaobaa
open Go Go.EF
structure ChCopy where
  Number : Int
  Words : Int
  Facts : Int
  May : Int
def encCopy (x : ChCopy) : List AV := [.int x.Number, .int x.Words, .int x.Facts, .int x.May]
theorem encCopy_len (x : ChCopy) : (encCopy x).length = 4 := rfl
theorem encCopy_one (x : ChCopy) : (encCopy x).all AV.one = true := rfl
structure ChRule where
  If : Int
  Then : Int
def encRule (x : ChRule) : List AV := [.int x.If, .int x.Then]
theorem encRule_len (x : ChRule) : (encRule x).length = 2 := rfl
theorem encRule_one (x : ChRule) : (encRule x).all AV.one = true := rfl
structure ChChest where
  Words : Int
  Facts : Int
  People : List ByteArray
  Last : Int
  Copies : List ChCopy
  Rules : List ChRule
def encChest (x : ChChest) : List AV := [.int x.Words, .int x.Facts, lst .any encS x.People, .int x.Last, lst .any encCopy x.Copies, lst .any encRule x.Rules]
theorem encChest_len (x : ChChest) : (encChest x).length = 6 := rfl
theorem encChest_one (x : ChChest) : (encChest x).all AV.one = true := rfl
structure AnewChest where
  Chest : ChChest
  Person : Int
  Words : List Int
  Copies : List Int
  Number : Int
  Fact : Int
def encAnew (x : AnewChest) : List AV := encChest x.Chest ++ [.int x.Person] ++ [lst .any encI x.Words] ++ [lst .any encI x.Copies] ++ [.int x.Number] ++ [.int x.Fact]
theorem encAnew_len (x : AnewChest) : (encAnew x).length = 11 := rfl
theorem encAnew_one (x : AnewChest) : (encAnew x).all AV.one = true := rfl
end Go.Proofs.Ytbekogkbdmaobaa
