/-
  The examples that every statement checks: what they come to, by reckoning.
-/
import Derived.Test.YtbojlnbdkaanmaaGreatDoorTxtB
import Derived.Test.YtbojlnbdkaanmaaGreatDoorPtsD
import Derived.Test.YtbojlnbdkaanmaaGreatDoorPrs
set_option linter.unusedVariables false
set_option linter.unusedSimpArgs false
namespace Go.Proofs.YtbojlnbdkaanmaaGreatDoor
open Go.RowKit

def sA : ByteArray := ⟨#[118, 101, 114, 115, 105, 111, 110, 32, 62, 61, 32, 50, 32, 38, 38, 32, 33, 112, 111, 105, 110, 116, 32, 48, 32, 49, 32, 116, 111, 111, 107, 32, 116, 114, 117, 101]⟩
def sB : ByteArray := ⟨#[118, 101, 114, 115, 105, 111, 110, 32, 62, 32, 50]⟩
def sC : ByteArray := ⟨#[115, 116, 97, 103, 101, 32, 48, 32, 105, 115, 32, 120, 48, 48, 49, 49, 50, 50, 51, 51, 32, 120, 52, 52, 53, 53, 54, 54, 55, 55, 32, 120, 56, 56, 57, 57, 97, 97, 98, 98, 32, 120, 99, 99, 100, 100, 101, 101, 102, 102]⟩
def sD : ByteArray := ⟨#[40, 118, 101, 114, 115, 105, 111, 110, 32, 62, 61, 32, 50, 32, 38, 38, 32, 33, 112, 111, 105, 110, 116, 32, 48, 32, 49, 32, 116, 111, 111, 107, 32, 116, 114, 117, 101, 41]⟩
def ndsA : List Nd := [mkN 3 2 0 0, mkN 7 0 1 1, mkO 8 [1], mkO 9 [0, 2]]
theorem parseA : parseR sA = (0, ndsA) := by kernel_rfl
theorem parseB : (parseR sB).1 = 3 := by kernel_rfl
theorem parseC : (parseR sC).1 = 0 := by kernel_rfl
theorem textsA : textAll ndsA = [⟨#[118, 101, 114, 115, 105, 111, 110, 32, 62, 61, 32, 50]⟩, ⟨#[112, 111, 105, 110, 116, 32, 48, 32, 49, 32, 116, 111, 111, 107, 32, 116, 114, 117, 101]⟩, ⟨#[33, 112, 111, 105, 110, 116, 32, 48, 32, 49, 32, 116, 111, 111, 107, 32, 116, 114, 117, 101]⟩, sD] := by kernel_rfl
theorem evalA1 : evalF ⟨2, 0, [], [[3, 2]]⟩ ndsA = 1 := by kernel_rfl
theorem evalA2 : evalF ⟨2, 0, [], [[3, -1]]⟩ ndsA = -1 := by kernel_rfl
theorem evalA3 : evalF ⟨1, 0, [], [[3, -1]]⟩ ndsA = 0 := by kernel_rfl
theorem ptsA : ptsF ndsA = [(0, 1)] := by kernel_rfl
end Go.Proofs.YtbojlnbdkaanmaaGreatDoor
