/-
  What the program's Text computes, in plain Lean.
-/
import Derived.Test.YtbojlnbdkaanmaaGreatDoorTk
import Derived.Test.YtbojlnbdkaanmaaGreatDoorEvC
set_option linter.unusedVariables false
namespace Go.Proofs.YtbojlnbdkaanmaaGreatDoor
open Go.RowKit
set_option linter.unusedSimpArgs false

def itoaS (n : Int) : ByteArray := ⟨(Lib.itoa n).toArray⟩
def boolS (b : Bool) : ByteArray := ⟨(Lib.formatBool b).toArray⟩
/-- A hexadecimal digit. -/
def hexC (n : Int) : UInt8 := if n < 10 then UInt8.ofNat (48 + n.toNat) else UInt8.ofNat (87 + n.toNat)
/-- The bytes of the first i bytes of a digest, in words. -/
def wordsL (d : Nat → Int) : Nat → List UInt8
  | 0 => []
  | i + 1 => wordsL d i ++ (if i % 4 = 0 then [32, 120] else []) ++ [hexC (d i / 16), hexC (d i % 16)]
def wordsS (d : Nat → Int) : ByteArray := ⟨(wordsL d 16).toArray⟩
def atS (ts : List ByteArray) (x : Option Int) : ByteArray := match x with | none => ⟨#[]⟩ | some i => ts.getD i.toNat ⟨#[]⟩
/-- The text of a node, behind those of the nodes ahead of it. -/
def textStep (ts : List ByteArray) (nd : Nd) : ByteArray :=
  if nd.k = 1 then (⟨#[97, 110, 121]⟩ : ByteArray)
  else if nd.k = 2 then (⟨#[118, 101, 114, 115, 105, 111, 110, 32, 61, 61, 32]⟩ : ByteArray) ++ itoaS nd.n
  else if nd.k = 3 then (⟨#[118, 101, 114, 115, 105, 111, 110, 32, 62, 61, 32]⟩ : ByteArray) ++ itoaS nd.n
  else if nd.k = 4 then (⟨#[101, 112, 111, 99, 104, 32, 61, 61, 32]⟩ : ByteArray) ++ itoaS nd.n
  else if nd.k = 5 then (⟨#[101, 112, 111, 99, 104, 32, 62, 61, 32]⟩ : ByteArray) ++ itoaS nd.n
  else if nd.k = 6 then (⟨#[115, 116, 97, 103, 101, 32]⟩ : ByteArray) ++ itoaS nd.n ++ (⟨#[32, 105, 115]⟩ : ByteArray) ++ wordsS nd.d
  else if nd.k = 7 then (⟨#[112, 111, 105, 110, 116, 32]⟩ : ByteArray) ++ itoaS nd.n ++ (⟨#[32]⟩ : ByteArray) ++ itoaS nd.m ++ (⟨#[32, 116, 111, 111, 107, 32]⟩ : ByteArray) ++ boolS (nd.sd == 1)
  else if nd.k = 8 then (⟨#[33]⟩ : ByteArray) ++ atS ts nd.of[0]?
  else if nd.k = 9 then (⟨#[40]⟩ : ByteArray) ++ atS ts nd.of[0]? ++ (⟨#[32, 38, 38, 32]⟩ : ByteArray) ++ atS ts nd.of[1]? ++ (⟨#[41]⟩ : ByteArray)
  else (⟨#[40]⟩ : ByteArray) ++ atS ts nd.of[0]? ++ (⟨#[32, 124, 124, 32]⟩ : ByteArray) ++ atS ts nd.of[1]? ++ (⟨#[41]⟩ : ByteArray)
/-- The texts of all nodes. -/
def textAll (nds : List Nd) : List ByteArray := nds.foldl (fun ts nd => ts ++ [textStep ts nd]) []
def textF (nds : List Nd) : ByteArray := (textAll nds).getLastD ⟨#[]⟩
theorem textAll_snoc (nds : List Nd) (x : Nd) : textAll (nds ++ [x]) = textAll nds ++ [textStep (textAll nds) x] := by simp [textAll]
theorem textFold_length : ∀ (nds : List Nd) (rs : List ByteArray), (nds.foldl (fun ts nd => ts ++ [textStep ts nd]) rs).length = rs.length + nds.length
  | [], rs => rfl
  | x :: l, rs => by simp only [List.foldl_cons]; rw [textFold_length l]; simp; omega
theorem textAll_length (nds : List Nd) : (textAll nds).length = nds.length := by rw [textAll, textFold_length]; simp
theorem textAll_take (nds : List Nd) (k : Nat) (hk : k < nds.length) : textAll (nds.take (k + 1)) = textAll (nds.take k) ++ [textStep (textAll (nds.take k)) nds[k]] := by
  rw [List.take_add_one, List.getElem?_eq_getElem hk, Option.toList_some, textAll_snoc]
/-- The texts' slice in a round: what is made, then nothing. -/
def txZ (nds : List Nd) (k : Nat) : List ByteArray := textAll (nds.take k) ++ List.replicate (nds.length - k) ⟨#[]⟩
theorem txZ_length (nds : List Nd) (k : Nat) (hk : k ≤ nds.length) : (txZ nds k).length = nds.length := by
  rw [txZ, List.length_append, textAll_length, List.length_take, List.length_replicate]
  omega
theorem txZ_set (nds : List Nd) (k : Nat) (hk : k < nds.length) : (txZ nds k).set k (textStep (textAll (nds.take k)) nds[k]) = txZ nds (k + 1) := by
  have hl : (textAll (nds.take k)).length = k := by rw [textAll_length, List.length_take]; omega
  rw [txZ, txZ, textAll_take nds k hk, List.set_append, if_neg (by omega), hl, Nat.sub_self]
  rw [show nds.length - k = (nds.length - (k + 1)) + 1 by omega, List.replicate_succ]
  simp
theorem txZ_get (nds : List Nd) (k : Nat) (hk : k ≤ nds.length) (a : Nat) (ha : a < k) : (txZ nds k)[a]? = some (atS (textAll (nds.take k)) (some (a : Int))) := by
  have hl : (textAll (nds.take k)).length = k := by rw [textAll_length, List.length_take]; omega
  rw [txZ, List.getElem?_append_left (by omega), List.getElem?_eq_getElem (by omega)]
  simp [atS, hl, ha]
theorem textF_get {nds : List Nd} (h : ¬ nds.length = 0) : (textAll nds)[nds.length - 1]? = some (textF nds) := by
  have hl := textAll_length nds
  have hx : nds.length - 1 < (textAll nds).length := by omega
  unfold textF
  rw [List.getLastD_eq_getLast?, List.getLast?_eq_getElem?, hl, List.getElem?_eq_getElem hx]
  rfl
theorem made_empty (n : Nat) : (madeCells #[.string ⟨#[]⟩] n).toList = (List.replicate n (⟨#[]⟩ : ByteArray)).map (fun x => Value.string x) := by
  apply List.ext_getElem?
  intro j
  by_cases h : j < n
  · simp [madeCells, h, Nat.mod_one]
  · simp [madeCells, h]
theorem info9 : (Tryz.prog.info? 9).map (fun i => (i.zero, i.size, i.bytes)) = some (some (.string ⟨#[]⟩), 1, 16) := by kernel_rfl
theorem decDigits_le (n : Nat) (h : n < 1000000) : (Lib.decDigits n).length ≤ 6 := by
  have key : ∀ (k n : Nat), n < 10 ^ (k + 1) → (Lib.decDigits n).length ≤ k + 1 := by
    intro k
    induction k with
    | zero =>
      intro n h
      rw [Lib.decDigits]
      split
      · simp
      · simp at h; omega
    | succ k ih =>
      intro n h
      rw [Lib.decDigits]
      split
      · simp
      · have := ih (n / 10) (by rw [Nat.pow_succ] at h; omega)
        simp
        omega
  exact key 5 n (by omega)
theorem itoaS_size {n : Int} (h0 : 0 ≤ n) (h1 : n < 65536) : (itoaS n).size ≤ 6 := by
  obtain ⟨m, rfl⟩ : ∃ m : Nat, n = m := ⟨n.toNat, by omega⟩
  have := decDigits_le m (by omega)
  unfold itoaS Lib.itoa
  rw [if_neg (by omega)]
  simpa [ByteArray.size] using this
theorem boolS_size (b : Bool) : (boolS b).size ≤ 5 := by cases b <;> decide
theorem wordsL_length (d : Nat → Int) : ∀ n, (wordsL d n).length ≤ 4 * n
  | 0 => by simp [wordsL]
  | n + 1 => by
    have := wordsL_length d n
    unfold wordsL
    split <;> simp <;> omega
theorem wordsS_size (d : Nat → Int) : (wordsS d).size ≤ 64 := by
  have := wordsL_length d 16
  simpa [wordsS, ByteArray.size] using this
end Go.Proofs.YtbojlnbdkaanmaaGreatDoor
