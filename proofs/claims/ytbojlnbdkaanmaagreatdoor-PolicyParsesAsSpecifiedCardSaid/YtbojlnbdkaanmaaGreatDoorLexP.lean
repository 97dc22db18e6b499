/-
  What the lexer computes, in plain Lean: the tokens of a text.
-/
import Derived.Test.YtbojlnbdkaanmaaGreatDoorLexA
import Derived.Lib.AtoiAll
import Derived.Lib.ItoaNum
import Derived.Lib.SlTrimSet
set_option linter.unusedVariables false
set_option linter.unusedSimpArgs false
namespace Go.Proofs.YtbojlnbdkaanmaaGreatDoor

/-- The value of a list of digits. -/
def decV (l : List UInt8) : Nat := l.foldl (fun n c => n * 10 + (c.toNat - 48)) 0
/-- Digits that are a number of the language. -/
def numOk (w : List UInt8) : Bool := decide (w.length ≤ 5) && (decide (w.length = 1) || decide (w.head? ≠ some 48)) && decide (decV w < 65536)
def ops : List (List UInt8) := [[61, 61], [38, 38], [124, 124], [62, 61], [123], [125], [40], [41], [59], [61], [43], [45], [42], [60], [33]]
/-- What stands behind a number must not go on with a name. -/
def follows (l : List UInt8) : Bool := match l with | [] => false | c :: _ => isWit c.toNat
/-- The next token of a text that begins with no blank. -/
def stepF (start : Int) (l : List UInt8) : Option Tok :=
  match l with
  | [] => none
  | c :: _ =>
    if isLet c.toNat then (if 12 < pre isWit l then none else some ⟨1, ⟨(l.take (pre isWit l)).toArray⟩, 0, start⟩)
    else if isDig c.toNat then (if numOk (l.take (pre isDig l)) && !follows (l.drop (pre isDig l)) then some ⟨2, ⟨(l.take (pre isDig l)).toArray⟩, decV (l.take (pre isDig l)), start⟩ else none)
    else (ops.find? (·.isPrefixOf l)).map fun o => ⟨3, ⟨o.toArray⟩, 0, start⟩
def blank (c : UInt8) : Bool := [32, 9, 10].contains c
def trimF (l : List UInt8) : List UInt8 := l.dropWhile blank
/-- The tokens of the text of n bytes, of which l is left. -/
def lexGo : Nat → Nat → List UInt8 → List Tok → Option (List Tok)
  | 0, _, _, _ => none
  | f + 1, n, l, acc =>
    if trimF l = [] then some acc
    else match stepF (n - (trimF l).length : Nat) (trimF l) with
      | none => none
      | some t => lexGo f n ((trimF l).drop t.s.size) (acc ++ [t])
def lexF (s : ByteArray) : Option (List Tok) := lexGo (s.size + 1) s.size s.toList []

/-! ### Numbers -/
theorem decV_snoc (l : List UInt8) (c : UInt8) : decV (l ++ [c]) = decV l * 10 + (c.toNat - 48) := by simp [decV]
theorem foldl_lt (l : List UInt8) (h : ∀ c ∈ l, isDig c.toNat = true) : ∀ a, (l.foldl (fun n c => n * 10 + (c.toNat - 48)) a) < (a + 1) * 10 ^ l.length := by
  induction l with
  | nil => intro a; simp
  | cons c r ih =>
    intro a
    have hc := h c (by simp)
    simp [isDig] at hc
    have := ih (fun x hx => h x (by simp [hx])) (a * 10 + (c.toNat - 48))
    simp only [List.foldl_cons, List.length_cons]
    refine Nat.lt_of_lt_of_le this ?_
    rw [Nat.pow_succ, Nat.mul_comm (10 ^ r.length) 10, ← Nat.mul_assoc]
    exact Nat.mul_le_mul_right _ (by omega)
theorem decV_lt {l : List UInt8} (h : ∀ c ∈ l, isDig c.toNat = true) (h5 : l.length ≤ 5) : decV l < 100000 := by
  have := foldl_lt l h 0
  simp at this
  have h2 : 10 ^ l.length ≤ 10 ^ 5 := Nat.pow_le_pow_right (by omega) h5
  unfold decV
  omega
/-- A list of digits parses as its value, or it is out of range. -/
theorem parseUint10_dig (l : List UInt8) (h : ∀ c ∈ l, isDig c.toNat = true) : ∀ a, Lib.parseUint10 a l = .ok (l.foldl (fun n c => n * 10 + (c.toNat - 48)) a) ∨ (Lib.parseUint10 a l = .range ∧ 1844674407370955161 < (l.foldl (fun n c => n * 10 + (c.toNat - 48)) a)) := by
  induction l with
  | nil => intro a; exact Or.inl rfl
  | cons c r ih =>
    intro a
    have hc := h c (by simp)
    simp [isDig] at hc
    have hr := fun x hx => h x (List.mem_cons_of_mem c hx)
    have hmono : ∀ (r : List UInt8) a, a ≤ r.foldl (fun n c => n * 10 + (c.toNat - 48)) a := by
      intro r
      induction r with
      | nil => intro a; exact Nat.le_refl _
      | cons d r ih => intro a; simp only [List.foldl_cons]; exact Nat.le_trans (by omega) (ih _)
    have hm := hmono r (a * 10 + (c.toNat - 48))
    simp only [Lib.parseUint10, List.foldl_cons]
    rw [if_pos (by omega)]
    split
    · right
      exact ⟨rfl, by omega⟩
    · split
      · right
        exact ⟨rfl, by omega⟩
      · exact ih hr _
theorem atoiAll_dig {l : List UInt8} (hne : l ≠ []) (h : ∀ c ∈ l, isDig c.toNat = true) :
    Lib.atoiAll l = .ok (decV l) ∨ (Lib.atoiAll l = .range ∧ ¬ (l.length ≤ 5)) := by
  cases l with
  | nil => exact absurd rfl hne
  | cons c r =>
    have hc := h c (by simp)
    simp [isDig] at hc
    have hp := parseUint10_dig (c :: r) h 0
    have hlt := fun q => decV_lt (l := c :: r) h q
    unfold decV at hlt
    rw [Lib.atoiAll, if_neg (by omega), Lib.parseMag, if_neg (by simp)]
    rcases hp with hp | ⟨hp, hb⟩
    · rw [hp]
      simp only []
      split
      · right
        refine ⟨rfl, fun q => ?_⟩
        have := hlt q
        omega
      · split
        · omega
        · left
          rw [if_neg (by omega)]
          rfl
    · rw [hp]
      right
      refine ⟨rfl, fun q => ?_⟩
      have := hlt q
      omega
/-- What Itoa prints of a value is the digits themselves where no zero leads. -/
theorem decDigits_len (u : Nat) : 0 < (Lib.decDigits u).length := by
  rw [Lib.decDigits]
  split <;> simp
theorem u8_dig {c : UInt8} (h : isDig c.toNat = true) : UInt8.ofNat (48 + (c.toNat - 48)) = c := by
  simp [isDig] at h
  rw [show 48 + (c.toNat - 48) = c.toNat by omega]
  simp
theorem decDigits_decV : ∀ (n : Nat) (l : List UInt8), l.length = n → l ≠ [] → (∀ c ∈ l, isDig c.toNat = true) → (l.length = 1 ∨ l.head? ≠ some 48) → Lib.decDigits (decV l) = l := by
  intro n
  induction n with
  | zero => intro l hl hne; exact absurd (List.eq_nil_of_length_eq_zero hl) hne
  | succ n ih =>
    intro l hl hne hd hz
    obtain ⟨r, c, rfl⟩ : ∃ r c, l = r ++ [c] := ⟨l.dropLast, l.getLast hne, (List.dropLast_concat_getLast hne).symm⟩
    have hc := hd c (by simp)
    have hc' := hc
    simp [isDig] at hc'
    rw [decV_snoc]
    cases r with
    | nil =>
      rw [Lib.decDigits, dif_pos (by simp [decV]; omega)]
      simp [decV, u8_dig hc]
    | cons d r =>
      have hz' : (d :: r).length = 1 ∨ (d :: r).head? ≠ some 48 := by
        rcases hz with q | q
        · simp at q
        · exact Or.inr (by simpa using q)
      have hd' : ∀ x ∈ d :: r, isDig x.toNat = true := fun x hx => hd x (by simp at hx ⊢; rcases hx with h | h; exact Or.inl h; exact Or.inr (Or.inl h))
      have ihr := ih (d :: r) (by simpa using hl) (by simp) hd' hz'
      have hpos : 1 ≤ decV (d :: r) := by
        rcases hz with q | q
        · simp at q
        · have hmono : ∀ (r : List UInt8) a, a ≤ r.foldl (fun n c => n * 10 + (c.toNat - 48)) a := by
            intro r
            induction r with
            | nil => intro a; exact Nat.le_refl _
            | cons d r ih => intro a; simp only [List.foldl_cons]; exact Nat.le_trans (by omega) (ih _)
          have h0 := hd d (by simp)
          simp [isDig] at h0
          have hn : d.toNat ≠ 48 := by
            intro e
            apply q
            simp
            exact UInt8.toNat_inj.1 (by simpa using e)
          have := hmono r (0 * 10 + (d.toNat - 48))
          unfold decV
          simp only [List.foldl_cons]
          omega
      rw [Lib.decDigits, dif_neg (by omega), show (decV (d :: r) * 10 + (c.toNat - 48)) / 10 = decV (d :: r) by omega, show (decV (d :: r) * 10 + (c.toNat - 48)) % 10 = c.toNat - 48 by omega, ihr, u8_dig hc]
theorem decDigits_head : ∀ (u : Nat), u ≠ 0 → (Lib.decDigits u).head? ≠ some 48 := by
  intro u
  induction u using Nat.strongRecOn with
  | _ u ih =>
    intro h
    rw [Lib.decDigits]
    split
    · simp
      intro e
      have := congrArg UInt8.toNat e
      simp at this
      omega
    · have := ih (u / 10) (by omega) (by omega)
      have hl := decDigits_len (u / 10)
      cases hx : Lib.decDigits (u / 10) with
      | nil => rw [hx] at hl; simp at hl
      | cons a b => rw [hx] at this; simpa using this
theorem itoa_dig {l : List UInt8} (hne : l ≠ []) (h : ∀ c ∈ l, isDig c.toNat = true) : (Lib.itoa (decV l) = l) ↔ (l.length = 1 ∨ l.head? ≠ some 48) := by
  have hi : Lib.itoa (decV l) = Lib.decDigits (decV l) := by
    unfold Lib.itoa
    rw [if_neg (by omega)]
    simp
  rw [hi]
  constructor
  · intro e
    rcases Nat.eq_zero_or_pos (decV l) with q | q
    · left
      rw [q] at e
      rw [← e]
      rw [Lib.decDigits]
      simp
    · right
      rw [← e]
      exact decDigits_head _ (by omega)
  · exact decDigits_decV l.length l rfl hne h
/-- What the walk asks of a number is what the law says. -/
theorem numOk_eq {l : List UInt8} (hne : l ≠ []) (h : ∀ c ∈ l, isDig c.toNat = true) (h5 : l.length ≤ 5) : numOk l = (decide (decV l < 65536) && (Lib.itoa (decV l) == l)) := by
  have := itoa_dig hne h
  rw [numOk, decide_eq_true h5]
  by_cases hd : decV l < 65536
  · simp only [hd, decide_true, Bool.true_and, Bool.and_true]
    by_cases hi : Lib.itoa (decV l) = l
    · rw [beq_iff_eq.2 hi]
      have := this.1 hi
      simpa using this
    · rw [show (Lib.itoa (decV l) == l) = false from by simpa using hi]
      have := fun q => hi (this.2 q)
      simp at this
      simpa using this
  · simp [hd]
theorem takeWhile_all (p : Int → Bool) : ∀ (l : List UInt8), ∀ c ∈ l.take (pre p l), p c.toNat = true
  | [], c, hc => by simp at hc
  | b :: l, c, hc => by
    by_cases hb : p b.toNat = true
    · have : pre p (b :: l) = pre p l + 1 := by simp [pre, hb]
      rw [this, List.take_succ_cons] at hc
      rcases List.mem_cons.1 hc with h | h
      · rw [h]; exact hb
      · exact takeWhile_all p l c h
    · have : pre p (b :: l) = 0 := by simp [pre, hb]
      rw [this] at hc
      simp at hc
theorem pre_pos {p : Int → Bool} {c : UInt8} {r : List UInt8} (h : p c.toNat = true) : 0 < pre p (c :: r) := by simp [pre, h]
end Go.Proofs.YtbojlnbdkaanmaaGreatDoor
