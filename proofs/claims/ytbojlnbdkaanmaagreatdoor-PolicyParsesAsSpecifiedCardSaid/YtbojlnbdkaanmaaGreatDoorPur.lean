/-
  The plain side of the program's parser of policies: what each of its functions computes, on lists of tokens and nodes. No program and no memory in sight.
-/
import Derived.Laws.Strings
set_option linter.unusedVariables false
set_option linter.unusedSimpArgs false
namespace Go.Proofs.YtbojlnbdkaanmaaGreatDoor

structure Tok where
  k : Int
  s : ByteArray
  n : Int
  p : Int
structure Nd where
  k : Int
  n : Int
  m : Int
  sd : Int
  d : Nat → Int
  of : List Int
def nd0 : Nd := ⟨0, 0, 0, 0, fun _ => 0, []⟩
/-- A node without operands and digest. -/
def mkN (k n m sd : Int) : Nd := ⟨k, n, m, sd, fun _ => 0, []⟩
/-- A node with operands. -/
def mkO (k : Int) (of : List Int) : Nd := ⟨k, 0, 0, 0, fun _ => 0, of⟩

def isB (ts : List Tok) (kd : Int) (tx : List UInt8) : Bool :=
  match ts with
  | [] => false
  | t :: _ => t.k == kd && (tx.isEmpty || t.s.toList == tx)
def mustF (kd : Int) (tx : List UInt8) (ts : List Tok) : Option (Tok × List Tok) :=
  match ts with
  | [] => none
  | t :: r => if isB (t :: r) kd tx then some (t, r) else none
theorem isB_cons {ts : List Tok} {kd : Int} {tx : List UInt8} (h : isB ts kd tx = true) : ∃ t r, ts = t :: r := by
  cases ts with
  | nil => simp [isB] at h
  | cons t r => exact ⟨t, r, rfl⟩
theorem mustF_none {kd : Int} {tx : List UInt8} {ts : List Tok} : mustF kd tx ts = none ↔ isB ts kd tx = false := by
  cases ts with
  | nil => simp [mustF, isB]
  | cons t r => cases h : isB (t :: r) kd tx <;> simp [mustF, h]
theorem mustF_some {kd : Int} {tx : List UInt8} {ts : List Tok} {t : Tok} {r : List Tok} : mustF kd tx ts = some (t, r) ↔ ts = t :: r ∧ isB ts kd tx = true := by
  cases ts with
  | nil => simp [mustF]
  | cons t' r' => cases h : isB (t' :: r') kd tx <;> simp [mustF, h]

def compareF (eq al : Int) (ts : List Tok) : Option (Nd × List Tok) :=
  if isB ts 3 [61, 61] then
    match mustF 2 [] ts.tail with
    | none => none
    | some (t, r) => some (mkN eq t.n 0 0, r)
  else
    match mustF 3 [62, 61] ts with
    | none => none
    | some (_, r) =>
      match mustF 2 [] r with
      | none => none
      | some (t, r') => some (mkN al t.n 0 0, r')

/-- The value of a hexadecimal digit. -/
def hexd (c : Int) : Option Int := if 48 ≤ c ∧ c ≤ 57 then some (c - 48) else if 97 ≤ c ∧ c ≤ 102 then some (c - 97 + 10) else none
def byteAt (l : List UInt8) (i : Nat) : Int := ((l.getD i 0).toNat : Int)
/-- Byte k of a word. -/
def byteF (l : List UInt8) (k : Nat) : Option Int :=
  match hexd (byteAt l (2 * k + 1)) with
  | none => none
  | some a =>
    match hexd (byteAt l (2 * k + 2)) with
    | none => none
    | some b => some (16 * a + b)
def upd (d : Nat → Int) (i : Nat) (v : Int) : Nat → Int := fun j => if j = i then v else d j
def inGo (l : List UInt8) (i : Nat) : Nat → Nat → (Nat → Int) → Option (Nat → Int)
  | 0, _, d => some d
  | n + 1, k, d =>
    match byteF l k with
    | none => none
    | some v => inGo l i n (k + 1) (upd d (4 * i + k) v)
def wordOk (l : List UInt8) : Bool := l.length == 9 && l.getD 0 0 == 120
def digGo : Nat → Nat → (Nat → Int) → List Tok → Option ((Nat → Int) × List Tok)
  | 0, _, d, ts => some (d, ts)
  | n + 1, i, d, ts =>
    match mustF 1 [] ts with
    | none => none
    | some (t, r) =>
      if wordOk t.s.toList then
        match inGo t.s.toList i 4 0 d with
        | none => none
        | some d' => digGo n (i + 1) d' r
      else none
def digestF (ts : List Tok) : Option ((Nat → Int) × List Tok) := digGo 4 0 (fun _ => 0) ts

def tAny : List UInt8 := [97, 110, 121]
def tVersion : List UInt8 := [118, 101, 114, 115, 105, 111, 110]
def tEpoch : List UInt8 := [101, 112, 111, 99, 104]
def tStage : List UInt8 := [115, 116, 97, 103, 101]
def tPoint : List UInt8 := [112, 111, 105, 110, 116]
def tIs : List UInt8 := [105, 115]
def tTook : List UInt8 := [116, 111, 111, 107]
def tTrue : List UInt8 := [116, 114, 117, 101]
def tFalse : List UInt8 := [102, 97, 108, 115, 101]

def stageF (ts : List Tok) : Option (Nd × List Tok) :=
  match mustF 2 [] ts with
  | none => none
  | some (a, r1) =>
    match mustF 1 tIs r1 with
    | none => none
    | some (_, r2) =>
      match digestF r2 with
      | none => none
      | some (d, r3) => some (⟨6, a.n, 0, 0, d, []⟩, r3)
def sideF (ts : List Tok) : Option (Int × List Tok) :=
  if isB ts 1 tTrue then some (1, ts.tail)
  else
    match mustF 1 tFalse ts with
    | none => none
    | some (_, r) => some (2, r)
def pointF (ts : List Tok) : Option (Nd × List Tok) :=
  match mustF 2 [] ts with
  | none => none
  | some (a, r1) =>
    match mustF 2 [] r1 with
    | none => none
    | some (b, r2) =>
      match mustF 1 tTook r2 with
      | none => none
      | some (_, r3) =>
        match sideF r3 with
        | none => none
        | some (s, r4) => some (mkN 7 a.n b.n s, r4)
def atomF (ts : List Tok) : Option (Nd × List Tok) :=
  match mustF 1 [] ts with
  | none => none
  | some (t, r) =>
    if t.s.toList == tAny then some (mkN 1 0 0 0, r)
    else if t.s.toList == tVersion then compareF 2 3 r
    else if t.s.toList == tEpoch then compareF 4 5 r
    else if t.s.toList == tStage then stageF r
    else if t.s.toList == tPoint then pointF r
    else none

abbrev PRes := Option (Int × List Tok × List Nd)
/-- An operand, then operators and operands. -/
def chainGo (f : List Tok → List Nd → PRes) (sg : List UInt8) (kd : Int) : Nat → Int → List Tok → List Nd → PRes
  | 0, _, _, _ => none
  | m + 1, a, ts, nds =>
    if isB ts 3 sg then
      match f ts.tail nds with
      | none => none
      | some (b, r, nds') => chainGo f sg kd m (nds'.length : Int) r (nds' ++ [mkO kd [a, b]])
    else some (a, ts, nds)
def chainF (f : List Tok → List Nd → PRes) (sg : List UInt8) (kd : Int) (m : Nat) (ts : List Tok) (nds : List Nd) : PRes :=
  match f ts nds with
  | none => none
  | some (a, r, nds') => chainGo f sg kd m a r nds'
def notF : Nat → List Tok → List Nd → PRes
  | 0, _, _ => none
  | n + 1, ts, nds =>
    if isB ts 3 [33] then
      match notF n ts.tail nds with
      | none => none
      | some (a, r, nds') => some ((nds'.length : Int), r, nds' ++ [mkO 8 [a]])
    else if isB ts 3 [40] then
      match chainF (chainF (notF n) [38, 38] 9 n) [124, 124] 10 n ts.tail nds with
      | none => none
      | some (a, r, nds') =>
        match mustF 3 [41] r with
        | none => none
        | some (_, r') => some (a, r', nds')
    else
      match atomF ts with
      | none => none
      | some (x, r) => some ((nds.length : Int), r, nds ++ [x])
def andF (n : Nat) : List Tok → List Nd → PRes := chainF (notF n) [38, 38] 9 n
def polF (n : Nat) : List Tok → List Nd → PRes := chainF (andF n) [124, 124] 10 n
def treeF (ts : List Tok) : Option (List Nd) :=
  match polF (ts.length + 1) ts [] with
  | none => none
  | some (_, r, nds) => if r.isEmpty then some nds else none

/-! ### What is left is no longer -/
theorem mustF_len {kd : Int} {tx : List UInt8} {ts : List Tok} {t : Tok} {r : List Tok} (h : mustF kd tx ts = some (t, r)) : r.length + 1 = ts.length := by
  obtain ⟨rfl, _⟩ := mustF_some.1 h
  simp
theorem compareF_len {eq al : Int} {ts : List Tok} {x : Nd} {r : List Tok} (h : compareF eq al ts = some (x, r)) : r.length < ts.length := by
  unfold compareF at h
  split at h
  · rename_i hb
    obtain ⟨t, q, rfl⟩ := isB_cons hb
    split at h
    · cases h
    · rename_i t' r' hm
      simp only [Option.some.injEq, Prod.mk.injEq] at h
      obtain ⟨_, rfl⟩ := h
      have := mustF_len hm
      simp at this ⊢
      omega
  · split at h
    · cases h
    · rename_i hm1
      split at h
      · cases h
      · rename_i hm2
        simp only [Option.some.injEq, Prod.mk.injEq] at h
        obtain ⟨_, rfl⟩ := h
        have := mustF_len hm1
        have := mustF_len hm2
        omega
theorem digGo_len : ∀ (n i : Nat) (d : Nat → Int) (ts : List Tok) (d' : Nat → Int) (r : List Tok), digGo n i d ts = some (d', r) → r.length ≤ ts.length
  | 0, i, d, ts, d', r, h => by simp [digGo] at h; rw [h.2]; exact Nat.le_refl _
  | n + 1, i, d, ts, d', r, h => by
    unfold digGo at h
    split at h
    · cases h
    · rename_i hm
      split at h
      · split at h
        · cases h
        · have := digGo_len n _ _ _ _ _ h
          have := mustF_len hm
          omega
      · cases h
theorem stageF_len {ts : List Tok} {x : Nd} {r : List Tok} (h : stageF ts = some (x, r)) : r.length < ts.length := by
  unfold stageF at h
  split at h
  · cases h
  · rename_i h1
    split at h
    · cases h
    · rename_i h2
      split at h
      · cases h
      · rename_i h3
        simp only [Option.some.injEq, Prod.mk.injEq] at h
        obtain ⟨_, rfl⟩ := h
        have := mustF_len h1
        have := mustF_len h2
        have := digGo_len _ _ _ _ _ _ h3
        omega
theorem sideF_len {ts : List Tok} {s : Int} {r : List Tok} (h : sideF ts = some (s, r)) : r.length < ts.length := by
  unfold sideF at h
  split at h
  · rename_i hb
    obtain ⟨t, q, rfl⟩ := isB_cons hb
    simp at h
    rw [← h.2]
    simp
  · split at h
    · cases h
    · rename_i h1
      simp only [Option.some.injEq, Prod.mk.injEq] at h
      obtain ⟨_, rfl⟩ := h
      have := mustF_len h1
      omega
theorem pointF_len {ts : List Tok} {x : Nd} {r : List Tok} (h : pointF ts = some (x, r)) : r.length < ts.length := by
  unfold pointF at h
  split at h
  · cases h
  · rename_i h1
    split at h
    · cases h
    · rename_i h2
      split at h
      · cases h
      · rename_i h3
        split at h
        · cases h
        · rename_i h4
          simp only [Option.some.injEq, Prod.mk.injEq] at h
          obtain ⟨_, rfl⟩ := h
          have := mustF_len h1
          have := mustF_len h2
          have := mustF_len h3
          have := sideF_len h4
          omega
theorem atomF_len {ts : List Tok} {x : Nd} {r : List Tok} (h : atomF ts = some (x, r)) : r.length < ts.length := by
  unfold atomF at h
  split at h
  · cases h
  · rename_i h1
    have := mustF_len h1
    split at h
    · simp only [Option.some.injEq, Prod.mk.injEq] at h
      obtain ⟨_, rfl⟩ := h
      omega
    · split at h
      · have := compareF_len h; omega
      · split at h
        · have := compareF_len h; omega
        · split at h
          · have := stageF_len h; omega
          · split at h
            · have := pointF_len h; omega
            · cases h
theorem chainGo_len {f : List Tok → List Nd → PRes} {sg : List UInt8} {kd : Int} (hf : ∀ ts nds a r nds', f ts nds = some (a, r, nds') → r.length < ts.length) :
    ∀ (m : Nat) (a : Int) (ts : List Tok) (nds : List Nd) (b : Int) (r : List Tok) (nds' : List Nd), chainGo f sg kd m a ts nds = some (b, r, nds') → r.length ≤ ts.length
  | 0, a, ts, nds, b, r, nds', h => by simp [chainGo] at h
  | m + 1, a, ts, nds, b, r, nds', h => by
    unfold chainGo at h
    split at h
    · rename_i hb
      obtain ⟨t, q, rfl⟩ := isB_cons hb
      split at h
      · cases h
      · rename_i h1
        have h2 := chainGo_len hf m _ _ _ _ _ _ h
        have h3 := hf _ _ _ _ _ h1
        simp at h3 ⊢
        omega
    · simp at h
      rw [h.2.1]
      exact Nat.le_refl _
theorem chainF_len {f : List Tok → List Nd → PRes} {sg : List UInt8} {kd : Int} (hf : ∀ ts nds a r nds', f ts nds = some (a, r, nds') → r.length < ts.length) (m : Nat) (ts : List Tok) (nds : List Nd) (b : Int) (r : List Tok) (nds' : List Nd)
    (h : chainF f sg kd m ts nds = some (b, r, nds')) : r.length < ts.length := by
  unfold chainF at h
  split at h
  · cases h
  · rename_i h1
    have := chainGo_len hf _ _ _ _ _ _ _ h
    have := hf _ _ _ _ _ h1
    omega
theorem notF_len : ∀ (n : Nat) (ts : List Tok) (nds : List Nd) (a : Int) (r : List Tok) (nds' : List Nd), notF n ts nds = some (a, r, nds') → r.length < ts.length
  | 0, ts, nds, a, r, nds', h => by simp [notF] at h
  | n + 1, ts, nds, a, r, nds', h => by
    unfold notF at h
    split at h
    · rename_i hb
      obtain ⟨t, q, rfl⟩ := isB_cons hb
      split at h
      · cases h
      · rename_i h1
        simp only [Option.some.injEq, Prod.mk.injEq] at h
        obtain ⟨_, rfl, _⟩ := h
        have := notF_len n _ _ _ _ _ h1
        simp at this ⊢
        omega
    · split at h
      · rename_i hb
        obtain ⟨t, q, rfl⟩ := isB_cons hb
        split at h
        · cases h
        · rename_i h1
          split at h
          · cases h
          · rename_i h2
            simp only [Option.some.injEq, Prod.mk.injEq] at h
            obtain ⟨_, rfl, _⟩ := h
            have := chainF_len (chainF_len (notF_len n) n) n _ _ _ _ _ h1
            have := mustF_len h2
            simp at *
            omega
      · split at h
        · cases h
        · rename_i h1
          simp only [Option.some.injEq, Prod.mk.injEq] at h
          obtain ⟨_, rfl, _⟩ := h
          exact atomF_len h1
theorem andF_len (n : Nat) (ts : List Tok) (nds : List Nd) (a : Int) (r : List Tok) (nds' : List Nd) (h : andF n ts nds = some (a, r, nds')) : r.length < ts.length := chainF_len (notF_len n) n _ _ _ _ _ h
theorem polF_len (n : Nat) (ts : List Tok) (nds : List Nd) (a : Int) (r : List Tok) (nds' : List Nd) (h : polF n ts nds = some (a, r, nds')) : r.length < ts.length := chainF_len (andF_len n) n _ _ _ _ _ h
end Go.Proofs.YtbojlnbdkaanmaaGreatDoor
