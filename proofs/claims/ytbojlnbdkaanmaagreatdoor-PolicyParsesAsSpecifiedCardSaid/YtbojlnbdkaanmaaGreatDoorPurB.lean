/-
  The plain side of the parser, continued: tokens that are left and nodes that were made are together no more than before.
-/
import Derived.Test.YtbojlnbdkaanmaaGreatDoorPur
set_option linter.unusedVariables false
set_option linter.unusedSimpArgs false
namespace Go.Proofs.YtbojlnbdkaanmaaGreatDoor

def SumOk (f : List Tok → List Nd → PRes) : Prop := ∀ ts nds a r nds', f ts nds = some (a, r, nds') → nds'.length + r.length ≤ nds.length + ts.length
def LenOk (f : List Tok → List Nd → PRes) : Prop := ∀ ts nds a r nds', f ts nds = some (a, r, nds') → r.length < ts.length
theorem chainGo_sum {f : List Tok → List Nd → PRes} {sg : List UInt8} {kd : Int} (hf : SumOk f) :
    ∀ (m : Nat) (a : Int) (ts : List Tok) (nds : List Nd) (b : Int) (r : List Tok) (nds' : List Nd), chainGo f sg kd m a ts nds = some (b, r, nds') → nds'.length + r.length ≤ nds.length + ts.length
  | 0, a, ts, nds, b, r, nds', h => by simp [chainGo] at h
  | m + 1, a, ts, nds, b, r, nds', h => by
    unfold chainGo at h
    split at h
    · rename_i hb
      obtain ⟨t, q, rfl⟩ := isB_cons hb
      split at h
      · cases h
      · rename_i h1
        have h2 := chainGo_sum hf m _ _ _ _ _ _ h
        have h3 := hf _ _ _ _ _ h1
        simp at h2 h3 ⊢
        omega
    · simp at h
      obtain ⟨_, rfl, rfl⟩ := h
      exact Nat.le_refl _
theorem chainF_sum {f : List Tok → List Nd → PRes} {sg : List UInt8} {kd : Int} (hf : SumOk f) (m : Nat) : SumOk (chainF f sg kd m) := by
  intro ts nds b r nds' h
  unfold chainF at h
  split at h
  · cases h
  · rename_i h1
    have := chainGo_sum hf _ _ _ _ _ _ _ h
    have := hf _ _ _ _ _ h1
    omega
theorem notF_sum : ∀ (n : Nat), SumOk (notF n)
  | 0 => fun ts nds a r nds' h => by simp [notF] at h
  | n + 1 => fun ts nds a r nds' h => by
    unfold notF at h
    split at h
    · rename_i hb
      obtain ⟨t, q, rfl⟩ := isB_cons hb
      split at h
      · cases h
      · rename_i h1
        simp only [Option.some.injEq, Prod.mk.injEq] at h
        obtain ⟨_, rfl, rfl⟩ := h
        have := notF_sum n _ _ _ _ _ h1
        simp at this ⊢
        omega
    · split at h
      · rename_i hb
        obtain ⟨t, q, rfl⟩ := isB_cons hb
        split at h
        · cases h
        · rename_i h1
          split at h
          · cases h
          · rename_i h2
            simp only [Option.some.injEq, Prod.mk.injEq] at h
            obtain ⟨_, rfl, rfl⟩ := h
            have := chainF_sum (chainF_sum (notF_sum n) n) n _ _ _ _ _ h1
            have := mustF_len h2
            simp at *
            omega
      · split at h
        · cases h
        · rename_i h1
          simp only [Option.some.injEq, Prod.mk.injEq] at h
          obtain ⟨_, rfl, rfl⟩ := h
          have := atomF_len h1
          simp
          omega
theorem andF_sum (n : Nat) : SumOk (andF n) := chainF_sum (notF_sum n) n
theorem polF_sum (n : Nat) : SumOk (polF n) := chainF_sum (andF_sum n) n
end Go.Proofs.YtbojlnbdkaanmaaGreatDoor
