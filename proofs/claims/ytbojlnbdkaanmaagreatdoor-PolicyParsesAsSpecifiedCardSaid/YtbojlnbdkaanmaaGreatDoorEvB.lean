/-
  The program's evaluation of policies, part 5: the table's functions as one contract.
-/
import Derived.Test.YtbojlnbdkaanmaaGreatDoorEv2
import Derived.Test.YtbojlnbdkaanmaaGreatDoorEv4
set_option linter.unusedVariables false
set_option linter.unusedSimpArgs false
namespace Go.Proofs.YtbojlnbdkaanmaaGreatDoor
open Go.RowKit

/-- A node that may stand at place i: its operands stand ahead of it. -/
structure NdOk (i : Nat) (nd : Nd) : Prop where
  k : 1 ≤ nd.k ∧ nd.k ≤ 10
  n : 0 ≤ nd.n
  m : 0 ≤ nd.m
  one : nd.k = 8 → ∃ a : Nat, nd.of = [(a : Int)] ∧ a < i
  two : nd.k = 9 ∨ nd.k = 10 → ∃ a b : Nat, nd.of = [(a : Int), (b : Int)] ∧ a < i ∧ b < i
/-- The function of the table for a kind. -/
def evFn (k : Int) : FuncId :=
  if k = 1 then 155 else if k = 2 then 156 else if k = 3 then 158 else if k = 4 then 159 else if k = 5 then 160 else if k = 6 then 161 else if k = 7 then 162 else if k = 8 then 164 else if k = 9 then 166 else 168
theorem ev_all (w : World) (nd : Nd) (Ao : Option Addr) (co : Nat) (F : Fct) (As : Option Addr) (cs : Nat) (Ap : Option Addr) (cp : Nat) (Ar : Option Addr) (n cr : Nat) (rs : List Int)
    (hok : NdOk rs.length nd) (hst : F.st.length ≤ 1000000) (hO : Ints w w.heap.size Ao nd.of) (hF : FctAt w w.heap.size F As Ap) (hR : ResAt w w.heap.size Ar n rs) (hv : ∀ x ∈ rs, -1 ≤ x ∧ x ≤ 1) :
    Calls Tryz.prog (evFn nd.k) #[Nd.val nd (.slice Ao nd.of.length co), F.val As cs Ap cp, .slice Ar n cr] w fun e w' => e = .returned (.int .i64 (evStep F rs nd)) ∧ Below w.heap.size w w' := by
  have hk := hok.k
  have h : nd.k = 1 ∨ nd.k = 2 ∨ nd.k = 3 ∨ nd.k = 4 ∨ nd.k = 5 ∨ nd.k = 6 ∨ nd.k = 7 ∨ nd.k = 8 ∨ nd.k = 9 ∨ nd.k = 10 := by omega
  rcases h with h | h | h | h | h | h | h | h | h | h
  · rw [show evFn nd.k = 155 by rw [h]; rfl, show evStep F rs nd = 1 by simp [evStep, h]]
    exact ev155 w nd _ _ rfl F As cs Ap cp
  · rw [show evFn nd.k = 156 by rw [h]; rfl, show evStep F rs nd = tru (F.v == nd.n) by simp [evStep, h]]
    exact ev156 w nd _ _ rfl F As cs Ap cp
  · rw [show evFn nd.k = 158 by rw [h]; rfl, show evStep F rs nd = tru (decide (F.v ≥ nd.n)) by simp [evStep, h]]
    exact ev158 w nd _ _ rfl F As cs Ap cp
  · rw [show evFn nd.k = 159 by rw [h]; rfl, show evStep F rs nd = tru (F.e == nd.n) by simp [evStep, h]]
    exact ev159 w nd _ _ rfl F As cs Ap cp
  · rw [show evFn nd.k = 160 by rw [h]; rfl, show evStep F rs nd = tru (decide (F.e ≥ nd.n)) by simp [evStep, h]]
    exact ev160 w nd _ _ rfl F As cs Ap cp
  · rw [show evFn nd.k = 161 by rw [h]; rfl, show evStep F rs nd = (match F.st[nd.n.toNat]? with | none => 0 | some d => tru (sameD d nd.d)) by simp [evStep, h]; cases F.st[nd.n.toNat]? <;> rfl]
    exact ev161 w nd _ _ rfl F As cs Ap cp nd.n.toNat (Int.toNat_of_nonneg hok.n).symm hst hF.st
  · rw [show evFn nd.k = 162 by rw [h]; rfl, show evStep F rs nd = tookF F nd.n nd.m nd.sd by simp [evStep, h]]
    exact ev162 w nd _ _ rfl F As cs Ap cp nd.n.toNat nd.m.toNat (Int.toNat_of_nonneg hok.n).symm (Int.toNat_of_nonneg hok.m).symm hF.pts
  · obtain ⟨a, hof, ha⟩ := hok.one h
    rw [show evFn nd.k = 164 by rw [h]; rfl, show evStep F rs nd = notI (atI rs nd.of[0]?) by simp [evStep, h]]
    exact ev164 w nd Ao co F As cs Ap cp Ar n cr rs a hof hO hR ha hv
  · obtain ⟨a, b, hof, ha, hb⟩ := hok.two (Or.inl h)
    rw [show evFn nd.k = 166 by rw [h]; rfl, show evStep F rs nd = andI (atI rs nd.of[0]?) (atI rs nd.of[1]?) by simp [evStep, h]]
    exact ev166 w nd Ao co F As cs Ap cp Ar n cr rs a b hof hO hR ha hb
  · obtain ⟨a, b, hof, ha, hb⟩ := hok.two (Or.inr h)
    rw [show evFn nd.k = 168 by rw [h]; rfl, show evStep F rs nd = notI (andI (notI (atI rs nd.of[0]?)) (notI (atI rs nd.of[1]?))) by simp [evStep, h]]
    exact ev168 w nd Ao co F As cs Ap cp Ar n cr rs a b hof hO hR ha hb hv
/-- A result is -1, 0 or 1. -/
theorem tru_b (b : Bool) : -1 ≤ tru b ∧ tru b ≤ 1 := by cases b <;> simp [tru]
theorem atI_b {rs : List Int} (hv : ∀ x ∈ rs, -1 ≤ x ∧ x ≤ 1) (x : Option Int) : -1 ≤ atI rs x ∧ atI rs x ≤ 1 := by
  unfold atI
  cases x with
  | none => simp
  | some i =>
    simp only [List.getD_eq_getElem?_getD]
    cases h : rs[i.toNat]? with
    | none => simp
    | some v => exact hv v (List.mem_of_getElem? h)
theorem evStep_b (F : Fct) (rs : List Int) (nd : Nd) (hv : ∀ x ∈ rs, -1 ≤ x ∧ x ≤ 1) : -1 ≤ evStep F rs nd ∧ evStep F rs nd ≤ 1 := by
  unfold evStep
  split
  · omega
  split
  · exact tru_b _
  split
  · exact tru_b _
  split
  · exact tru_b _
  split
  · exact tru_b _
  split
  · split
    · omega
    · exact tru_b _
  split
  · unfold tookF
    split
    · omega
    · split
      · omega
      · split
        · omega
        · exact tru_b _
  split
  · exact notI_b (atI_b hv _)
  split
  · exact andI_b (atI_b hv _) (atI_b hv _)
  · exact notI_b (andI_b (notI_b (atI_b hv _)) (notI_b (atI_b hv _)))
/-- The results of all nodes. -/
def evAll (F : Fct) (nds : List Nd) : List Int := nds.foldl (fun rs nd => rs ++ [evStep F rs nd]) []
def evalF (F : Fct) (nds : List Nd) : Int := (evAll F nds).getLastD 0
end Go.Proofs.YtbojlnbdkaanmaaGreatDoor
