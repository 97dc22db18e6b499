/-
  The program's evaluation of policies, part 2: stage and took.
-/
import Derived.Test.YtbojlnbdkaanmaaGreatDoorEv
import Derived.Test.YtbojlnbdkaanmaaGreatDoorEqA
set_option linter.unusedVariables false
set_option linter.unusedSimpArgs false
namespace Go.Proofs.YtbojlnbdkaanmaaGreatDoor
open Go.RowKit

theorem sameD_eq (a b : Nat → Int) : sameD a b = (a 0 == b 0 && (a 1 == b 1 && (a 2 == b 2 && (a 3 == b 3 && (a 4 == b 4 && (a 5 == b 5 && (a 6 == b 6 && (a 7 == b 7 && (a 8 == b 8 && (a 9 == b 9 && (a 10 == b 10 && (a 11 == b 11 && (a 12 == b 12 && (a 13 == b 13 && (a 14 == b 14 && (a 15 == b 15 && true)))))))))))))))) := rfl
set_option maxRecDepth 100000 in
set_option maxHeartbeats 4000000 in
theorem ev161 (w : World) (nd : Nd) (o rv : Value) (ho : o.oneCell' = true) (F : Fct) (As : Option Addr) (cs : Nat) (Ap : Option Addr) (cp : Nat) (n : Nat) (hn : nd.n = n) (hst : F.st.length ≤ 1000000) (hS : Row w w.heap.size 16 As (F.st.map dCells)) :
    Calls Tryz.prog 161 #[Nd.val nd o, F.val As cs Ap cp, rv] w fun e w' => e = .returned (.int .i64 (match F.st[nd.n.toNat]? with | none => 0 | some d => tru (sameD d nd.d))) ∧ Below w.heap.size w w' := by
  simp only [Nd.val, Fct.val, hn, Int.toNat_natCast]
  by_cases hlt : n < F.st.length
  · obtain ⟨b, off, rfl, hb, hc⟩ := hS n (dCells F.st[n]) (by simp [List.getElem?_eq_getElem hlt])
    obtain ⟨d, hd⟩ : ∃ d, F.st[n] = d := ⟨_, rfl⟩
    rw [hd] at hc
    obtain ⟨d0, d1, d2, d3, d4, d5, d6, d7, d8, d9, d10, d11, d12, d13, d14, d15⟩ := dCells_at hc
    rw [List.getElem?_eq_getElem hlt, hd]
    have hltI : ((n : Int) < (F.st.length : Int)) := by omega
    have hdec : decide ((n : Int) < (F.st.length : Int)) = true := by simpa using hltI
    have hwr : IntKind.i64.wrap ((F.st.length : Int) - 1) = (F.st.length : Int) - 1 := by
      rw [IntKind.wrap_i64]
      omega
    have hmin : min (n : Int) ((F.st.length : Int) - 1) = n := by omega
    clear hc hS hd
    have hm := guard65

    go_enter Tryz.func161, Tryz.ntmps161
    go_wp2
    go_quiet ((go_at_call 157; refine quiet_left (truth_any _ _)))
    go_wp2
    go_ret
    refine ⟨congrArg (fun b => Ending.returned (.int .i64 (tru b))) ?_, below_drewN (((Below.refl _ w).alloc (Nat.le_refl _) _).alloc (by simp) _) _⟩
    simp only [sameD_eq, Bool.and_true]
  · have hdec : decide ((n : Int) < (F.st.length : Int)) = false := by simp; omega
    rw [List.getElem?_eq_none (by omega)]
    clear hS
    go_enter Tryz.func161, Tryz.ntmps161
    go_wp2
    go_quiet ((go_at_call 157; refine quiet_left (truth_any _ _)))
    go_wp2
    go_ret
    exact ⟨rfl, below_drewN (((Below.refl _ w).alloc (Nat.le_refl _) _).alloc (by simp) _) _⟩
end Go.Proofs.YtbojlnbdkaanmaaGreatDoor
