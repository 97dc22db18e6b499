/-
  The references' Valid and Digests, the statements' refines: what they grant where they answer true.
-/
import Derived.Test.YtbojlnbdkaanmaaGreatDoorEvC
import Derived.Test.YtbojlnbdkaanmaaGreatDoorAstEv
import Derived.Test.YtbojlnbdkaanmaaGreatDoorRef0
set_option linter.unusedVariables false
set_option linter.unusedSimpArgs false
namespace Go.Proofs.YtbojlnbdkaanmaaGreatDoor
open Go.RowKit

def rowOk (p : List Int) : Bool := decide (p.length ≤ 20) && p.all fun x => decide (-1 ≤ x) && decide (x ≤ 3)
def validF (F : Fct) : Bool := decide (F.st.length ≤ 10) && (decide (F.pts.length ≤ 10) && F.pts.all rowOk)
theorem valid_row {F : Fct} {i : Nat} (h : i < F.pts.length) (hr : rowOk F.pts[i] = false) : validF F = false := by
  have : F.pts.all rowOk = false := by
    rw [List.all_eq_false]
    exact ⟨F.pts[i], List.getElem_mem h, by simp [hr]⟩
  simp [validF, this]
theorem row_bad {p : List Int} {k : Nat} (h : k < p.length) (hb : p[k] < -1 ∨ 3 < p[k]) : rowOk p = false := by
  have : (p.all fun x => decide (-1 ≤ x) && decide (x ≤ 3)) = false := by
    rw [List.all_eq_false]
    refine ⟨p[k], List.getElem_mem h, ?_⟩
    simp
    omega
  simp [rowOk, this]
theorem all_take_succ {α : Type} {p : α → Bool} {l : List α} {k : Nat} (h : (l.take k).all p = true) (hk : k < l.length) (hp : p l[k] = true) : (l.take (k + 1)).all p = true := by
  rw [List.take_add_one, List.getElem?_eq_getElem hk, Option.toList_some, List.all_append, h]
  simp [hp]

set_option maxRecDepth 100000 in
set_option maxHeartbeats 4000000 in
theorem valid_any (w : World) (F : Fct) (As : Option Addr) (cs : Nat) (Ap : Option Addr) (cp : Nat) (hF : FctAt w w.heap.size F As Ap) :
    Calls Tryz.prog 21 #[F.val As cs Ap cp] w fun e w' => e = .returned (.bool (validF F)) ∧ Below w.heap.size w w' := by
  have HP := hide hF.pts
  clear hF
  simp only [Fct.val]
  have HB := hide ((Below.refl w.heap.size w).alloc (Nat.le_refl _) (.cells #[.int .i64 F.v, .int .i64 F.e, .slice As F.st.length cs, .slice Ap F.pts.length cp] 42))
  by_cases h1 : F.st.length ≤ 10
  · have e1 : decide ((10 : Int) < (F.st.length : Int)) = false := by simp; omega
    by_cases h2 : F.pts.length ≤ 10
    · have e2 : decide ((10 : Int) < (F.pts.length : Int)) = false := by simp; omega
      go_enter Tryz.func21, Tryz.ntmps21
      go_wp2
      go_loop [3] (fun i => ∃ n : Nat, i = .int .i64 n ∧ n ≤ F.pts.length ∧ Hid ((F.pts.take n).all rowOk = true)) (fun i => F.pts.length - (intOf i).toNat)
      case atStart => exact ⟨0, rfl, Nat.zero_le _, rfl⟩
      case round =>
        obtain ⟨n, rfl, hn, HA⟩ := hrel
        by_cases hlt : n < F.pts.length
        · obtain ⟨b, off, Ao, co, rfl, hb, c, hI⟩ := HP.out.at_ hlt
          obtain ⟨p, hp⟩ : ∃ p, F.pts[n] = p := ⟨_, rfl⟩
          rw [hp] at c hI
          have Hp := hide hp
          have HI := hide hI
          have hltI : (n : Int) < (F.pts.length : Int) := by omega
          clear hp hI
          by_cases h3 : p.length ≤ 20
          · have e3 : decide ((20 : Int) < (p.length : Int)) = false := by simp; omega
            go_wp2
            go_loop [4] (fun i => ∃ k : Nat, i = .int .i64 k ∧ k ≤ p.length ∧ Hid ((p.take k).all (fun x => decide (-1 ≤ x) && decide (x ≤ 3)) = true)) (fun i => p.length - (intOf i).toNat)
            case atStart => exact ⟨0, rfl, Nat.zero_le _, rfl⟩
            case round =>
              obtain ⟨k, rfl, hk, HA2⟩ := hrel
              by_cases hlt2 : k < p.length
              · obtain ⟨b2, off2, rfl, hb2, c2⟩ := HI.out.at_ hlt2
                obtain ⟨x, hx⟩ : ∃ x, p[k] = x := ⟨_, rfl⟩
                rw [hx] at c2
                have Hx := hide hx
                have hlt2I : (k : Int) < (p.length : Int) := by omega
                clear hx
                by_cases hlo : x < -1
                · have hq : decide (x < -1) = true := by simpa using hlo
                  go_wp2
                  go_ret
                  exact ⟨ret_bool (valid_row hlt (by rw [Hp.out]; exact row_bad hlt2 (Or.inl (by rw [Hx.out]; exact hlo)))).symm, HB.out⟩
                · have hq : decide (x < -1) = false := by simpa using hlo
                  by_cases hhi : 3 < x
                  · have hq2 : decide (3 < x) = true := by simpa using hhi
                    go_wp2
                    go_ret
                    exact ⟨ret_bool (valid_row hlt (by rw [Hp.out]; exact row_bad hlt2 (Or.inr (by rw [Hx.out]; exact hhi)))).symm, HB.out⟩
                  · have hq2 : decide (3 < x) = false := by simpa using hhi
                    go_wp2
                    go_round
                    case rel => exact ⟨k + 1, by go_num, by omega, all_take_succ HA2.out hlt2 (by rw [Hx.out]; simp; omega)⟩
                    case measure => simp [intOf]; omega
              · obtain rfl : k = p.length := by omega
                go_wp2
                go_round
                case rel =>
                  refine ⟨n + 1, by go_num, by omega, all_take_succ HA.out hlt ?_⟩
                  have h := HA2.out
                  rw [List.take_length] at h
                  rw [Hp.out, rowOk, h]
                  simpa using h3
                case measure => simp [intOf]; omega
          · have e3 : decide ((20 : Int) < (p.length : Int)) = true := by simp; omega
            go_wp2
            go_ret
            exact ⟨ret_bool (valid_row hlt (by rw [Hp.out]; simp [rowOk, h3])).symm, HB.out⟩
        · obtain rfl : n = F.pts.length := by omega
          go_wp2
          go_ret
          refine ⟨ret_bool ?_, HB.out⟩
          have h := HA.out
          rw [List.take_length] at h
          simp [validF, h, h1, h2]
    · have e2 : decide ((10 : Int) < (F.pts.length : Int)) = true := by simp; omega
      go_enter Tryz.func21, Tryz.ntmps21
      go_wp2
      go_ret
      exact ⟨ret_bool (by simp [validF, h2]), HB.out⟩
  · have e1 : decide ((10 : Int) < (F.st.length : Int)) = true := by simp; omega
    go_enter Tryz.func21, Tryz.ntmps21
    go_wp2
    go_ret
    exact ⟨ret_bool (by simp [validF, h1]), HB.out⟩
end Go.Proofs.YtbojlnbdkaanmaaGreatDoor
