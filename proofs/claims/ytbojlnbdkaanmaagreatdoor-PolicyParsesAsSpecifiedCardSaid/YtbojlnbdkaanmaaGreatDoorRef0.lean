/-
  The references' small functions: lists of numbers compared, truth, digits and classes of characters.
-/
import Derived.Test.YtbojlnbdkaanmaaGreatDoorDep
import Derived.Test.YtbojlnbdkaanmaaGreatDoorEqA
set_option linter.unusedVariables false
set_option linter.unusedSimpArgs false
namespace Go.Proofs.YtbojlnbdkaanmaaGreatDoor
open Go.RowKit

set_option maxHeartbeats 400000 in
theorem rtruth_any (w : World) (b : Bool) : Calls Tryz.prog 64 #[.bool b] w fun e w' => e = .returned (.int .i64 (if b then 1 else 0)) ∧ w = w' := by
  cases b
  all_goals
    go_enter Tryz.func64, Tryz.ntmps64
    go_wp2
    go_ret
    exact ⟨rfl, rfl⟩

theorem take_eq_snoc {α : Type} {xs ys : List α} {k : Nat} (h : xs.take k = ys.take k) (hx : k < xs.length) (hy : k < ys.length) (he : xs[k] = ys[k]) : xs.take (k + 1) = ys.take (k + 1) := by
  rw [List.take_add_one, List.take_add_one, h, List.getElem?_eq_getElem hx, List.getElem?_eq_getElem hy, he]

set_option maxHeartbeats 1000000 in
theorem ints_any (w : World) (A B : Option Addr) (ca cb : Nat) (xs ys : List Int) (hl : xs.length ≤ 1000000000) (hx : Ints w w.heap.size A xs) (hy : Ints w w.heap.size B ys) :
    Calls Tryz.prog 31 #[.slice A xs.length ca, .slice B ys.length cb] w fun e w' => e = .returned (.bool (decide (xs = ys))) ∧ Below w.heap.size w w' := by
  have Hx := hide hx
  have Hy := hide hy
  clear hx hy
  by_cases hlen : xs.length = ys.length
  · have hne : ((xs.length : Int) != (ys.length : Int)) = false := by rw [hlen]; simp
    have Hlen := hide hlen
    clear hlen
    go_enter Tryz.func31, Tryz.ntmps31
    go_wp2
    go_loopw [5] (fun i wr => ∃ k : Nat, k ≤ xs.length ∧ i = .int .i64 k ∧ Hid (xs.take k = ys.take k) ∧ Hid (Below w.heap.size w wr)) (fun i _ => xs.length - (intOf i).toNat)
    case atStart => exact ⟨0, Nat.zero_le _, rfl, rfl, Below.refl _ _⟩
    case round =>
      obtain ⟨k, hk, rfl, HT, HB⟩ := hrel
      by_cases hlt : k < xs.length
      · obtain ⟨b, off, rfl, hb, c⟩ := Hx.out.at_ hlt
        obtain ⟨b2, off2, rfl, hb2, c2⟩ := Hy.out.at_ (k := k) (by rw [← Hlen.out]; exact hlt)
        have d := (HB.out.cell (p := ⟨b, off + k, none⟩) hb).trans c
        have d2 := (HB.out.cell (p := ⟨b2, off2 + k, none⟩) hb2).trans c2
        have hlI : (k : Int) < (xs.length : Int) := by omega
        have hlI2 : (k : Int) < (ys.length : Int) := by have := Hlen.out; omega
        have hlN2 : k < ys.length := by have := Hlen.out; omega
        obtain ⟨x, hxx⟩ : ∃ x, xs[k] = x := ⟨_, rfl⟩
        obtain ⟨y, hyy⟩ : ∃ y, ys[k] = y := ⟨_, rfl⟩
        rw [hxx] at d
        rw [hyy] at d2
        have Hxx := hide hxx
        have Hyy := hide hyy
        clear c c2 hb hb2 hxx hyy
        by_cases he : x = y
        · subst he
          go_wp2
          go_quiet (fail)
          go_wp2
          go_roundw
          case rel => exact ⟨k + 1, by omega, by go_num, take_eq_snoc HT.out hlt hlN2 (Hxx.out.trans Hyy.out.symm), below_drewN HB.out _⟩
          case measure => simp [intOf]; omega
        · have hq : (x != y) = true := by simpa using he
          go_wp2
          go_quiet (fail)
          go_wp2
          go_ret
          refine ⟨ret_bool ?_, below_drewN HB.out _⟩
          rw [eq_comm, decide_eq_false_iff_not]
          intro h
          subst h
          exact he (Hxx.out.symm.trans Hyy.out)
      · obtain rfl : k = xs.length := by omega
        go_wp2
        go_ret
        refine ⟨ret_bool ?_, HB.out⟩
        have h := HT.out
        rw [List.take_length, Hlen.out, List.take_length] at h
        simp [h]
  · have hne : ((xs.length : Int) != (ys.length : Int)) = true := by simp; omega
    go_enter Tryz.func31, Tryz.ntmps31
    go_wp2
    go_ret
    refine ⟨ret_bool ?_, Below.refl _ _⟩
    rw [eq_comm, decide_eq_false_iff_not]
    intro h
    subst h
    exact hlen rfl
end Go.Proofs.YtbojlnbdkaanmaaGreatDoor
