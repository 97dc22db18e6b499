/-
  The reference's Text, part A: digits, hex. The reference's Text. The reference's Points in plain Lean: insertion without doubles is the sorted list without its doubles. The reference's Points.
-/
import Derived.Test.YtbojlnbdkaanmaaGreatDoorTxtA
import Derived.Test.YtbojlnbdkaanmaaGreatDoorReg
import Derived.Test.YtbojlnbdkaanmaaGreatDoorParC
import Derived.Outline
import Derived.Test.YtbojlnbdkaanmaaGreatDoorRfAG
import Derived.Test.YtbojlnbdkaanmaaGreatDoorTxtB
import Derived.Test.YtbojlnbdkaanmaaGreatDoorPtsD
import Derived.Test.YtbojlnbdkaanmaaGreatDoorRfHL
import Derived.Test.YtbojlnbdkaanmaaGreatDoorPrs
namespace Go.Proofs.YtbojlnbdkaanmaaGreatDoor
open Go.RowKit
set_option linter.unusedSimpArgs false
set_option linter.unusedVariables false

theorem itoaS_small {n : Nat} (h : n < 10) : itoaS n = ⟨#[UInt8.ofNat (48 + n)]⟩ := by
  unfold itoaS
  rw [Lib.itoa_nonneg, Lib.decDigits, dif_pos h]
theorem itoaS_step {n : Nat} (h : ¬ n < 10) : itoaS n = itoaS ((n / 10 : Nat) : Int) ++ itoaS ((n % 10 : Nat) : Int) := by
  unfold itoaS
  rw [Lib.itoa_nonneg, Lib.itoa_nonneg, Lib.itoa_nonneg, Lib.decDigits, dif_neg h, Lib.decDigits_one (show n % 10 < 10 by omega)]
  apply ByteArray.ext
  simp
/-- A piece of one byte. -/
theorem dig_piece {n : Nat} (h : n < 10) : (⟨#[48, 49, 50, 51, 52, 53, 54, 55, 56, 57]⟩ : ByteArray).extract n (n + 1) = ⟨#[UInt8.ofNat (48 + n)]⟩ := by
  have : n = 0 ∨ n = 1 ∨ n = 2 ∨ n = 3 ∨ n = 4 ∨ n = 5 ∨ n = 6 ∨ n = 7 ∨ n = 8 ∨ n = 9 := by omega
  rcases this with rfl | rfl | rfl | rfl | rfl | rfl | rfl | rfl | rfl | rfl <;> rfl
set_option maxHeartbeats 2000000 in
theorem rdigits_any : ∀ (n : Nat), n < 65536 → ∀ (w : World), Calls Tryz.prog 59 #[.int .i64 n] w fun e w' => e = .returned (.string (itoaS n)) ∧ w = w' := by
  intro n
  induction n using Nat.strongRecOn with
  | ind n ih =>
    intro hn w
    by_cases h : n < 10
    · have hI : ((n : Int) > 9) = False := by simp; omega
      have hs := itoaS_small h
      have hp := dig_piece h
      rw [hs, ← hp]
      clear hs hp ih
      have h9 : (n : Int) ≤ 9 := by omega
      have h0 : (0 : Int) ≤ n := by omega
      go_enter Tryz.func59, Tryz.ntmps59
      go_wp2
      go_ret
      exact ⟨rfl, rfl⟩
    · have h9 : (9 : Int) < n := by omega
      have h1 := ih (n / 10) (by omega) (by omega)
      have h2 := ih (n % 10) (by omega) (by omega)
      have hs := itoaS_step h
      rw [hs]
      have z1 := itoaS_size (n := ((n / 10 : Nat) : Int)) (by omega) (by omega)
      have z2 := itoaS_size (n := ((n % 10 : Nat) : Int)) (by omega) (by omega)
      obtain ⟨s1, hs1⟩ : ∃ s1, itoaS ((n / 10 : Nat) : Int) = s1 := ⟨_, rfl⟩
      obtain ⟨s2, hs2⟩ : ∃ s2, itoaS ((n % 10 : Nat) : Int) = s2 := ⟨_, rfl⟩
      rw [hs1] at h1 z1 ⊢
      rw [hs2] at h2 z2 ⊢
      have H1 := hide h1
      have H2 := hide h2
      clear hs1 hs2
      have e1 : (n : Int) / 10 = ((n / 10 : Nat) : Int) := by simp
      have e2 : (n : Int) % 10 = ((n % 10 : Nat) : Int) := by simp
      obtain ⟨z, hz⟩ : ∃ z : Int, z = n := ⟨_, rfl⟩
      rw [← hz] at h9 e1 e2 ⊢
      have Hz := hide hz
      have E1 := hide e1
      have E2 := hide e2
      have hz2 : z ≤ 9223372036854775807 := by omega
      clear h1 h2 ih hs hz hn h e1 e2
      go_enter Tryz.func59, Tryz.ntmps59
      go_wp2_with fail
      rw [E1.out]
      refine Calls.mono (H1.out _) ?_
      rintro e w1 ⟨rfl, rfl⟩
      go_wp2_with fail
      rw [E2.out]
      refine Calls.mono (H2.out _) ?_
      rintro e w1 ⟨rfl, rfl⟩
      go_wp2
      go_ret
      exact ⟨rfl, rfl⟩
/-- A hexadecimal digit's piece. -/
theorem hex_piece {n : Nat} (h : n < 16) : (⟨#[48, 49, 50, 51, 52, 53, 54, 55, 56, 57, 97, 98, 99, 100, 101, 102]⟩ : ByteArray).extract n (n + 1) = ⟨#[hexC n]⟩ := by
  have : n = 0 ∨ n = 1 ∨ n = 2 ∨ n = 3 ∨ n = 4 ∨ n = 5 ∨ n = 6 ∨ n = 7 ∨ n = 8 ∨ n = 9 ∨ n = 10 ∨ n = 11 ∨ n = 12 ∨ n = 13 ∨ n = 14 ∨ n = 15 := by omega
  rcases this with rfl | rfl | rfl | rfl | rfl | rfl | rfl | rfl | rfl | rfl | rfl | rfl | rfl | rfl | rfl | rfl <;> rfl
def wordsB (d : Nat → Int) (i : Nat) : ByteArray := ⟨(wordsL d i).toArray⟩
theorem wordsB_size (d : Nat → Int) : ∀ i, (wordsB d i).size ≤ 4 * i
  | 0 => Nat.le_of_eq (show (⟨#[]⟩ : ByteArray).size = 0 from rfl)
  | i + 1 => by
    have h := wordsB_size d i
    unfold wordsB at h ⊢
    simp only [wordsL, List.size_toArray, ByteArray.size] at h ⊢
    split <;> simp <;> omega
theorem wordsB_four {d : Nat → Int} {i : Nat} (h : i % 4 = 0) (a b : Nat) (ha : d i / 16 = a) (hb : d i % 16 = b) : wordsB d i ++ (⟨#[32, 120]⟩ : ByteArray) ++ ⟨#[hexC a]⟩ ++ ⟨#[hexC b]⟩ = wordsB d (i + 1) := by
  apply ByteArray.ext
  simp [wordsB, wordsL, h, ha, hb]
theorem wordsB_next {d : Nat → Int} {i : Nat} (h : ¬ i % 4 = 0) (a b : Nat) (ha : d i / 16 = a) (hb : d i % 16 = b) : wordsB d i ++ ⟨#[hexC a]⟩ ++ ⟨#[hexC b]⟩ = wordsB d (i + 1) := by
  apply ByteArray.ext
  simp [wordsB, wordsL, h, ha, hb]
set_option maxRecDepth 100000 in
set_option maxHeartbeats 4000000 in
theorem rhex_any (w : World) (d : Nat → Int) (hd : ∀ i, i < 16 → 0 ≤ d i ∧ d i ≤ 255) : Calls Tryz.prog 60 #[.agg (digArr d)] w fun e w' => e = .returned (.string (wordsS d)) ∧ Below w.heap.size w w' := by
  obtain ⟨W0, hW0⟩ : ∃ W0, W0 = w.alloc (.cells (digArr d) 65) := ⟨_, rfl⟩
  obtain ⟨fb, fk, fs⟩ := fresh_facts hW0
  have HB := hide fb
  have HK := hide fk
  have HW := hide hW0
  have Hd := hide hd
  clear fb fk fs hW0 hd
  go_enter Tryz.func60, Tryz.ntmps60
  go_wp2_with fail
  rw [← HW.out]
  go_loopg [3, 4] 16 (fun g sv iv wr => ∃ (i : Nat), i + g = 16 ∧ sv = .string (wordsB d i) ∧ iv = .int .i64 i ∧ ∃ m, wr = W0.drewN m)
  case atStart => exact ⟨0, rfl, rfl, rfl, 0, rfl⟩
  case round =>
    obtain ⟨i, hig, rfl, rfl, m, rfl⟩ := hrel
    cases gk with
    | zero =>
      obtain rfl : i = 16 := by omega
      go_wp2
      go_ret
      exact ⟨rfl, below_drewN HB.out m⟩
    | succ g =>
      have hi : i < 16 := by omega
      obtain ⟨h0, h255⟩ := Hd.out i hi
      have c0 : (W0.drewN m).cell? ⟨w.heap.size, i, none⟩ = some (.int .u8 (d i)) := by
        show W0.cell? _ = _
        rw [cell_of_row _ _ _ _ _ _ HK.out]
        exact digArr_get d i hi
      obtain ⟨a, ha⟩ : ∃ a : Nat, d i / 16 = a := ⟨(d i / 16).toNat, by omega⟩
      obtain ⟨b, hb⟩ : ∃ b : Nat, d i % 16 = b := ⟨(d i % 16).toNat, by omega⟩
      have ha16 : a < 16 := by omega
      have hb16 : b < 16 := by omega
      obtain ⟨z, hz⟩ : ∃ z, d i = z := ⟨_, rfl⟩
      rw [hz] at c0 h0 h255
      by_cases h4 : i % 4 = 0
      · have hw := wordsB_four h4 a b ha hb
        rw [← hex_piece ha16, ← hex_piece hb16] at hw
        have Hw := hide hw
        have h4I : ((i : Int) % 4) = 0 := by omega
        rw [hz] at ha hb
        have q1 : IntKind.u8.wrap (z.tdiv 16) = (a : Int) := by rw [IntWalk.u8_quo z 16 (by omega)]; exact ha
        have q2 : IntKind.u8.wrap (z.tmod 16) = (b : Int) := by rw [Int.tmod_eq_emod_of_nonneg h0, hb]; exact IntWalk.u8_in _ (by omega)
        have q7 : z.tmod 16 = (b : Int) := by rw [Int.tmod_eq_emod_of_nonneg h0, hb]
        have q3 : IntKind.u8.wrap ((a : Int) + 1) = (a : Int) + 1 := IntWalk.u8_in _ (by omega)
        have q4 : IntKind.u8.wrap ((b : Int) + 1) = (b : Int) + 1 := IntWalk.u8_in _ (by omega)
        have q5 : (a : Int) + 1 ≤ 16 := by omega
        have q6 : (b : Int) + 1 ≤ 16 := by omega
        have hsz := wordsB_size d i
        have hsz2 : (wordsB d i).size ≤ 64 := by omega
        clear hw hz h4 hsz
        go_wp2
        refine wp_region_held (S := fun W' => W'.cell? ⟨w.heap.size, i, none⟩ = some (.int .u8 z)) (by kernel_rfl) ?_
        change wpAnyH _ _ _ _ _ _ _ _ (World.drew _)
        have HS := hide (show (World.drewN W0 (m + 1)).cell? ⟨w.heap.size, i, none⟩ = some (.int .u8 z) from c0)
        refine takeH (i := 0) (d := 14) (v := .string (wordsB d i ++ (⟨#[32, 120]⟩ : ByteArray))) rfl rfl (by kernel_rfl) (by kernel_rfl) (by kernel_rfl) (fun _ _ _ h => h) rfl HS.out ?_ ?_
        · intro W' _; go_simp; all_goals (first | omega | exact q7 | rw [if_pos (by omega), if_pos (by omega)])
        try simp only [Act.put, List.setIfInBounds_toArray, List.set_cons_zero, List.set_cons_succ]
        refine takeH (i := 1) (d := 15) (v := .int .i64 i) rfl rfl (by kernel_rfl) (by kernel_rfl) (by kernel_rfl) (fun _ _ _ h => h) rfl HS.out ?_ ?_
        · intro W' _; go_simp; all_goals (first | omega | exact q7 | rw [if_pos (by omega), if_pos (by omega)])
        try simp only [Act.put, List.setIfInBounds_toArray, List.set_cons_zero, List.set_cons_succ]
        refine takeH (i := 2) (d := 16) (v := .pointer (some ⟨w.heap.size, i, none⟩)) rfl rfl (by kernel_rfl) (by kernel_rfl) (by kernel_rfl) (fun _ _ _ h => h) rfl HS.out ?_ ?_
        · intro W' _; go_simp; all_goals (first | omega | exact q7 | rw [if_pos (by omega), if_pos (by omega)])
        try simp only [Act.put, List.setIfInBounds_toArray, List.set_cons_zero, List.set_cons_succ]
        refine takeH (i := 3) (d := 17) (v := .int .u8 z) rfl rfl (by kernel_rfl) (by kernel_rfl) (by kernel_rfl) (fun _ _ _ h => h) rfl HS.out ?_ ?_
        · intro W' hS; go_simp
        try simp only [Act.put, List.setIfInBounds_toArray, List.set_cons_zero, List.set_cons_succ]
        refine takeH (i := 4) (d := 18) (v := .int .u8 a) rfl rfl (by kernel_rfl) (by kernel_rfl) (by kernel_rfl) (fun _ _ _ h => h) rfl HS.out ?_ ?_
        · intro W' _; go_simp; all_goals (first | omega | exact q7 | rw [if_pos (by omega), if_pos (by omega)])
        try simp only [Act.put, List.setIfInBounds_toArray, List.set_cons_zero, List.set_cons_succ]
        refine takeH (i := 5) (d := 19) (v := .int .i64 i) rfl rfl (by kernel_rfl) (by kernel_rfl) (by kernel_rfl) (fun _ _ _ h => h) rfl HS.out ?_ ?_
        · intro W' _; go_simp; all_goals (first | omega | exact q7 | rw [if_pos (by omega), if_pos (by omega)])
        try simp only [Act.put, List.setIfInBounds_toArray, List.set_cons_zero, List.set_cons_succ]
        refine takeH (i := 6) (d := 20) (v := .pointer (some ⟨w.heap.size, i, none⟩)) rfl rfl (by kernel_rfl) (by kernel_rfl) (by kernel_rfl) (fun _ _ _ h => h) rfl HS.out ?_ ?_
        · intro W' _; go_simp; all_goals (first | omega | exact q7 | rw [if_pos (by omega), if_pos (by omega)])
        try simp only [Act.put, List.setIfInBounds_toArray, List.set_cons_zero, List.set_cons_succ]
        refine takeH (i := 7) (d := 21) (v := .int .u8 z) rfl rfl (by kernel_rfl) (by kernel_rfl) (by kernel_rfl) (fun _ _ _ h => h) rfl HS.out ?_ ?_
        · intro W' hS; go_simp
        try simp only [Act.put, List.setIfInBounds_toArray, List.set_cons_zero, List.set_cons_succ]
        refine takeH (i := 8) (d := 22) (v := .int .u8 a) rfl rfl (by kernel_rfl) (by kernel_rfl) (by kernel_rfl) (fun _ _ _ h => h) rfl HS.out ?_ ?_
        · intro W' _; go_simp; all_goals (first | omega | exact q7 | rw [if_pos (by omega), if_pos (by omega)])
        try simp only [Act.put, List.setIfInBounds_toArray, List.set_cons_zero, List.set_cons_succ]
        refine takeH (i := 9) (d := 23) (v := .int .u8 ((a : Int) + 1)) rfl rfl (by kernel_rfl) (by kernel_rfl) (by kernel_rfl) (fun _ _ _ h => h) rfl HS.out ?_ ?_
        · intro W' _; go_simp; all_goals (first | omega | exact q7 | rw [if_pos (by omega), if_pos (by omega)])
        try simp only [Act.put, List.setIfInBounds_toArray, List.set_cons_zero, List.set_cons_succ]
        refine takeH (i := 10) (d := 24) (v := .string ((⟨#[48, 49, 50, 51, 52, 53, 54, 55, 56, 57, 97, 98, 99, 100, 101, 102]⟩ : ByteArray).extract a (a + 1))) rfl rfl (by kernel_rfl) (by kernel_rfl) (by kernel_rfl) (fun _ _ _ h => h) rfl HS.out ?_ ?_
        · intro W' _; go_simp; all_goals (first | omega | exact q7 | rw [if_pos (by omega), if_pos (by omega)])
        try simp only [Act.put, List.setIfInBounds_toArray, List.set_cons_zero, List.set_cons_succ]
        refine takeH (i := 11) (d := 25) (v := .string ((wordsB d i ++ (⟨#[32, 120]⟩ : ByteArray)) ++ (⟨#[48, 49, 50, 51, 52, 53, 54, 55, 56, 57, 97, 98, 99, 100, 101, 102]⟩ : ByteArray).extract a (a + 1))) rfl rfl (by kernel_rfl) (by kernel_rfl) (by kernel_rfl) (fun _ _ _ h => h) rfl HS.out ?_ ?_
        · intro W' _; go_simp; all_goals (first | omega | exact q7 | rw [if_pos (by omega), if_pos (by omega)])
        try simp only [Act.put, List.setIfInBounds_toArray, List.set_cons_zero, List.set_cons_succ]
        refine takeH (i := 12) (d := 26) (v := .int .i64 i) rfl rfl (by kernel_rfl) (by kernel_rfl) (by kernel_rfl) (fun _ _ _ h => h) rfl HS.out ?_ ?_
        · intro W' _; go_simp; all_goals (first | omega | exact q7 | rw [if_pos (by omega), if_pos (by omega)])
        try simp only [Act.put, List.setIfInBounds_toArray, List.set_cons_zero, List.set_cons_succ]
        refine takeH (i := 13) (d := 27) (v := .pointer (some ⟨w.heap.size, i, none⟩)) rfl rfl (by kernel_rfl) (by kernel_rfl) (by kernel_rfl) (fun _ _ _ h => h) rfl HS.out ?_ ?_
        · intro W' _; go_simp; all_goals (first | omega | exact q7 | rw [if_pos (by omega), if_pos (by omega)])
        try simp only [Act.put, List.setIfInBounds_toArray, List.set_cons_zero, List.set_cons_succ]
        refine takeH (i := 14) (d := 28) (v := .int .u8 z) rfl rfl (by kernel_rfl) (by kernel_rfl) (by kernel_rfl) (fun _ _ _ h => h) rfl HS.out ?_ ?_
        · intro W' hS; go_simp
        try simp only [Act.put, List.setIfInBounds_toArray, List.set_cons_zero, List.set_cons_succ]
        refine takeH (i := 15) (d := 29) (v := .int .u8 b) rfl rfl (by kernel_rfl) (by kernel_rfl) (by kernel_rfl) (fun _ _ _ h => h) rfl HS.out ?_ ?_
        · intro W' _; go_simp; all_goals (first | omega | exact q7 | rw [if_pos (by omega), if_pos (by omega)])
        try simp only [Act.put, List.setIfInBounds_toArray, List.set_cons_zero, List.set_cons_succ]
        refine takeH (i := 16) (d := 30) (v := .int .i64 i) rfl rfl (by kernel_rfl) (by kernel_rfl) (by kernel_rfl) (fun _ _ _ h => h) rfl HS.out ?_ ?_
        · intro W' _; go_simp; all_goals (first | omega | exact q7 | rw [if_pos (by omega), if_pos (by omega)])
        try simp only [Act.put, List.setIfInBounds_toArray, List.set_cons_zero, List.set_cons_succ]
        refine takeH (i := 17) (d := 31) (v := .pointer (some ⟨w.heap.size, i, none⟩)) rfl rfl (by kernel_rfl) (by kernel_rfl) (by kernel_rfl) (fun _ _ _ h => h) rfl HS.out ?_ ?_
        · intro W' _; go_simp; all_goals (first | omega | exact q7 | rw [if_pos (by omega), if_pos (by omega)])
        try simp only [Act.put, List.setIfInBounds_toArray, List.set_cons_zero, List.set_cons_succ]
        refine takeH (i := 18) (d := 32) (v := .int .u8 z) rfl rfl (by kernel_rfl) (by kernel_rfl) (by kernel_rfl) (fun _ _ _ h => h) rfl HS.out ?_ ?_
        · intro W' hS; go_simp
        try simp only [Act.put, List.setIfInBounds_toArray, List.set_cons_zero, List.set_cons_succ]
        refine takeH (i := 19) (d := 33) (v := .int .u8 b) rfl rfl (by kernel_rfl) (by kernel_rfl) (by kernel_rfl) (fun _ _ _ h => h) rfl HS.out ?_ ?_
        · intro W' _; go_simp; all_goals (first | omega | exact q7 | rw [if_pos (by omega), if_pos (by omega)])
        try simp only [Act.put, List.setIfInBounds_toArray, List.set_cons_zero, List.set_cons_succ]
        refine takeH (i := 20) (d := 34) (v := .int .u8 ((b : Int) + 1)) rfl rfl (by kernel_rfl) (by kernel_rfl) (by kernel_rfl) (fun _ _ _ h => h) rfl HS.out ?_ ?_
        · intro W' _; go_simp; all_goals (first | omega | exact q7 | rw [if_pos (by omega), if_pos (by omega)])
        try simp only [Act.put, List.setIfInBounds_toArray, List.set_cons_zero, List.set_cons_succ]
        refine takeH (i := 21) (d := 35) (v := .string ((⟨#[48, 49, 50, 51, 52, 53, 54, 55, 56, 57, 97, 98, 99, 100, 101, 102]⟩ : ByteArray).extract b (b + 1))) rfl rfl (by kernel_rfl) (by kernel_rfl) (by kernel_rfl) (fun _ _ _ h => h) rfl HS.out ?_ ?_
        · intro W' _; go_simp; all_goals (first | omega | exact q7 | rw [if_pos (by omega), if_pos (by omega)])
        try simp only [Act.put, List.setIfInBounds_toArray, List.set_cons_zero, List.set_cons_succ]
        refine takeH (i := 22) (d := 36) (v := .string ((wordsB d i ++ (⟨#[32, 120]⟩ : ByteArray)) ++ (⟨#[48, 49, 50, 51, 52, 53, 54, 55, 56, 57, 97, 98, 99, 100, 101, 102]⟩ : ByteArray).extract a (a + 1) ++ (⟨#[48, 49, 50, 51, 52, 53, 54, 55, 56, 57, 97, 98, 99, 100, 101, 102]⟩ : ByteArray).extract b (b + 1))) rfl rfl (by kernel_rfl) (by kernel_rfl) (by kernel_rfl) (fun _ _ _ h => h) rfl HS.out ?_ ?_
        · intro W' _; go_simp; all_goals (first | omega | exact q7 | rw [if_pos (by omega), if_pos (by omega)])
        try simp only [Act.put, List.setIfInBounds_toArray, List.set_cons_zero, List.set_cons_succ]
        refine takeH (i := 23) (d := 3) (v := .string ((wordsB d i ++ (⟨#[32, 120]⟩ : ByteArray)) ++ (⟨#[48, 49, 50, 51, 52, 53, 54, 55, 56, 57, 97, 98, 99, 100, 101, 102]⟩ : ByteArray).extract a (a + 1) ++ (⟨#[48, 49, 50, 51, 52, 53, 54, 55, 56, 57, 97, 98, 99, 100, 101, 102]⟩ : ByteArray).extract b (b + 1))) rfl rfl (by kernel_rfl) (by kernel_rfl) (by kernel_rfl) (fun _ _ _ h => h) rfl HS.out ?_ ?_
        · intro W' _; go_simp; all_goals (first | omega | exact q7 | rw [if_pos (by omega), if_pos (by omega)])
        try simp only [Act.put, List.setIfInBounds_toArray, List.set_cons_zero, List.set_cons_succ]
        refine wpAnyH_done (by kernel_rfl) ?_ _
        rw [Hw.out]
        go_wp2
        go_roundg g
        case measure => omega
        case rel => exact ⟨i + 1, by omega, rfl, by go_num, m + 1, rfl⟩
      · have hw := wordsB_next h4 a b ha hb
        rw [← hex_piece ha16, ← hex_piece hb16] at hw
        have Hw := hide hw
        have h4I : (((i : Int) % 4) == 0) = false := by simp; omega
        rw [hz] at ha hb
        have q1 : IntKind.u8.wrap (z.tdiv 16) = (a : Int) := by rw [IntWalk.u8_quo z 16 (by omega)]; exact ha
        have q2 : IntKind.u8.wrap (z.tmod 16) = (b : Int) := by rw [Int.tmod_eq_emod_of_nonneg h0, hb]; exact IntWalk.u8_in _ (by omega)
        have q7 : z.tmod 16 = (b : Int) := by rw [Int.tmod_eq_emod_of_nonneg h0, hb]
        have q3 : IntKind.u8.wrap ((a : Int) + 1) = (a : Int) + 1 := IntWalk.u8_in _ (by omega)
        have q4 : IntKind.u8.wrap ((b : Int) + 1) = (b : Int) + 1 := IntWalk.u8_in _ (by omega)
        have q5 : (a : Int) + 1 ≤ 16 := by omega
        have q6 : (b : Int) + 1 ≤ 16 := by omega
        have hsz := wordsB_size d i
        have hsz2 : (wordsB d i).size ≤ 64 := by omega
        clear hw hz h4 hsz
        go_wp2
        refine wp_region_held (S := fun W' => W'.cell? ⟨w.heap.size, i, none⟩ = some (.int .u8 z)) (by kernel_rfl) ?_
        change wpAnyH _ _ _ _ _ _ _ _ (World.drew _)
        have HS := hide (show (World.drewN W0 (m + 1)).cell? ⟨w.heap.size, i, none⟩ = some (.int .u8 z) from c0)
        refine takeH (i := 0) (d := 14) (v := .string (wordsB d i)) rfl rfl (by kernel_rfl) (by kernel_rfl) (by kernel_rfl) (fun _ _ _ h => h) rfl HS.out ?_ ?_
        · intro W' _; go_simp; all_goals (first | omega | exact q7 | rw [if_pos (by omega), if_pos (by omega)])
        try simp only [Act.put, List.setIfInBounds_toArray, List.set_cons_zero, List.set_cons_succ]
        refine takeH (i := 1) (d := 15) (v := .int .i64 i) rfl rfl (by kernel_rfl) (by kernel_rfl) (by kernel_rfl) (fun _ _ _ h => h) rfl HS.out ?_ ?_
        · intro W' _; go_simp; all_goals (first | omega | exact q7 | rw [if_pos (by omega), if_pos (by omega)])
        try simp only [Act.put, List.setIfInBounds_toArray, List.set_cons_zero, List.set_cons_succ]
        refine takeH (i := 2) (d := 16) (v := .pointer (some ⟨w.heap.size, i, none⟩)) rfl rfl (by kernel_rfl) (by kernel_rfl) (by kernel_rfl) (fun _ _ _ h => h) rfl HS.out ?_ ?_
        · intro W' _; go_simp; all_goals (first | omega | exact q7 | rw [if_pos (by omega), if_pos (by omega)])
        try simp only [Act.put, List.setIfInBounds_toArray, List.set_cons_zero, List.set_cons_succ]
        refine takeH (i := 3) (d := 17) (v := .int .u8 z) rfl rfl (by kernel_rfl) (by kernel_rfl) (by kernel_rfl) (fun _ _ _ h => h) rfl HS.out ?_ ?_
        · intro W' hS; go_simp
        try simp only [Act.put, List.setIfInBounds_toArray, List.set_cons_zero, List.set_cons_succ]
        refine takeH (i := 4) (d := 18) (v := .int .u8 a) rfl rfl (by kernel_rfl) (by kernel_rfl) (by kernel_rfl) (fun _ _ _ h => h) rfl HS.out ?_ ?_
        · intro W' _; go_simp; all_goals (first | omega | exact q7 | rw [if_pos (by omega), if_pos (by omega)])
        try simp only [Act.put, List.setIfInBounds_toArray, List.set_cons_zero, List.set_cons_succ]
        refine takeH (i := 5) (d := 19) (v := .int .i64 i) rfl rfl (by kernel_rfl) (by kernel_rfl) (by kernel_rfl) (fun _ _ _ h => h) rfl HS.out ?_ ?_
        · intro W' _; go_simp; all_goals (first | omega | exact q7 | rw [if_pos (by omega), if_pos (by omega)])
        try simp only [Act.put, List.setIfInBounds_toArray, List.set_cons_zero, List.set_cons_succ]
        refine takeH (i := 6) (d := 20) (v := .pointer (some ⟨w.heap.size, i, none⟩)) rfl rfl (by kernel_rfl) (by kernel_rfl) (by kernel_rfl) (fun _ _ _ h => h) rfl HS.out ?_ ?_
        · intro W' _; go_simp; all_goals (first | omega | exact q7 | rw [if_pos (by omega), if_pos (by omega)])
        try simp only [Act.put, List.setIfInBounds_toArray, List.set_cons_zero, List.set_cons_succ]
        refine takeH (i := 7) (d := 21) (v := .int .u8 z) rfl rfl (by kernel_rfl) (by kernel_rfl) (by kernel_rfl) (fun _ _ _ h => h) rfl HS.out ?_ ?_
        · intro W' hS; go_simp
        try simp only [Act.put, List.setIfInBounds_toArray, List.set_cons_zero, List.set_cons_succ]
        refine takeH (i := 8) (d := 22) (v := .int .u8 a) rfl rfl (by kernel_rfl) (by kernel_rfl) (by kernel_rfl) (fun _ _ _ h => h) rfl HS.out ?_ ?_
        · intro W' _; go_simp; all_goals (first | omega | exact q7 | rw [if_pos (by omega), if_pos (by omega)])
        try simp only [Act.put, List.setIfInBounds_toArray, List.set_cons_zero, List.set_cons_succ]
        refine takeH (i := 9) (d := 23) (v := .int .u8 ((a : Int) + 1)) rfl rfl (by kernel_rfl) (by kernel_rfl) (by kernel_rfl) (fun _ _ _ h => h) rfl HS.out ?_ ?_
        · intro W' _; go_simp; all_goals (first | omega | exact q7 | rw [if_pos (by omega), if_pos (by omega)])
        try simp only [Act.put, List.setIfInBounds_toArray, List.set_cons_zero, List.set_cons_succ]
        refine takeH (i := 10) (d := 24) (v := .string ((⟨#[48, 49, 50, 51, 52, 53, 54, 55, 56, 57, 97, 98, 99, 100, 101, 102]⟩ : ByteArray).extract a (a + 1))) rfl rfl (by kernel_rfl) (by kernel_rfl) (by kernel_rfl) (fun _ _ _ h => h) rfl HS.out ?_ ?_
        · intro W' _; go_simp; all_goals (first | omega | exact q7 | rw [if_pos (by omega), if_pos (by omega)])
        try simp only [Act.put, List.setIfInBounds_toArray, List.set_cons_zero, List.set_cons_succ]
        refine takeH (i := 11) (d := 25) (v := .string ((wordsB d i) ++ (⟨#[48, 49, 50, 51, 52, 53, 54, 55, 56, 57, 97, 98, 99, 100, 101, 102]⟩ : ByteArray).extract a (a + 1))) rfl rfl (by kernel_rfl) (by kernel_rfl) (by kernel_rfl) (fun _ _ _ h => h) rfl HS.out ?_ ?_
        · intro W' _; go_simp; all_goals (first | omega | exact q7 | rw [if_pos (by omega), if_pos (by omega)])
        try simp only [Act.put, List.setIfInBounds_toArray, List.set_cons_zero, List.set_cons_succ]
        refine takeH (i := 12) (d := 26) (v := .int .i64 i) rfl rfl (by kernel_rfl) (by kernel_rfl) (by kernel_rfl) (fun _ _ _ h => h) rfl HS.out ?_ ?_
        · intro W' _; go_simp; all_goals (first | omega | exact q7 | rw [if_pos (by omega), if_pos (by omega)])
        try simp only [Act.put, List.setIfInBounds_toArray, List.set_cons_zero, List.set_cons_succ]
        refine takeH (i := 13) (d := 27) (v := .pointer (some ⟨w.heap.size, i, none⟩)) rfl rfl (by kernel_rfl) (by kernel_rfl) (by kernel_rfl) (fun _ _ _ h => h) rfl HS.out ?_ ?_
        · intro W' _; go_simp; all_goals (first | omega | exact q7 | rw [if_pos (by omega), if_pos (by omega)])
        try simp only [Act.put, List.setIfInBounds_toArray, List.set_cons_zero, List.set_cons_succ]
        refine takeH (i := 14) (d := 28) (v := .int .u8 z) rfl rfl (by kernel_rfl) (by kernel_rfl) (by kernel_rfl) (fun _ _ _ h => h) rfl HS.out ?_ ?_
        · intro W' hS; go_simp
        try simp only [Act.put, List.setIfInBounds_toArray, List.set_cons_zero, List.set_cons_succ]
        refine takeH (i := 15) (d := 29) (v := .int .u8 b) rfl rfl (by kernel_rfl) (by kernel_rfl) (by kernel_rfl) (fun _ _ _ h => h) rfl HS.out ?_ ?_
        · intro W' _; go_simp; all_goals (first | omega | exact q7 | rw [if_pos (by omega), if_pos (by omega)])
        try simp only [Act.put, List.setIfInBounds_toArray, List.set_cons_zero, List.set_cons_succ]
        refine takeH (i := 16) (d := 30) (v := .int .i64 i) rfl rfl (by kernel_rfl) (by kernel_rfl) (by kernel_rfl) (fun _ _ _ h => h) rfl HS.out ?_ ?_
        · intro W' _; go_simp; all_goals (first | omega | exact q7 | rw [if_pos (by omega), if_pos (by omega)])
        try simp only [Act.put, List.setIfInBounds_toArray, List.set_cons_zero, List.set_cons_succ]
        refine takeH (i := 17) (d := 31) (v := .pointer (some ⟨w.heap.size, i, none⟩)) rfl rfl (by kernel_rfl) (by kernel_rfl) (by kernel_rfl) (fun _ _ _ h => h) rfl HS.out ?_ ?_
        · intro W' _; go_simp; all_goals (first | omega | exact q7 | rw [if_pos (by omega), if_pos (by omega)])
        try simp only [Act.put, List.setIfInBounds_toArray, List.set_cons_zero, List.set_cons_succ]
        refine takeH (i := 18) (d := 32) (v := .int .u8 z) rfl rfl (by kernel_rfl) (by kernel_rfl) (by kernel_rfl) (fun _ _ _ h => h) rfl HS.out ?_ ?_
        · intro W' hS; go_simp
        try simp only [Act.put, List.setIfInBounds_toArray, List.set_cons_zero, List.set_cons_succ]
        refine takeH (i := 19) (d := 33) (v := .int .u8 b) rfl rfl (by kernel_rfl) (by kernel_rfl) (by kernel_rfl) (fun _ _ _ h => h) rfl HS.out ?_ ?_
        · intro W' _; go_simp; all_goals (first | omega | exact q7 | rw [if_pos (by omega), if_pos (by omega)])
        try simp only [Act.put, List.setIfInBounds_toArray, List.set_cons_zero, List.set_cons_succ]
        refine takeH (i := 20) (d := 34) (v := .int .u8 ((b : Int) + 1)) rfl rfl (by kernel_rfl) (by kernel_rfl) (by kernel_rfl) (fun _ _ _ h => h) rfl HS.out ?_ ?_
        · intro W' _; go_simp; all_goals (first | omega | exact q7 | rw [if_pos (by omega), if_pos (by omega)])
        try simp only [Act.put, List.setIfInBounds_toArray, List.set_cons_zero, List.set_cons_succ]
        refine takeH (i := 21) (d := 35) (v := .string ((⟨#[48, 49, 50, 51, 52, 53, 54, 55, 56, 57, 97, 98, 99, 100, 101, 102]⟩ : ByteArray).extract b (b + 1))) rfl rfl (by kernel_rfl) (by kernel_rfl) (by kernel_rfl) (fun _ _ _ h => h) rfl HS.out ?_ ?_
        · intro W' _; go_simp; all_goals (first | omega | exact q7 | rw [if_pos (by omega), if_pos (by omega)])
        try simp only [Act.put, List.setIfInBounds_toArray, List.set_cons_zero, List.set_cons_succ]
        refine takeH (i := 22) (d := 36) (v := .string ((wordsB d i) ++ (⟨#[48, 49, 50, 51, 52, 53, 54, 55, 56, 57, 97, 98, 99, 100, 101, 102]⟩ : ByteArray).extract a (a + 1) ++ (⟨#[48, 49, 50, 51, 52, 53, 54, 55, 56, 57, 97, 98, 99, 100, 101, 102]⟩ : ByteArray).extract b (b + 1))) rfl rfl (by kernel_rfl) (by kernel_rfl) (by kernel_rfl) (fun _ _ _ h => h) rfl HS.out ?_ ?_
        · intro W' _; go_simp; all_goals (first | omega | exact q7 | rw [if_pos (by omega), if_pos (by omega)])
        try simp only [Act.put, List.setIfInBounds_toArray, List.set_cons_zero, List.set_cons_succ]
        refine takeH (i := 23) (d := 3) (v := .string ((wordsB d i) ++ (⟨#[48, 49, 50, 51, 52, 53, 54, 55, 56, 57, 97, 98, 99, 100, 101, 102]⟩ : ByteArray).extract a (a + 1) ++ (⟨#[48, 49, 50, 51, 52, 53, 54, 55, 56, 57, 97, 98, 99, 100, 101, 102]⟩ : ByteArray).extract b (b + 1))) rfl rfl (by kernel_rfl) (by kernel_rfl) (by kernel_rfl) (fun _ _ _ h => h) rfl HS.out ?_ ?_
        · intro W' _; go_simp; all_goals (first | omega | exact q7 | rw [if_pos (by omega), if_pos (by omega)])
        try simp only [Act.put, List.setIfInBounds_toArray, List.set_cons_zero, List.set_cons_succ]
        refine wpAnyH_done (by kernel_rfl) ?_ _
        rw [Hw.out]
        go_wp2
        go_roundg g
        case measure => omega
        case rel => exact ⟨i + 1, by omega, rfl, by go_num, m + 1, rfl⟩
end Go.Proofs.YtbojlnbdkaanmaaGreatDoor
namespace Go.Proofs.YtbojlnbdkaanmaaGreatDoor
open Go.RowKit
set_option linter.unusedSimpArgs false
set_option linter.unusedVariables false

theorem rdigits_i (w : World) (z : Int) (h0 : 0 ≤ z) (h1 : z < 65536) : Calls Tryz.prog 59 #[.int .i64 z] w fun e w' => e = .returned (.string (itoaS z)) ∧ w = w' := by
  obtain ⟨n, rfl⟩ : ∃ n : Nat, z = n := ⟨z.toNat, by omega⟩
  exact rdigits_any n (by omega) w
/-- The text at a node. -/
def txtAt (nds : List Nd) (k : Nat) : ByteArray := (textAll nds).getD k ⟨#[]⟩
theorem textFold_pre : ∀ (l : List Nd) (rs : List ByteArray), ∃ vs, l.foldl (fun ts nd => ts ++ [textStep ts nd]) rs = rs ++ vs
  | [], rs => ⟨[], by simp⟩
  | x :: l, rs => by
    obtain ⟨vs, h⟩ := textFold_pre l (rs ++ [textStep rs x])
    exact ⟨textStep rs x :: vs, by simp [h]⟩
theorem textAll_pre (nds : List Nd) (k : Nat) : ∃ vs, textAll nds = textAll (nds.take k) ++ vs := by
  have h := textFold_pre (nds.drop k) (textAll (nds.take k))
  unfold textAll at h ⊢
  rw [← List.foldl_append, List.take_append_drop] at h
  exact h
theorem txtAt_take (nds : List Nd) (k a : Nat) (hk : k ≤ nds.length) (ha : a < k) : atS (textAll (nds.take k)) (some (a : Int)) = txtAt nds a := by
  obtain ⟨vs, h⟩ := textAll_pre nds k
  have hl : (textAll (nds.take k)).length = k := by rw [textAll_length, List.length_take]; omega
  unfold atS txtAt
  rw [h]
  simp only [Int.toNat_natCast]
  rw [List.getD_eq_getElem?_getD, List.getD_eq_getElem?_getD, List.getElem?_append_left (by omega)]
theorem txtAt_eq (nds : List Nd) (k : Nat) (hk : k < nds.length) : txtAt nds k = textStep (textAll (nds.take k)) nds[k] := by
  obtain ⟨vs, h⟩ := textAll_pre nds (k + 1)
  have hl : (textAll (nds.take k)).length = k := by rw [textAll_length, List.length_take]; omega
  unfold txtAt
  rw [h, textAll_take nds k hk, List.getD_eq_getElem?_getD, List.append_assoc, List.getElem?_append_right (by omega), hl, Nat.sub_self]
  rfl
theorem txtAt_size {nds : List Nd} (h : ∀ s ∈ textAll nds, s.size ≤ 1000000) (k : Nat) : (txtAt nds k).size ≤ 1000000 := by
  unfold txtAt
  rw [List.getD_eq_getElem?_getD]
  cases hq : (textAll nds)[k]? with
  | none => exact Nat.zero_le _
  | some x => exact h x (List.mem_of_getElem? hq)
/-- What is known of the call's world: the policy, the node. -/
structure Tw (w : World) (g : Nat) (A : Option Addr) (c : Nat) (nds : List Nd) (nd : Nd) (o : Value) (W : World) : Prop where
  p : W.heap[w.heap.size]? = some (.cells #[.slice A nds.length c] 25 (0, 0))
  n : W.heap[g]? = some (.cells (nd.cells o).toArray 67 (0, 0))
  bel : Below w.heap.size w W
theorem Tw.next {w : World} {g : Nat} {A : Option Addr} {c : Nat} {nds : List Nd} {nd : Nd} {o : Value} {W W' : World} (h : Tw w g A c nds nd o W) (hb : Below W.heap.size W W') : Tw w g A c nds nd o W' :=
  ⟨(hb.block _ (World.lt_of_blk h.p)).trans h.p, (hb.block _ (World.lt_of_blk h.n)).trans h.n, h.bel.trans (hb.mono h.bel.size)⟩
theorem Tw.cells {w : World} {g : Nat} {A : Option Addr} {c : Nat} {nds : List Nd} {nd : Nd} {o : Value} {W : World} (h : Tw w g A c nds nd o W) :
    W.cell? ⟨w.heap.size, 0, none⟩ = some (.slice A nds.length c) ∧
    (W.cell? ⟨g, 0, none⟩ = some (.int .i64 nd.k) ∧ W.cell? ⟨g, 1, none⟩ = some (.int .i64 nd.n) ∧ W.cell? ⟨g, 2, none⟩ = some (.int .i64 nd.m) ∧ W.cell? ⟨g, 3, none⟩ = some (.int .i64 nd.sd) ∧ W.cell? ⟨g, 20, none⟩ = some o) := by
  refine ⟨?_, ⟨?_, ?_, ?_, ?_, ?_⟩⟩
  · rw [cell_of_row _ _ _ _ _ _ h.p]; rfl
  · rw [cell_of_row _ _ _ _ _ _ h.n]; rfl
  · rw [cell_of_row _ _ _ _ _ _ h.n]; rfl
  · rw [cell_of_row _ _ _ _ _ _ h.n]; rfl
  · rw [cell_of_row _ _ _ _ _ _ h.n]; rfl
  · rw [cell_of_row _ _ _ _ _ _ h.n]; rfl
/-- The contract of the reference's text at a node. -/
def TxOk (A : Option Addr) (c : Nat) (nds : List Nd) (k : Nat) : Prop :=
  ∀ W : World, Nodes W W.heap.size A nds → Calls Tryz.prog 35 #[.agg #[.slice A nds.length c], .int .i64 (k : Int)] W fun e w' => e = .returned (.string (txtAt nds k)) ∧ Below W.heap.size W w'

theorem blk_cell' {W : World} {g i : Nat} {cs : Array Value} {t : TypeId} {v : Value} (h : W.heap[g]? = some (.cells cs t (0, 0))) (hv : cs[i]? = some v) : W.cell? ⟨g, i, none⟩ = some v := by rw [cell_of_row _ _ _ _ _ _ h]; exact hv
theorem nd_dig2 {w : World} {g : Nat} {nd : Nd} {o : Value} (h : w.heap[g]? = some (.cells (nd.cells o).toArray 67 (0, 0))) : ∀ j v, (digArr nd.d).toList[j]? = some v → w.cell? ((⟨g, 4, none⟩ : Addr).add j) = some v := by
  intro j v hj
  have e : (⟨g, 4, none⟩ : Addr).add j = ⟨g, 4 + j, none⟩ := by unfold Addr.add; split <;> simp_all
  rw [e]
  exact nd_dig h j v hj
set_option maxRecDepth 100000 in
set_option maxHeartbeats 16000000 in
theorem rtext_step (A : Option Addr) (c : Nat) (nds : List Nd) (hok : ∀ i nd, nds[i]? = some nd → NdOk i nd) (hln : nds.length ≤ 1000000) (hnum : ∀ nd ∈ nds, nd.n < 65536 ∧ nd.m < 65536) (hdg : ∀ nd ∈ nds, nd.k = 6 → ∀ i, i < 16 → 0 ≤ nd.d i ∧ nd.d i ≤ 255)
    (hts : ∀ s ∈ textAll nds, s.size ≤ 1000000) (k : Nat) (hk : k < nds.length) (ih : ∀ a, a < k → TxOk A c nds a) : TxOk A c nds k := by
  intro w hN
  obtain ⟨nd, hnd⟩ : ∃ nd, nds[k] = nd := ⟨_, rfl⟩
  have hval := txtAt_eq nds k hk
  rw [hnd] at hval
  have hokk := hok k nd (by rw [List.getElem?_eq_getElem hk, hnd])
  have hmem : nd ∈ nds := by rw [← hnd]; exact List.getElem_mem hk
  obtain ⟨hn1, hm1⟩ := hnum nd hmem
  have hdgn := hdg nd hmem
  obtain ⟨b, off, Ao, co, hA, hbl, hat, hof⟩ := hN.at_ hk
  rw [hnd] at hat hof
  obtain ⟨W2, hW2⟩ : ∃ W2, W2 = w.alloc (.cells #[.slice A nds.length c] 25) := ⟨_, rfl⟩
  obtain ⟨gb, g1, hs2⟩ := fresh_facts hW2
  have Hat := hide (hat.below gb hbl).read
  obtain ⟨W3, hW3⟩ : ∃ W3, W3 = W2.alloc (.cells (nd.cells (.slice Ao nd.of.length co)).toArray 67) := ⟨_, rfl⟩
  obtain ⟨fb, fk, fs⟩ := fresh_facts hW3
  have hE : Tw w W2.heap.size A c nds nd (.slice Ao nd.of.length co) W3 := ⟨(fb.block _ (World.lt_of_blk g1)).trans g1, fk, gb.trans (fb.mono gb.size)⟩
  have hbW := gb.trans (fb.mono gb.size)
  have HE := hide hE
  have HN3 := hide ((hN.below hbW (Nat.le_refl _)).more hbW.size)
  have Hof := hide ((hof.below hbW (Nat.le_refl _)).more hbW.size)
  obtain ⟨c1, ⟨x0, x1, x2, x3, x20⟩⟩ := hE.cells
  have c2 : W2.cell? ⟨w.heap.size, 0, none⟩ = some (.slice A nds.length c) := by rw [cell_of_row _ _ _ _ _ _ g1]; rfl
  have HW2 := hide hW2
  have HW3 := hide hW3
  have Hval := hide hval
  have Hok := hide hokk
  have Hih := hide ih
  have Hdg := hide hdgn
  have Hts := hide hts
  have hn0 := hokk.n
  have hm0 := hokk.m
  have zn := itoaS_size hn0 hn1
  have zm := itoaS_size hm0 hm1
  have hkI : (k : Int) < (nds.length : Int) := by omega
  subst hA
  clear hN hnd hval hat hof g1 gb hs2 fb fk fs hE hbW hW2 hW3 ih hbl hdgn hts hmem
  have hkind := hokk.k
  clear hokk
  have hcases : nd.k = 1 ∨ nd.k = 2 ∨ nd.k = 3 ∨ nd.k = 4 ∨ nd.k = 5 ∨ nd.k = 6 ∨ nd.k = 7 ∨ nd.k = 8 ∨ nd.k = 9 ∨ nd.k = 10 := by omega
  clear hkind
  rcases hcases with h | h | h | h | h | h | h | h | h | h
  · rw [h] at x0
    have HK := hide h
    clear h
    go_enter Tryz.func35, Tryz.ntmps35
    go_wp2_with (first
      | (with_reducible refine wpList_load_at rfl 67 (.tmp 10) rfl ⟨b, off + k * 21, none⟩ rfl _ _ (by rw [← HW2.out]; exact Hat.out) Tryz.underlying67 rfl (by kernel_rfl) ?_; rw [← HW2.out])
      | (with_reducible refine wpList_store_fresh rfl 67 (.tmp 5) (.tmp 11) rfl (.agg (nd.cells (.slice Ao nd.of.length co)).toArray) rfl rfl rfl (by kernel_rfl) (nd_one rfl) HW3.out ?_)
      | (go_at_call 59; (with_reducible refine Calls.mono (rdigits_i _ _ hn0 hn1) ?_); rintro e w1 ⟨rfl, rfl⟩))
    have hv : txtAt nds k = (⟨#[97, 110, 121]⟩ : ByteArray) := by rw [Hval.out]; simp [textStep, HK.out]
    go_ret
    refine ⟨?_, HE.out.bel⟩
    rw [hv]
    rfl
  · rw [h] at x0
    have HK := hide h
    clear h
    go_enter Tryz.func35, Tryz.ntmps35
    go_wp2_with (first
      | (with_reducible refine wpList_load_at rfl 67 (.tmp 10) rfl ⟨b, off + k * 21, none⟩ rfl _ _ (by rw [← HW2.out]; exact Hat.out) Tryz.underlying67 rfl (by kernel_rfl) ?_; rw [← HW2.out])
      | (with_reducible refine wpList_store_fresh rfl 67 (.tmp 5) (.tmp 11) rfl (.agg (nd.cells (.slice Ao nd.of.length co)).toArray) rfl rfl rfl (by kernel_rfl) (nd_one rfl) HW3.out ?_)
      | (go_at_call 59; (with_reducible refine Calls.mono (rdigits_i _ _ hn0 hn1) ?_); rintro e w1 ⟨rfl, rfl⟩))
    have hv : txtAt nds k = (⟨#[118, 101, 114, 115, 105, 111, 110, 32, 61, 61, 32]⟩ : ByteArray) ++ itoaS nd.n := by rw [Hval.out]; simp [textStep, HK.out]
    go_ret
    refine ⟨?_, HE.out.bel⟩
    rw [hv]
    rfl
  · rw [h] at x0
    have HK := hide h
    clear h
    go_enter Tryz.func35, Tryz.ntmps35
    go_wp2_with (first
      | (with_reducible refine wpList_load_at rfl 67 (.tmp 10) rfl ⟨b, off + k * 21, none⟩ rfl _ _ (by rw [← HW2.out]; exact Hat.out) Tryz.underlying67 rfl (by kernel_rfl) ?_; rw [← HW2.out])
      | (with_reducible refine wpList_store_fresh rfl 67 (.tmp 5) (.tmp 11) rfl (.agg (nd.cells (.slice Ao nd.of.length co)).toArray) rfl rfl rfl (by kernel_rfl) (nd_one rfl) HW3.out ?_)
      | (go_at_call 59; (with_reducible refine Calls.mono (rdigits_i _ _ hn0 hn1) ?_); rintro e w1 ⟨rfl, rfl⟩))
    have hv : txtAt nds k = (⟨#[118, 101, 114, 115, 105, 111, 110, 32, 62, 61, 32]⟩ : ByteArray) ++ itoaS nd.n := by rw [Hval.out]; simp [textStep, HK.out]
    go_ret
    refine ⟨?_, HE.out.bel⟩
    rw [hv]
    rfl
  · rw [h] at x0
    have HK := hide h
    clear h
    go_enter Tryz.func35, Tryz.ntmps35
    go_wp2_with (first
      | (with_reducible refine wpList_load_at rfl 67 (.tmp 10) rfl ⟨b, off + k * 21, none⟩ rfl _ _ (by rw [← HW2.out]; exact Hat.out) Tryz.underlying67 rfl (by kernel_rfl) ?_; rw [← HW2.out])
      | (with_reducible refine wpList_store_fresh rfl 67 (.tmp 5) (.tmp 11) rfl (.agg (nd.cells (.slice Ao nd.of.length co)).toArray) rfl rfl rfl (by kernel_rfl) (nd_one rfl) HW3.out ?_)
      | (go_at_call 59; (with_reducible refine Calls.mono (rdigits_i _ _ hn0 hn1) ?_); rintro e w1 ⟨rfl, rfl⟩))
    have hv : txtAt nds k = (⟨#[101, 112, 111, 99, 104, 32, 61, 61, 32]⟩ : ByteArray) ++ itoaS nd.n := by rw [Hval.out]; simp [textStep, HK.out]
    go_ret
    refine ⟨?_, HE.out.bel⟩
    rw [hv]
    rfl
  · rw [h] at x0
    have HK := hide h
    clear h
    go_enter Tryz.func35, Tryz.ntmps35
    go_wp2_with (first
      | (with_reducible refine wpList_load_at rfl 67 (.tmp 10) rfl ⟨b, off + k * 21, none⟩ rfl _ _ (by rw [← HW2.out]; exact Hat.out) Tryz.underlying67 rfl (by kernel_rfl) ?_; rw [← HW2.out])
      | (with_reducible refine wpList_store_fresh rfl 67 (.tmp 5) (.tmp 11) rfl (.agg (nd.cells (.slice Ao nd.of.length co)).toArray) rfl rfl rfl (by kernel_rfl) (nd_one rfl) HW3.out ?_)
      | (go_at_call 59; (with_reducible refine Calls.mono (rdigits_i _ _ hn0 hn1) ?_); rintro e w1 ⟨rfl, rfl⟩))
    have hv : txtAt nds k = (⟨#[101, 112, 111, 99, 104, 32, 62, 61, 32]⟩ : ByteArray) ++ itoaS nd.n := by rw [Hval.out]; simp [textStep, HK.out]
    go_ret
    refine ⟨?_, HE.out.bel⟩
    rw [hv]
    rfl
  · rw [h] at x0
    have HK := hide h
    have hv : txtAt nds k = (⟨#[115, 116, 97, 103, 101, 32]⟩ : ByteArray) ++ itoaS nd.n ++ (⟨#[32, 105, 115]⟩ : ByteArray) ++ wordsS nd.d := by rw [Hval.out]; simp [textStep, HK.out]
    have Hv := hide hv
    have zw : (wordsS nd.d).size ≤ 64 := wordsB_size nd.d 16
    clear h hv
    go_enter Tryz.func35, Tryz.ntmps35
    go_wp2_with (first
      | (with_reducible refine wpList_load_at rfl 67 (.tmp 10) rfl ⟨b, off + k * 21, none⟩ rfl _ _ (by rw [← HW2.out]; exact Hat.out) Tryz.underlying67 rfl (by kernel_rfl) ?_; rw [← HW2.out])
      | (with_reducible refine wpList_store_fresh rfl 67 (.tmp 5) (.tmp 11) rfl (.agg (nd.cells (.slice Ao nd.of.length co)).toArray) rfl rfl rfl (by kernel_rfl) (nd_one rfl) HW3.out ?_))
    have HDrW3 := hide (Below.refl W3.heap.size W3).drew
    refine wp_region_held (S := fun W' => W'.heap[W2.heap.size]? = some (.cells (nd.cells (.slice Ao nd.of.length co)).toArray 67 (0, 0))) (by kernel_rfl) ?_
    change wpAnyH _ _ _ _ _ _ _ _ (World.drew _)
    have HS := hide (show W3.drew.heap[W2.heap.size]? = some (.cells (nd.cells (.slice Ao nd.of.length co)).toArray 67 (0, 0)) from HE.out.n)
    refine takeH (i := 0) (d := 42) (v := .pointer (some ⟨W2.heap.size, 1, none⟩)) rfl rfl (by kernel_rfl) (by kernel_rfl) (by kernel_rfl) (fun _ _ _ h => h) rfl HS.out ?_ ?_
    · intro W' _; go_simp
    try simp only [Act.put, List.setIfInBounds_toArray, List.set_cons_zero, List.set_cons_succ]
    refine takeH (i := 1) (d := 43) (v := .int .i64 nd.n) rfl rfl (by kernel_rfl) (by kernel_rfl) (by kernel_rfl) (fun _ _ _ h => h) rfl HS.out ?_ ?_
    · intro W' hS; have c1 : W'.cell? ⟨W2.heap.size, 1, none⟩ = some (.int .i64 nd.n) := blk_cell' hS rfl
      clear hS; go_simp
    try simp only [Act.put, List.setIfInBounds_toArray, List.set_cons_zero, List.set_cons_succ]
    refine takeH (i := 5) (d := 47) (v := .pointer (some ⟨W2.heap.size, 4, none⟩)) rfl rfl (by kernel_rfl) (by kernel_rfl) (by kernel_rfl) (fun _ _ _ h => h) rfl HS.out ?_ ?_
    · intro W' _; go_simp
    try simp only [Act.put, List.setIfInBounds_toArray, List.set_cons_zero, List.set_cons_succ]
    refine takeH (i := 6) (d := 48) (v := .agg (digArr nd.d)) rfl rfl (by kernel_rfl) (by kernel_rfl) (by kernel_rfl) (fun _ _ _ h => h) rfl HS.out ?_ ?_
    · intro W' hS; exact y_load_at 65 (.tmp 47) rfl ⟨W2.heap.size, 4, none⟩ rfl _ _ (nd_dig2 hS) Tryz.underlying65 rfl (by kernel_rfl)
    try simp only [Act.put, List.setIfInBounds_toArray, List.set_cons_zero, List.set_cons_succ]
    refine wpAnyH_ready (rs := [2]) (by kernel_rfl) (by simp) ?_
    refine AllReadyH.cons rfl (fun K hK => ?_) AllReadyH.nil
    go_simp
    refine Calls.mono (rdigits_i _ _ hn0 hn1) ?_
    rintro e w4 ⟨rfl, rfl⟩
    refine hK.out _ _ HS.out (fun _ => ?_)
    clear hK K
    try simp only [Act.put, List.setIfInBounds_toArray, List.set_cons_zero, List.set_cons_succ]
    refine takeH (i := 3) (d := 45) (v := .string ((⟨#[115, 116, 97, 103, 101, 32]⟩ : ByteArray) ++ itoaS nd.n)) rfl rfl (by kernel_rfl) (by kernel_rfl) (by kernel_rfl) (fun _ _ _ h => h) rfl HS.out ?_ ?_
    · intro W' _; go_simp; all_goals (first | omega | rfl)
    try simp only [Act.put, List.setIfInBounds_toArray, List.set_cons_zero, List.set_cons_succ]
    refine takeH (i := 4) (d := 46) (v := .string ((⟨#[115, 116, 97, 103, 101, 32]⟩ : ByteArray) ++ itoaS nd.n ++ (⟨#[32, 105, 115]⟩ : ByteArray))) rfl rfl (by kernel_rfl) (by kernel_rfl) (by kernel_rfl) (fun _ _ _ h => h) rfl HS.out ?_ ?_
    · intro W' _; go_simp; all_goals (first | omega | rfl)
    try simp only [Act.put, List.setIfInBounds_toArray, List.set_cons_zero, List.set_cons_succ]
    refine wpAnyH_ready (rs := [7]) (by kernel_rfl) (by simp) ?_
    refine AllReadyH.cons rfl (fun K hK => ?_) AllReadyH.nil
    go_simp
    refine Calls.mono (rhex_any _ nd.d (Hdg.out HK.out)) ?_
    rintro e w4 ⟨rfl, hb⟩
    have HE4 := hide (HE.out.next (HDrW3.out.trans hb))
    clear hb
    refine hK.out _ _ HE4.out.n (fun _ => ?_)
    clear hK K
    try simp only [Act.put, List.setIfInBounds_toArray, List.set_cons_zero, List.set_cons_succ]
    refine takeH (i := 8) (d := 50) (v := .string ((⟨#[115, 116, 97, 103, 101, 32]⟩ : ByteArray) ++ itoaS nd.n ++ (⟨#[32, 105, 115]⟩ : ByteArray) ++ wordsS nd.d)) rfl rfl (by kernel_rfl) (by kernel_rfl) (by kernel_rfl) (fun _ _ _ h => h) rfl HE4.out.n ?_ ?_
    · intro W' _; go_simp; all_goals (first | omega | rfl)
    try simp only [Act.put, List.setIfInBounds_toArray, List.set_cons_zero, List.set_cons_succ]
    refine takeH (i := 9) (d := 4) (v := .string ((⟨#[115, 116, 97, 103, 101, 32]⟩ : ByteArray) ++ itoaS nd.n ++ (⟨#[32, 105, 115]⟩ : ByteArray) ++ wordsS nd.d)) rfl rfl (by kernel_rfl) (by kernel_rfl) (by kernel_rfl) (fun _ _ _ h => h) rfl HE4.out.n ?_ ?_
    · intro W' _; go_simp; all_goals (first | omega | rfl)
    try simp only [Act.put, List.setIfInBounds_toArray, List.set_cons_zero, List.set_cons_succ]
    refine wpAnyH_done (by kernel_rfl) ?_ _
    go_wp2
    go_ret
    refine ⟨?_, HE4.out.bel⟩
    rw [Hv.out]
    rfl
  · rw [h] at x0
    have HK := hide h
    have hv : txtAt nds k = (⟨#[112, 111, 105, 110, 116, 32]⟩ : ByteArray) ++ itoaS nd.n ++ (⟨#[32]⟩ : ByteArray) ++ itoaS nd.m ++ (⟨#[32, 116, 111, 111, 107, 32]⟩ : ByteArray) ++ boolS (nd.sd == 1) := by rw [Hval.out]; simp [textStep, HK.out]
    have Hv := hide hv
    have HX3 := hide x3
    clear h hv
    go_enter Tryz.func35, Tryz.ntmps35
    go_wp2_with (first
      | (with_reducible refine wpList_load_at rfl 67 (.tmp 10) rfl ⟨b, off + k * 21, none⟩ rfl _ _ (by rw [← HW2.out]; exact Hat.out) Tryz.underlying67 rfl (by kernel_rfl) ?_; rw [← HW2.out])
      | (with_reducible refine wpList_store_fresh rfl 67 (.tmp 5) (.tmp 11) rfl (.agg (nd.cells (.slice Ao nd.of.length co)).toArray) rfl rfl rfl (by kernel_rfl) (nd_one rfl) HW3.out ?_))
    clear c1 x0 x1 x2 x3 x20
    have HDrW3 := hide (Below.refl W3.heap.size W3).drew
    refine wp_region_held (S := fun W' => W'.heap[W2.heap.size]? = some (.cells (nd.cells (.slice Ao nd.of.length co)).toArray 67 (0, 0))) (by kernel_rfl) ?_
    change wpAnyH _ _ _ _ _ _ _ _ (World.drew _)
    have HS := hide (show W3.drew.heap[W2.heap.size]? = some (.cells (nd.cells (.slice Ao nd.of.length co)).toArray 67 (0, 0)) from HE.out.n)
    refine takeH (i := 0) (d := 53) (v := .pointer (some ⟨W2.heap.size, 1, none⟩)) rfl rfl (by kernel_rfl) (by kernel_rfl) (by kernel_rfl) (fun _ _ _ h => h) rfl HS.out ?_ ?_
    · intro W' _; go_simp
    try simp only [Act.put, List.setIfInBounds_toArray, List.set_cons_zero, List.set_cons_succ]
    refine takeH (i := 1) (d := 54) (v := .int .i64 nd.n) rfl rfl (by kernel_rfl) (by kernel_rfl) (by kernel_rfl) (fun _ _ _ h => h) rfl HS.out ?_ ?_
    · intro W' hS; have c1 : W'.cell? ⟨W2.heap.size, 1, none⟩ = some (.int .i64 nd.n) := blk_cell' hS rfl
      clear hS; go_simp
    try simp only [Act.put, List.setIfInBounds_toArray, List.set_cons_zero, List.set_cons_succ]
    refine takeH (i := 5) (d := 58) (v := .pointer (some ⟨W2.heap.size, 2, none⟩)) rfl rfl (by kernel_rfl) (by kernel_rfl) (by kernel_rfl) (fun _ _ _ h => h) rfl HS.out ?_ ?_
    · intro W' _; go_simp
    try simp only [Act.put, List.setIfInBounds_toArray, List.set_cons_zero, List.set_cons_succ]
    refine takeH (i := 6) (d := 59) (v := .int .i64 nd.m) rfl rfl (by kernel_rfl) (by kernel_rfl) (by kernel_rfl) (fun _ _ _ h => h) rfl HS.out ?_ ?_
    · intro W' hS; have c1 : W'.cell? ⟨W2.heap.size, 2, none⟩ = some (.int .i64 nd.m) := blk_cell' hS rfl
      clear hS; go_simp
    try simp only [Act.put, List.setIfInBounds_toArray, List.set_cons_zero, List.set_cons_succ]
    refine wpAnyH_ready (rs := [2]) (by kernel_rfl) (by simp) ?_
    refine AllReadyH.cons rfl (fun K hK => ?_) AllReadyH.nil
    go_simp
    refine Calls.mono (rdigits_i _ _ hn0 hn1) ?_
    rintro e w4 ⟨rfl, rfl⟩
    refine hK.out _ _ HS.out (fun _ => ?_)
    clear hK K
    try simp only [Act.put, List.setIfInBounds_toArray, List.set_cons_zero, List.set_cons_succ]
    refine takeH (i := 3) (d := 56) (v := .string ((⟨#[112, 111, 105, 110, 116, 32]⟩ : ByteArray) ++ itoaS nd.n)) rfl rfl (by kernel_rfl) (by kernel_rfl) (by kernel_rfl) (fun _ _ _ h => h) rfl HS.out ?_ ?_
    · intro W' _; go_simp; all_goals (first | omega | rfl)
    try simp only [Act.put, List.setIfInBounds_toArray, List.set_cons_zero, List.set_cons_succ]
    refine takeH (i := 4) (d := 57) (v := .string ((⟨#[112, 111, 105, 110, 116, 32]⟩ : ByteArray) ++ itoaS nd.n ++ (⟨#[32]⟩ : ByteArray))) rfl rfl (by kernel_rfl) (by kernel_rfl) (by kernel_rfl) (fun _ _ _ h => h) rfl HS.out ?_ ?_
    · intro W' _; go_simp; all_goals (first | omega | rfl)
    try simp only [Act.put, List.setIfInBounds_toArray, List.set_cons_zero, List.set_cons_succ]
    refine wpAnyH_ready (rs := [7]) (by kernel_rfl) (by simp) ?_
    refine AllReadyH.cons rfl (fun K hK => ?_) AllReadyH.nil
    go_simp
    refine Calls.mono (rdigits_i _ _ hm0 hm1) ?_
    rintro e w4 ⟨rfl, rfl⟩
    refine hK.out _ _ HS.out (fun _ => ?_)
    clear hK K
    try simp only [Act.put, List.setIfInBounds_toArray, List.set_cons_zero, List.set_cons_succ]
    refine takeH (i := 8) (d := 61) (v := .string ((⟨#[112, 111, 105, 110, 116, 32]⟩ : ByteArray) ++ itoaS nd.n ++ (⟨#[32]⟩ : ByteArray) ++ itoaS nd.m)) rfl rfl (by kernel_rfl) (by kernel_rfl) (by kernel_rfl) (fun _ _ _ h => h) rfl HS.out ?_ ?_
    · intro W' _; go_simp; all_goals (first | omega | rfl)
    try simp only [Act.put, List.setIfInBounds_toArray, List.set_cons_zero, List.set_cons_succ]
    refine takeH (i := 9) (d := 62) (v := .string ((⟨#[112, 111, 105, 110, 116, 32]⟩ : ByteArray) ++ itoaS nd.n ++ (⟨#[32]⟩ : ByteArray) ++ itoaS nd.m ++ (⟨#[32, 116, 111, 111, 107, 32]⟩ : ByteArray))) rfl rfl (by kernel_rfl) (by kernel_rfl) (by kernel_rfl) (fun _ _ _ h => h) rfl HS.out ?_ ?_
    · intro W' _; go_simp; all_goals (first | omega | rfl)
    try simp only [Act.put, List.setIfInBounds_toArray, List.set_cons_zero, List.set_cons_succ]
    refine takeH (i := 10) (d := 6) (v := .string ((⟨#[112, 111, 105, 110, 116, 32]⟩ : ByteArray) ++ itoaS nd.n ++ (⟨#[32]⟩ : ByteArray) ++ itoaS nd.m ++ (⟨#[32, 116, 111, 111, 107, 32]⟩ : ByteArray))) rfl rfl (by kernel_rfl) (by kernel_rfl) (by kernel_rfl) (fun _ _ _ h => h) rfl HS.out ?_ ?_
    · intro W' _; go_simp; all_goals (first | omega | rfl)
    try simp only [Act.put, List.setIfInBounds_toArray, List.set_cons_zero, List.set_cons_succ]
    refine wpAnyH_done (by kernel_rfl) ?_ _
    have x3 : W3.drew.cell? ⟨W2.heap.size, 3, none⟩ = some (.int .i64 nd.sd) := HX3.out
    have hbd := below_drewN HE.out.bel 1
    have Hbd := hide hbd
    clear hbd
    cases hs : (nd.sd == 1) with
    | true =>
      go_wp2
      go_ret
      refine ⟨?_, Hbd.out⟩
      rw [Hv.out, hs]
      rfl
    | false =>
      go_wp2
      go_ret
      refine ⟨?_, Hbd.out⟩
      rw [Hv.out, hs]
      rfl
  · rw [h] at x0
    have HK := hide h
    obtain ⟨a, hofa, ha⟩ := Hok.out.one h
    have Hofa := hide hofa
    have Hofl := hide (show nd.of.length = 1 by rw [hofa]; rfl)
    have HIa := hide (Hih.out a ha)
    have htk := txtAt_take nds k a (by omega) ha
    have za := txtAt_size Hts.out a
    have hv : txtAt nds k = (⟨#[33]⟩ : ByteArray) ++ txtAt nds a := by rw [Hval.out]; simp [textStep, HK.out, Hofa.out, htk]
    have Hv := hide hv
    clear h hofa ha htk hv
    simp only [TxOk] at HIa
    go_enter Tryz.func35, Tryz.ntmps35
    go_wp2_with (first
      | (with_reducible refine wpList_load_at rfl 67 (.tmp 10) rfl ⟨b, off + k * 21, none⟩ rfl _ _ (by rw [← HW2.out]; exact Hat.out) Tryz.underlying67 rfl (by kernel_rfl) ?_; rw [← HW2.out])
      | (with_reducible refine wpList_store_fresh rfl 67 (.tmp 5) (.tmp 11) rfl (.agg (nd.cells (.slice Ao nd.of.length co)).toArray) rfl rfl rfl (by kernel_rfl) (nd_one rfl) HW3.out ?_))
    obtain ⟨ba, oa, hAa, hba, cca⟩ := Hof.out.at_ (k := 0) (by rw [Hofa.out]; simp)
    have ea : nd.of[0]'(by rw [Hofa.out]; simp) = (a : Int) := by simp [Hofa.out]
    rw [ea, Nat.add_zero] at cca
    subst hAa
    have CCa := hide cca
    clear cca ea hba c1 x0 x1 x2 x3 x20
    have HDrW3 := hide (Below.refl W3.heap.size W3).drew
    refine wp_region_held (S := fun W' => W'.heap[w.heap.size]? = some (.cells #[.slice (some ⟨b, off, none⟩) nds.length c] 25 (0, 0)) ∧ W'.heap[W2.heap.size]? = some (.cells (nd.cells (.slice (some ⟨ba, oa, none⟩) nd.of.length co)).toArray 67 (0, 0)) ∧ W'.cell? ⟨ba, oa, none⟩ = some (.int .i64 (a : Int))) (by kernel_rfl) ?_
    change wpAnyH _ _ _ _ _ _ _ _ (World.drew _)
    have HS := hide (show W3.drew.heap[w.heap.size]? = some (.cells #[.slice (some ⟨b, off, none⟩) nds.length c] 25 (0, 0)) ∧ W3.drew.heap[W2.heap.size]? = some (.cells (nd.cells (.slice (some ⟨ba, oa, none⟩) nd.of.length co)).toArray 67 (0, 0)) ∧ W3.drew.cell? ⟨ba, oa, none⟩ = some (.int .i64 (a : Int)) from ⟨HE.out.p, HE.out.n, CCa.out⟩)
    refine takeH (i := 0) (d := 72) (v := .agg #[.slice (some ⟨b, off, none⟩) nds.length c]) rfl rfl (by kernel_rfl) (by kernel_rfl) (by kernel_rfl) (fun _ _ _ h => h) rfl HS.out ?_ ?_
    · intro W' hS; exact y_load1 25 (.tmp 2) rfl (w.heap.size) rfl 25 _ (0, 0) _ hS.1 Tryz.underlying25 rfl (by kernel_rfl)
    try simp only [Act.put, List.setIfInBounds_toArray, List.set_cons_zero, List.set_cons_succ]
    refine takeH (i := 1) (d := 73) (v := .pointer (some ⟨W2.heap.size, 20, none⟩)) rfl rfl (by kernel_rfl) (by kernel_rfl) (by kernel_rfl) (fun _ _ _ h => h) rfl HS.out ?_ ?_
    · intro W' _; go_simp
    try simp only [Act.put, List.setIfInBounds_toArray, List.set_cons_zero, List.set_cons_succ]
    refine takeH (i := 2) (d := 74) (v := .slice (some ⟨ba, oa, none⟩) nd.of.length co) rfl rfl (by kernel_rfl) (by kernel_rfl) (by kernel_rfl) (fun _ _ _ h => h) rfl HS.out ?_ ?_
    · intro W' hS; have c1 : W'.cell? ⟨W2.heap.size, 20, none⟩ = some (.slice (some ⟨ba, oa, none⟩) nd.of.length co) := blk_cell' hS.2.1 rfl
      clear hS; go_simp
    try simp only [Act.put, List.setIfInBounds_toArray, List.set_cons_zero, List.set_cons_succ]
    refine takeH (i := 3) (d := 75) (v := .pointer (some ⟨ba, oa, none⟩)) rfl rfl (by kernel_rfl) (by kernel_rfl) (by kernel_rfl) (fun _ _ _ h => h) rfl HS.out ?_ ?_
    · intro W' _; have hll := Hofl.out; go_simp; try omega
    try simp only [Act.put, List.setIfInBounds_toArray, List.set_cons_zero, List.set_cons_succ]
    refine takeH (i := 4) (d := 76) (v := .int .i64 (a : Int)) rfl rfl (by kernel_rfl) (by kernel_rfl) (by kernel_rfl) (fun _ _ _ h => h) rfl HS.out ?_ ?_
    · intro W' hS; have c1 := hS.2.2; clear hS; go_simp
    try simp only [Act.put, List.setIfInBounds_toArray, List.set_cons_zero, List.set_cons_succ]
    refine wpAnyH_ready (rs := [5]) (by kernel_rfl) (by simp) ?_
    refine AllReadyH.cons rfl (fun K hK => ?_) AllReadyH.nil
    go_simp
    refine Calls.mono (HIa.out _ (Nodes.more (HN3.out.below HDrW3.out (Nat.le_refl _)) (HDrW3.out).size)) ?_
    rintro e w4 ⟨rfl, hb⟩
    have hA := Below.trans HDrW3.out (hb.mono (HDrW3.out).size)
    have HEw4 := hide (HE.out.next hA)
    have HBw4 := hide hA
    have CCaw4 := hide ((hA.cell (p := ⟨ba, oa, none⟩) (World.block_lt_of_cell? W3 _ CCa.out)).trans CCa.out)
    clear hA hb
    refine hK.out _ _ ⟨HEw4.out.p, HEw4.out.n, CCaw4.out⟩ (fun _ => ?_)
    clear hK K
    try simp only [Act.put, List.setIfInBounds_toArray, List.set_cons_zero, List.set_cons_succ]
    refine takeH (i := 6) (d := 78) (v := .string ((⟨#[33]⟩ : ByteArray) ++ txtAt nds a)) rfl rfl (by kernel_rfl) (by kernel_rfl) (by kernel_rfl) (fun _ _ _ h => h) rfl ⟨HEw4.out.p, HEw4.out.n, CCaw4.out⟩ ?_ ?_
    · intro W' _; go_simp; all_goals (first | omega | rfl)
    try simp only [Act.put, List.setIfInBounds_toArray, List.set_cons_zero, List.set_cons_succ]
    refine takeH (i := 7) (d := 4) (v := .string ((⟨#[33]⟩ : ByteArray) ++ txtAt nds a)) rfl rfl (by kernel_rfl) (by kernel_rfl) (by kernel_rfl) (fun _ _ _ h => h) rfl ⟨HEw4.out.p, HEw4.out.n, CCaw4.out⟩ ?_ ?_
    · intro W' _; go_simp; all_goals (first | omega | rfl)
    try simp only [Act.put, List.setIfInBounds_toArray, List.set_cons_zero, List.set_cons_succ]
    refine wpAnyH_done (by kernel_rfl) ?_ _
    go_wp2
    go_ret
    refine ⟨?_, HEw4.out.bel⟩
    rw [Hv.out]
    rfl
  · rw [h] at x0
    have HK := hide h
    obtain ⟨a, b', hofa, ha, hb'⟩ := Hok.out.two (Or.inl h)
    have Hofa := hide hofa
    have Hofl := hide (show nd.of.length = 2 by rw [hofa]; rfl)
    have HIa := hide (Hih.out a ha)
    have HIb := hide (Hih.out b' hb')
    have htk := txtAt_take nds k a (by omega) ha
    have htk2 := txtAt_take nds k b' (by omega) hb'
    have za := txtAt_size Hts.out a
    have zb := txtAt_size Hts.out b'
    have hv : txtAt nds k = (⟨#[40]⟩ : ByteArray) ++ txtAt nds a ++ (⟨#[32, 38, 38, 32]⟩ : ByteArray) ++ txtAt nds b' ++ (⟨#[41]⟩ : ByteArray) := by rw [Hval.out]; simp [textStep, HK.out, Hofa.out, htk, htk2]
    have Hv := hide hv
    clear h hofa ha hb' htk htk2 hv
    simp only [TxOk] at HIa HIb
    go_enter Tryz.func35, Tryz.ntmps35
    go_wp2_with (first
      | (with_reducible refine wpList_load_at rfl 67 (.tmp 10) rfl ⟨b, off + k * 21, none⟩ rfl _ _ (by rw [← HW2.out]; exact Hat.out) Tryz.underlying67 rfl (by kernel_rfl) ?_; rw [← HW2.out])
      | (with_reducible refine wpList_store_fresh rfl 67 (.tmp 5) (.tmp 11) rfl (.agg (nd.cells (.slice Ao nd.of.length co)).toArray) rfl rfl rfl (by kernel_rfl) (nd_one rfl) HW3.out ?_))
    obtain ⟨ba, oa, hAa, hba, cca⟩ := Hof.out.at_ (k := 0) (by rw [Hofa.out]; simp)
    have ea : nd.of[0]'(by rw [Hofa.out]; simp) = (a : Int) := by simp [Hofa.out]
    rw [ea, Nat.add_zero] at cca
    subst hAa
    have CCa := hide cca
    obtain ⟨bb, ob, hAb, hbb, ccb⟩ := Hof.out.at_ (k := 1) (by rw [Hofa.out]; simp)
    have eb : nd.of[1]'(by rw [Hofa.out]; simp) = (b' : Int) := by simp [Hofa.out]
    rw [eb] at ccb
    have hAb2 := hAb
    injection hAb2 with hAb3
    injection hAb3 with q1 q2
    subst q1
    subst q2
    have CCb := hide ccb
    clear ccb eb hbb hAb
    clear cca ea hba c1 x0 x1 x2 x3 x20
    have HDrW3 := hide (Below.refl W3.heap.size W3).drew
    refine wp_region_held (S := fun W' => W'.heap[w.heap.size]? = some (.cells #[.slice (some ⟨b, off, none⟩) nds.length c] 25 (0, 0)) ∧ W'.heap[W2.heap.size]? = some (.cells (nd.cells (.slice (some ⟨ba, oa, none⟩) nd.of.length co)).toArray 67 (0, 0)) ∧ W'.cell? ⟨ba, oa, none⟩ = some (.int .i64 (a : Int)) ∧ W'.cell? ⟨ba, oa + 1, none⟩ = some (.int .i64 (b' : Int))) (by kernel_rfl) ?_
    change wpAnyH _ _ _ _ _ _ _ _ (World.drew _)
    have HS := hide (show W3.drew.heap[w.heap.size]? = some (.cells #[.slice (some ⟨b, off, none⟩) nds.length c] 25 (0, 0)) ∧ W3.drew.heap[W2.heap.size]? = some (.cells (nd.cells (.slice (some ⟨ba, oa, none⟩) nd.of.length co)).toArray 67 (0, 0)) ∧ W3.drew.cell? ⟨ba, oa, none⟩ = some (.int .i64 (a : Int)) ∧ W3.drew.cell? ⟨ba, oa + 1, none⟩ = some (.int .i64 (b' : Int)) from ⟨HE.out.p, HE.out.n, CCa.out, CCb.out⟩)
    refine takeH (i := 0) (d := 81) (v := .agg #[.slice (some ⟨b, off, none⟩) nds.length c]) rfl rfl (by kernel_rfl) (by kernel_rfl) (by kernel_rfl) (fun _ _ _ h => h) rfl HS.out ?_ ?_
    · intro W' hS; exact y_load1 25 (.tmp 2) rfl (w.heap.size) rfl 25 _ (0, 0) _ hS.1 Tryz.underlying25 rfl (by kernel_rfl)
    try simp only [Act.put, List.setIfInBounds_toArray, List.set_cons_zero, List.set_cons_succ]
    refine takeH (i := 1) (d := 82) (v := .pointer (some ⟨W2.heap.size, 20, none⟩)) rfl rfl (by kernel_rfl) (by kernel_rfl) (by kernel_rfl) (fun _ _ _ h => h) rfl HS.out ?_ ?_
    · intro W' _; go_simp
    try simp only [Act.put, List.setIfInBounds_toArray, List.set_cons_zero, List.set_cons_succ]
    refine takeH (i := 2) (d := 83) (v := .slice (some ⟨ba, oa, none⟩) nd.of.length co) rfl rfl (by kernel_rfl) (by kernel_rfl) (by kernel_rfl) (fun _ _ _ h => h) rfl HS.out ?_ ?_
    · intro W' hS; have c1 : W'.cell? ⟨W2.heap.size, 20, none⟩ = some (.slice (some ⟨ba, oa, none⟩) nd.of.length co) := blk_cell' hS.2.1 rfl
      clear hS; go_simp
    try simp only [Act.put, List.setIfInBounds_toArray, List.set_cons_zero, List.set_cons_succ]
    refine takeH (i := 3) (d := 84) (v := .pointer (some ⟨ba, oa, none⟩)) rfl rfl (by kernel_rfl) (by kernel_rfl) (by kernel_rfl) (fun _ _ _ h => h) rfl HS.out ?_ ?_
    · intro W' _; have hll := Hofl.out; go_simp; try omega
    try simp only [Act.put, List.setIfInBounds_toArray, List.set_cons_zero, List.set_cons_succ]
    refine takeH (i := 4) (d := 85) (v := .int .i64 (a : Int)) rfl rfl (by kernel_rfl) (by kernel_rfl) (by kernel_rfl) (fun _ _ _ h => h) rfl HS.out ?_ ?_
    · intro W' hS; have c1 := hS.2.2.1; clear hS; go_simp
    try simp only [Act.put, List.setIfInBounds_toArray, List.set_cons_zero, List.set_cons_succ]
    refine takeH (i := 8) (d := 89) (v := .agg #[.slice (some ⟨b, off, none⟩) nds.length c]) rfl rfl (by kernel_rfl) (by kernel_rfl) (by kernel_rfl) (fun _ _ _ h => h) rfl HS.out ?_ ?_
    · intro W' hS; exact y_load1 25 (.tmp 2) rfl (w.heap.size) rfl 25 _ (0, 0) _ hS.1 Tryz.underlying25 rfl (by kernel_rfl)
    try simp only [Act.put, List.setIfInBounds_toArray, List.set_cons_zero, List.set_cons_succ]
    refine takeH (i := 9) (d := 90) (v := .pointer (some ⟨W2.heap.size, 20, none⟩)) rfl rfl (by kernel_rfl) (by kernel_rfl) (by kernel_rfl) (fun _ _ _ h => h) rfl HS.out ?_ ?_
    · intro W' _; go_simp
    try simp only [Act.put, List.setIfInBounds_toArray, List.set_cons_zero, List.set_cons_succ]
    refine takeH (i := 10) (d := 91) (v := .slice (some ⟨ba, oa, none⟩) nd.of.length co) rfl rfl (by kernel_rfl) (by kernel_rfl) (by kernel_rfl) (fun _ _ _ h => h) rfl HS.out ?_ ?_
    · intro W' hS; have c1 : W'.cell? ⟨W2.heap.size, 20, none⟩ = some (.slice (some ⟨ba, oa, none⟩) nd.of.length co) := blk_cell' hS.2.1 rfl
      clear hS; go_simp
    try simp only [Act.put, List.setIfInBounds_toArray, List.set_cons_zero, List.set_cons_succ]
    refine takeH (i := 11) (d := 92) (v := .pointer (some ⟨ba, oa + 1, none⟩)) rfl rfl (by kernel_rfl) (by kernel_rfl) (by kernel_rfl) (fun _ _ _ h => h) rfl HS.out ?_ ?_
    · intro W' _; have hll := Hofl.out; go_simp; try omega
    try simp only [Act.put, List.setIfInBounds_toArray, List.set_cons_zero, List.set_cons_succ]
    refine takeH (i := 12) (d := 93) (v := .int .i64 (b' : Int)) rfl rfl (by kernel_rfl) (by kernel_rfl) (by kernel_rfl) (fun _ _ _ h => h) rfl HS.out ?_ ?_
    · intro W' hS; have c1 := hS.2.2.2; clear hS; go_simp
    try simp only [Act.put, List.setIfInBounds_toArray, List.set_cons_zero, List.set_cons_succ]
    refine wpAnyH_ready (rs := [5]) (by kernel_rfl) (by simp) ?_
    refine AllReadyH.cons rfl (fun K hK => ?_) AllReadyH.nil
    go_simp
    refine Calls.mono (HIa.out _ (Nodes.more (HN3.out.below HDrW3.out (Nat.le_refl _)) (HDrW3.out).size)) ?_
    rintro e w4 ⟨rfl, hb⟩
    have hA := Below.trans HDrW3.out (hb.mono (HDrW3.out).size)
    have HEw4 := hide (HE.out.next hA)
    have HBw4 := hide hA
    have CCaw4 := hide ((hA.cell (p := ⟨ba, oa, none⟩) (World.block_lt_of_cell? W3 _ CCa.out)).trans CCa.out)
    have CCbw4 := hide ((hA.cell (p := ⟨ba, oa + 1, none⟩) (World.block_lt_of_cell? W3 _ CCb.out)).trans CCb.out)
    clear hA hb
    refine hK.out _ _ ⟨HEw4.out.p, HEw4.out.n, CCaw4.out, CCbw4.out⟩ (fun _ => ?_)
    clear hK K
    try simp only [Act.put, List.setIfInBounds_toArray, List.set_cons_zero, List.set_cons_succ]
    refine takeH (i := 6) (d := 87) (v := .string ((⟨#[40]⟩ : ByteArray) ++ txtAt nds a)) rfl rfl (by kernel_rfl) (by kernel_rfl) (by kernel_rfl) (fun _ _ _ h => h) rfl ⟨HEw4.out.p, HEw4.out.n, CCaw4.out, CCbw4.out⟩ ?_ ?_
    · intro W' _; go_simp; all_goals (first | omega | rfl)
    try simp only [Act.put, List.setIfInBounds_toArray, List.set_cons_zero, List.set_cons_succ]
    refine takeH (i := 7) (d := 88) (v := .string ((⟨#[40]⟩ : ByteArray) ++ txtAt nds a ++ (⟨#[32, 38, 38, 32]⟩ : ByteArray))) rfl rfl (by kernel_rfl) (by kernel_rfl) (by kernel_rfl) (fun _ _ _ h => h) rfl ⟨HEw4.out.p, HEw4.out.n, CCaw4.out, CCbw4.out⟩ ?_ ?_
    · intro W' _; go_simp; all_goals (first | omega | rfl)
    try simp only [Act.put, List.setIfInBounds_toArray, List.set_cons_zero, List.set_cons_succ]
    refine wpAnyH_ready (rs := [13]) (by kernel_rfl) (by simp) ?_
    refine AllReadyH.cons rfl (fun K hK => ?_) AllReadyH.nil
    go_simp
    refine Calls.mono (HIb.out _ (Nodes.more (HN3.out.below HBw4.out (Nat.le_refl _)) (HBw4.out).size)) ?_
    rintro e w5 ⟨rfl, hb⟩
    have hA := Below.trans HBw4.out (hb.mono (HBw4.out).size)
    have HEw5 := hide (HE.out.next hA)
    have HBw5 := hide hA
    have CCaw5 := hide ((hA.cell (p := ⟨ba, oa, none⟩) (World.block_lt_of_cell? W3 _ CCa.out)).trans CCa.out)
    have CCbw5 := hide ((hA.cell (p := ⟨ba, oa + 1, none⟩) (World.block_lt_of_cell? W3 _ CCb.out)).trans CCb.out)
    clear hA hb
    refine hK.out _ _ ⟨HEw5.out.p, HEw5.out.n, CCaw5.out, CCbw5.out⟩ (fun _ => ?_)
    clear hK K
    try simp only [Act.put, List.setIfInBounds_toArray, List.set_cons_zero, List.set_cons_succ]
    refine takeH (i := 14) (d := 95) (v := .string ((⟨#[40]⟩ : ByteArray) ++ txtAt nds a ++ (⟨#[32, 38, 38, 32]⟩ : ByteArray) ++ txtAt nds b')) rfl rfl (by kernel_rfl) (by kernel_rfl) (by kernel_rfl) (fun _ _ _ h => h) rfl ⟨HEw5.out.p, HEw5.out.n, CCaw5.out, CCbw5.out⟩ ?_ ?_
    · intro W' _; go_simp; all_goals (first | omega | rfl)
    try simp only [Act.put, List.setIfInBounds_toArray, List.set_cons_zero, List.set_cons_succ]
    refine takeH (i := 15) (d := 96) (v := .string ((⟨#[40]⟩ : ByteArray) ++ txtAt nds a ++ (⟨#[32, 38, 38, 32]⟩ : ByteArray) ++ txtAt nds b' ++ (⟨#[41]⟩ : ByteArray))) rfl rfl (by kernel_rfl) (by kernel_rfl) (by kernel_rfl) (fun _ _ _ h => h) rfl ⟨HEw5.out.p, HEw5.out.n, CCaw5.out, CCbw5.out⟩ ?_ ?_
    · intro W' _; go_simp; all_goals (first | omega | rfl)
    try simp only [Act.put, List.setIfInBounds_toArray, List.set_cons_zero, List.set_cons_succ]
    refine takeH (i := 16) (d := 4) (v := .string ((⟨#[40]⟩ : ByteArray) ++ txtAt nds a ++ (⟨#[32, 38, 38, 32]⟩ : ByteArray) ++ txtAt nds b' ++ (⟨#[41]⟩ : ByteArray))) rfl rfl (by kernel_rfl) (by kernel_rfl) (by kernel_rfl) (fun _ _ _ h => h) rfl ⟨HEw5.out.p, HEw5.out.n, CCaw5.out, CCbw5.out⟩ ?_ ?_
    · intro W' _; go_simp; all_goals (first | omega | rfl)
    try simp only [Act.put, List.setIfInBounds_toArray, List.set_cons_zero, List.set_cons_succ]
    refine wpAnyH_done (by kernel_rfl) ?_ _
    go_wp2
    go_ret
    refine ⟨?_, HEw5.out.bel⟩
    rw [Hv.out]
    rfl
  · rw [h] at x0
    have HK := hide h
    obtain ⟨a, b', hofa, ha, hb'⟩ := Hok.out.two (Or.inr h)
    have Hofa := hide hofa
    have Hofl := hide (show nd.of.length = 2 by rw [hofa]; rfl)
    have HIa := hide (Hih.out a ha)
    have HIb := hide (Hih.out b' hb')
    have htk := txtAt_take nds k a (by omega) ha
    have htk2 := txtAt_take nds k b' (by omega) hb'
    have za := txtAt_size Hts.out a
    have zb := txtAt_size Hts.out b'
    have hv : txtAt nds k = (⟨#[40]⟩ : ByteArray) ++ txtAt nds a ++ (⟨#[32, 124, 124, 32]⟩ : ByteArray) ++ txtAt nds b' ++ (⟨#[41]⟩ : ByteArray) := by rw [Hval.out]; simp [textStep, HK.out, Hofa.out, htk, htk2]
    have Hv := hide hv
    clear h hofa ha hb' htk htk2 hv
    simp only [TxOk] at HIa HIb
    go_enter Tryz.func35, Tryz.ntmps35
    go_wp2_with (first
      | (with_reducible refine wpList_load_at rfl 67 (.tmp 10) rfl ⟨b, off + k * 21, none⟩ rfl _ _ (by rw [← HW2.out]; exact Hat.out) Tryz.underlying67 rfl (by kernel_rfl) ?_; rw [← HW2.out])
      | (with_reducible refine wpList_store_fresh rfl 67 (.tmp 5) (.tmp 11) rfl (.agg (nd.cells (.slice Ao nd.of.length co)).toArray) rfl rfl rfl (by kernel_rfl) (nd_one rfl) HW3.out ?_))
    obtain ⟨ba, oa, hAa, hba, cca⟩ := Hof.out.at_ (k := 0) (by rw [Hofa.out]; simp)
    have ea : nd.of[0]'(by rw [Hofa.out]; simp) = (a : Int) := by simp [Hofa.out]
    rw [ea, Nat.add_zero] at cca
    subst hAa
    have CCa := hide cca
    obtain ⟨bb, ob, hAb, hbb, ccb⟩ := Hof.out.at_ (k := 1) (by rw [Hofa.out]; simp)
    have eb : nd.of[1]'(by rw [Hofa.out]; simp) = (b' : Int) := by simp [Hofa.out]
    rw [eb] at ccb
    have hAb2 := hAb
    injection hAb2 with hAb3
    injection hAb3 with q1 q2
    subst q1
    subst q2
    have CCb := hide ccb
    clear ccb eb hbb hAb
    clear cca ea hba c1 x0 x1 x2 x3 x20
    have HDrW3 := hide (Below.refl W3.heap.size W3).drew
    refine wp_region_held (S := fun W' => W'.heap[w.heap.size]? = some (.cells #[.slice (some ⟨b, off, none⟩) nds.length c] 25 (0, 0)) ∧ W'.heap[W2.heap.size]? = some (.cells (nd.cells (.slice (some ⟨ba, oa, none⟩) nd.of.length co)).toArray 67 (0, 0)) ∧ W'.cell? ⟨ba, oa, none⟩ = some (.int .i64 (a : Int)) ∧ W'.cell? ⟨ba, oa + 1, none⟩ = some (.int .i64 (b' : Int))) (by kernel_rfl) ?_
    change wpAnyH _ _ _ _ _ _ _ _ (World.drew _)
    have HS := hide (show W3.drew.heap[w.heap.size]? = some (.cells #[.slice (some ⟨b, off, none⟩) nds.length c] 25 (0, 0)) ∧ W3.drew.heap[W2.heap.size]? = some (.cells (nd.cells (.slice (some ⟨ba, oa, none⟩) nd.of.length co)).toArray 67 (0, 0)) ∧ W3.drew.cell? ⟨ba, oa, none⟩ = some (.int .i64 (a : Int)) ∧ W3.drew.cell? ⟨ba, oa + 1, none⟩ = some (.int .i64 (b' : Int)) from ⟨HE.out.p, HE.out.n, CCa.out, CCb.out⟩)
    refine takeH (i := 0) (d := 97) (v := .agg #[.slice (some ⟨b, off, none⟩) nds.length c]) rfl rfl (by kernel_rfl) (by kernel_rfl) (by kernel_rfl) (fun _ _ _ h => h) rfl HS.out ?_ ?_
    · intro W' hS; exact y_load1 25 (.tmp 2) rfl (w.heap.size) rfl 25 _ (0, 0) _ hS.1 Tryz.underlying25 rfl (by kernel_rfl)
    try simp only [Act.put, List.setIfInBounds_toArray, List.set_cons_zero, List.set_cons_succ]
    refine takeH (i := 1) (d := 98) (v := .pointer (some ⟨W2.heap.size, 20, none⟩)) rfl rfl (by kernel_rfl) (by kernel_rfl) (by kernel_rfl) (fun _ _ _ h => h) rfl HS.out ?_ ?_
    · intro W' _; go_simp
    try simp only [Act.put, List.setIfInBounds_toArray, List.set_cons_zero, List.set_cons_succ]
    refine takeH (i := 2) (d := 99) (v := .slice (some ⟨ba, oa, none⟩) nd.of.length co) rfl rfl (by kernel_rfl) (by kernel_rfl) (by kernel_rfl) (fun _ _ _ h => h) rfl HS.out ?_ ?_
    · intro W' hS; have c1 : W'.cell? ⟨W2.heap.size, 20, none⟩ = some (.slice (some ⟨ba, oa, none⟩) nd.of.length co) := blk_cell' hS.2.1 rfl
      clear hS; go_simp
    try simp only [Act.put, List.setIfInBounds_toArray, List.set_cons_zero, List.set_cons_succ]
    refine takeH (i := 3) (d := 100) (v := .pointer (some ⟨ba, oa, none⟩)) rfl rfl (by kernel_rfl) (by kernel_rfl) (by kernel_rfl) (fun _ _ _ h => h) rfl HS.out ?_ ?_
    · intro W' _; have hll := Hofl.out; go_simp; try omega
    try simp only [Act.put, List.setIfInBounds_toArray, List.set_cons_zero, List.set_cons_succ]
    refine takeH (i := 4) (d := 101) (v := .int .i64 (a : Int)) rfl rfl (by kernel_rfl) (by kernel_rfl) (by kernel_rfl) (fun _ _ _ h => h) rfl HS.out ?_ ?_
    · intro W' hS; have c1 := hS.2.2.1; clear hS; go_simp
    try simp only [Act.put, List.setIfInBounds_toArray, List.set_cons_zero, List.set_cons_succ]
    refine takeH (i := 8) (d := 105) (v := .agg #[.slice (some ⟨b, off, none⟩) nds.length c]) rfl rfl (by kernel_rfl) (by kernel_rfl) (by kernel_rfl) (fun _ _ _ h => h) rfl HS.out ?_ ?_
    · intro W' hS; exact y_load1 25 (.tmp 2) rfl (w.heap.size) rfl 25 _ (0, 0) _ hS.1 Tryz.underlying25 rfl (by kernel_rfl)
    try simp only [Act.put, List.setIfInBounds_toArray, List.set_cons_zero, List.set_cons_succ]
    refine takeH (i := 9) (d := 106) (v := .pointer (some ⟨W2.heap.size, 20, none⟩)) rfl rfl (by kernel_rfl) (by kernel_rfl) (by kernel_rfl) (fun _ _ _ h => h) rfl HS.out ?_ ?_
    · intro W' _; go_simp
    try simp only [Act.put, List.setIfInBounds_toArray, List.set_cons_zero, List.set_cons_succ]
    refine takeH (i := 10) (d := 107) (v := .slice (some ⟨ba, oa, none⟩) nd.of.length co) rfl rfl (by kernel_rfl) (by kernel_rfl) (by kernel_rfl) (fun _ _ _ h => h) rfl HS.out ?_ ?_
    · intro W' hS; have c1 : W'.cell? ⟨W2.heap.size, 20, none⟩ = some (.slice (some ⟨ba, oa, none⟩) nd.of.length co) := blk_cell' hS.2.1 rfl
      clear hS; go_simp
    try simp only [Act.put, List.setIfInBounds_toArray, List.set_cons_zero, List.set_cons_succ]
    refine takeH (i := 11) (d := 108) (v := .pointer (some ⟨ba, oa + 1, none⟩)) rfl rfl (by kernel_rfl) (by kernel_rfl) (by kernel_rfl) (fun _ _ _ h => h) rfl HS.out ?_ ?_
    · intro W' _; have hll := Hofl.out; go_simp; try omega
    try simp only [Act.put, List.setIfInBounds_toArray, List.set_cons_zero, List.set_cons_succ]
    refine takeH (i := 12) (d := 109) (v := .int .i64 (b' : Int)) rfl rfl (by kernel_rfl) (by kernel_rfl) (by kernel_rfl) (fun _ _ _ h => h) rfl HS.out ?_ ?_
    · intro W' hS; have c1 := hS.2.2.2; clear hS; go_simp
    try simp only [Act.put, List.setIfInBounds_toArray, List.set_cons_zero, List.set_cons_succ]
    refine wpAnyH_ready (rs := [5]) (by kernel_rfl) (by simp) ?_
    refine AllReadyH.cons rfl (fun K hK => ?_) AllReadyH.nil
    go_simp
    refine Calls.mono (HIa.out _ (Nodes.more (HN3.out.below HDrW3.out (Nat.le_refl _)) (HDrW3.out).size)) ?_
    rintro e w4 ⟨rfl, hb⟩
    have hA := Below.trans HDrW3.out (hb.mono (HDrW3.out).size)
    have HEw4 := hide (HE.out.next hA)
    have HBw4 := hide hA
    have CCaw4 := hide ((hA.cell (p := ⟨ba, oa, none⟩) (World.block_lt_of_cell? W3 _ CCa.out)).trans CCa.out)
    have CCbw4 := hide ((hA.cell (p := ⟨ba, oa + 1, none⟩) (World.block_lt_of_cell? W3 _ CCb.out)).trans CCb.out)
    clear hA hb
    refine hK.out _ _ ⟨HEw4.out.p, HEw4.out.n, CCaw4.out, CCbw4.out⟩ (fun _ => ?_)
    clear hK K
    try simp only [Act.put, List.setIfInBounds_toArray, List.set_cons_zero, List.set_cons_succ]
    refine takeH (i := 6) (d := 103) (v := .string ((⟨#[40]⟩ : ByteArray) ++ txtAt nds a)) rfl rfl (by kernel_rfl) (by kernel_rfl) (by kernel_rfl) (fun _ _ _ h => h) rfl ⟨HEw4.out.p, HEw4.out.n, CCaw4.out, CCbw4.out⟩ ?_ ?_
    · intro W' _; go_simp; all_goals (first | omega | rfl)
    try simp only [Act.put, List.setIfInBounds_toArray, List.set_cons_zero, List.set_cons_succ]
    refine takeH (i := 7) (d := 104) (v := .string ((⟨#[40]⟩ : ByteArray) ++ txtAt nds a ++ (⟨#[32, 124, 124, 32]⟩ : ByteArray))) rfl rfl (by kernel_rfl) (by kernel_rfl) (by kernel_rfl) (fun _ _ _ h => h) rfl ⟨HEw4.out.p, HEw4.out.n, CCaw4.out, CCbw4.out⟩ ?_ ?_
    · intro W' _; go_simp; all_goals (first | omega | rfl)
    try simp only [Act.put, List.setIfInBounds_toArray, List.set_cons_zero, List.set_cons_succ]
    refine wpAnyH_ready (rs := [13]) (by kernel_rfl) (by simp) ?_
    refine AllReadyH.cons rfl (fun K hK => ?_) AllReadyH.nil
    go_simp
    refine Calls.mono (HIb.out _ (Nodes.more (HN3.out.below HBw4.out (Nat.le_refl _)) (HBw4.out).size)) ?_
    rintro e w5 ⟨rfl, hb⟩
    have hA := Below.trans HBw4.out (hb.mono (HBw4.out).size)
    have HEw5 := hide (HE.out.next hA)
    have HBw5 := hide hA
    have CCaw5 := hide ((hA.cell (p := ⟨ba, oa, none⟩) (World.block_lt_of_cell? W3 _ CCa.out)).trans CCa.out)
    have CCbw5 := hide ((hA.cell (p := ⟨ba, oa + 1, none⟩) (World.block_lt_of_cell? W3 _ CCb.out)).trans CCb.out)
    clear hA hb
    refine hK.out _ _ ⟨HEw5.out.p, HEw5.out.n, CCaw5.out, CCbw5.out⟩ (fun _ => ?_)
    clear hK K
    try simp only [Act.put, List.setIfInBounds_toArray, List.set_cons_zero, List.set_cons_succ]
    refine takeH (i := 14) (d := 111) (v := .string ((⟨#[40]⟩ : ByteArray) ++ txtAt nds a ++ (⟨#[32, 124, 124, 32]⟩ : ByteArray) ++ txtAt nds b')) rfl rfl (by kernel_rfl) (by kernel_rfl) (by kernel_rfl) (fun _ _ _ h => h) rfl ⟨HEw5.out.p, HEw5.out.n, CCaw5.out, CCbw5.out⟩ ?_ ?_
    · intro W' _; go_simp; all_goals (first | omega | rfl)
    try simp only [Act.put, List.setIfInBounds_toArray, List.set_cons_zero, List.set_cons_succ]
    refine takeH (i := 15) (d := 112) (v := .string ((⟨#[40]⟩ : ByteArray) ++ txtAt nds a ++ (⟨#[32, 124, 124, 32]⟩ : ByteArray) ++ txtAt nds b' ++ (⟨#[41]⟩ : ByteArray))) rfl rfl (by kernel_rfl) (by kernel_rfl) (by kernel_rfl) (fun _ _ _ h => h) rfl ⟨HEw5.out.p, HEw5.out.n, CCaw5.out, CCbw5.out⟩ ?_ ?_
    · intro W' _; go_simp; all_goals (first | omega | rfl)
    try simp only [Act.put, List.setIfInBounds_toArray, List.set_cons_zero, List.set_cons_succ]
    refine takeH (i := 16) (d := 4) (v := .string ((⟨#[40]⟩ : ByteArray) ++ txtAt nds a ++ (⟨#[32, 124, 124, 32]⟩ : ByteArray) ++ txtAt nds b' ++ (⟨#[41]⟩ : ByteArray))) rfl rfl (by kernel_rfl) (by kernel_rfl) (by kernel_rfl) (fun _ _ _ h => h) rfl ⟨HEw5.out.p, HEw5.out.n, CCaw5.out, CCbw5.out⟩ ?_ ?_
    · intro W' _; go_simp; all_goals (first | omega | rfl)
    try simp only [Act.put, List.setIfInBounds_toArray, List.set_cons_zero, List.set_cons_succ]
    refine wpAnyH_done (by kernel_rfl) ?_ _
    go_wp2
    go_ret
    refine ⟨?_, HEw5.out.bel⟩
    rw [Hv.out]
    rfl
theorem rtext_any (A : Option Addr) (c : Nat) (nds : List Nd) (hok : ∀ i nd, nds[i]? = some nd → NdOk i nd) (hln : nds.length ≤ 1000000) (hnum : ∀ nd ∈ nds, nd.n < 65536 ∧ nd.m < 65536) (hdg : ∀ nd ∈ nds, nd.k = 6 → ∀ i, i < 16 → 0 ≤ nd.d i ∧ nd.d i ≤ 255)
    (hts : ∀ s ∈ textAll nds, s.size ≤ 1000000) : ∀ n k : Nat, k < n → k < nds.length → TxOk A c nds k
  | 0, k, h, _ => by omega
  | n + 1, k, h, hk => rtext_step A c nds hok hln hnum hdg hts k hk fun a ha => rtext_any A c nds hok hln hnum hdg hts n a (by omega) (by omega)
set_option maxHeartbeats 2000000 in
theorem rtext17_any (w : World) (A : Option Addr) (c : Nat) (nds : List Nd) (hok : ∀ i nd, nds[i]? = some nd → NdOk i nd) (hln : nds.length ≤ 1000000) (h0 : 0 < nds.length) (hnum : ∀ nd ∈ nds, nd.n < 65536 ∧ nd.m < 65536) (hdg : ∀ nd ∈ nds, nd.k = 6 → ∀ i, i < 16 → 0 ≤ nd.d i ∧ nd.d i ≤ 255)
    (hts : ∀ s ∈ textAll nds, s.size ≤ 1000000) (hN : Nodes w w.heap.size A nds) : Calls Tryz.prog 17 #[.agg #[.slice A nds.length c]] w fun e w' => e = .returned (.string (textF nds)) ∧ Below w.heap.size w w' := by
  have hv : txtAt nds (nds.length - 1) = textF nds := by
    unfold txtAt
    rw [List.getD_eq_getElem?_getD, textF_get (by omega)]
    rfl
  have hr := rtext_any A c nds hok hln hnum hdg hts nds.length (nds.length - 1) (by omega) (by omega)
  simp only [TxOk, hv] at hr
  obtain ⟨W2, hW2⟩ : ∃ W2, W2 = w.alloc (.cells #[.slice A nds.length c] 25) := ⟨_, rfl⟩
  obtain ⟨gb, g1, hs2⟩ := fresh_facts hW2
  have hc := hr W2 ((hN.below gb (Nat.le_refl _)).more gb.size)
  have hcast : ((nds.length - 1 : Nat) : Int) = (nds.length : Int) - 1 := by omega
  rw [hcast] at hc
  have Hc := hide hc
  have HB := hide gb
  have HW2 := hide hW2
  clear hr hv hc hcast g1 gb hs2 hW2 hN
  go_enter Tryz.func17, Tryz.ntmps17
  go_wp2_with fail
  rw [← HW2.out]
  refine Calls.mono Hc.out ?_
  rintro e w1 ⟨rfl, hb⟩
  have HE := hide (HB.out.trans (hb.mono HB.out.size))
  clear hb
  go_wp2
  go_ret
  exact ⟨rfl, HE.out⟩
end Go.Proofs.YtbojlnbdkaanmaaGreatDoor
namespace Go.Proofs.YtbojlnbdkaanmaaGreatDoor
open Go.RowKit
set_option linter.unusedSimpArgs false
set_option linter.unusedVariables false

def ltQ (x y : Int × Int) : Bool := decide (x.1 < y.1) || (decide (x.1 = y.1) && decide (x.2 < y.2))
theorem ltQ_iff {x y : Int × Int} : ltQ x y = true ↔ x.1 < y.1 ∨ (x.1 = y.1 ∧ x.2 < y.2) := by simp [ltQ]
theorem ltQ_trans {x y z : Int × Int} (h : ltQ x y = true) (k : ltQ y z = true) : ltQ x z = true := by
  rw [ltQ_iff] at *
  omega
theorem ltQ_irr (x : Int × Int) : ltQ x x = false := by simp [ltQ]
theorem ltQ_asym {x y : Int × Int} (h : ltQ x y = true) : ltQ y x = false := by
  cases hq : ltQ y x with
  | false => rfl
  | true => have := ltQ_trans h hq; rw [ltQ_irr] at this; cases this
theorem ltQ_total {x y : Int × Int} (h : ltQ x y = false) (hne : x ≠ y) : ltQ y x = true := by
  rw [ltQ_iff]
  have h1 : ¬ (x.1 < y.1 ∨ (x.1 = y.1 ∧ x.2 < y.2)) := by rw [← ltQ_iff, h]; simp
  have h2 : ¬ (x.1 = y.1 ∧ x.2 = y.2) := fun ⟨a, b⟩ => hne (Prod.ext a b)
  omega
def StrictQ (xs : List (Int × Int)) : Prop := xs.Pairwise fun a b => ltQ a b = true
/-- Insertion without doubles. -/
def insP (x : Int × Int) (xs : List (Int × Int)) : List (Int × Int) :=
  if (xs.dropWhile (ltQ · x)).head? = some x then xs else xs.takeWhile (ltQ · x) ++ x :: xs.dropWhile (ltQ · x)
def ptsR (l : List (Int × Int)) : List (Int × Int) := l.foldl (fun acc x => insP x acc) []
theorem mem_insP {x z : Int × Int} {xs : List (Int × Int)} : z ∈ insP x xs ↔ z = x ∨ z ∈ xs := by
  have hsplit : z ∈ xs ↔ z ∈ xs.takeWhile (ltQ · x) ∨ z ∈ xs.dropWhile (ltQ · x) := by
    rw [← List.mem_append, List.takeWhile_append_dropWhile]
  unfold insP
  split
  · rename_i h
    constructor
    · exact .inr
    · rintro (rfl | h2)
      · exact hsplit.2 (.inr (List.mem_of_mem_head? (by rw [h]; simp)))
      · exact h2
  · rw [List.mem_append, List.mem_cons, hsplit]
    constructor
    · rintro (h | h | h)
      · exact .inr (.inl h)
      · exact .inl h
      · exact .inr (.inr h)
    · rintro (h | h | h)
      · exact .inr (.inl h)
      · exact .inl h
      · exact .inr (.inr h)
theorem strict_drop {x : Int × Int} {xs : List (Int × Int)} (h : StrictQ xs) (hne : (xs.dropWhile (ltQ · x)).head? ≠ some x) : ∀ z ∈ xs.dropWhile (ltQ · x), ltQ x z = true := by
  intro z hz
  cases hd : xs.dropWhile (ltQ · x) with
  | nil => rw [hd] at hz; simp at hz
  | cons y r =>
    have hy : ltQ y x = false := by
      have := List.head?_dropWhile_not (fun a => ltQ a x) xs
      rw [hd] at this
      simpa using this
    have hyx : ltQ x y = true := ltQ_total hy (fun e => hne (by rw [hd, e]; rfl))
    have hs : StrictQ (y :: r) := by
      rw [← hd]
      exact List.Pairwise.sublist (List.dropWhile_sublist _) h
    rw [hd] at hz
    rcases List.mem_cons.1 hz with rfl | hz
    · exact hyx
    · exact ltQ_trans hyx (List.rel_of_pairwise_cons hs hz)
theorem mem_tw {p : Int × Int → Bool} : ∀ (xs : List (Int × Int)) (z : Int × Int), z ∈ xs.takeWhile p → p z = true
  | [], z, h => by simp at h
  | x :: xs, z, h => by
    rw [List.takeWhile_cons] at h
    split at h
    · rename_i hp
      rcases List.mem_cons.1 h with rfl | h
      · exact hp
      · exact mem_tw xs z h
    · simp at h
theorem strict_insP {x : Int × Int} {xs : List (Int × Int)} (h : StrictQ xs) : StrictQ (insP x xs) := by
  unfold insP
  split
  · exact h
  · rename_i hne
    have h1 : ∀ z ∈ xs.takeWhile (ltQ · x), ltQ z x = true := fun z hz => mem_tw (p := (ltQ · x)) xs z hz
    have h2 := strict_drop h hne
    unfold StrictQ
    rw [List.pairwise_append]
    refine ⟨List.Pairwise.sublist (List.takeWhile_sublist _) h, ?_, ?_⟩
    · rw [List.pairwise_cons]
      exact ⟨h2, List.Pairwise.sublist (List.dropWhile_sublist _) h⟩
    · intro a ha b hb
      rcases List.mem_cons.1 hb with rfl | hb
      · exact h1 a ha
      · exact ltQ_trans (h1 a ha) (h2 b hb)
theorem ptsR_fold : ∀ (l acc : List (Int × Int)), StrictQ acc → StrictQ (l.foldl (fun acc x => insP x acc) acc) ∧ ∀ z, z ∈ l.foldl (fun acc x => insP x acc) acc ↔ z ∈ l ∨ z ∈ acc
  | [], acc, h => ⟨h, fun z => by simp⟩
  | x :: l, acc, h => by
    obtain ⟨h1, h2⟩ := ptsR_fold l (insP x acc) (strict_insP h)
    refine ⟨h1, fun z => ?_⟩
    rw [List.foldl_cons, h2, mem_insP, List.mem_cons]
    constructor
    · rintro (h | h | h)
      · exact .inl (.inr h)
      · exact .inl (.inl h)
      · exact .inr h
    · rintro ((h | h) | h)
      · exact .inr (.inl h)
      · exact .inl h
      · exact .inr (.inr h)
theorem strict_unique : ∀ (xs ys : List (Int × Int)), StrictQ xs → StrictQ ys → (∀ z, z ∈ xs ↔ z ∈ ys) → xs = ys
  | [], [], _, _, _ => rfl
  | [], y :: ys, _, _, h => by have := (h y).2 (by simp); simp at this
  | x :: xs, [], _, _, h => by have := (h x).1 (by simp); simp at this
  | x :: xs, y :: ys, hx, hy, h => by
    have hx' := List.pairwise_cons.1 hx
    have hy' := List.pairwise_cons.1 hy
    have hxy : x = y := by
      have h1 := (h x).1 (by simp)
      have h2 := (h y).2 (by simp)
      rcases List.mem_cons.1 h1 with e | h1
      · exact e
      · rcases List.mem_cons.1 h2 with e | h2
        · exact e.symm
        · have q1 := hy'.1 x h1
          have q2 := hx'.1 y h2
          rw [ltQ_asym q1] at q2
          cases q2
    subst hxy
    congr 1
    refine strict_unique xs ys hx'.2 hy'.2 fun z => ?_
    constructor
    · intro hz
      rcases List.mem_cons.1 ((h z).1 (List.mem_cons_of_mem _ hz)) with rfl | h2
      · have := hx'.1 z hz; rw [ltQ_irr] at this; cases this
      · exact h2
    · intro hz
      rcases List.mem_cons.1 ((h z).2 (List.mem_cons_of_mem _ hz)) with rfl | h2
      · have := hy'.1 z hz; rw [ltQ_irr] at this; cases this
      · exact h2
theorem ltPQ (x y : Int × Int) : ltP x y = ltQ x y := by
  rw [ltP_eq]
  simp [ltQ]
theorem dedup_strict : ∀ (ys : List (Int × Int)), SortedP ys → StrictQ (dedupP ys) ∧ ∀ z, z ∈ dedupP ys ↔ z ∈ ys
  | [], _ => ⟨List.Pairwise.nil, fun z => by simp [dedupP]⟩
  | [x], _ => ⟨by unfold StrictQ; simp [dedupP], fun z => by simp [dedupP]⟩
  | x :: y :: l, h => by
    have h' := List.pairwise_cons.1 h
    obtain ⟨h1, h2⟩ := dedup_strict (y :: l) h'.2
    unfold dedupP
    split
    · rename_i e
      subst e
      refine ⟨h1, fun z => ?_⟩
      rw [h2]
      simp
    · rename_i hne
      refine ⟨?_, fun z => ?_⟩
      · unfold StrictQ
        rw [List.pairwise_cons]
        refine ⟨fun z hz => ?_, h1⟩
        have hz' := (h2 z).1 hz
        have hq : ltQ z x = false := by rw [← ltPQ]; exact h'.1 z hz'
        refine ltQ_total hq (fun e => ?_)
        subst e
        rcases List.mem_cons.1 hz' with e | hz2
        · exact hne e
        · have hyl := (List.pairwise_cons.1 h'.2).1 z hz2
          have hyz := h'.1 y (by simp)
          rw [ltPQ] at hyl hyz
          exact hne (by
            rcases Classical.em (z = y) with e | e
            · exact e
            · have := ltQ_total hyl e
              rw [this] at hyz
              cases hyz)
      · rw [List.mem_cons, h2, List.mem_cons (a := z) (b := x)]
theorem ptsR_eq {l ys : List (Int × Int)} (hp : ys.Perm l) (hs : SortedP ys) : ptsR l = dedupP ys := by
  obtain ⟨h1, h2⟩ := ptsR_fold l [] List.Pairwise.nil
  obtain ⟨h3, h4⟩ := dedup_strict ys hs
  refine strict_unique _ _ h1 h3 fun z => ?_
  rw [h4, hp.mem_iff]
  show z ∈ l.foldl _ [] ↔ _
  rw [h2]
  simp
end Go.Proofs.YtbojlnbdkaanmaaGreatDoor
namespace Go.Proofs.YtbojlnbdkaanmaaGreatDoor
open Go.RowKit
set_option linter.unusedSimpArgs false
set_option linter.unusedVariables false

theorem run_append_nn {P : Program} (w : World) (t ty e : TypeId) (i : TypeInfo) (ht : P.underlying t = some (.slice e)) (hi : P.info? e = some i) (c : Nat) :
    (Builtin.append_ #[t, t] ty #[.slice none 0 0, .slice none 0 c]).run P w = .ok (.slice none 0 0) w := by
  simp [Builtin.append_, run_underlying ht, sizeOf, typeInfo, hi, Builtin.lenOf, Builtin.firstCells, storeCells]
/-- A row of pairs, appended to a row of the call's own. -/
theorem run_append_prs (w : World) (ty : TypeId) (base : Nat) (v : Value) (n : Nat) (l : List (Int × Int)) (hn : l.length = n) (hown : w.ownsRow base 50 2 v n (flatP l)) (A : Option Addr) (m c B : Nat) (ms : List (Int × Int)) (hm : ms.length = m) (hr : Prs w B A ms) (hl : n + m ≤ 1000000) (hb : base ≤ w.heap.size) :
    ∃ v' w', (Builtin.append_ #[36, 36] ty #[v, .slice A m c]).run Tryz.prog w = .ok v' w' ∧ w'.ownsRow base 50 2 v' (n + m) (flatP (l ++ ms)) ∧ w.grownBy w' v.ownBlock ∧ (v'.ownBlock = v.ownBlock ∨ v'.ownBlock = some w.heap.size) := by
  obtain ⟨i0, hi0, hz0, hz1, hz2⟩ := info_parts info50
  have h2 : ∀ cs ∈ ms.map encP, cs.length = 2 := fun cs h => by obtain ⟨t, _, rfl⟩ := List.mem_map.1 h; rfl
  have hf : flatP (l ++ ms) = flatP l ++ flatP ms := by simp [flatP]
  have h1 : ∀ u ∈ flatP ms, u.oneCell' = true := by
    intro u hu
    obtain ⟨cs, hc, hu⟩ := List.mem_flatten.1 hu
    obtain ⟨t, _, rfl⟩ := List.mem_map.1 hc
    simp [encP] at hu
    rcases hu with rfl | rfl <;> rfl
  cases A with
  | none =>
    have hnil : ms.map encP = [] := Row.none_nil hr
    have hms : ms = [] := by simpa using hnil
    subst hms
    subst hm
    have hq : w.ownsRow base 50 2 v (n + ([] : List (Int × Int)).length) (flatP (l ++ [])) := by simpa using hown
    rcases hown.2 with ⟨e, _⟩ | ⟨g, cap, cur, e, _, _, hle, _⟩
    · subst e
      have h0 : n = 0 := by
        rcases hown.2 with ⟨_, h0⟩ | ⟨g, cap, cur, e, _⟩
        · exact h0
        · cases e
      exact ⟨_, w, run_append_nn w 36 ty 50 i0 Tryz.underlying36 hi0 c, hq, ⟨rfl, rfl, rfl, Nat.le_refl _, fun _ _ _ => rfl⟩, .inl rfl⟩
    · subst e
      exact ⟨_, w, run_append_none w 36 ty 50 i0 Tryz.underlying36 hi0 ⟨g, 0, none⟩ n cap c hle, hq, ⟨rfl, rfl, rfl, Nat.le_refl _, fun _ _ _ => rfl⟩, .inl rfl⟩
  | some ad =>
    obtain ⟨v', w', hrr, q2, q3, _, q5⟩ := run_append_own_at (P := Tryz.prog) w base 36 ty 50 i0 _ 2 16 Tryz.underlying36 hi0 hz0 hz1 hz2 rfl (by decide) v n (flatP l) hown ad m c (flatP ms) (by rw [flatP_length, hm]) (Row.flat hr h2) h1 (by simp only [maxLen]; omega) (by omega) hb
    exact ⟨v', w', hrr, by rw [hf]; exact q2, q3, q5⟩
/-- At a plain region's list. -/
theorem wpList_append_prs {ops : Array Oper} {rest : List Oper} {o : Oper} {a : Act} {w : World} {Q : Exit → Act → World → Prop} (hgd : o.guard = none) (s x : Operand)
    (ho : o.op = .call { callee := .builtin .append, args := #[s, x], argTypes := #[36, 36] }) (base : Nat) (v : Value) (n : Nat) (l : List (Int × Int)) (hs : a.eval s = v) (hn : l.length = n) (hown : w.ownsRow base 50 2 v n (flatP l))
    (A : Option Addr) (m c B : Nat) (ms : List (Int × Int)) (hx : a.eval x = .slice A m c) (hm : ms.length = m) (hr : Prs w B A ms) (hl : n + m ≤ 1000000) (hb : base ≤ w.heap.size)
    (h : ∀ v' w', w'.ownsRow base 50 2 v' (n + m) (flatP (l ++ ms)) → w.grownBy w' v.ownBlock → (v'.ownBlock = v.ownBlock ∨ v'.ownBlock = some w.heap.size) → wpList Tryz.prog ops Q rest (a.put o.dst v') w') : wpList Tryz.prog ops Q (o :: rest) a w :=
  wpList_plain hgd fun K hK => by
    obtain ⟨v', w', hr1, h2, h3, h4⟩ := run_append_prs w o.type base v n l hn hown A m c B ms hm hr hl hb
    unfold Oper.wp execOp
    simp only [ho, resolve, invoke, builtin, Sem.run_bind, Sem.run_pure, Result.andThen_ok, List.map_toArray, List.map_cons, List.map_nil, hs, hx, hr1]
    exact hK _ _ (h v' w' h2 h3 h4)
theorem prs_1 {W : World} {g : Nat} {a b : Int} {t : TypeId} (h : W.heap[g]? = some (.cells #[.int .i64 a, .int .i64 b] t (0, 0))) : Prs W W.heap.size (some ⟨g, 0, none⟩) [(a, b)] := by
  intro i cs hi
  match i, hi with
  | 0, hi =>
    cases hi
    refine ⟨g, 0, rfl, (Array.getElem?_eq_some_iff.1 h).1, fun j v hj => ?_⟩
    rw [cell_of_row _ _ _ _ _ _ h]
    match j, hj with
    | 0, hj => cases hj; rfl
    | 1, hj => cases hj; rfl
theorem own_slice {W : World} {base n : Nat} {v : Value} {l : List (Int × Int)} (h : W.ownsRow base 50 2 v n (flatP l)) (hn : l.length = n) : ∃ A c, v = .slice A n c ∧ n ≤ c ∧ c ≤ maxLen ∧ Prs W W.heap.size A l := by
  obtain ⟨A, c, e, h1, h2, hr, _⟩ := Row.of_own (css := l.map encP) h (by simpa using hn) (fun cs hcs => by obtain ⟨t, _, rfl⟩ := List.mem_map.1 hcs; rfl)
  exact ⟨A, c, e, h1, h2, hr⟩
theorem ap_below {Y w w' : World} {base n : Nat} {v : Value} {xs : List Value} (hb : base ≤ w.heap.size) (h : Below base Y w) (hown : w.ownsRow base 50 2 v n xs) (hg : w.grownBy w' v.ownBlock) : Below base Y w' :=
  h.grown hg hb (fun k hk => (hown.lt k hk).1)
/-- What is known in a round: the policy's block; the points so far. -/
structure PtS (w W : World) (A : Option Addr) (c : Nat) (nds : List Nd) (A' : Option Addr) (cap : Nat) (xs : List (Int × Int)) : Prop where
  bel : Below w.heap.size w W
  p : W.heap[w.heap.size]? = some (.cells #[.slice A nds.length c] 25 (0, 0))
  out : Prs W W.heap.size A' xs
  cap : xs.length ≤ cap ∧ cap ≤ maxLen
theorem PtS.next {w W W' : World} {A : Option Addr} {c : Nat} {nds : List Nd} {A' : Option Addr} {cap : Nat} {xs : List (Int × Int)} (h : PtS w W A c nds A' cap xs) (hb : Below W.heap.size W W') : PtS w W' A c nds A' cap xs :=
  ⟨h.bel.trans (hb.mono h.bel.size), (hb.block _ (World.lt_of_blk h.p)).trans h.p, (Row.below h.out hb (Nat.le_refl _)).more hb.size, h.cap⟩
theorem ptsR_snoc (l : List (Int × Int)) (x : Int × Int) : ptsR (l ++ [x]) = insP x (ptsR l) := by simp [ptsR]
theorem insP_length (x : Int × Int) (xs : List (Int × Int)) : (insP x xs).length ≤ xs.length + 1 := by
  unfold insP
  split
  · omega
  · have := congrArg List.length (List.takeWhile_append_dropWhile (p := (ltQ · x)) (l := xs))
    rw [List.length_append] at this
    rw [List.length_append, List.length_cons]
    omega
theorem ptsR_length : ∀ (l acc : List (Int × Int)), (l.foldl (fun acc x => insP x acc) acc).length ≤ acc.length + l.length
  | [], acc => by simp
  | x :: l, acc => by
    have := ptsR_length l (insP x acc)
    have := insP_length x acc
    rw [List.foldl_cons, List.length_cons]
    omega
theorem slice_lo (A : Option Addr) (len cap j : Nat) (hj : j ≤ cap) : ∃ A1, (∀ W, (Instr.sliceAt 36 (.slice A len cap) none (some (.int .i64 j)) none).run Tryz.prog W = .ok (.slice A1 j cap) W) ∧ ∀ W B xs, Prs W B A xs → Prs W B A1 (xs.take j) := by
  have hjI : (j : Int) ≤ (cap : Int) := by omega
  refine ⟨if cap = 0 then A else A.map (·.add (0 * 2)), fun W => ?_, fun W B xs h => ?_⟩
  · go_simp
  · have h1 : Prs W B A (xs.take j) := by
      unfold Prs at h ⊢
      rw [List.map_take]
      exact Row.prefix_ h j
    split
    · exact h1
    · have := Row.cut h1 0 (by omega)
      simpa [Prs] using this
theorem slice_hi (A : Option Addr) (len cap j : Nat) (hj : j ≤ len) (hc : len ≤ cap) : ∃ A2, (∀ W, (Instr.sliceAt 36 (.slice A len cap) (some (.int .i64 j)) none none).run Tryz.prog W = .ok (.slice A2 (len - j) (cap - j)) W) ∧ ∀ W B xs, xs.length = len → Prs W B A xs → Prs W B A2 (xs.drop j) := by
  have hjI : (j : Int) ≤ (len : Int) := by omega
  have hjC : (len : Int) ≤ (cap : Int) := by omega
  refine ⟨if cap = j then A else A.map (·.add (j * 2)), fun W => ?_, fun W B xs hl h => ?_⟩
  · go_simp
  · split
    · have : xs.drop j = [] := List.drop_eq_nil_of_le (by omega)
      rw [this]
      exact Row.nil_ _ _ _ _
    · have := Row.cut h j (by omega)
      unfold Prs
      rw [List.map_drop]
      exact this
theorem wpList_slice {ops : Array Oper} {rest : List Oper} {o : Oper} {a : Act} {w : World} {Q : Exit → Act → World → Prop} (hgd : o.guard = none) (x : Operand) (lo hi : Option Operand) (ho : o.op = .slice 36 x lo hi none) (v v' : Value) (lv hv : Option Value) (hx : a.eval x = v) (hlo : lo.map a.eval = lv) (hhi : hi.map a.eval = hv)
    (hrun : ∀ W, (Instr.sliceAt 36 v lv hv none).run Tryz.prog W = .ok v' W) (h : wpList Tryz.prog ops Q rest (a.put o.dst v') w) : wpList Tryz.prog ops Q (o :: rest) a w :=
  wpList_plain hgd fun K hK => by
    unfold Oper.wp execOp
    simp only [ho, hx, hlo, hhi, hrun, Sem.run_bind, Sem.run_pure, Result.andThen_ok, Option.map_none]
    exact hK _ _ h
theorem split_of {x : Int × Int} : ∀ (xs : List (Int × Int)) (j : Nat), j ≤ xs.length → (∀ z ∈ xs.take j, ltQ z x = true) → (∀ y, xs[j]? = some y → ltQ y x = false) → xs.takeWhile (ltQ · x) = xs.take j ∧ xs.dropWhile (ltQ · x) = xs.drop j
  | [], j, h, _, _ => by
    have : j = 0 := by simpa using h
    subst this
    exact ⟨rfl, rfl⟩
  | y :: ys, 0, _, _, h2 => by
    have := h2 y rfl
    simp [List.takeWhile_cons, List.dropWhile_cons, this]
  | y :: ys, j + 1, h, h1, h2 => by
    have hy := h1 y (by simp)
    obtain ⟨e1, e2⟩ := split_of (x := x) ys j (by simpa using h) (fun z hz => h1 z (by simp [hz])) (fun z hz => h2 z (by simpa using hz))
    simp [List.takeWhile_cons, List.dropWhile_cons, hy, e1, e2]
theorem insP_at {x : Int × Int} {xs : List (Int × Int)} {j : Nat} (hj : j ≤ xs.length) (h1 : ∀ z ∈ xs.take j, ltQ z x = true) (h2 : ∀ y, xs[j]? = some y → ltQ y x = false) : insP x xs = if xs[j]? = some x then xs else xs.take j ++ x :: xs.drop j := by
  obtain ⟨e1, e2⟩ := split_of xs j hj h1 h2
  unfold insP
  rw [e1, e2, List.head?_drop]
theorem cell_kept {w : World} {a : Addr} {v : Value} (o : Obj) (h : w.cell? a = some v) : (w.alloc o).cell? a = some v := by
  rw [World.cell?_alloc_lt _ _ _ (World.block_lt_of_cell? w a h)]
  exact h
/-- What Points leaves. -/
def PostRQ (w : World) (nds : List Nd) (e : Ending) (w' : World) : Prop :=
  Below w.heap.size w w' ∧ ∃ A c, e = .returned (.slice A (ptsR (ptsF nds)).length c) ∧ Prs w' w'.heap.size A (ptsR (ptsF nds))
set_option maxRecDepth 100000 in
set_option maxHeartbeats 16000000 in
theorem rpoints_any (w : World) (A : Option Addr) (c : Nat) (nds : List Nd) (hN : Nodes w w.heap.size A nds) (hln : nds.length ≤ 900000) : Calls Tryz.prog 20 #[.agg #[.slice A nds.length c]] w (PostRQ w nds) := by
  obtain ⟨W0, hW0⟩ : ∃ W0, W0 = w.alloc (.cells #[.slice A nds.length c] 25) := ⟨_, rfl⟩
  obtain ⟨gb, g1, hs0⟩ := fresh_facts hW0
  have HS0 := hide (show PtS w W0 A c nds none 0 [] from ⟨gb, g1, Row.nil_ _ _ _ _, by simp [maxLen]⟩)
  have HN := hide hN
  have HW0 := hide hW0
  clear hN gb g1 hs0 hW0
  go_enter Tryz.func20, Tryz.ntmps20
  go_wp2
  rw [← HW0.out]
  go_loopg [3, 4] nds.length (fun g v kv wr => ∃ (k : Nat) (A' : Option Addr) (cap : Nat), k + g = nds.length ∧ kv = .int .i64 k ∧ v = .slice A' (ptsR (ptsF (nds.take k))).length cap ∧ Hid (PtS w wr A c nds A' cap (ptsR (ptsF (nds.take k)))))
  case atStart => exact ⟨0, none, 0, by omega, rfl, rfl, HS0⟩
  case round =>
    clear HS0 HW0
    obtain ⟨k, A', cap, hkg, rfl, rfl, HS⟩ := hrel
    have c1 : wr.cell? ⟨w.heap.size, 0, none⟩ = some (.slice A nds.length c) := by rw [cell_of_row _ _ _ _ _ _ HS.out.p]; rfl
    cases gk with
    | zero =>
      obtain rfl : k = nds.length := by omega
      have HS2 := HS
      rw [List.take_length] at HS2
      have hpt : ptsR (ptsF (nds.take nds.length)) = ptsR (ptsF nds) := by rw [List.take_length]
      rw [hpt]
      clear hpt HS
      go_wp2
      go_ret
      exact ⟨HS2.out.bel, A', cap, rfl, HS2.out.out⟩
    | succ g =>
      have hlt : k < nds.length := by omega
      obtain ⟨b, off, Ao, co, hA, hbl, hat, hof⟩ := HN.out.at_ hlt
      subst hA
      obtain ⟨nd, hnd⟩ : ∃ nd, nds[k] = nd := ⟨_, rfl⟩
      have hsn := ptsF_take nds k hlt
      rw [hnd] at hat hsn
      have hat2 := hat.below HS.out.bel hbl
      obtain ⟨d0, d1, d2, _⟩ := hat2.all
      obtain ⟨xs, hxs⟩ : ∃ xs, ptsR (ptsF (nds.take k)) = xs := ⟨_, rfl⟩
      have hxl : xs.length ≤ k := by
        rw [← hxs]
        have h1 := ptsR_length (ptsF (nds.take k)) []
        have h2 := ptsF_length (nds.take k)
        have h3 : (nds.take k).length ≤ k := List.length_take_le _ _
        unfold ptsR
        simp only [List.length_nil] at h1
        omega
      rw [hxs] at HS ⊢
      have hlI : (k : Int) < (nds.length : Int) := by omega
      have Hkg := hide hkg
      clear hat hat2 hof hnd hkg
      by_cases h7 : nd.k = 7
      · have hq : (nd.k != 7) = false := by simp [h7]
        have hn : ptsR (ptsF (nds.take (k + 1))) = insP (nd.n, nd.m) xs := by rw [hsn, if_pos h7, ptsR_snoc, hxs]
        have Hn := hide hn
        clear h7 hn hsn hxs
        go_wp2_with fail
        have HS6 := hide (show wr.drew.cell? ⟨w.heap.size, 0, none⟩ = some (.slice (some ⟨b, off, none⟩) nds.length c) ∧ wr.drew.cell? ⟨b, off + k * 21 + 1, none⟩ = some (.int .i64 nd.n) ∧ wr.drew.cell? ⟨b, off + k * 21 + 2, none⟩ = some (.int .i64 nd.m) from ⟨c1, d1, d2⟩)
        have HD := hide (And.intro c1 (And.intro d1 d2))
        clear c1 d0 d1 d2
        refine wp_region_held (S := fun V => V.cell? ⟨w.heap.size, 0, none⟩ = some (.slice (some ⟨b, off, none⟩) nds.length c) ∧ V.cell? ⟨b, off + k * 21 + 1, none⟩ = some (.int .i64 nd.n) ∧ V.cell? ⟨b, off + k * 21 + 2, none⟩ = some (.int .i64 nd.m)) (by kernel_rfl) ?_
        change wpAnyH _ _ _ _ _ _ _ _ (World.drew _)
        refine takeH (i := 0) (d := 22) (v := .pointer (some ⟨w.heap.size, 0, none⟩)) rfl rfl (by kernel_rfl) (by kernel_rfl) (by kernel_rfl) (fun _ _ _ h => h) rfl HS6.out ?_ ?_
        · intro W' _; go_simp
        try simp only [Act.put, List.setIfInBounds_toArray, List.set_cons_zero, List.set_cons_succ]
        refine takeH (i := 1) (d := 23) (v := .slice (some ⟨b, off, none⟩) nds.length c) rfl rfl (by kernel_rfl) (by kernel_rfl) (by kernel_rfl) (fun _ _ _ h => h) rfl HS6.out ?_ ?_
        · intro W' hS; obtain ⟨e1, e2, e3⟩ := hS; go_simp
        try simp only [Act.put, List.setIfInBounds_toArray, List.set_cons_zero, List.set_cons_succ]
        refine takeH (i := 2) (d := 24) (v := .int .i64 k) rfl rfl (by kernel_rfl) (by kernel_rfl) (by kernel_rfl) (fun _ _ _ h => h) rfl HS6.out ?_ ?_
        · intro W' _; go_simp
        try simp only [Act.put, List.setIfInBounds_toArray, List.set_cons_zero, List.set_cons_succ]
        refine takeH (i := 3) (d := 25) (v := .pointer (some ⟨b, off + k * 21, none⟩)) rfl rfl (by kernel_rfl) (by kernel_rfl) (by kernel_rfl) (fun _ _ _ h => h) rfl HS6.out ?_ ?_
        · intro W' _; go_simp
        try simp only [Act.put, List.setIfInBounds_toArray, List.set_cons_zero, List.set_cons_succ]
        refine takeH (i := 4) (d := 26) (v := .pointer (some ⟨b, off + k * 21 + 1, none⟩)) rfl rfl (by kernel_rfl) (by kernel_rfl) (by kernel_rfl) (fun _ _ _ h => h) rfl HS6.out ?_ ?_
        · intro W' _; go_simp
        try simp only [Act.put, List.setIfInBounds_toArray, List.set_cons_zero, List.set_cons_succ]
        refine takeH (i := 5) (d := 27) (v := .int .i64 nd.n) rfl rfl (by kernel_rfl) (by kernel_rfl) (by kernel_rfl) (fun _ _ _ h => h) rfl HS6.out ?_ ?_
        · intro W' hS; obtain ⟨e1, e2, e3⟩ := hS; go_simp
        try simp only [Act.put, List.setIfInBounds_toArray, List.set_cons_zero, List.set_cons_succ]
        refine takeH (i := 6) (d := 28) (v := .pointer (some ⟨w.heap.size, 0, none⟩)) rfl rfl (by kernel_rfl) (by kernel_rfl) (by kernel_rfl) (fun _ _ _ h => h) rfl HS6.out ?_ ?_
        · intro W' _; go_simp
        try simp only [Act.put, List.setIfInBounds_toArray, List.set_cons_zero, List.set_cons_succ]
        refine takeH (i := 7) (d := 29) (v := .slice (some ⟨b, off, none⟩) nds.length c) rfl rfl (by kernel_rfl) (by kernel_rfl) (by kernel_rfl) (fun _ _ _ h => h) rfl HS6.out ?_ ?_
        · intro W' hS; obtain ⟨e1, e2, e3⟩ := hS; go_simp
        try simp only [Act.put, List.setIfInBounds_toArray, List.set_cons_zero, List.set_cons_succ]
        refine takeH (i := 8) (d := 30) (v := .int .i64 k) rfl rfl (by kernel_rfl) (by kernel_rfl) (by kernel_rfl) (fun _ _ _ h => h) rfl HS6.out ?_ ?_
        · intro W' _; go_simp
        try simp only [Act.put, List.setIfInBounds_toArray, List.set_cons_zero, List.set_cons_succ]
        refine takeH (i := 9) (d := 31) (v := .pointer (some ⟨b, off + k * 21, none⟩)) rfl rfl (by kernel_rfl) (by kernel_rfl) (by kernel_rfl) (fun _ _ _ h => h) rfl HS6.out ?_ ?_
        · intro W' _; go_simp
        try simp only [Act.put, List.setIfInBounds_toArray, List.set_cons_zero, List.set_cons_succ]
        refine takeH (i := 10) (d := 32) (v := .pointer (some ⟨b, off + k * 21 + 2, none⟩)) rfl rfl (by kernel_rfl) (by kernel_rfl) (by kernel_rfl) (fun _ _ _ h => h) rfl HS6.out ?_ ?_
        · intro W' _; go_simp
        try simp only [Act.put, List.setIfInBounds_toArray, List.set_cons_zero, List.set_cons_succ]
        refine takeH (i := 11) (d := 33) (v := .int .i64 nd.m) rfl rfl (by kernel_rfl) (by kernel_rfl) (by kernel_rfl) (fun _ _ _ h => h) rfl HS6.out ?_ ?_
        · intro W' hS; obtain ⟨e1, e2, e3⟩ := hS; go_simp
        try simp only [Act.put, List.setIfInBounds_toArray, List.set_cons_zero, List.set_cons_succ]
        refine takeH (i := 12) (d := 34) (v := .agg #[.int .i64 nd.n, .int .i64 nd.m]) rfl rfl (by kernel_rfl) (by kernel_rfl) (by kernel_rfl) (fun _ _ _ h => h) rfl HS6.out ?_ ?_
        · intro W' _; go_simp
        try simp only [Act.put, List.setIfInBounds_toArray, List.set_cons_zero, List.set_cons_succ]
        have hall : ∀ cs : Array Value, (wr.drew.alloc (.cells cs 50)).cell? ⟨w.heap.size, 0, none⟩ = some (.slice (some ⟨b, off, none⟩) nds.length c) ∧ (wr.drew.alloc (.cells cs 50)).cell? ⟨b, off + k * 21 + 1, none⟩ = some (.int .i64 nd.n) ∧ (wr.drew.alloc (.cells cs 50)).cell? ⟨b, off + k * 21 + 2, none⟩ = some (.int .i64 nd.m) := fun cs => ⟨cell_kept _ HS6.out.1, cell_kept _ HS6.out.2.1, cell_kept _ HS6.out.2.2⟩
        have HAll := hide hall
        clear hall
        refine wpAnyH_ready (rs := [13]) (by kernel_rfl) (by simp) ?_
        refine AllReadyH.cons rfl (fun K hK => ?_) AllReadyH.nil
        go_simp
        refine hK.out _ _ (HAll.out _) (fun _ => ?_)
        clear hK K
        try simp only [Act.put, List.setIfInBounds_toArray, List.set_cons_zero, List.set_cons_succ]
        refine wpAnyH_ready (rs := [14]) (by kernel_rfl) (by simp) ?_
        refine AllReadyH.cons rfl (fun K hK => ?_) AllReadyH.nil
        go_simp
        refine hK.out _ _ (HAll.out _) (fun _ => ?_)
        clear hK K HAll HS6
        try simp only [Act.put, List.setIfInBounds_toArray, List.set_cons_zero, List.set_cons_succ]
        refine wpAnyH_done (by kernel_rfl) ?_ _
        obtain ⟨X, hX⟩ : ∃ X, X = (wr.alloc (.cells #[.int .i64 nd.n, .int .i64 nd.m] 50)).drew := ⟨_, rfl⟩
        obtain ⟨fb, fk, fs⟩ : Below wr.heap.size wr X ∧ X.heap[wr.heap.size]? = some (.cells #[.int .i64 nd.n, .int .i64 nd.m] 50 (0, 0)) ∧ X.heap.size = wr.heap.size + 1 := by
          rw [hX]
          exact ⟨((Below.refl _ _).alloc (Nat.le_refl _) _).drew, heap_alloc_new wr _, by simp⟩
        have HSX := hide (HS.out.next fb)
        have HX5 := hide (show X.heap[wr.heap.size]? = some (.cells #[.int .i64 nd.n, .int .i64 nd.m] 50 (0, 0)) from fk)
        have hXs : X.heap.size = wr.heap.size + 1 := fs
        rw [← hX]
        have HX := hide hX
        clear fb fk fs hX
        obtain ⟨n, hnn⟩ : ∃ n, nd.n = n := ⟨_, rfl⟩
        obtain ⟨m, hmm⟩ : ∃ m, nd.m = m := ⟨_, rfl⟩
        have HNM := hide (And.intro hnn hmm)
        have e0 : X.cell? ⟨wr.heap.size, 0, none⟩ = some (.int .i64 n) := by rw [← hnn, cell_of_row _ _ _ _ _ _ HX5.out]; rfl
        have e1 : X.cell? ⟨wr.heap.size, 1, none⟩ = some (.int .i64 m) := by rw [← hmm, cell_of_row _ _ _ _ _ _ HX5.out]; rfl
        have hX5 := HX5.out
        rw [hnn, hmm] at hX5
        have HX6 := hide hX5
        clear hX5 HX5 HX
        rw [hnn, hmm]
        clear hnn hmm
        go_wp2
        go_loopg [6] xs.length (fun g2 av wr2 => ∃ (j q : Nat), j + g2 = xs.length ∧ av = .int .i64 j ∧ wr2 = X.drewN q ∧ Hid (∀ z ∈ xs.take j, ltQ z (n, m) = true))
        case atStart => exact ⟨0, 0, by omega, rfl, rfl, fun z hz => by simp at hz⟩
        case round =>
          obtain ⟨j, q, hjg, rfl, rfl, HJ⟩ := hrel
          cases gk with
          | zero =>
            obtain rfl : j = xs.length := by omega
            have hins : insP (n, m) xs = xs.take xs.length ++ (n, m) :: xs.drop xs.length := by
              rw [insP_at (Nat.le_refl _) HJ.out (fun y hy => by simp at hy), if_neg (by simp)]
            have hjl : xs.length ≤ xs.length := Nat.le_refl _
            go_wp2
            go_quiet (fail)
            go_wp2
            go_quiet (fail)
            obtain ⟨A1, hr1, hp1⟩ := slice_lo A' xs.length cap (xs.length) (Nat.le_trans hjl HSX.out.cap.1)
            obtain ⟨A2, hr2, hp2⟩ := slice_hi A' xs.length cap (xs.length) hjl HSX.out.cap.1
            have Hr1 := hide hr1
            have Hr2 := hide hr2
            have Hp1 := hide hp1
            have Hp2 := hide hp2
            have Hins := hide hins
            clear hr1 hr2 hp1 hp2 hins
            generalize hqq : ((X.drewN q).drewN _).drewN _ = Y
            have HSY : Hid (PtS w Y (some ⟨b, off, none⟩) c nds A' cap xs) := by rw [← hqq]; exact ((HSX.out.next (below_drawn _)).next (below_drawn _)).next (below_drawn _)
            have HY5 : Hid (Y.heap[wr.heap.size]? = some (.cells #[.int .i64 n, .int .i64 m] 50 (0, 0))) := by rw [← hqq]; exact HX6.out
            have hYs : wr.heap.size < Y.heap.size := World.lt_of_blk HY5.out
            have Hqq := hide hqq
            clear hqq
            have hml : (xs.take (xs.length)).length = xs.length := by rw [List.length_take]; omega
            have hdl : (xs.drop (xs.length)).length = xs.length - xs.length := List.length_drop
            have HD1 := hide (Hp1.out Y _ xs HSY.out.out)
            clear e0 e1
            go_wp2_with (first
              | (with_reducible refine wpList_slice rfl (.tmp 84) none (some (.tmp 85)) rfl (.slice A' xs.length cap) _ none (some (.int .i64 ((xs.length : Nat) : Int))) rfl rfl rfl Hr1.out ?_)
              | (with_reducible refine wpList_slice rfl (.tmp 93) (some (.tmp 94)) none rfl (.slice A' xs.length cap) _ (some (.int .i64 ((xs.length : Nat) : Int))) none rfl rfl rfl Hr2.out ?_)
              | (at_builtin; refine wpList_append_prs rfl (.tmp 83) (.tmp 86) rfl Y.heap.size (.slice none 0 0) 0 [] rfl rfl (World.ownsRow_nil _ _ _ _) A1 (xs.length) cap Y.heap.size (xs.take (xs.length)) rfl hml HD1.out (by omega) (Nat.le_refl _) ?_; intro v1 W1 hown1 hg1 hat1; have HB1 := hide (ap_below (Nat.le_refl _) (Below.refl Y.heap.size Y) (World.ownsRow_nil Y Y.heap.size 50 2) hg1); have HO1 := hide hown1; have HK5 := hide ((hg1.block _ hYs (by simp [Value.ownBlock])).trans HY5.out); clear hown1 hg1 hat1)
              | (with_reducible refine wpList_load_row rfl 50 (.tmp 5) rfl wr.heap.size rfl 50 _ (0, 0) _ HK5.out Tryz.underlying50 rfl (by kernel_rfl) ?_)
              | (at_builtin; refine wpList_append_prs rfl (.tmp 88) (.tmp 90) rfl Y.heap.size v1 (0 + xs.length) ([] ++ xs.take (xs.length)) rfl (by simp [hml]) (HO1.out.alloc _) (some ⟨W1.heap.size, 0, none⟩) 1 1 _ [(n, m)] rfl rfl (prs_1 (heap_alloc_new _ _)) (by omega) (by have := HB1.out.size; simp; omega) ?_; intro v2 W3 hown2 hg2 hat2; have HB2 := hide (ap_below (by have := HB1.out.size; simp; omega) (HB1.out.alloc HB1.out.size _) (HO1.out.alloc _) hg2); have HO2 := hide hown2; clear hown2 hg2 hat2)
              | (at_builtin; refine wpList_append_prs rfl (.tmp 92) (.tmp 95) rfl Y.heap.size v2 (0 + xs.length + 1) ([] ++ xs.take (xs.length) ++ [(n, m)]) rfl (by simp [hml]) HO2.out A2 (xs.length - xs.length) (cap - xs.length) _ (xs.drop (xs.length)) rfl hdl (Hp2.out W3 _ xs rfl (Row.below HSY.out.out HB2.out (Nat.le_refl _))) (by omega) HB2.out.size ?_; intro v3 W4 hown3 hg3 hat3; have HB3 := hide (ap_below HB2.out.size HB2.out HO2.out hg3); have HO3 := hide hown3; clear hown3 hg3 hat3))
            obtain ⟨A9, c9, hv3, hc9, hc9', hp9⟩ := own_slice (n := 0 + xs.length + 1 + (xs.length - xs.length)) HO3.out (by simp [hml, hdl] <;> omega)
            subst hv3
            have hnew : ptsR (ptsF (nds.take (k + 1))) = xs.take (xs.length) ++ (n, m) :: xs.drop (xs.length) := by rw [Hn.out, HNM.out.1, HNM.out.2, Hins.out]
            have hnl : (ptsR (ptsF (nds.take (k + 1)))).length = 0 + xs.length + 1 + (xs.length - xs.length) := by rw [hnew, List.length_append, List.length_cons, hml, hdl]; omega
            have hlst : [] ++ xs.take (xs.length) ++ [(n, m)] ++ xs.drop (xs.length) = ptsR (ptsF (nds.take (k + 1))) := by rw [hnew]; simp
            rw [hlst] at hp9
            have HSn := hide (show PtS w W4 (some ⟨b, off, none⟩) c nds A9 c9 (ptsR (ptsF (nds.take (k + 1)))) from ⟨(HSY.out.next HB3.out).bel, (HSY.out.next HB3.out).p, hp9, by rw [hnl]; exact ⟨hc9, hc9'⟩⟩)
            clear hp9 hlst hc9 hc9'
            go_roundg g
            case measure => omega
            case rel => exact ⟨k + 1, A9, c9, by have := Hkg.out; omega, by go_num, by rw [hnl], HSn⟩
          | succ g2 =>
            have hj : j < xs.length := by omega
            obtain ⟨⟨y1, y2⟩, hy⟩ : ∃ y, xs[j] = y := ⟨_, rfl⟩
            have hyg : xs[j]? = some (y1, y2) := by rw [List.getElem?_eq_getElem hj, hy]
            have htk : ∀ z ∈ xs.take (j + 1), z = (y1, y2) ∨ z ∈ xs.take j := by
              intro z hz
              rw [List.take_add_one, hyg] at hz
              simp at hz
              exact hz.symm
            obtain ⟨bo, oo, hAo, hbo, hco⟩ := HSX.out.out j (encP (y1, y2)) (by simp [hyg])
            have hA2 := hAo
            subst hAo
            have p0 := hco 0 _ rfl
            have p1 := hco 1 _ rfl
            have hjI : (j : Int) < (xs.length : Int) := by omega
            have hm50 := guard50
            have Hyg := hide hyg
            have Htk := hide htk
            simp only [Nat.add_zero] at p0
            clear hco hy hyg htk hA2 hbo
            by_cases h1 : y1 < n
            · have hl : ltQ (y1, y2) (n, m) = true := by simp [ltQ, h1]
              have hnx : ∀ z ∈ xs.take (j + 1), ltQ z (n, m) = true := fun z hz => by
                rcases Htk.out z hz with e | e
                · rw [e]; exact hl
                · exact HJ.out z e
              have HNx := hide hnx
              clear hl hnx
              go_wp2
              go_quiet (fail)
              go_wp2
              go_roundg g2
              case measure => omega
              case rel => exact ⟨j + 1, _, by omega, by go_num, rfl, HNx⟩
            · by_cases h2 : y1 = n
              · subst h2
                by_cases h3 : y2 < m
                · have hl : ltQ (y1, y2) (y1, m) = true := by simp [ltQ, h3]
                  have hnx : ∀ z ∈ xs.take (j + 1), ltQ z (y1, m) = true := fun z hz => by
                    rcases Htk.out z hz with e | e
                    · rw [e]; exact hl
                    · exact HJ.out z e
                  have HNx := hide hnx
                  clear hl hnx h1
                  go_wp2
                  go_quiet (fail)
                  go_wp2
                  go_roundg g2
                  case measure => omega
                  case rel => exact ⟨j + 1, _, by omega, by go_num, rfl, HNx⟩
                · by_cases h4 : y2 = m
                  · subst h4
                    have hins : insP (y1, y2) xs = xs := by
                      rw [insP_at (Nat.le_of_lt hj) HJ.out (fun y hy => by rw [Hyg.out] at hy; injection hy with hy; rw [← hy]; exact ltQ_irr _), if_pos Hyg.out]
                    have HIns := hide hins
                    clear hins h1 h3
                    go_wp2
                    go_quiet (fail)
                    go_wp2
                    go_quiet (fail)
                    go_wp2
                    have hnew : ptsR (ptsF (nds.take (k + 1))) = xs := by rw [Hn.out, HNM.out.1, HNM.out.2, HIns.out]
                    go_roundg g
                    case measure => omega
                    case rel => exact ⟨k + 1, some ⟨bo, oo, none⟩, cap, by have := Hkg.out; omega, by go_num, by rw [hnew], by rw [hnew]; exact HSX.out.next (below_drawn _)⟩
                  · have h5 : m < y2 := by omega
                    have hins : insP (y1, m) xs = xs.take j ++ (y1, m) :: xs.drop j := by
                      rw [insP_at (Nat.le_of_lt hj) HJ.out (fun y hy => by rw [Hyg.out] at hy; injection hy with hy; rw [← hy]; simp [ltQ]; omega), if_neg (by rw [Hyg.out]; simp; omega)]
                    have hjl : j ≤ xs.length := Nat.le_of_lt hj
                    clear h1 h3
                    go_wp2
                    go_quiet (fail)
                    go_wp2
                    go_quiet (fail)
                    clear p0 p1
                    obtain ⟨A1, hr1, hp1⟩ := slice_lo (some ⟨bo, oo, none⟩) xs.length cap (j) (Nat.le_trans hjl HSX.out.cap.1)
                    obtain ⟨A2, hr2, hp2⟩ := slice_hi (some ⟨bo, oo, none⟩) xs.length cap (j) hjl HSX.out.cap.1
                    have Hr1 := hide hr1
                    have Hr2 := hide hr2
                    have Hp1 := hide hp1
                    have Hp2 := hide hp2
                    have Hins := hide hins
                    clear hr1 hr2 hp1 hp2 hins
                    generalize hqq : ((X.drewN q).drewN _).drewN _ = Y
                    have HSY : Hid (PtS w Y (some ⟨b, off, none⟩) c nds (some ⟨bo, oo, none⟩) cap xs) := by rw [← hqq]; exact ((HSX.out.next (below_drawn _)).next (below_drawn _)).next (below_drawn _)
                    have HY5 : Hid (Y.heap[wr.heap.size]? = some (.cells #[.int .i64 y1, .int .i64 m] 50 (0, 0))) := by rw [← hqq]; exact HX6.out
                    have hYs : wr.heap.size < Y.heap.size := World.lt_of_blk HY5.out
                    have Hqq := hide hqq
                    clear hqq
                    have hml : (xs.take (j)).length = j := by rw [List.length_take]; omega
                    have hdl : (xs.drop (j)).length = xs.length - j := List.length_drop
                    have HD1 := hide (Hp1.out Y _ xs HSY.out.out)
                    clear e0 e1
                    go_wp2_with (first
                      | (with_reducible refine wpList_slice rfl (.tmp 84) none (some (.tmp 85)) rfl (.slice (some ⟨bo, oo, none⟩) xs.length cap) _ none (some (.int .i64 ((j : Nat) : Int))) rfl rfl rfl Hr1.out ?_)
                      | (with_reducible refine wpList_slice rfl (.tmp 93) (some (.tmp 94)) none rfl (.slice (some ⟨bo, oo, none⟩) xs.length cap) _ (some (.int .i64 ((j : Nat) : Int))) none rfl rfl rfl Hr2.out ?_)
                      | (at_builtin; refine wpList_append_prs rfl (.tmp 83) (.tmp 86) rfl Y.heap.size (.slice none 0 0) 0 [] rfl rfl (World.ownsRow_nil _ _ _ _) A1 (j) cap Y.heap.size (xs.take (j)) rfl hml HD1.out (by omega) (Nat.le_refl _) ?_; intro v1 W1 hown1 hg1 hat1; have HB1 := hide (ap_below (Nat.le_refl _) (Below.refl Y.heap.size Y) (World.ownsRow_nil Y Y.heap.size 50 2) hg1); have HO1 := hide hown1; have HK5 := hide ((hg1.block _ hYs (by simp [Value.ownBlock])).trans HY5.out); clear hown1 hg1 hat1)
                      | (with_reducible refine wpList_load_row rfl 50 (.tmp 5) rfl wr.heap.size rfl 50 _ (0, 0) _ HK5.out Tryz.underlying50 rfl (by kernel_rfl) ?_)
                      | (at_builtin; refine wpList_append_prs rfl (.tmp 88) (.tmp 90) rfl Y.heap.size v1 (0 + j) ([] ++ xs.take (j)) rfl (by simp [hml]) (HO1.out.alloc _) (some ⟨W1.heap.size, 0, none⟩) 1 1 _ [(y1, m)] rfl rfl (prs_1 (heap_alloc_new _ _)) (by omega) (by have := HB1.out.size; simp; omega) ?_; intro v2 W3 hown2 hg2 hat2; have HB2 := hide (ap_below (by have := HB1.out.size; simp; omega) (HB1.out.alloc HB1.out.size _) (HO1.out.alloc _) hg2); have HO2 := hide hown2; clear hown2 hg2 hat2)
                      | (at_builtin; refine wpList_append_prs rfl (.tmp 92) (.tmp 95) rfl Y.heap.size v2 (0 + j + 1) ([] ++ xs.take (j) ++ [(y1, m)]) rfl (by simp [hml]) HO2.out A2 (xs.length - j) (cap - j) _ (xs.drop (j)) rfl hdl (Hp2.out W3 _ xs rfl (Row.below HSY.out.out HB2.out (Nat.le_refl _))) (by omega) HB2.out.size ?_; intro v3 W4 hown3 hg3 hat3; have HB3 := hide (ap_below HB2.out.size HB2.out HO2.out hg3); have HO3 := hide hown3; clear hown3 hg3 hat3))
                    obtain ⟨A9, c9, hv3, hc9, hc9', hp9⟩ := own_slice (n := 0 + j + 1 + (xs.length - j)) HO3.out (by simp [hml, hdl] <;> omega)
                    subst hv3
                    have hnew : ptsR (ptsF (nds.take (k + 1))) = xs.take (j) ++ (y1, m) :: xs.drop (j) := by rw [Hn.out, HNM.out.1, HNM.out.2, Hins.out]
                    have hnl : (ptsR (ptsF (nds.take (k + 1)))).length = 0 + j + 1 + (xs.length - j) := by rw [hnew, List.length_append, List.length_cons, hml, hdl]; omega
                    have hlst : [] ++ xs.take (j) ++ [(y1, m)] ++ xs.drop (j) = ptsR (ptsF (nds.take (k + 1))) := by rw [hnew]; simp
                    rw [hlst] at hp9
                    have HSn := hide (show PtS w W4 (some ⟨b, off, none⟩) c nds A9 c9 (ptsR (ptsF (nds.take (k + 1)))) from ⟨(HSY.out.next HB3.out).bel, (HSY.out.next HB3.out).p, hp9, by rw [hnl]; exact ⟨hc9, hc9'⟩⟩)
                    clear hp9 hlst hc9 hc9'
                    go_roundg g
                    case measure => omega
                    case rel => exact ⟨k + 1, A9, c9, by have := Hkg.out; omega, by go_num, by rw [hnl], HSn⟩
              · have h5 : n < y1 := by omega
                have hins : insP (n, m) xs = xs.take j ++ (n, m) :: xs.drop j := by
                  rw [insP_at (Nat.le_of_lt hj) HJ.out (fun y hy => by rw [Hyg.out] at hy; injection hy with hy; rw [← hy]; simp [ltQ]; omega), if_neg (by rw [Hyg.out]; simp; omega)]
                have hjl : j ≤ xs.length := Nat.le_of_lt hj
                have h6 : (y1 == n) = false := by simpa using h2
                have h7 : decide (y1 < n) = false := by simp; omega
                clear h1 h2 h5
                go_wp2
                go_quiet (fail)
                go_wp2
                go_quiet (fail)
                clear p0 p1
                obtain ⟨A1, hr1, hp1⟩ := slice_lo (some ⟨bo, oo, none⟩) xs.length cap (j) (Nat.le_trans hjl HSX.out.cap.1)
                obtain ⟨A2, hr2, hp2⟩ := slice_hi (some ⟨bo, oo, none⟩) xs.length cap (j) hjl HSX.out.cap.1
                have Hr1 := hide hr1
                have Hr2 := hide hr2
                have Hp1 := hide hp1
                have Hp2 := hide hp2
                have Hins := hide hins
                clear hr1 hr2 hp1 hp2 hins
                generalize hqq : ((X.drewN q).drewN _).drewN _ = Y
                have HSY : Hid (PtS w Y (some ⟨b, off, none⟩) c nds (some ⟨bo, oo, none⟩) cap xs) := by rw [← hqq]; exact ((HSX.out.next (below_drawn _)).next (below_drawn _)).next (below_drawn _)
                have HY5 : Hid (Y.heap[wr.heap.size]? = some (.cells #[.int .i64 n, .int .i64 m] 50 (0, 0))) := by rw [← hqq]; exact HX6.out
                have hYs : wr.heap.size < Y.heap.size := World.lt_of_blk HY5.out
                have Hqq := hide hqq
                clear hqq
                have hml : (xs.take (j)).length = j := by rw [List.length_take]; omega
                have hdl : (xs.drop (j)).length = xs.length - j := List.length_drop
                have HD1 := hide (Hp1.out Y _ xs HSY.out.out)
                clear e0 e1
                go_wp2_with (first
                  | (with_reducible refine wpList_slice rfl (.tmp 84) none (some (.tmp 85)) rfl (.slice (some ⟨bo, oo, none⟩) xs.length cap) _ none (some (.int .i64 ((j : Nat) : Int))) rfl rfl rfl Hr1.out ?_)
                  | (with_reducible refine wpList_slice rfl (.tmp 93) (some (.tmp 94)) none rfl (.slice (some ⟨bo, oo, none⟩) xs.length cap) _ (some (.int .i64 ((j : Nat) : Int))) none rfl rfl rfl Hr2.out ?_)
                  | (at_builtin; refine wpList_append_prs rfl (.tmp 83) (.tmp 86) rfl Y.heap.size (.slice none 0 0) 0 [] rfl rfl (World.ownsRow_nil _ _ _ _) A1 (j) cap Y.heap.size (xs.take (j)) rfl hml HD1.out (by omega) (Nat.le_refl _) ?_; intro v1 W1 hown1 hg1 hat1; have HB1 := hide (ap_below (Nat.le_refl _) (Below.refl Y.heap.size Y) (World.ownsRow_nil Y Y.heap.size 50 2) hg1); have HO1 := hide hown1; have HK5 := hide ((hg1.block _ hYs (by simp [Value.ownBlock])).trans HY5.out); clear hown1 hg1 hat1)
                  | (with_reducible refine wpList_load_row rfl 50 (.tmp 5) rfl wr.heap.size rfl 50 _ (0, 0) _ HK5.out Tryz.underlying50 rfl (by kernel_rfl) ?_)
                  | (at_builtin; refine wpList_append_prs rfl (.tmp 88) (.tmp 90) rfl Y.heap.size v1 (0 + j) ([] ++ xs.take (j)) rfl (by simp [hml]) (HO1.out.alloc _) (some ⟨W1.heap.size, 0, none⟩) 1 1 _ [(n, m)] rfl rfl (prs_1 (heap_alloc_new _ _)) (by omega) (by have := HB1.out.size; simp; omega) ?_; intro v2 W3 hown2 hg2 hat2; have HB2 := hide (ap_below (by have := HB1.out.size; simp; omega) (HB1.out.alloc HB1.out.size _) (HO1.out.alloc _) hg2); have HO2 := hide hown2; clear hown2 hg2 hat2)
                  | (at_builtin; refine wpList_append_prs rfl (.tmp 92) (.tmp 95) rfl Y.heap.size v2 (0 + j + 1) ([] ++ xs.take (j) ++ [(n, m)]) rfl (by simp [hml]) HO2.out A2 (xs.length - j) (cap - j) _ (xs.drop (j)) rfl hdl (Hp2.out W3 _ xs rfl (Row.below HSY.out.out HB2.out (Nat.le_refl _))) (by omega) HB2.out.size ?_; intro v3 W4 hown3 hg3 hat3; have HB3 := hide (ap_below HB2.out.size HB2.out HO2.out hg3); have HO3 := hide hown3; clear hown3 hg3 hat3))
                obtain ⟨A9, c9, hv3, hc9, hc9', hp9⟩ := own_slice (n := 0 + j + 1 + (xs.length - j)) HO3.out (by simp [hml, hdl] <;> omega)
                subst hv3
                have hnew : ptsR (ptsF (nds.take (k + 1))) = xs.take (j) ++ (n, m) :: xs.drop (j) := by rw [Hn.out, HNM.out.1, HNM.out.2, Hins.out]
                have hnl : (ptsR (ptsF (nds.take (k + 1)))).length = 0 + j + 1 + (xs.length - j) := by rw [hnew, List.length_append, List.length_cons, hml, hdl]; omega
                have hlst : [] ++ xs.take (j) ++ [(n, m)] ++ xs.drop (j) = ptsR (ptsF (nds.take (k + 1))) := by rw [hnew]; simp
                rw [hlst] at hp9
                have HSn := hide (show PtS w W4 (some ⟨b, off, none⟩) c nds A9 c9 (ptsR (ptsF (nds.take (k + 1)))) from ⟨(HSY.out.next HB3.out).bel, (HSY.out.next HB3.out).p, hp9, by rw [hnl]; exact ⟨hc9, hc9'⟩⟩)
                clear hp9 hlst hc9 hc9'
                go_roundg g
                case measure => omega
                case rel => exact ⟨k + 1, A9, c9, by have := Hkg.out; omega, by go_num, by rw [hnl], HSn⟩
      · have hq : (nd.k != 7) = true := by simpa using h7
        have hn : ptsR (ptsF (nds.take (k + 1))) = xs := by rw [hsn, if_neg h7, hxs]
        have Hn := hide hn
        clear h7 hn hsn hxs
        go_wp2
        go_roundg g
        case measure => omega
        case rel => exact ⟨k + 1, A', cap, by have := Hkg.out; omega, by go_num, by rw [Hn.out], by rw [Hn.out]; exact HS⟩
end Go.Proofs.YtbojlnbdkaanmaaGreatDoor
