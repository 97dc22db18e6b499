/-
  The program's Points, part A: the order of points, and the sort.
-/
import Derived.Test.YtbojlnbdkaanmaaGreatDoorTk
import Derived.Test.YtbojlnbdkaanmaaGreatDoorShelf
import Derived.Test.YtbojlnbdkaanmaaGreatDoorSrt
set_option linter.unusedVariables false
set_option linter.unusedSimpArgs false
namespace Go.Proofs.YtbojlnbdkaanmaaGreatDoor
open Go.RowKit Go.Shelf

/-- cmp.Or of two numbers. -/
def orF (a b : Int) : Int := if a = 0 then b else a
def cmpP (x y : Int × Int) : Int := orF (Lib.compareInt x.1 y.1) (Lib.compareInt x.2 y.2)
set_option maxHeartbeats 1000000 in
theorem or_any (w : World) (g : Nat) (a b : Int) (h : w.heap[g]? = some (.cells #[.int .i64 a, .int .i64 b] 3 (0, 0))) :
    Calls Tryz.prog 38 #[.slice (some ⟨g, 0, none⟩) 2 2] w fun e w' => e = .returned (.int .i64 (orF a b)) ∧ w = w' := by
  have c0 : w.cell? ⟨g, 0, none⟩ = some (.int .i64 a) := by rw [cell_of_row _ _ _ _ _ _ h]; rfl
  have c1 : w.cell? ⟨g, 1, none⟩ = some (.int .i64 b) := by rw [cell_of_row _ _ _ _ _ _ h]; rfl
  clear h
  by_cases ha : a = 0
  · subst ha
    by_cases hb : b = 0
    · subst hb
      go_enter Tryz.func38, Tryz.ntmps38
      go_wp2
      go_loopg [5, 8] 3 (fun n _ i wr => ∃ k : Nat, i = .int .i64 k ∧ k ≤ 2 ∧ 2 < n + k ∧ wr = w)
      case atStart => exact ⟨0, rfl, by omega, by omega, rfl⟩
      case round =>
        obtain ⟨k, rfl, hk, hg, rfl⟩ := hrel
        cases gk with
        | zero => omega
        | succ n =>
          have hkk : k = 0 ∨ k = 1 ∨ k = 2 := by omega
          rcases hkk with rfl | rfl | rfl
          · go_wp2
            go_roundg n
            case measure => omega
            case rel => exact ⟨1, rfl, by omega, by omega, rfl⟩
          · go_wp2
            go_roundg n
            case measure => omega
            case rel => exact ⟨2, rfl, by omega, by omega, rfl⟩
          · go_wp2
            go_ret
            exact ⟨rfl, rfl⟩
    · have hq : (b != 0) = true := by simpa using hb
      go_enter Tryz.func38, Tryz.ntmps38
      go_wp2
      go_loopg [5, 8] 3 (fun n _ i wr => ∃ k : Nat, i = .int .i64 k ∧ k ≤ 1 ∧ 1 < n + k ∧ wr = w)
      case atStart => exact ⟨0, rfl, by omega, by omega, rfl⟩
      case round =>
        obtain ⟨k, rfl, hk, hg, rfl⟩ := hrel
        cases gk with
        | zero => omega
        | succ n =>
          have hkk : k = 0 ∨ k = 1 := by omega
          rcases hkk with rfl | rfl
          · go_wp2
            go_roundg n
            case measure => omega
            case rel => exact ⟨1, rfl, by omega, by omega, rfl⟩
          · go_wp2
            go_ret
            exact ⟨rfl, rfl⟩
  · have hq : (a != 0) = true := by simpa using ha
    go_enter Tryz.func38, Tryz.ntmps38
    go_wp2
    go_loopg [5, 8] 3 (fun n _ i wr => i = .int .i64 0 ∧ 1 < n ∧ wr = w)
    case atStart => exact ⟨rfl, by omega, rfl⟩
    case round =>
      obtain ⟨rfl, hg, rfl⟩ := hrel
      go_wp2
      go_ret
      exact ⟨by simp [orF, ha], rfl⟩
theorem World.lt_of_blk {w : World} {g : Nat} {o : Obj} (h : w.heap[g]? = some o) : g < w.heap.size := (Array.getElem?_eq_some_iff.1 h).1
def encP (x : Int × Int) : List Value := [.int .i64 x.1, .int .i64 x.2]
set_option maxRecDepth 100000 in
set_option maxHeartbeats 1000000 in
theorem closure37 (x y : Int × Int) (W : World) : Calls Tryz.prog 37 #[.agg #[.int .i64 x.1, .int .i64 x.2], .agg #[.int .i64 y.1, .int .i64 y.2]] W fun e w' => e = .returned (.int .i64 (cmpP x y)) ∧ ∃ q os', w' = Sort.grow (W.drewN q) os' := by
  have hcmp := fun W' => Tryz.cmp_Compare_int x.1 y.1 W'
  have hcmp2 := fun W' => Tryz.cmp_Compare_int x.2 y.2 W'
  unfold cmpP
  generalize Lib.compareInt x.1 y.1 = r at hcmp ⊢
  generalize Lib.compareInt x.2 y.2 = s at hcmp2 ⊢
  have H1 := hide hcmp
  have H2 := hide hcmp2
  clear hcmp hcmp2
  obtain ⟨W0, hW0⟩ : ∃ W0, W0 = (W.alloc (.cells #[.int .i64 x.1, .int .i64 x.2] 50)).alloc (.cells #[.int .i64 y.1, .int .i64 y.2] 50) := ⟨_, rfl⟩
  have k1 : W0.heap[W.heap.size]? = some (.cells #[.int .i64 x.1, .int .i64 x.2] 50 (0, 0)) := by rw [hW0]; exact (heap_alloc_old _ _ (by simp)).trans (heap_alloc_new W _)
  have k2 : W0.heap[W.heap.size + 1]? = some (.cells #[.int .i64 y.1, .int .i64 y.2] 50 (0, 0)) := by rw [hW0]; exact heap_alloc2_new W _ _
  have HW := hide hW0
  have K1 := hide k1
  have K2 := hide k2
  clear k1 k2
  go_enter Tryz.func37, Tryz.ntmps37
  go_wp2
  rw [← HW.out]
  clear hW0
  refine wp_region_held (S := fun W' => W'.heap[W.heap.size]? = some (.cells #[.int .i64 x.1, .int .i64 x.2] 50 (0, 0)) ∧ W'.heap[W.heap.size + 1]? = some (.cells #[.int .i64 y.1, .int .i64 y.2] 50 (0, 0))) (by kernel_rfl) ?_
  change wpAnyH _ _ _ _ _ _ _ _ (World.drew _)
  have HS := hide (show W0.drew.heap[W.heap.size]? = some (.cells #[.int .i64 x.1, .int .i64 x.2] 50 (0, 0)) ∧ W0.drew.heap[W.heap.size + 1]? = some (.cells #[.int .i64 y.1, .int .i64 y.2] 50 (0, 0)) from ⟨K1.out, K2.out⟩)
  refine takeH (i := 0) (d := 5) (v := .pointer (some ⟨W.heap.size, 0, none⟩)) rfl rfl (by kernel_rfl) (by kernel_rfl) (by kernel_rfl) (fun _ _ _ h => h) rfl HS.out ?_ ?_
  · intro W' _; go_simp
  simp only [Act.put, List.setIfInBounds_toArray, List.set_cons_zero, List.set_cons_succ]
  refine takeH (i := 1) (d := 6) (v := .int .i64 x.1) rfl rfl (by kernel_rfl) (by kernel_rfl) (by kernel_rfl) (fun _ _ _ h => h) rfl HS.out ?_ ?_
  · intro W' hS; have c1 : W'.cell? ⟨W.heap.size, 0, none⟩ = some (.int .i64 x.1) := by rw [cell_of_row _ _ _ _ _ _ hS.1]; rfl
    clear hS; go_simp
  simp only [Act.put, List.setIfInBounds_toArray, List.set_cons_zero, List.set_cons_succ]
  refine takeH (i := 2) (d := 7) (v := .pointer (some ⟨W.heap.size + 1, 0, none⟩)) rfl rfl (by kernel_rfl) (by kernel_rfl) (by kernel_rfl) (fun _ _ _ h => h) rfl HS.out ?_ ?_
  · intro W' _; go_simp
  simp only [Act.put, List.setIfInBounds_toArray, List.set_cons_zero, List.set_cons_succ]
  refine takeH (i := 3) (d := 8) (v := .int .i64 y.1) rfl rfl (by kernel_rfl) (by kernel_rfl) (by kernel_rfl) (fun _ _ _ h => h) rfl HS.out ?_ ?_
  · intro W' hS; have c1 : W'.cell? ⟨W.heap.size + 1, 0, none⟩ = some (.int .i64 y.1) := by rw [cell_of_row _ _ _ _ _ _ hS.2]; rfl
    clear hS; go_simp
  simp only [Act.put, List.setIfInBounds_toArray, List.set_cons_zero, List.set_cons_succ]
  refine takeH (i := 5) (d := 10) (v := .pointer (some ⟨W.heap.size, 1, none⟩)) rfl rfl (by kernel_rfl) (by kernel_rfl) (by kernel_rfl) (fun _ _ _ h => h) rfl HS.out ?_ ?_
  · intro W' _; go_simp
  simp only [Act.put, List.setIfInBounds_toArray, List.set_cons_zero, List.set_cons_succ]
  refine takeH (i := 6) (d := 11) (v := .int .i64 x.2) rfl rfl (by kernel_rfl) (by kernel_rfl) (by kernel_rfl) (fun _ _ _ h => h) rfl HS.out ?_ ?_
  · intro W' hS; have c1 : W'.cell? ⟨W.heap.size, 1, none⟩ = some (.int .i64 x.2) := by rw [cell_of_row _ _ _ _ _ _ hS.1]; rfl
    clear hS; go_simp
  simp only [Act.put, List.setIfInBounds_toArray, List.set_cons_zero, List.set_cons_succ]
  refine takeH (i := 7) (d := 12) (v := .pointer (some ⟨W.heap.size + 1, 1, none⟩)) rfl rfl (by kernel_rfl) (by kernel_rfl) (by kernel_rfl) (fun _ _ _ h => h) rfl HS.out ?_ ?_
  · intro W' _; go_simp
  simp only [Act.put, List.setIfInBounds_toArray, List.set_cons_zero, List.set_cons_succ]
  refine takeH (i := 8) (d := 13) (v := .int .i64 y.2) rfl rfl (by kernel_rfl) (by kernel_rfl) (by kernel_rfl) (fun _ _ _ h => h) rfl HS.out ?_ ?_
  · intro W' hS; have c1 : W'.cell? ⟨W.heap.size + 1, 1, none⟩ = some (.int .i64 y.2) := by rw [cell_of_row _ _ _ _ _ _ hS.2]; rfl
    clear hS; go_simp
  simp only [Act.put, List.setIfInBounds_toArray, List.set_cons_zero, List.set_cons_succ]
  refine wpAnyH_ready (rs := [4]) (by kernel_rfl) (by simp) ?_
  refine AllReadyH.cons rfl (fun K hK => ?_) AllReadyH.nil
  go_simp
  refine Calls.mono (H1.out _) ?_
  rintro e w1 ⟨rfl, rfl⟩
  refine hK.out _ _ HS.out (fun _ => ?_)
  clear hK K
  refine wpAnyH_ready (rs := [9]) (by kernel_rfl) (by simp) ?_
  refine AllReadyH.cons rfl (fun K hK => ?_) AllReadyH.nil
  go_simp
  refine Calls.mono (H2.out _) ?_
  rintro e w1 ⟨rfl, rfl⟩
  refine hK.out _ _ HS.out (fun _ => ?_)
  clear hK K
  refine wpAnyH_ready (rs := [10]) (by kernel_rfl) (by simp) ?_
  refine AllReadyH.cons rfl (fun K hK => ?_) AllReadyH.nil
  go_simp
  refine hK.out _ _ ⟨(heap_alloc_old _ _ (World.lt_of_blk HS.out.1)).trans HS.out.1, (heap_alloc_old _ _ (World.lt_of_blk HS.out.2)).trans HS.out.2⟩ (fun hS2 => ?_)
  clear hK K
  refine wpAnyH_ready (rs := [11]) (by kernel_rfl) (by simp) ?_
  refine AllReadyH.cons rfl (fun K hK => ?_) AllReadyH.nil
  go_simp
  refine Calls.mono (or_any _ _ r s (heap_alloc_new _ _)) ?_
  rintro e w1 ⟨rfl, rfl⟩
  refine hK.out _ _ hS2 (fun _ => ?_)
  clear hK K
  refine wpAnyH_ready (rs := [12]) (by kernel_rfl) (by simp) ?_
  refine AllReadyH.cons rfl (fun K hK => ?_) AllReadyH.nil
  go_simp
  refine hK.out _ _ hS2 (fun _ => ?_)
  clear hK K
  refine wpAnyH_done (by kernel_rfl) ?_ _
  go_wp2
  go_ret
  refine ⟨rfl, 1, #[.cells #[.int .i64 x.1, .int .i64 x.2] 50, .cells #[.int .i64 y.1, .int .i64 y.2] 50, .cells #[.int .i64 r, .int .i64 s] 3], ?_⟩
  rw [HW.out]
  rfl
theorem cmpLays37 (blk off size : Nat) (w : World) : CmpLays Tryz.prog 37 #[] encP 2 cmpP blk off size w := fun _ _ _ _ x y => closure37 x y _
end Go.Proofs.YtbojlnbdkaanmaaGreatDoor
