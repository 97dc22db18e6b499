/-
  The reference's Digests, the statements' refines.
-/
import Derived.Test.YtbojlnbdkaanmaaGreatDoorVld
import Derived.Test.YtbojlnbdkaanmaaGreatDoorTk
set_option linter.unusedVariables false
namespace Go.Proofs.YtbojlnbdkaanmaaGreatDoor
open Go.RowKit
set_option linter.unusedSimpArgs false

/-- Two digests compared, whole. -/
theorem y_neq65 {a : Act} {W : World} {o : Oper} {x y : Operand} (ho : o.op = .binOp .neq 65 x y 65) (d e : Nat → Int) (cd ce : Array Value) (hd : (dCells d).toArray = cd) (he : (dCells e).toArray = ce) (hx : a.eval x = .agg cd) (hy : a.eval y = .agg ce) (r : Bool) (hr : (!sameD d e) = r) :
    (execOp a.eval o).run Tryz.prog W = .ok (.value (.bool r)) W := by
  subst hr
  subst hd
  subst he
  have hm := guard65
  unfold execOp
  simp only [ho, hx, hy, dCells]
  go_simp
  simp only [sameD_eq, Bool.not_and, Bool.and_true]
theorem dig_cells {w : World} {b off : Nat} {d : Nat → Int} (h : ∀ j v, (dCells d)[j]? = some v → w.cell? ⟨b, off + j, none⟩ = some v) : ∀ j v, (dCells d).toArray.toList[j]? = some v → w.cell? ((⟨b, off, none⟩ : Addr).add j) = some v := by
  intro j v hj
  have := h j v (by simpa using hj)
  rw [show (⟨b, off, none⟩ : Addr).add j = ⟨b, off + j, none⟩ by unfold Addr.add; split <;> simp_all]
  exact this
def StEq (xs ys : List (Nat → Int)) : Prop := xs.length = ys.length ∧ ∀ (i : Nat) d e, xs[i]? = some d → ys[i]? = some e → sameD d e = true
/-- What Digests and refines leave: a bool that grants R where it is true. -/
def Grants (R : Prop) (w : World) (e : Ending) (w' : World) : Prop := ∃ r : Bool, e = .returned (.bool r) ∧ (r = true → R) ∧ Below w.heap.size w w'
theorem Grants.no {R : Prop} {w w' : World} (hb : Below w.heap.size w w') : Grants R w (.returned (.bool false)) w' := ⟨false, rfl, fun h => (by cases h), hb⟩
theorem Grants.yes {R : Prop} {w w' : World} (h : R) (hb : Below w.heap.size w w') : Grants R w (.returned (.bool true)) w' := ⟨true, rfl, fun _ => h, hb⟩

set_option maxRecDepth 100000 in
set_option maxHeartbeats 1000000 in
theorem digests_any (w : World) (A B : Option Addr) (ca cb : Nat) (xs ys : List (Nat → Int)) (hl : xs.length ≤ 1000000) (hx : Row w w.heap.size 16 A (xs.map dCells)) (hy : Row w w.heap.size 16 B (ys.map dCells)) :
    Calls Tryz.prog 42 #[.slice A xs.length ca, .slice B ys.length cb] w (Grants (StEq xs ys) w) := by
  have Hx := hide hx
  have Hy := hide hy
  clear hx hy
  by_cases hlen : xs.length = ys.length
  · have hne : ((xs.length : Int) != (ys.length : Int)) = false := by rw [hlen]; simp
    have Hlen := hide hlen
    clear hlen
    go_enter Tryz.func42, Tryz.ntmps42
    go_wp2
    go_loopw [5] (fun i wr => ∃ k : Nat, k ≤ xs.length ∧ i = .int .i64 k ∧ Hid (∀ (j : Nat) d e, j < k → xs[j]? = some d → ys[j]? = some e → sameD d e = true) ∧ Hid (Below w.heap.size w wr)) (fun i _ => xs.length - (intOf i).toNat)
    case atStart => exact ⟨0, Nat.zero_le _, rfl, fun j d e h => by omega, Below.refl _ _⟩
    case round =>
      obtain ⟨k, hk, rfl, HT, HB⟩ := hrel
      by_cases hlt : k < xs.length
      · have hlt2 : k < ys.length := by rw [← Hlen.out]; exact hlt
        obtain ⟨b, off, rfl, hb, c⟩ := Hx.out k (dCells xs[k]) (by simp [List.getElem?_eq_getElem hlt])
        obtain ⟨b2, off2, rfl, hb2, c2⟩ := Hy.out k (dCells ys[k]) (by simp [List.getElem?_eq_getElem hlt2])
        have d1 := dig_cells (w := wr) (fun j v hj => (HB.out.cell (p := ⟨b, off + k * 16 + j, none⟩) hb).trans (c j v hj))
        have d2 := dig_cells (w := wr) (fun j v hj => (HB.out.cell (p := ⟨b2, off2 + k * 16 + j, none⟩) hb2).trans (c2 j v hj))
        have hlI : (k : Int) < (xs.length : Int) := by omega
        have hlI2 : (k : Int) < (ys.length : Int) := by omega
        obtain ⟨x, hxx⟩ : ∃ x, xs[k] = x := ⟨_, rfl⟩
        obtain ⟨y, hyy⟩ : ∃ y, ys[k] = y := ⟨_, rfl⟩
        rw [hxx] at d1
        rw [hyy] at d2
        obtain ⟨cx, hcx⟩ : ∃ cx, (dCells x).toArray = cx := ⟨_, rfl⟩
        obtain ⟨cy, hcy⟩ : ∃ cy, (dCells y).toArray = cy := ⟨_, rfl⟩
        rw [hcx] at d1
        rw [hcy] at d2
        have Zx := hide (show cx.size = 16 by rw [← hcx]; rfl)
        have Zy := hide (show cy.size = 16 by rw [← hcy]; rfl)
        have Cx := hide hcx
        have Cy := hide hcy
        clear hcx hcy
        have D1 := hide d1
        have D2 := hide d2
        have Hxx := hide hxx
        have Hyy := hide hyy
        clear c c2 hb hb2 hxx hyy d1 d2
        cases hs : sameD x y with
        | true =>
          have HQ := hide hs
          clear hs
          go_wp2
          refine wp_region_held (S := fun W' => ∀ a, W'.cell? a = wr.cell? a) (by kernel_rfl) ?_
          change wpAnyH _ _ _ _ _ _ _ _ (World.drew _)
          have HS := hide (show ∀ a, wr.drew.cell? a = wr.cell? a from fun _ => rfl)
          refine takeH (i := 0) (d := 17) (v := .slice (some ⟨b, off, none⟩) xs.length ca) rfl rfl (by kernel_rfl) (by kernel_rfl) (by kernel_rfl) (fun _ _ _ h => h) rfl HS.out ?_ ?_
          · intro W' _; go_simp
          simp only [Act.put, List.setIfInBounds_toArray, List.set_cons_zero, List.set_cons_succ]
          refine takeH (i := 1) (d := 18) (v := .int .i64 k) rfl rfl (by kernel_rfl) (by kernel_rfl) (by kernel_rfl) (fun _ _ _ h => h) rfl HS.out ?_ ?_
          · intro W' _; go_simp
          simp only [Act.put, List.setIfInBounds_toArray, List.set_cons_zero, List.set_cons_succ]
          refine takeH (i := 2) (d := 19) (v := .pointer (some ⟨b, off + k * 16, none⟩)) rfl rfl (by kernel_rfl) (by kernel_rfl) (by kernel_rfl) (fun _ _ _ h => h) rfl HS.out ?_ ?_
          · intro W' _; go_simp
          simp only [Act.put, List.setIfInBounds_toArray, List.set_cons_zero, List.set_cons_succ]
          refine takeH (i := 3) (d := 20) (v := .agg cx) rfl rfl (by kernel_rfl) (by kernel_rfl) (by kernel_rfl) (fun _ _ _ h => h) rfl HS.out ?_ ?_
          · intro W' hS; exact y_load_at 65 (.tmp 19) rfl ⟨b, off + k * 16, none⟩ rfl _ _ (fun j v hj => (hS _).trans (D1.out j v hj)) Tryz.underlying65 rfl (by rw [Zx.out]; kernel_rfl)
          simp only [Act.put, List.setIfInBounds_toArray, List.set_cons_zero, List.set_cons_succ]
          refine takeH (i := 4) (d := 21) (v := .slice (some ⟨b2, off2, none⟩) ys.length cb) rfl rfl (by kernel_rfl) (by kernel_rfl) (by kernel_rfl) (fun _ _ _ h => h) rfl HS.out ?_ ?_
          · intro W' _; go_simp
          simp only [Act.put, List.setIfInBounds_toArray, List.set_cons_zero, List.set_cons_succ]
          refine takeH (i := 5) (d := 22) (v := .int .i64 k) rfl rfl (by kernel_rfl) (by kernel_rfl) (by kernel_rfl) (fun _ _ _ h => h) rfl HS.out ?_ ?_
          · intro W' _; go_simp
          simp only [Act.put, List.setIfInBounds_toArray, List.set_cons_zero, List.set_cons_succ]
          refine takeH (i := 6) (d := 23) (v := .pointer (some ⟨b2, off2 + k * 16, none⟩)) rfl rfl (by kernel_rfl) (by kernel_rfl) (by kernel_rfl) (fun _ _ _ h => h) rfl HS.out ?_ ?_
          · intro W' _; go_simp
          simp only [Act.put, List.setIfInBounds_toArray, List.set_cons_zero, List.set_cons_succ]
          refine takeH (i := 7) (d := 24) (v := .agg cy) rfl rfl (by kernel_rfl) (by kernel_rfl) (by kernel_rfl) (fun _ _ _ h => h) rfl HS.out ?_ ?_
          · intro W' hS; exact y_load_at 65 (.tmp 23) rfl ⟨b2, off2 + k * 16, none⟩ rfl _ _ (fun j v hj => (hS _).trans (D2.out j v hj)) Tryz.underlying65 rfl (by rw [Zy.out]; kernel_rfl)
          simp only [Act.put, List.setIfInBounds_toArray, List.set_cons_zero, List.set_cons_succ]
          refine takeH (i := 8) (d := 25) (v := .bool false) rfl rfl (by kernel_rfl) (by kernel_rfl) (by kernel_rfl) (fun _ _ _ h => h) rfl HS.out ?_ ?_
          · intro W' hS; refine y_neq65 (x := .tmp 20) (y := .tmp 24) ?_ x y cx cy Cx.out Cy.out ?_ ?_ _ (by rw [HQ.out]; rfl) <;> rfl
          simp only [Act.put, List.setIfInBounds_toArray, List.set_cons_zero, List.set_cons_succ]
          refine wpAnyH_done (by kernel_rfl) ?_ _
          go_wp2
          go_roundw
          case rel =>
            refine ⟨k + 1, by omega, by go_num, fun j d e hj h1 h2 => ?_, HB.out.drew⟩
            rcases Nat.lt_or_ge j k with q | q
            · exact HT.out j d e q h1 h2
            · obtain rfl : j = k := by omega
              rw [List.getElem?_eq_getElem hlt] at h1
              rw [List.getElem?_eq_getElem hlt2] at h2
              injection h1 with h1
              injection h2 with h2
              rw [← h1, ← h2, Hxx.out, Hyy.out]
              exact HQ.out
          case measure => simp [intOf]; omega
        | false =>
          have HQ := hide hs
          clear hs
          go_wp2
          refine wp_region_held (S := fun W' => ∀ a, W'.cell? a = wr.cell? a) (by kernel_rfl) ?_
          change wpAnyH _ _ _ _ _ _ _ _ (World.drew _)
          have HS := hide (show ∀ a, wr.drew.cell? a = wr.cell? a from fun _ => rfl)
          refine takeH (i := 0) (d := 17) (v := .slice (some ⟨b, off, none⟩) xs.length ca) rfl rfl (by kernel_rfl) (by kernel_rfl) (by kernel_rfl) (fun _ _ _ h => h) rfl HS.out ?_ ?_
          · intro W' _; go_simp
          simp only [Act.put, List.setIfInBounds_toArray, List.set_cons_zero, List.set_cons_succ]
          refine takeH (i := 1) (d := 18) (v := .int .i64 k) rfl rfl (by kernel_rfl) (by kernel_rfl) (by kernel_rfl) (fun _ _ _ h => h) rfl HS.out ?_ ?_
          · intro W' _; go_simp
          simp only [Act.put, List.setIfInBounds_toArray, List.set_cons_zero, List.set_cons_succ]
          refine takeH (i := 2) (d := 19) (v := .pointer (some ⟨b, off + k * 16, none⟩)) rfl rfl (by kernel_rfl) (by kernel_rfl) (by kernel_rfl) (fun _ _ _ h => h) rfl HS.out ?_ ?_
          · intro W' _; go_simp
          simp only [Act.put, List.setIfInBounds_toArray, List.set_cons_zero, List.set_cons_succ]
          refine takeH (i := 3) (d := 20) (v := .agg cx) rfl rfl (by kernel_rfl) (by kernel_rfl) (by kernel_rfl) (fun _ _ _ h => h) rfl HS.out ?_ ?_
          · intro W' hS; exact y_load_at 65 (.tmp 19) rfl ⟨b, off + k * 16, none⟩ rfl _ _ (fun j v hj => (hS _).trans (D1.out j v hj)) Tryz.underlying65 rfl (by rw [Zx.out]; kernel_rfl)
          simp only [Act.put, List.setIfInBounds_toArray, List.set_cons_zero, List.set_cons_succ]
          refine takeH (i := 4) (d := 21) (v := .slice (some ⟨b2, off2, none⟩) ys.length cb) rfl rfl (by kernel_rfl) (by kernel_rfl) (by kernel_rfl) (fun _ _ _ h => h) rfl HS.out ?_ ?_
          · intro W' _; go_simp
          simp only [Act.put, List.setIfInBounds_toArray, List.set_cons_zero, List.set_cons_succ]
          refine takeH (i := 5) (d := 22) (v := .int .i64 k) rfl rfl (by kernel_rfl) (by kernel_rfl) (by kernel_rfl) (fun _ _ _ h => h) rfl HS.out ?_ ?_
          · intro W' _; go_simp
          simp only [Act.put, List.setIfInBounds_toArray, List.set_cons_zero, List.set_cons_succ]
          refine takeH (i := 6) (d := 23) (v := .pointer (some ⟨b2, off2 + k * 16, none⟩)) rfl rfl (by kernel_rfl) (by kernel_rfl) (by kernel_rfl) (fun _ _ _ h => h) rfl HS.out ?_ ?_
          · intro W' _; go_simp
          simp only [Act.put, List.setIfInBounds_toArray, List.set_cons_zero, List.set_cons_succ]
          refine takeH (i := 7) (d := 24) (v := .agg cy) rfl rfl (by kernel_rfl) (by kernel_rfl) (by kernel_rfl) (fun _ _ _ h => h) rfl HS.out ?_ ?_
          · intro W' hS; exact y_load_at 65 (.tmp 23) rfl ⟨b2, off2 + k * 16, none⟩ rfl _ _ (fun j v hj => (hS _).trans (D2.out j v hj)) Tryz.underlying65 rfl (by rw [Zy.out]; kernel_rfl)
          simp only [Act.put, List.setIfInBounds_toArray, List.set_cons_zero, List.set_cons_succ]
          refine takeH (i := 8) (d := 25) (v := .bool true) rfl rfl (by kernel_rfl) (by kernel_rfl) (by kernel_rfl) (fun _ _ _ h => h) rfl HS.out ?_ ?_
          · intro W' hS; refine y_neq65 (x := .tmp 20) (y := .tmp 24) ?_ x y cx cy Cx.out Cy.out ?_ ?_ _ (by rw [HQ.out]; rfl) <;> rfl
          simp only [Act.put, List.setIfInBounds_toArray, List.set_cons_zero, List.set_cons_succ]
          refine wpAnyH_done (by kernel_rfl) ?_ _
          go_wp2
          refine bodyPost_ret (v := .bool false) (by simp [results, Tryz.results42, go_sem]) rfl ?_
          exact Grants.no HB.out.drew
      · obtain rfl : k = xs.length := by omega
        go_wp2
        refine bodyPost_ret (v := .bool true) (by simp [results, Tryz.results42, go_sem]) rfl ?_
        exact Grants.yes ⟨Hlen.out, fun i d e h1 h2 => HT.out i d e ((List.getElem?_eq_some_iff.1 h1).1) h1 h2⟩ HB.out
  · have hne : ((xs.length : Int) != (ys.length : Int)) = true := by simp; omega
    go_enter Tryz.func42, Tryz.ntmps42
    go_wp2
    refine bodyPost_ret (v := .bool false) (by simp [results, Tryz.results42, go_sem]) rfl ?_
    exact Grants.no (Below.refl _ _)
end Go.Proofs.YtbojlnbdkaanmaaGreatDoor
