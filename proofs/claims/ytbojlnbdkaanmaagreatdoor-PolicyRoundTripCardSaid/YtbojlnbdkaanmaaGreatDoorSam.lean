/-
  The reference's Same: two policies of the same nodes are the same.
-/
import Derived.Test.YtbojlnbdkaanmaaGreatDoorEqA
import Derived.Test.YtbojlnbdkaanmaaGreatDoorRef0
import Derived.Test.YtbojlnbdkaanmaaGreatDoorLoadAt
import Derived.Test.YtbojlnbdkaanmaaGreatDoorReg
import Derived.Test.YtbojlnbdkaanmaaGreatDoorEvC
import Derived.Test.YtbojlnbdkaanmaaGreatDoorPtsA
import Derived.Outline
namespace Go.Proofs.YtbojlnbdkaanmaaGreatDoor
open Go.RowKit
set_option linter.unusedSimpArgs false
set_option linter.unusedVariables false

theorem nd_all {w : World} {g : Nat} {nd : Nd} {o : Value} (h : w.heap[g]? = some (.cells (nd.cells o).toArray 67 (0, 0))) :
    w.cell? ⟨g, 0, none⟩ = some (.int .i64 nd.k) ∧ w.cell? ⟨g, 1, none⟩ = some (.int .i64 nd.n) ∧ w.cell? ⟨g, 2, none⟩ = some (.int .i64 nd.m) ∧ w.cell? ⟨g, 3, none⟩ = some (.int .i64 nd.sd) ∧ w.cell? ⟨g, 4, none⟩ = some (.int .u8 (nd.d 0)) ∧ w.cell? ⟨g, 5, none⟩ = some (.int .u8 (nd.d 1)) ∧ w.cell? ⟨g, 6, none⟩ = some (.int .u8 (nd.d 2)) ∧ w.cell? ⟨g, 7, none⟩ = some (.int .u8 (nd.d 3)) ∧ w.cell? ⟨g, 8, none⟩ = some (.int .u8 (nd.d 4)) ∧ w.cell? ⟨g, 9, none⟩ = some (.int .u8 (nd.d 5)) ∧ w.cell? ⟨g, 10, none⟩ = some (.int .u8 (nd.d 6)) ∧ w.cell? ⟨g, 11, none⟩ = some (.int .u8 (nd.d 7)) ∧ w.cell? ⟨g, 12, none⟩ = some (.int .u8 (nd.d 8)) ∧ w.cell? ⟨g, 13, none⟩ = some (.int .u8 (nd.d 9)) ∧ w.cell? ⟨g, 14, none⟩ = some (.int .u8 (nd.d 10)) ∧ w.cell? ⟨g, 15, none⟩ = some (.int .u8 (nd.d 11)) ∧ w.cell? ⟨g, 16, none⟩ = some (.int .u8 (nd.d 12)) ∧ w.cell? ⟨g, 17, none⟩ = some (.int .u8 (nd.d 13)) ∧ w.cell? ⟨g, 18, none⟩ = some (.int .u8 (nd.d 14)) ∧ w.cell? ⟨g, 19, none⟩ = some (.int .u8 (nd.d 15)) := by
  refine ⟨?_, ?_, ?_, ?_, ?_, ?_, ?_, ?_, ?_, ?_, ?_, ?_, ?_, ?_, ?_, ?_, ?_, ?_, ?_, ?_⟩ <;> (rw [cell_of_row _ _ _ _ _ _ h]; rfl)
set_option maxRecDepth 100000 in
set_option maxHeartbeats 8000000 in
theorem same_any (w : World) (A B : Option Addr) (ca cb : Nat) (nds : List Nd) (hA : Nodes w w.heap.size A nds) (hB : Nodes w w.heap.size B nds) (hl : nds.length ≤ 1000000) (hof : ∀ nd ∈ nds, nd.of.length ≤ 1000000) :
    Calls Tryz.prog 13 #[.agg #[.slice A nds.length ca], .agg #[.slice B nds.length cb]] w fun e w' => e = .returned (.bool true) ∧ Below w.heap.size w w' := by
  have HA := hide hA
  have HB := hide hB
  have Hof := hide hof
  have hgd := guard65
  clear hA hB hof
  go_enter Tryz.func13, Tryz.ntmps13
  obtain ⟨W0, hW0⟩ : ∃ W0, W0 = (w.alloc (.cells #[.slice A nds.length ca] 25)).alloc (.cells #[.slice B nds.length cb] 25) := ⟨_, rfl⟩
  have g1 : W0.heap[w.heap.size]? = some (.cells #[.slice A nds.length ca] 25 (0, 0)) := by rw [hW0]; exact (heap_alloc_old _ _ (by simp)).trans (heap_alloc_new w _)
  have g2 : W0.heap[w.heap.size + 1]? = some (.cells #[.slice B nds.length cb] 25 (0, 0)) := by rw [hW0]; exact heap_alloc2_new w _ _
  have gb : Below w.heap.size w W0 := by rw [hW0]; exact ((Below.refl _ w).alloc (Nat.le_refl _) _).alloc (by simp) _
  have G1 := hide g1
  have G2 := hide g2
  have GB := hide gb
  have l2 : w.heap.size + 1 < W0.heap.size := World.lt_of_blk g2
  have C1 := hide (show W0.cell? ⟨w.heap.size, 0, none⟩ = some (.slice A nds.length ca) by rw [cell_of_row _ _ _ _ _ _ g1]; rfl)
  have C2 := hide (show W0.cell? ⟨w.heap.size + 1, 0, none⟩ = some (.slice B nds.length cb) by rw [cell_of_row _ _ _ _ _ _ g2]; rfl)
  have HW0 := hide hW0
  clear g1 g2 gb hW0
  go_wp2
  rw [← HW0.out]
  go_loopw [5] (fun iv wr => ∃ k : Nat, k ≤ nds.length ∧ iv = .int .i64 k ∧ Hid (Below W0.heap.size W0 wr)) (fun iv _ => nds.length - (intOf iv).toNat)
  case atStart => exact ⟨0, Nat.zero_le _, rfl, Below.refl _ _⟩
  case round =>
    obtain ⟨k, hk, rfl, HR⟩ := hrel
    have c1 := (HR.out.cell (p := ⟨w.heap.size, 0, none⟩) (show w.heap.size < W0.heap.size by omega)).trans C1.out
    have c2 := (HR.out.cell (p := ⟨w.heap.size + 1, 0, none⟩) l2).trans C2.out
    by_cases hlt : k < nds.length
    · have hbr := GB.out.trans (HR.out.mono GB.out.size)
      obtain ⟨b, off, Ao, co, rfl, hbl, hat, hof⟩ := HA.out.at_ hlt
      obtain ⟨b2, off2, Bo, co2, rfl, hbl2, hat2, hof2⟩ := HB.out.at_ hlt
      have hofl := Hof.out nds[k] (List.getElem_mem hlt)
      obtain ⟨nd, hnd⟩ : ∃ nd, nds[k] = nd := ⟨_, rfl⟩
      rw [hnd] at hat hof hat2 hof2 hofl
      have hltI : (k : Int) < (nds.length : Int) := by omega
      have Hat := hide (hat.below hbr hbl).read
      obtain ⟨W1, hW1⟩ : ∃ W, W = wr.alloc (.cells (nd.cells (.slice Ao nd.of.length co)).toArray 67) := ⟨_, rfl⟩
      obtain ⟨b1, k1, s1⟩ := fresh_facts hW1
      have Hat2 := hide ((hat2.below (hbr.trans (b1.mono hbr.size)) hbl2).read)
      have c2' := (b1.cell (p := ⟨w.heap.size + 1, 0, none⟩) (Nat.lt_of_lt_of_le l2 HR.out.size)).trans c2
      obtain ⟨W2, hW2⟩ : ∃ W, W = W1.alloc (.cells (nd.cells (.slice Bo nd.of.length co2)).toArray 67) := ⟨_, rfl⟩
      obtain ⟨b3, k2, s2⟩ := fresh_facts hW2
      have k12 := (b3.block _ (World.lt_of_blk k1)).trans k1
      have hb2 := b1.trans (b3.mono b1.size)
      have hbw2 := hbr.trans (hb2.mono hbr.size)
      have hof' := (hof.below hbw2 (Nat.le_refl _)).more hbw2.size
      have hof2' := (hof2.below hbw2 (Nat.le_refl _)).more hbw2.size
      have hints := ints_any W2 Ao Bo co co2 nd.of nd.of (by omega) hof' hof2'
      have Hints := hide hints
      have d1 : W2.cell? ⟨wr.heap.size, 20, none⟩ = some (.slice Ao nd.of.length co) := by rw [cell_of_row _ _ _ _ _ _ k12]; rfl
      have d2 : W2.cell? ⟨W1.heap.size, 20, none⟩ = some (.slice Bo nd.of.length co2) := by rw [cell_of_row _ _ _ _ _ _ k2]; rfl
      have HW1 := hide hW1
      have HW2 := hide hW2
      have K12 := hide k12
      have K2 := hide k2
      have HB2 := hide (HR.out.trans (hb2.mono HR.out.size))
      clear hat hof hat2 hof2 hnd hofl hbr hW1 b1 k1 s1 hW2 b3 k2 s2 k12 hb2 hbw2 hof' hof2' hints hbl hbl2
      go_wp2_with (first
        | (with_reducible refine wpList_load_at rfl 67 (.tmp 26) rfl ⟨b, off + k * 21, none⟩ rfl _ _ Hat.out Tryz.underlying67 rfl (by kernel_rfl) ?_)
        | (with_reducible refine wpList_store_fresh rfl 67 (.tmp 6) (.tmp 27) rfl (.agg (nd.cells (.slice Ao nd.of.length co)).toArray) rfl rfl rfl (by kernel_rfl) (nd_one rfl) HW1.out ?_)
        | (with_reducible refine wpList_load_at rfl 67 (.tmp 31) rfl ⟨b2, off2 + k * 21, none⟩ rfl _ _ Hat2.out Tryz.underlying67 rfl (by kernel_rfl) ?_)
        | (with_reducible refine wpList_store_fresh rfl 67 (.tmp 7) (.tmp 32) rfl (.agg (nd.cells (.slice Bo nd.of.length co2)).toArray) rfl rfl rfl (by kernel_rfl) (nd_one rfl) HW2.out ?_)
        | (go_at_call 31; (with_reducible refine Calls.mono Hints.out ?_); rintro e w3 ⟨rfl, hb3⟩; have HB3 := hide (HB2.out.trans (hb3.mono HB2.out.size)); have m1 := (hb3.block _ (World.lt_of_blk K12.out)).trans K12.out; have m2 := (hb3.block _ (World.lt_of_blk K2.out)).trans K2.out; obtain ⟨x0, x1, x2, x3, x4, x5, x6, x7, x8, x9, x10, x11, x12, x13, x14, x15, x16, x17, x18, x19⟩ := nd_all m1; obtain ⟨y0, y1, y2, y3, y4, y5, y6, y7, y8, y9, y10, y11, y12, y13, y14, y15, y16, y17, y18, y19⟩ := nd_all m2; clear hb3 m1 m2 d1 d2 c1 c2 c2'))
      go_roundw
      case rel => exact ⟨k + 1, by omega, by go_num, HB3.out⟩
      case measure => simp [intOf]; omega
    · obtain rfl : k = nds.length := by omega
      go_wp2
      go_ret
      exact ⟨rfl, GB.out.trans (HR.out.mono GB.out.size)⟩
end Go.Proofs.YtbojlnbdkaanmaaGreatDoor
