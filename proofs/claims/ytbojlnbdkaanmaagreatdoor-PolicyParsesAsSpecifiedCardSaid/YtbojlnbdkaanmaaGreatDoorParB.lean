/-
  The program's parser of policies, part B: compare, digit, digest, atom.
-/
import Derived.Test.YtbojlnbdkaanmaaGreatDoorParA
set_option linter.unusedVariables false
set_option linter.unusedSimpArgs false
namespace Go.Proofs.YtbojlnbdkaanmaaGreatDoor
open Go.RowKit

def Nd.val (x : Nd) (o : Value) : Value :=
  .agg #[.int .i64 x.k, .int .i64 x.n, .int .i64 x.m, .int .i64 x.sd, .int .u8 (x.d 0), .int .u8 (x.d 1), .int .u8 (x.d 2), .int .u8 (x.d 3), .int .u8 (x.d 4), .int .u8 (x.d 5), .int .u8 (x.d 6), .int .u8 (x.d 7),
   .int .u8 (x.d 8), .int .u8 (x.d 9), .int .u8 (x.d 10), .int .u8 (x.d 11), .int .u8 (x.d 12), .int .u8 (x.d 13), .int .u8 (x.d 14), .int .u8 (x.d 15), o]
/-- A node without operands. -/
def PostN (B pb : Nat) (ov : Value) (os : List Value) (w : World) (nds : List Nd) (r : Option (Nd × List Tok)) (e : Ending) (w' : World) : Prop :=
  match r with
  | none => e = PanF ∧ w.grownBy w' (some pb)
  | some (x, ts) => e = .returned (x.val (.slice none 0 0)) ∧ PInv B pb ov os w' ts nds ∧ w.grownBy w' (some pb)
theorem grown_of_alloc {w w' : World} {o : Obj} {row : Option Nat} (h : (w.alloc o).grownBy w' row) : w.grownBy w' row := grown_trans (World.grownBy_alloc w o row) h
theorem blk_of_alloc {w w' : World} {o : Obj} {pb : Nat} (h : (w.alloc o).grownBy w' (some pb)) (hlt : pb < w.heap.size) : w'.heap[w.heap.size]? = some o :=
  (h.block w.heap.size (by simp) (fun e => by injection e with e; omega)).trans (heap_alloc_new w o)

set_option maxRecDepth 100000 in
set_option maxHeartbeats 1000000 in
theorem compare_any (B pb : Nat) (ov : Value) (os : List Value) (w : World) (ts : List Tok) (nds : List Nd) (eq al : Int) (hI : PInv B pb ov os w ts nds) :
    Calls Tryz.prog 114 #[.pointer (some ⟨pb, 0, none⟩), .int .i64 eq, .int .i64 al] w (PostN B pb ov os w nds (compareF eq al ts)) := by
  have hlt := hI.lt.2
  have hI0 := hide hI
  clear hI
  go_enter Tryz.func114, Tryz.ntmps114
  go_wp2_with (first
    | (go_at_call 92; (with_reducible refine Calls.mono (accept_any' B pb ov os _ _ _ _ _ [61, 61] (by simp) (PInv.alloc hI0.out _)) ?_); rintro e w1 (⟨hm1, rfl, hI1, hg1⟩ | ⟨hm1, rfl, hI1, hg1⟩) <;> (have Hm1 := hide hm1; have HI := hide hI1; have HG := hide hg1; clear hm1 hI1 hg1))
    | (go_at_call 94; (with_reducible refine Calls.mono (must_any B pb ov os _ _ _ 3 _ [62, 61] (by simp) HI.out) ?_); rintro e w2 (⟨hm2, rfl, hg2⟩ | ⟨t2, r2, hm2, rfl, hI2, hg2⟩) <;> (have Hm2 := hide hm2; have HG := hide (grown_trans HG.out hg2); clear hm2 hg2) <;> try (have HI := hide hI2; clear hI2))
    | (go_at_call 94; (with_reducible refine Calls.mono (must_any B pb ov os _ _ _ 2 _ [] (by simp) HI.out) ?_); rintro e w3 (⟨hm3, rfl, hg3⟩ | ⟨t3, r3, hm3, rfl, hI3, hg3⟩) <;> (have Hm3 := hide hm3; have HG := hide (grown_trans HG.out hg3); clear hm3 hg3) <;> try (have HI := hide hI3; clear hI3))
    | (with_reducible refine wpList_store_row rfl 67 (.tmp 6) (.tmp 19) rfl w.heap.size rfl _ rfl _ _ (blk_of_alloc HG.out hlt) rfl (by kernel_rfl) (by kernel_rfl) ?_))
  · have hc : compareF eq al ts = none := by simp [compareF, Hm1.out, Hm2.out]
    exact ⟨rfl, by rw [hc]; exact ⟨rfl, grown_of_alloc HG.out⟩⟩
  · have hc : compareF eq al ts = none := by simp [compareF, Hm1.out, Hm2.out, Hm3.out]
    exact ⟨rfl, by rw [hc]; exact ⟨rfl, grown_of_alloc HG.out⟩⟩
  · have hc : compareF eq al ts = some (mkN al t3.n 0 0, r3) := by simp [compareF, Hm1.out, Hm2.out, Hm3.out]
    refine bodyPost_ret (v := Nd.val (mkN al t3.n 0 0) (.slice none 0 0)) ?_ rfl ?_
    · exact results_cell_row Tryz.results114 _ _ w.heap.size 67 _ (0, 0) _ rfl (setRow_heap _ _ _ _ 67 (0, 0) (blk_of_alloc HG.out hlt)) Tryz.underlying67 rfl (by kernel_rfl)
    rw [hc]
    exact ⟨rfl, HI.out.setRow hI0.out (Nat.le_refl _) _, grown_setRow (grown_of_alloc HG.out) (Nat.le_refl _) _⟩
  · have hc : compareF eq al ts = none := by simp [compareF, Hm1.out, Hm3.out]
    exact ⟨rfl, by rw [hc]; exact ⟨rfl, grown_of_alloc HG.out⟩⟩
  · have hc : compareF eq al ts = some (mkN eq t3.n 0 0, r3) := by simp [compareF, Hm1.out, Hm3.out]
    refine bodyPost_ret (v := Nd.val (mkN eq t3.n 0 0) (.slice none 0 0)) ?_ rfl ?_
    · exact results_cell_row Tryz.results114 _ _ w.heap.size 67 _ (0, 0) _ rfl (setRow_heap _ _ _ _ 67 (0, 0) (blk_of_alloc HG.out hlt)) Tryz.underlying67 rfl (by kernel_rfl)
    rw [hc]
    exact ⟨rfl, HI.out.setRow hI0.out (Nat.le_refl _) _, grown_setRow (grown_of_alloc HG.out) (Nat.le_refl _) _⟩

set_option maxHeartbeats 400000 in
theorem digit_any (c : Int) (w : World) (h0 : 0 ≤ c) (h1 : c ≤ 255) :
    Calls Tryz.prog 129 #[.int .u8 c] w fun e w' => (hexd c = none ∧ e = PanF ∧ w = w') ∨ (∃ v, hexd c = some v ∧ e = .returned (.int .u8 v) ∧ w = w') := by
  by_cases a1 : 48 ≤ c
  · by_cases a2 : c ≤ 57
    · have d1 : decide (48 ≤ c) = true := by simp; omega
      have d2 : decide (c ≤ 57) = true := by simp; omega
      go_enter Tryz.func129, Tryz.ntmps129
      go_wp2
      go_ret
      exact .inr ⟨c - 48, by rw [hexd, if_pos ⟨a1, a2⟩], rfl, rfl⟩
    · by_cases a3 : 97 ≤ c
      · by_cases a4 : c ≤ 102
        · go_enter Tryz.func129, Tryz.ntmps129
          go_wp2
          go_ret
          exact .inr ⟨c - 97 + 10, by rw [hexd, if_neg (by omega), if_pos ⟨a3, a4⟩], rfl, rfl⟩
        · go_enter Tryz.func129, Tryz.ntmps129
          go_wp2
          exact ⟨rfl, .inl ⟨by rw [hexd, if_neg (by omega), if_neg (by omega)], rfl, rfl⟩⟩
      · go_enter Tryz.func129, Tryz.ntmps129
        go_wp2
        exact ⟨rfl, .inl ⟨by rw [hexd, if_neg (by omega), if_neg (by omega)], rfl, rfl⟩⟩
  · have a3 : ¬ 97 ≤ c := by omega
    go_enter Tryz.func129, Tryz.ntmps129
    go_wp2
    exact ⟨rfl, .inl ⟨by rw [hexd, if_neg (by omega), if_neg (by omega)], rfl, rfl⟩⟩
end Go.Proofs.YtbojlnbdkaanmaaGreatDoor
