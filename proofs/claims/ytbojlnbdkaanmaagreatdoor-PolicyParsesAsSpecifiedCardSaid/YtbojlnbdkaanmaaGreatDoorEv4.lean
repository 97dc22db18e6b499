/-
  The program's evaluation of policies, part 4: the entry for took.
-/
import Derived.Test.YtbojlnbdkaanmaaGreatDoorEv3
set_option linter.unusedVariables false
set_option linter.unusedSimpArgs false
namespace Go.Proofs.YtbojlnbdkaanmaaGreatDoor
open Go.RowKit

theorem Pts.below2 {w w' : World} {A : Option Addr} {pts : List (List Int)} (h : Pts w w.heap.size A pts) (hb : Below w.heap.size w w') : Pts w' w'.heap.size A pts := by
  obtain ⟨os, h1, h2, h3⟩ := h
  exact ⟨os, h1, (h2.below hb (Nat.le_refl _)).more hb.size, fun i p o hi hoo => by
    obtain ⟨Ao, co, e, hx⟩ := h3 i p o hi hoo
    exact ⟨Ao, co, e, (hx.below hb (Nat.le_refl _)).more hb.size⟩⟩

set_option maxRecDepth 100000 in
set_option maxHeartbeats 4000000 in
theorem ev162 (w : World) (nd : Nd) (o rv : Value) (ho : o.oneCell' = true) (F : Fct) (As : Option Addr) (cs : Nat) (Ap : Option Addr) (cp : Nat) (n m : Nat) (hn : nd.n = n) (hm : nd.m = m) (hP : Pts w w.heap.size Ap F.pts) :
    Calls Tryz.prog 162 #[Nd.val nd o, F.val As cs Ap cp, rv] w fun e w' => e = .returned (.int .i64 (tookF F nd.n nd.m nd.sd)) ∧ Below w.heap.size w w' := by
  have hb0 : Below w.heap.size w ((w.alloc (.cells #[.int .i64 nd.k, .int .i64 nd.n, .int .i64 nd.m, .int .i64 nd.sd, .int .u8 (nd.d 0), .int .u8 (nd.d 1), .int .u8 (nd.d 2), .int .u8 (nd.d 3), .int .u8 (nd.d 4), .int .u8 (nd.d 5), .int .u8 (nd.d 6), .int .u8 (nd.d 7), .int .u8 (nd.d 8), .int .u8 (nd.d 9), .int .u8 (nd.d 10), .int .u8 (nd.d 11), .int .u8 (nd.d 12), .int .u8 (nd.d 13), .int .u8 (nd.d 14), .int .u8 (nd.d 15), o] 67)).alloc (.cells #[.int .i64 F.v, .int .i64 F.e, .slice As F.st.length cs, .slice Ap F.pts.length cp] 42)) :=
    ((Below.refl _ w).alloc (Nat.le_refl _) _).alloc (by simp) _
  have hc := took_any ((w.alloc (.cells #[.int .i64 nd.k, .int .i64 nd.n, .int .i64 nd.m, .int .i64 nd.sd, .int .u8 (nd.d 0), .int .u8 (nd.d 1), .int .u8 (nd.d 2), .int .u8 (nd.d 3), .int .u8 (nd.d 4), .int .u8 (nd.d 5), .int .u8 (nd.d 6), .int .u8 (nd.d 7), .int .u8 (nd.d 8), .int .u8 (nd.d 9), .int .u8 (nd.d 10), .int .u8 (nd.d 11), .int .u8 (nd.d 12), .int .u8 (nd.d 13), .int .u8 (nd.d 14), .int .u8 (nd.d 15), o] 67)).alloc (.cells #[.int .i64 F.v, .int .i64 F.e, .slice As F.st.length cs, .slice Ap F.pts.length cp] 42)) nd o ho F As cs Ap cp n m hn hm (hP.below2 hb0)
  have hk67 : ((w.alloc (.cells #[.int .i64 nd.k, .int .i64 nd.n, .int .i64 nd.m, .int .i64 nd.sd, .int .u8 (nd.d 0), .int .u8 (nd.d 1), .int .u8 (nd.d 2), .int .u8 (nd.d 3), .int .u8 (nd.d 4), .int .u8 (nd.d 5), .int .u8 (nd.d 6), .int .u8 (nd.d 7), .int .u8 (nd.d 8), .int .u8 (nd.d 9), .int .u8 (nd.d 10), .int .u8 (nd.d 11), .int .u8 (nd.d 12), .int .u8 (nd.d 13), .int .u8 (nd.d 14), .int .u8 (nd.d 15), o] 67)).alloc (.cells #[.int .i64 F.v, .int .i64 F.e, .slice As F.st.length cs, .slice Ap F.pts.length cp] 42)).heap[w.heap.size]? = some (.cells #[.int .i64 nd.k, .int .i64 nd.n, .int .i64 nd.m, .int .i64 nd.sd, .int .u8 (nd.d 0), .int .u8 (nd.d 1), .int .u8 (nd.d 2), .int .u8 (nd.d 3), .int .u8 (nd.d 4), .int .u8 (nd.d 5), .int .u8 (nd.d 6), .int .u8 (nd.d 7), .int .u8 (nd.d 8), .int .u8 (nd.d 9), .int .u8 (nd.d 10), .int .u8 (nd.d 11), .int .u8 (nd.d 12), .int .u8 (nd.d 13), .int .u8 (nd.d 14), .int .u8 (nd.d 15), o] 67 (0, 0)) := (heap_alloc_old _ _ (by simp)).trans (heap_alloc_new w _)
  have hk42 : ((w.alloc (.cells #[.int .i64 nd.k, .int .i64 nd.n, .int .i64 nd.m, .int .i64 nd.sd, .int .u8 (nd.d 0), .int .u8 (nd.d 1), .int .u8 (nd.d 2), .int .u8 (nd.d 3), .int .u8 (nd.d 4), .int .u8 (nd.d 5), .int .u8 (nd.d 6), .int .u8 (nd.d 7), .int .u8 (nd.d 8), .int .u8 (nd.d 9), .int .u8 (nd.d 10), .int .u8 (nd.d 11), .int .u8 (nd.d 12), .int .u8 (nd.d 13), .int .u8 (nd.d 14), .int .u8 (nd.d 15), o] 67)).alloc (.cells #[.int .i64 F.v, .int .i64 F.e, .slice As F.st.length cs, .slice Ap F.pts.length cp] 42)).heap[w.heap.size + 1]? = some (.cells #[.int .i64 F.v, .int .i64 F.e, .slice As F.st.length cs, .slice Ap F.pts.length cp] 42 (0, 0)) := heap_alloc2_new w _ _
  have HK67 := hide hk67
  have HK42 := hide hk42
  have hs67 : (Tryz.prog.info? 67).map (·.size) = some 21 := by kernel_rfl
  have hs42 : (Tryz.prog.info? 42).map (·.size) = some 4 := by kernel_rfl
  have HS67 := hide hs67
  have HS42 := hide hs42
  clear hk67 hk42 hs67 hs42
  have HC := hide hc
  have HB0 := hide hb0
  clear hb0 hc hP
  clear hn hm
  simp only [Nd.val, Fct.val] at HC ⊢
  go_enter Tryz.func162, Tryz.ntmps162
  go_wp2_with (first
    | (with_reducible refine wpList_load_row rfl 67 (.tmp 3) rfl w.heap.size rfl 67 _ (0, 0) _ HK67.out Tryz.underlying67 rfl (by kernel_rfl) ?_)
    | (with_reducible refine wpList_load_row rfl 42 (.tmp 4) rfl (w.heap.size + 1) rfl 42 _ (0, 0) _ HK42.out Tryz.underlying42 rfl (by kernel_rfl) ?_)
    | (go_at_call 163; (with_reducible refine Calls.mono HC.out ?_); rintro e w1 ⟨rfl, hb1⟩; have HD := hide (HB0.out.trans (hb1.mono HB0.out.size)); clear hb1))
  go_ret
  exact ⟨rfl, HD.out⟩
end Go.Proofs.YtbojlnbdkaanmaaGreatDoor
