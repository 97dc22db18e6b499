/-
  The program's Parse at a text of any length.
-/
import Derived.Test.YtbojlnbdkaanmaaGreatDoorParse
namespace Go.Proofs.YtbojlnbdkaanmaaGreatDoor
open Go.RowKit
set_option linter.unusedSimpArgs false
set_option linter.unusedVariables false

set_option maxRecDepth 100000 in
set_option maxHeartbeats 4000000 in
theorem tokens_big (w : World) (s : ByteArray) (hbig : 1500 < s.size) : Calls Tryz.prog 25 #[.string s] w fun e w' => e = .returned (.tuple #[.slice none 0 0, .int .i64 2]) ∧ w = w' := by
  go_enter Tryz.func25, Tryz.ntmps25
  go_wp2
  go_step3
  go_wp2
  try rw [Exit.noGoto_ret]
  exact bodyPost_ret (results_tmp2 Tryz.results25 _ _ _) rfl ⟨rfl, rfl⟩
set_option maxRecDepth 100000 in
set_option maxHeartbeats 4000000 in
theorem parse_big (w : World) (s : ByteArray) (hbig : 1500 < s.size) : Calls Tryz.prog 10 #[.string s] w (PostR w (parseR s)) := by
  have hp : parseR s = (2, []) := by
    have : lexR s = (2, []) := by rw [lexR, if_pos hbig]
    rw [parseR, this]
    rfl
  rw [hp]
  go_enter Tryz.func10, Tryz.ntmps10
  go_wp2_with (go_at_call 25; (with_reducible refine Calls.mono (tokens_big _ _ hbig) ?_); rintro e w1 ⟨rfl, rfl⟩)
  refine bodyPost_ret (results_row_tmp Tryz.results10 _ _ w.heap.size _ rfl (load25 _ _ _ 25 (heap_alloc_new _ _))) rfl ?_
  exact PostR.none_ ((Below.refl _ w).alloc (Nat.le_refl _) _)
theorem parse_all (w : World) (s : ByteArray) (hE : Env w) : Calls Tryz.prog 10 #[.string s] w (PostR w (parseR s)) := by
  by_cases h : s.size ≤ 1000000
  · exact parse_any w s hE h
  · exact parse_big w s (by omega)
end Go.Proofs.YtbojlnbdkaanmaaGreatDoor
