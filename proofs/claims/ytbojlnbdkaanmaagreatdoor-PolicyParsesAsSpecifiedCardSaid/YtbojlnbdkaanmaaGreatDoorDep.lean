/-
  The program's Depth: the nesting depth of parentheses.
-/
import Derived.Test.YtbojlnbdkaanmaaGreatDoorRep
set_option linter.unusedVariables false
set_option linter.unusedSimpArgs false
namespace Go.Proofs.YtbojlnbdkaanmaaGreatDoor
open Go.RowKit

def dstep (r : Int × Int) (t : Tok) : Int × Int :=
  let n := if t.k = 3 then (if t.s.toList = [40] then r.1 + 1 else if t.s.toList = [41] then r.1 - 1 else r.1) else r.1
  (n, max r.2 n)
def depthF (ts : List Tok) : Int := (ts.foldl dstep (0, 0)).2

theorem dstep_bounds : ∀ (ts : List Tok) (r : Int × Int), r.1 - ts.length ≤ (ts.foldl dstep r).1 ∧ (ts.foldl dstep r).1 ≤ r.1 + ts.length ∧ (ts.foldl dstep r).2 ≤ max r.2 (r.1 + ts.length) ∧ r.2 ≤ (ts.foldl dstep r).2
  | [], r => by simp; omega
  | t :: ts, r => by
    have ih := dstep_bounds ts (dstep r t)
    have h1 : r.1 - 1 ≤ (dstep r t).1 ∧ (dstep r t).1 ≤ r.1 + 1 := by
      simp only [dstep]
      split
      · split
        · omega
        · split <;> omega
      · omega
    have h2 : (dstep r t).2 = max r.2 (dstep r t).1 := rfl
    simp only [List.foldl_cons, List.length_cons]
    rw [h2] at ih
    omega
theorem depthF_bounds (ts : List Tok) : 0 ≤ depthF ts ∧ depthF ts ≤ ts.length := by
  have := dstep_bounds ts (0, 0)
  simp only [depthF]
  simp at this
  omega
theorem foldl_take_succ (ts : List Tok) (r : Int × Int) (k : Nat) (hk : k < ts.length) : (ts.take (k + 1)).foldl dstep r = dstep ((ts.take k).foldl dstep r) ts[k] := by
  rw [List.take_add_one, List.getElem?_eq_getElem hk, Option.toList_some, List.foldl_append]
  rfl

set_option maxHeartbeats 400000 in
theorem depth_any (w : World) (A : Option Addr) (c : Nat) (ts : List Tok) (hl : ts.length ≤ 1000000) (h : Toks w w.heap.size A ts) :
    Calls Tryz.prog 14 #[.slice A ts.length c] w fun e w' => e = .returned (.int .i64 (depthF ts)) ∧ Below w.heap.size w w' := by
  go_enter Tryz.func14, Tryz.ntmps14
  go_wp2
  go_loopw [3, 4, 9] (fun a b i wr => ∃ k : Nat, k ≤ ts.length ∧ i = .int .i64 k ∧ a = .int .i64 (((ts.take k).foldl dstep (0, 0)).1) ∧ b = .int .i64 (((ts.take k).foldl dstep (0, 0)).2) ∧ Below w.heap.size w wr) (fun _ _ i _ => ts.length - (intOf i).toNat)
  case atStart => exact ⟨0, Nat.zero_le _, rfl, rfl, rfl, Below.refl _ _⟩
  case round =>
    obtain ⟨k, hk, rfl, rfl, rfl, hb⟩ := hrel
    by_cases hlt : k < ts.length
    · obtain ⟨b, off, rfl, hbB, c0, c1, c2, c3⟩ := h.at_ hlt
      have d0 := (hb.cell (p := ⟨b, off + k * 4, none⟩) hbB).trans c0
      have d1 := (hb.cell (p := ⟨b, off + k * 4 + 1, none⟩) hbB).trans c1
      have d2 := (hb.cell (p := ⟨b, off + k * 4 + 2, none⟩) hbB).trans c2
      have d3 := (hb.cell (p := ⟨b, off + k * 4 + 3, none⟩) hbB).trans c3
      clear c0 c1 c2 c3
      have hbd := dstep_bounds (ts.take k) (0, 0)
      simp only [List.length_take] at hbd
      have hs := foldl_take_succ ts (0, 0) k hlt
      go_wp2
      all_goals
        rename_i hq
        have hb' := hb.alloc (below_size hb) (.cells #[.int .i64 ts[k].k, .string ts[k].s, .int .i64 ts[k].n, .int .i64 ts[k].p] 62)
        refine ⟨⟨k + 1, by omega, by simp, ?_, ?_, hb'⟩, by simp [intOf]; omega⟩
        all_goals (rw [hs]; simp only [dstep]; simp_all)
        try (all_goals (first | (split <;> omega) | omega))
    · obtain rfl : k = ts.length := by omega
      go_wp2
      simp only [List.take_length] at *
      go_ret
      exact ⟨rfl, hb⟩
end Go.Proofs.YtbojlnbdkaanmaaGreatDoor
