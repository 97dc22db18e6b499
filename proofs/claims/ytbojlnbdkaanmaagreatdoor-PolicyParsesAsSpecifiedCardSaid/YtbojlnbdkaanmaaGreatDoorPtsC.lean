/-
  The program's Points, part C: the sort's contract, over a row of the call's own and over nil; Compact where nothing is to do.
-/
import Derived.Test.YtbojlnbdkaanmaaGreatDoorPtsB
set_option linter.unusedVariables false
set_option linter.unusedSimpArgs false
namespace Go.Proofs.YtbojlnbdkaanmaaGreatDoor
open Go.RowKit Go.Shelf

theorem ltP_eq (x y : Int × Int) : ltP x y = decide (x.1 < y.1 ∨ (x.1 = y.1 ∧ x.2 < y.2)) := by
  unfold ltP ltOf cmpP orF Lib.compareInt
  by_cases h1 : x.1 < y.1
  · simp [h1]
  · by_cases h2 : y.1 < x.1
    · simp [h1, h2]; omega
    · have h3 : x.1 = y.1 := by omega
      simp only [h1, h2, if_false, if_true, GT.gt]
      by_cases h4 : x.2 < y.2
      · simp [h3, h4]
      · by_cases h5 : y.2 < x.2 <;> simp [h4, h5]
theorem swoP : Sort.SWO (ltOf cmpP) where
  irrefl x := by have := ltP_eq x x; unfold ltP at this; rw [this]; simp
  trans x y z h1 h2 := by
    have e1 := ltP_eq x y; have e2 := ltP_eq y z; have e3 := ltP_eq x z
    unfold ltP at e1 e2 e3
    rw [e1] at h1; rw [e2] at h2; rw [e3]
    simp at *
    omega
  ntrans x y z h1 h2 := by
    have e1 := ltP_eq x y; have e2 := ltP_eq y z; have e3 := ltP_eq x z
    unfold ltP at e1 e2 e3
    rw [e1] at h1; rw [e2] at h2; rw [e3]
    simp at *
    omega
/-- Sorted: no later one is less than an earlier one. -/
def SortedP (ys : List (Int × Int)) : Prop := ys.Pairwise fun a b => ltP b a = false
theorem perm_of_permIn {xs : List (Int × Int)} {d' : Array (Int × Int)} (h : Sort.PermIn 0 xs.length xs.toArray d') : d'.toList.Perm xs ∧ d'.toList.length = xs.length := by
  obtain ⟨h1, _, h3⟩ := h
  have e1 : xs.toArray.extract 0 xs.length = xs.toArray := by simp
  have e2 : d'.extract 0 xs.length = d' := by
    have : d'.size = xs.length := by simpa using h1
    rw [← this]
    simp
  rw [e1, e2] at h3
  refine ⟨by simpa using h3, by simpa using h1⟩
theorem sorted_of_sortedIn {d' : Array (Int × Int)} {n : Nat} (hn : d'.size = n) (h : Sort.SortedIn (ltOf cmpP) 0 n d') : SortedP d'.toList := by
  unfold SortedP
  rw [List.pairwise_iff_getElem]
  intro i j hi hj hij
  have h1 : i < d'.size := by simpa using hi
  have h2 : j < d'.size := by simpa using hj
  have := h i j (Nat.zero_le _) hij (by omega)
  rw [getElem!_pos d' i h1, getElem!_pos d' j h2] at this
  simpa [ltP] using this

/-- What the sort leaves of a row of points. -/
def PostS (w : World) (base g n cap : Nat) (xs : List (Int × Int)) (e : Ending) (w' : World) : Prop :=
  e = .returned (.tuple #[]) ∧ ∃ ys, ys.Perm xs ∧ ys.length = n ∧ SortedP ys ∧ w'.ownsRow base 50 2 (.slice (some ⟨g, 0, none⟩) n cap) n (flatP ys) ∧ Below base w w'
theorem enter37 : ∀ args w, (callFunc 37 args).run Tryz.prog w = .ok (.enter 37 args) w := enters_of Tryz.func37 (by kernel_rfl) rfl
theorem sort_any (w : World) (base g n cap : Nat) (xs : List (Int × Int)) (hn : xs.length = n) (hl : n ≤ 1000000) (h : w.ownsRow base 50 2 (.slice (some ⟨g, 0, none⟩) n cap) n (flatP xs)) :
    Calls Tryz.prog 36 #[.slice (some ⟨g, 0, none⟩) n cap, .func (.func 37) #[] #[]] w (PostS w base g n cap xs) := by
  have hg : g < w.heap.size := (h.lt g rfl).2
  have hH : Sort.HoldsK encP 2 w g 0 xs.toArray := by
    intro j hj
    have hj' : j < xs.length * 2 := by simpa using hj
    refine ⟨?_, by rw [Nat.zero_add]; exact h.frozenAt j⟩
    have := h.cellAt j (by omega)
    rw [flatK_flatP xs j hj'] at this
    rw [Nat.zero_add, this]
    rfl
  have hcon := AnyQ.slices_SortFunc Tryz.sortPts 2 Tryz.isAgg50 Tryz.sizeOf50 encP (fun _ => rfl) (fun x v hv => by simp [encP] at hv; rcases hv with rfl | rfl <;> rfl) cmpP swoP 37 #[] g 0 cap xs.toArray w enter37 (cmpLays37 g 0 _ w) hH hg (by simp; omega)
  change Calls Tryz.prog 36 _ _ _ at hcon
  have e1 : (xs.toArray.size : Nat) = n := by simp [hn]
  rw [e1] at hcon
  refine hcon.mono ?_
  rintro e w' ⟨rfl, d', q, os, hp, hs, rfl⟩
  rw [← hn] at hp hs
  obtain ⟨p1, p2⟩ := perm_of_permIn hp
  have hf := sortWorld_facts (q := q) (os := os) (ys := d'.toList) h (by rw [p2, hn])
  rw [Array.toArray_toList] at hf
  refine ⟨rfl, d'.toList, p1, by rw [p2, hn], sorted_of_sortedIn (by simpa using p2) hs, hf.1, hf.2⟩

/-- The sort over nil. -/
theorem len_zero (W : World) : Calls Tryz.prog 62 #[.int .u64 0] W fun e w' => e = .returned (.int .i64 0) ∧ W = w' := by
  have h := Any.bits_Len (SlLaysF0.n15.bits (P := Tryz.prog) (ρ := Tryz.sortPts_ren) { Tryz.sortPts with }) (0 : Int) W (by omega) (by omega)
  change Calls Tryz.prog 62 _ _ _ at h
  refine h.mono ?_
  rintro e w' ⟨rfl, rfl⟩
  exact ⟨rfl, rfl⟩
set_option maxHeartbeats 1000000 in
theorem ins_nil (w : World) (f : Value) : Calls Tryz.prog 77 #[.slice none 0 0, .int .i64 0, .int .i64 0, f] w fun e w' => e = .returned (.tuple #[]) ∧ w = w' := by
  go_enter Tryz.func77, Tryz.ntmps77
  go_wp2
  go_loopg [8] 2 (fun n i wr => i = .int .i64 1 ∧ 1 ≤ n ∧ wr = w)
  case atStart => exact ⟨rfl, by omega, rfl⟩
  case round =>
    obtain ⟨rfl, hg, rfl⟩ := hrel
    go_wp2
    go_end0
    exact ⟨rfl, rfl⟩
set_option maxHeartbeats 1000000 in
theorem pdq_nil (w : World) (f : Value) : Calls Tryz.prog 61 #[.slice none 0 0, .int .i64 0, .int .i64 0, .int .i64 0, f] w fun e w' => e = .returned (.tuple #[]) ∧ w = w' := by
  go_enter Tryz.func61, Tryz.ntmps61
  go_wp2
  refine wp_loop_rounds 1 ?_
  rw [rounds_succ]
  go_wp2_with (go_at_call 77; (with_reducible refine Calls.mono (ins_nil _ _) ?_); rintro e w1 ⟨rfl, rfl⟩)
  exact bodyPost_ret (v := .tuple #[]) (by simp [results, Tryz.results61, go_sem]) rfl ⟨rfl, rfl⟩
set_option maxHeartbeats 1000000 in
theorem sort_nil (w : World) (f : Value) : Calls Tryz.prog 36 #[.slice none 0 0, f] w fun e w' => e = .returned (.tuple #[]) ∧ w = w' := by
  go_enter Tryz.func36, Tryz.ntmps36
  go_wp2_with (first
    | (go_at_call 62; (with_reducible refine Calls.mono (len_zero _) ?_); rintro e w1 ⟨rfl, rfl⟩)
    | (go_at_call 61; (with_reducible refine Calls.mono (pdq_nil _ _) ?_); rintro e w1 ⟨rfl, rfl⟩))
  go_end0
  exact ⟨rfl, rfl⟩

/-! ### Compact -/
/-- Equal neighbours are one. -/
def dedupP : List (Int × Int) → List (Int × Int)
  | [] => []
  | [x] => [x]
  | x :: y :: l => if x = y then dedupP (y :: l) else x :: dedupP (y :: l)
def Prs (w : World) (B : Nat) (A : Option Addr) (ps : List (Int × Int)) : Prop := Row w B 2 A (ps.map encP)
/-- What Compact leaves of a row of the call's own. -/
def PostK (W : World) (base g cap : Nat) (ys : List (Int × Int)) (e : Ending) (w' : World) : Prop :=
  Below base W w' ∧ e = .returned (.slice (some ⟨g, 0, none⟩) (dedupP ys).length cap) ∧ Prs w' w'.heap.size (some ⟨g, 0, none⟩) (dedupP ys)
def CompOk (n : Nat) : Prop := ∀ (W : World) (base g cap : Nat) (ys : List (Int × Int)), ys.length = n → W.ownsRow base 50 2 (.slice (some ⟨g, 0, none⟩) n cap) n (flatP ys) →
  Calls Tryz.prog 40 #[.slice (some ⟨g, 0, none⟩) n cap] W (PostK W base g cap ys)
theorem prs_of_own {W : World} {base g n cap : Nat} {ys : List (Int × Int)} (hn : ys.length = n) (h : W.ownsRow base 50 2 (.slice (some ⟨g, 0, none⟩) n cap) n (flatP ys)) : Prs W W.heap.size (some ⟨g, 0, none⟩) ys := by
  have hl : (ys.map encP).length = n := by simp [hn]
  obtain ⟨A, c, e, _, _, hr, _⟩ := Row.of_own (css := ys.map encP) h hl (fun cs hcs => by obtain ⟨t, _, rfl⟩ := List.mem_map.1 hcs; rfl)
  injection e with e1
  rw [e1]
  exact hr
set_option maxHeartbeats 1000000 in
theorem compact_nil (w : World) : Calls Tryz.prog 40 #[.slice none 0 0] w fun e w' => e = .returned (.slice none 0 0) ∧ w = w' := by
  go_enter Tryz.func40, Tryz.ntmps40
  go_wp2
  go_ret
  exact ⟨rfl, rfl⟩
set_option maxHeartbeats 1000000 in
theorem compact_small (n : Nat) (h2 : n < 2) : CompOk n := by
  intro W base g cap ys hn h
  have hd : dedupP ys = ys := by
    cases ys with
    | nil => rfl
    | cons a l =>
      cases l with
      | nil => rfl
      | cons b l => simp at hn; omega
  have hI : (n : Int) < 2 := by omega
  have HP := hide (prs_of_own hn h)
  have Hd := hide hd
  have Hn := hide hn
  clear hn h hd
  go_enter Tryz.func40, Tryz.ntmps40
  go_wp2
  refine bodyPost_ret (v := .slice (some ⟨g, 0, none⟩) n cap) (by simp [results, Tryz.results40, go_sem]) rfl ?_
  refine ⟨Below.refl _ _, ?_, ?_⟩
  · rw [Hd.out, Hn.out]
  · rw [Hd.out]
    exact HP.out
end Go.Proofs.YtbojlnbdkaanmaaGreatDoor
