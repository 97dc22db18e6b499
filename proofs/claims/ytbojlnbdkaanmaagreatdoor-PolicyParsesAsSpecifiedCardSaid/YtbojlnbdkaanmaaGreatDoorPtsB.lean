/-
  The program's Points, part B: the sort over a row of points that the call owns, and over nil.
-/
import Derived.Test.YtbojlnbdkaanmaaGreatDoorPtsA
set_option linter.unusedVariables false
set_option linter.unusedSimpArgs false
namespace Go.Proofs.YtbojlnbdkaanmaaGreatDoor
open Go.RowKit Go.Shelf

def flatP (xs : List (Int × Int)) : List Value := (xs.map encP).flatten
theorem flatP_length (xs : List (Int × Int)) : (flatP xs).length = xs.length * 2 := by
  unfold flatP
  induction xs with
  | nil => rfl
  | cons a l ih => simp only [List.map_cons, List.flatten_cons, List.length_append, ih, List.length_cons]; simp [encP]; omega
theorem flatP_get : ∀ (xs : List (Int × Int)) (i : Nat) (h : i < xs.length), (flatP xs)[i * 2]? = some (.int .i64 xs[i].1) ∧ (flatP xs)[i * 2 + 1]? = some (.int .i64 xs[i].2)
  | [], i, h => by simp at h
  | a :: l, 0, h => ⟨rfl, rfl⟩
  | a :: l, i + 1, h => by
    have := flatP_get l i (by simpa using h)
    have e : flatP (a :: l) = encP a ++ flatP l := rfl
    rw [e]
    constructor
    · rw [List.getElem?_append_right (by simp [encP]; omega), show (i + 1) * 2 - (encP a).length = i * 2 by simp [encP]; omega]
      simpa using this.1
    · rw [List.getElem?_append_right (by simp [encP]; omega), show (i + 1) * 2 + 1 - (encP a).length = i * 2 + 1 by simp [encP]; omega]
      simpa using this.2
theorem flatK_flatP (xs : List (Int × Int)) (t : Nat) (h : t < xs.length * 2) : (flatP xs)[t]? = some ((Sort.flatK encP 2 xs.toArray)[t]!) := by
  rw [Sort.get_flatK _ _ _ _ (by simpa using h)]
  have hi : t / 2 < xs.length := by omega
  have hg := flatP_get xs (t / 2) hi
  have e : xs.toArray[t / 2]! = xs[t / 2] := by simp [hi]
  rw [e]
  rcases Nat.mod_two_eq_zero_or_one t with q | q
  · rw [q]
    have : t = t / 2 * 2 := by omega
    rw [← this] at hg
    rw [hg.1]
    rfl
  · rw [q]
    have : t = t / 2 * 2 + 1 := by omega
    rw [← this] at hg
    rw [hg.2]
    rfl
theorem grow_heap_old (w : World) (os : Array Obj) (i : Nat) (h : i < w.heap.size) : (Sort.grow w os).heap[i]? = w.heap[i]? := by
  unfold Sort.grow
  show (w.heap ++ os)[i]? = _
  rw [Array.getElem?_append_left h]
theorem sortWorld_facts {w : World} {g n cap q base : Nat} {xs ys : List (Int × Int)} {os : Array Obj} (h : w.ownsRow base 50 2 (.slice (some ⟨g, 0, none⟩) n cap) n (flatP xs)) (hy : ys.length = n) :
    (sortWorldK encP 2 w g 0 q ys.toArray os).ownsRow base 50 2 (.slice (some ⟨g, 0, none⟩) n cap) n (flatP ys) ∧ Below base w (sortWorldK encP 2 w g 0 q ys.toArray os) := by
  rcases h.2 with ⟨e0, _⟩ | ⟨g', cap', cur, e0, hb, hg, hn, hm, hs, ht⟩
  · cases e0
  · injection e0 with e1 _ e3
    injection e1 with e1
    injection e1 with e1
    subst e1; subst e3
    have hlt : g < w.heap.size := (Array.getElem?_eq_some_iff.1 hg).1
    have hsz : (Sort.putRowK encP 2 (Sort.ahead w q) g 0 ys.toArray).heap.size = w.heap.size := by simp [Sort.putRowK, Sort.putRow, Sort.mapBlock, Sort.ahead]
    have hblk : (sortWorldK encP 2 w g 0 q ys.toArray os).heap[g]? = some (.cells (Sort.putCells id 0 (Sort.flatK encP 2 ys.toArray) cur) 50 (0, 0)) := by
      unfold sortWorldK
      rw [grow_heap_old _ _ _ (by rw [hsz]; exact hlt)]
      simp [Sort.putRowK, Sort.putRow, Sort.mapBlock, Sort.ahead, Array.getElem?_modify, hg, Sort.onCells]
    refine ⟨⟨by rw [flatP_length]; omega, .inr ⟨g, cap, _, rfl, hb, hblk, hn, hm, by simpa [Sort.putCells] using hs, ?_⟩⟩, ?_⟩
    · apply List.ext_getElem?
      intro j
      rw [List.getElem?_take, Array.getElem?_toList]
      by_cases hj : j < n * 2
      · have hjc : j < cur.size := by omega
        rw [if_pos hj]
        simp only [Sort.putCells, Array.getElem?_mapIdx, Array.getElem?_eq_getElem hjc, Option.map_some]
        rw [if_pos (by simp; omega), flatK_flatP ys j (by omega)]
        simp
      · rw [if_neg hj, List.getElem?_eq_none (by rw [flatP_length]; omega)]
    · refine ⟨rfl, rfl, rfl, ?_, fun k hk => ?_⟩
      · unfold sortWorldK Sort.grow
        show w.heap.size ≤ (_ ++ os).size
        rw [Array.size_append, hsz]
        omega
      · by_cases hkw : k < w.heap.size
        · unfold sortWorldK
          rw [grow_heap_old _ _ _ (by rw [hsz]; exact hkw)]
          simp [Sort.putRowK, Sort.putRow, Sort.mapBlock, Sort.ahead, Array.getElem?_modify, show g ≠ k by omega]
        · omega
def ltP (x y : Int × Int) : Bool := ltOf cmpP x y
end Go.Proofs.YtbojlnbdkaanmaaGreatDoor
