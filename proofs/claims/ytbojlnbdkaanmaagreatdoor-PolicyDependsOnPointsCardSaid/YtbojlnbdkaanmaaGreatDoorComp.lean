/-
  slices.Compact at points: equal neighbours are one: the plain law and the walk, at any length.
-/
import Derived.Test.YtbojlnbdkaanmaaGreatDoorPrs
import Derived.Test.YtbojlnbdkaanmaaGreatDoorTk
import Derived.Deep.MidRow
namespace Go.Proofs.YtbojlnbdkaanmaaGreatDoor
open Go.RowKit
set_option linter.unusedSimpArgs false
set_option linter.unusedVariables false


/-! ### Plain -/
theorem dedup_snoc2 : ∀ (l : List (Int × Int)) (x y : Int × Int), dedupP (l ++ [x, y]) = if x = y then dedupP (l ++ [x]) else dedupP (l ++ [x]) ++ [y]
  | [], x, y => by
    by_cases h : x = y <;> simp [dedupP, h]
  | [a], x, y => by
    have ih := dedup_snoc2 [] x y
    simp only [List.nil_append] at ih
    show dedupP (a :: x :: [y]) = if x = y then dedupP (a :: x :: []) else dedupP (a :: x :: []) ++ [y]
    unfold dedupP
    by_cases ha : a = x
    · rw [if_pos ha, if_pos ha, ih]
    · rw [if_neg ha, if_neg ha, ih]
      by_cases h : x = y <;> simp [h]
  | a :: b :: l, x, y => by
    have ih := dedup_snoc2 (b :: l) x y
    show dedupP (a :: b :: (l ++ [x, y])) = if x = y then dedupP (a :: b :: (l ++ [x])) else dedupP (a :: b :: (l ++ [x])) ++ [y]
    unfold dedupP
    have e1 : b :: (l ++ [x, y]) = (b :: l) ++ [x, y] := rfl
    have e2 : b :: (l ++ [x]) = (b :: l) ++ [x] := rfl
    rw [e1, e2, ih]
    by_cases ha : a = b
    · rw [if_pos ha, if_pos ha]
    · rw [if_neg ha, if_neg ha]
      by_cases h : x = y <;> simp [h]
theorem dedup_take (ys : List (Int × Int)) (i : Nat) (h1 : i + 1 < ys.length) : dedupP (ys.take (i + 2)) = if ys[i] = ys[i + 1] then dedupP (ys.take (i + 1)) else dedupP (ys.take (i + 1)) ++ [ys[i + 1]] := by
  have e2 : ys.take (i + 2) = ys.take i ++ [ys[i], ys[i + 1]] := by
    rw [show i + 2 = (i + 1) + 1 from rfl, List.take_add_one (i := i + 1), List.getElem?_eq_getElem h1, Option.toList_some, List.take_add_one (i := i), List.getElem?_eq_getElem (by omega), Option.toList_some, List.append_assoc]
    rfl
  have e1 : ys.take (i + 1) = ys.take i ++ [ys[i]] := by
    rw [List.take_add_one, List.getElem?_eq_getElem (by omega), Option.toList_some]
  rw [e2, e1, dedup_snoc2]
/-- No two neighbours are equal below k. -/
def Diff (ys : List (Int × Int)) (k : Nat) : Prop := ∀ (j : Nat) a b, j + 1 < k → ys[j]? = some a → ys[j + 1]? = some b → a ≠ b
theorem dedup_diff {ys : List (Int × Int)} : ∀ (k : Nat), k ≤ ys.length → Diff ys k → dedupP (ys.take k) = ys.take k
  | 0, _, _ => rfl
  | 1, h, _ => by
    cases ys with
    | nil => rfl
    | cons a l => rfl
  | k + 2, h, hd => by
    have ih := dedup_diff (k + 1) (by omega) (fun j a b hj => hd j a b (by omega))
    rw [dedup_take ys k (by omega), if_neg (hd k _ _ (by omega) (List.getElem?_eq_getElem (by omega)) (List.getElem?_eq_getElem (by omega))), ih]
    conv => rhs; rw [List.take_add_one, List.getElem?_eq_getElem (show k + 1 < ys.length by omega), Option.toList_some]
/-- A point stored into a row of points. -/
theorem flatP_set (zs : List (Int × Int)) (k : Nat) (x : Int × Int) (hk : k < zs.length) : ((flatP zs).set (k * 2) (.int .i64 x.1)).set (k * 2 + 1) (.int .i64 x.2) = flatP (zs.set k x) := by
  apply List.ext_getElem?
  intro t
  have hl : (flatP zs).length = zs.length * 2 := flatP_length zs
  have hl2 : (flatP (zs.set k x)).length = zs.length * 2 := by rw [flatP_length, List.length_set]
  by_cases ht : t < zs.length * 2
  · have hi : t / 2 < zs.length := by omega
    have hg := flatP_get zs (t / 2) hi
    have hg2 := flatP_get (zs.set k x) (t / 2) (by rw [List.length_set]; exact hi)
    rw [List.getElem?_set, List.getElem?_set]
    by_cases hkk : t / 2 = k
    · have e : (zs.set k x)[t / 2]'(by rw [List.length_set]; exact hi) = x := by
        subst hkk
        simp
      rw [e] at hg2
      rcases Nat.mod_two_eq_zero_or_one t with q | q
      · have e1 : t = k * 2 := by omega
        have e2 : t / 2 * 2 = t := by omega
        rw [e2] at hg2
        rw [if_neg (by omega), if_pos (by omega), hg2.1]
        simp [hl, ht, e1]
        omega
      · have e1 : t = k * 2 + 1 := by omega
        have e2 : t / 2 * 2 + 1 = t := by omega
        rw [e2] at hg2
        rw [if_pos (by omega), hg2.2]
        simp [hl]
        omega
    · have e : (zs.set k x)[t / 2]'(by rw [List.length_set]; exact hi) = zs[t / 2] := by
        rw [List.getElem_set_ne (fun h => hkk h.symm)]
      rw [e] at hg2
      rw [if_neg (by omega), if_neg (by omega)]
      rcases Nat.mod_two_eq_zero_or_one t with q | q
      · have e2 : t / 2 * 2 = t := by omega
        rw [e2] at hg hg2
        rw [hg.1, hg2.1]
      · have e2 : t / 2 * 2 + 1 = t := by omega
        rw [e2] at hg hg2
        rw [hg.2, hg2.2]
  · rw [List.getElem?_eq_none (by simp; omega), List.getElem?_eq_none (by omega)]
/-- The state of the second loop: k points are written, i are read. -/
structure Cst (ys zs : List (Int × Int)) (k i : Nat) : Prop where
  len : zs.length = ys.length
  head : zs.take k = dedupP (ys.take i)
  rest : ∀ j, i ≤ j + 1 → zs[j]? = ys[j]?
  klt : k < i
  kpos : 0 < k
  ile : i ≤ ys.length
theorem Cst.len_k {ys zs : List (Int × Int)} {k i : Nat} (h : Cst ys zs k i) : (dedupP (ys.take i)).length = k := by
  rw [← h.head, List.length_take, h.len]
  have := h.klt
  have := h.ile
  omega
theorem Cst.same {ys zs : List (Int × Int)} {k i : Nat} (h : Cst ys zs k (i + 1)) (hi : i + 1 < ys.length) (he : ys[i] = ys[i + 1]) : Cst ys zs k (i + 2) := by
  refine ⟨h.len, ?_, fun j hj => h.rest j (by omega), by have := h.klt; omega, h.kpos, by omega⟩
  rw [dedup_take ys i hi, if_pos he]
  exact h.head
theorem Cst.other {ys zs : List (Int × Int)} {k i : Nat} (h : Cst ys zs k (i + 1)) (hi : i + 1 < ys.length) (he : ys[i] ≠ ys[i + 1]) : Cst ys (zs.set k ys[i + 1]) (k + 1) (i + 2) := by
  have hk := h.klt
  have hkl : k < zs.length := by rw [h.len]; omega
  refine ⟨by rw [List.length_set]; exact h.len, ?_, fun j hj => ?_, by omega, by omega, by omega⟩
  · rw [dedup_take ys i hi, if_neg he, ← h.head]
    rw [List.take_add_one, List.getElem?_set, if_pos rfl, if_pos hkl, Option.toList_some, List.take_set_of_le (Nat.le_refl _)]
  · rw [List.getElem?_set, if_neg (by omega)]
    exact h.rest j (by omega)

/-! ### clear -/
theorem run_clear36 (w : World) (ty : TypeId) (b o n c : Nat) (hn : 0 < n) (hc : ∀ j, j < n * 2 → (w.cell? ⟨b, o + j, none⟩).isSome = true) (hf : ∀ j, j < n * 2 → w.frozen? ⟨b, o + j, none⟩ = false) :
    (Builtin.clear_ #[36] ty #[.slice (some ⟨b, o, none⟩) n c]).run Tryz.prog w = .ok (.tuple #[]) (w.setCells b o (List.replicate (n * 2) (.int .i64 0))) := by
  have hzc : (Builtin.zeroCells (Value.agg #[.int .i64 0, .int .i64 0]).cells n).toList = List.replicate (n * 2) (.int .i64 0) := by
    simp only [Builtin.zeroCells, Value.cells]
    apply List.ext_getElem
    · simp
    · intro i h1 h2
      simp
      rcases Nat.mod_two_eq_zero_or_one i with q | q <;> simp [q]
  have hst := run_storeCells_cells (P := Tryz.prog) b o (List.replicate (n * 2) (.int .i64 0)) 0 w (by simpa using hc) (by simpa using hf) (by intro v hv'; rw [List.eq_of_mem_replicate hv']; rfl)
  simp only [Nat.add_zero] at hst
  obtain ⟨m, rfl⟩ : ∃ m, n = m + 1 := ⟨n - 1, by omega⟩
  have hv : ∀ w, (zeroValue 50).run Tryz.prog w = .ok (.agg #[.int .i64 0, .int .i64 0]) w := Tryz.zeroValue50
  simp [Builtin.clear_, run_underlying Tryz.underlying36, hv, hzc, hst]


/-! ### What a run of cells written leaves -/
theorem setCells_far {g : Nat} : ∀ (vs : List Value) (o : Nat) {w : World} (k : Nat), k ≠ g → (w.setCells g o vs).heap[k]? = w.heap[k]?
  | [], _, _, _, _ => rfl
  | v :: r, o, w, k, hk => by
    rw [World.setCells, setCells_far r (o + 1) k hk]
    exact Below.heap_setCell w ⟨g, o, none⟩ v k hk
theorem setCells_same (g : Nat) : ∀ (vs : List Value) (o : Nat) (w : World), (w.setCells g o vs).os = w.os ∧ (w.setCells g o vs).tape = w.tape ∧ (w.setCells g o vs).output = w.output ∧ (w.setCells g o vs).heap.size = w.heap.size
  | [], _, _ => ⟨rfl, rfl, rfl, rfl⟩
  | v :: r, o, w => by
    obtain ⟨h1, h2, h3, h4⟩ := setCells_same g r (o + 1) (w.setCell ⟨g, o, none⟩ v)
    rw [World.setCells]
    exact ⟨h1, h2, h3, by rw [h4]; simp [World.setCell]⟩
theorem blk_set1 {w : World} {g : Nat} {cur : Array Value} {e : TypeId} (h : w.heap[g]? = some (.cells cur e (0, 0))) (o : Nat) (v : Value) : (w.setCell ⟨g, o, none⟩ v).heap[g]? = some (.cells (cur.setIfInBounds o v) e (0, 0)) := by
  simp [World.setCell, Array.getElem?_modify, h]
theorem setCells_row {g : Nat} {e : TypeId} : ∀ (vs : List Value) (o : Nat) (w : World) (cur : Array Value), w.heap[g]? = some (.cells cur e (0, 0)) → o + vs.length ≤ cur.size →
    ∃ cur', (w.setCells g o vs).heap[g]? = some (.cells cur' e (0, 0)) ∧ cur'.size = cur.size ∧ cur'.toList = cur.toList.take o ++ vs ++ cur.toList.drop (o + vs.length)
  | [], o, w, cur, h, _ => ⟨cur, h, rfl, by simp⟩
  | v :: r, o, w, cur, h, hl => by
    have h2 := blk_set1 h o v
    simp only [List.length_cons] at hl
    obtain ⟨cur', h3, h4, h5⟩ := setCells_row r (o + 1) (w.setCell ⟨g, o, none⟩ v) _ h2 (by simp; omega)
    refine ⟨cur', h3, by rw [h4]; simp, ?_⟩
    rw [h5, Array.toList_setIfInBounds]
    have ho : o < cur.toList.length := by rw [Array.length_toList]; omega
    rw [List.take_set, List.drop_set_of_lt (by omega)]
    simp only [List.length_cons]
    rw [show o + 1 + r.length = o + (r.length + 1) by omega]
    congr 1
    rw [List.take_succ_eq_append_getElem ho, List.set_append_right _ _ (by rw [List.length_take]; omega)]
    have ho' : o < cur.size := by omega
    simp [Nat.min_eq_left (Nat.le_of_lt ho')]
theorem below_cells {B g : Nat} (hg : B ≤ g) (vs : List Value) (o : Nat) (w : World) : Below B w (w.setCells g o vs) := by
  obtain ⟨h1, h2, h3, h4⟩ := setCells_same g vs o w
  exact ⟨h1, h2, h3, by omega, fun k hk => setCells_far vs o k (by omega)⟩

/-! ### A row of points of the call's own -/
def Own (w : World) (base g n cap : Nat) (zs : List (Int × Int)) : Prop := zs.length = n ∧ w.ownsRow base 50 2 (.slice (some ⟨g, 0, none⟩) n cap) n (flatP zs)
theorem Own.at_ {w : World} {base g n cap : Nat} {zs : List (Int × Int)} (h : Own w base g n cap zs) {k : Nat} {x : Int × Int} (hk : zs[k]? = some x) : w.cell? ⟨g, k * 2, none⟩ = some (.int .i64 x.1) ∧ w.cell? ⟨g, k * 2 + 1, none⟩ = some (.int .i64 x.2) := by
  obtain ⟨hl, h⟩ := h
  obtain ⟨hlt, hx⟩ := List.getElem?_eq_some_iff.1 hk
  obtain ⟨h1, h2⟩ := flatP_get zs k hlt
  rw [hx] at h1 h2
  have a1 := h.cellAt (k * 2) (by rw [hl] at hlt; omega)
  have a2 := h.cellAt (k * 2 + 1) (by rw [hl] at hlt; omega)
  rw [h1] at a1
  rw [h2] at a2
  exact ⟨a1, a2⟩
theorem Own.there_ {w : World} {base g n cap : Nat} {zs : List (Int × Int)} (h : Own w base g n cap zs) (o m : Nat) (ho : o + m ≤ n * 2) : w.there g o m := by
  obtain ⟨hl, h⟩ := h
  intro j hj
  have a := h.cellAt (o + j) (by omega)
  have hq : (flatP zs)[o + j]?.isSome = true := by
    rw [List.getElem?_eq_getElem (by rw [flatP_length]; omega)]
    rfl
  exact ⟨by rw [a]; exact hq, h.frozenAt _⟩
theorem Own.cells {w : World} {base g n cap : Nat} {zs ys : List (Int × Int)} {o : Nat} {vs : List Value} (h : Own w base g n cap zs) (hy : ys.length = n) (ho : o + vs.length ≤ n * 2) (he : flatP ys = (flatP zs).take o ++ vs ++ (flatP zs).drop (o + vs.length)) :
    Own (w.setCells g o vs) base g n cap ys ∧ base ≤ g := by
  obtain ⟨hl, h⟩ := h
  rcases h.2 with ⟨e0, _⟩ | ⟨g', cap', cur, e0, hb, hg, hn, hm, hs, ht⟩
  · cases e0
  · injection e0 with e1 _ e3
    injection e1 with e1
    injection e1 with e1
    subst e1; subst e3
    obtain ⟨cur', h3, h4, h5⟩ := setCells_row vs o w cur hg (by omega)
    refine ⟨⟨hy, by rw [flatP_length, hy], .inr ⟨g, cap, cur', rfl, hb, h3, hn, hm, by omega, ?_⟩⟩, hb⟩
    rw [h5, he, ← ht]
    have hcl : cur.toList.length = cur.size := Array.length_toList
    rw [List.take_take, Nat.min_eq_left (by omega), List.drop_take]
    have e1 : (cur.toList.take o).length = o := by rw [List.length_take]; omega
    rw [List.take_append, List.take_append, List.length_append, e1, List.take_of_length_le (by omega : (cur.toList.take o).length ≤ n * 2), List.take_of_length_le (by omega : vs.length ≤ n * 2 - o)]
theorem Own.below {w w' : World} {base g n cap : Nat} {zs : List (Int × Int)} (h : Own w base g n cap zs) (hb : Below w.heap.size w w') : Own w' base g n cap zs := ⟨h.1, own_below h.2 hb⟩
theorem set_two (l : List Value) (o : Nat) (a b : Value) (h : o + 2 ≤ l.length) : (l.set o a).set (o + 1) b = l.take o ++ [a, b] ++ l.drop (o + 2) := by
  apply List.ext_getElem?
  intro t
  have e1 : (l.take o).length = o := by rw [List.length_take]; omega
  rw [List.getElem?_set, List.getElem?_set]
  by_cases h1 : t < o
  · rw [if_neg (by omega), if_neg (by omega), List.append_assoc, List.getElem?_append_left (by omega), List.getElem?_take, if_pos h1]
  · by_cases h2 : t = o
    · subst h2
      rw [if_neg (by omega), if_pos rfl, if_pos (by omega), List.append_assoc, List.getElem?_append_right (by omega), e1]
      simp
    · by_cases h3 : t = o + 1
      · subst h3
        rw [if_pos rfl, if_pos (by rw [List.length_set]; omega), List.append_assoc, List.getElem?_append_right (by omega), e1]
        simp
      · rw [if_neg (by omega), if_neg (by omega), List.getElem?_append_right (by simp; omega), List.getElem?_drop]
        congr 1
        simp
        omega
theorem Own.set_ {w : World} {base g n cap : Nat} {zs : List (Int × Int)} (h : Own w base g n cap zs) (k : Nat) (x : Int × Int) (hk : k < n) :
    Own (w.setCells g (k * 2) [.int .i64 x.1, .int .i64 x.2]) base g n cap (zs.set k x) ∧ Below base w (w.setCells g (k * 2) [.int .i64 x.1, .int .i64 x.2]) := by
  have hl := h.1
  have := h.cells (ys := zs.set k x) (o := k * 2) (vs := [.int .i64 x.1, .int .i64 x.2]) (by rw [List.length_set, hl]) (by simp; omega)
    (by rw [← flatP_set zs k x (by omega), set_two _ _ _ _ (by rw [flatP_length]; omega)]; rfl)
  exact ⟨this.1, below_cells this.2 _ _ _⟩
theorem flatP_take (zs : List (Int × Int)) (k : Nat) : flatP (zs.take k) = (flatP zs).take (k * 2) := by
  induction zs generalizing k with
  | nil => simp [flatP]
  | cons a l ih =>
    cases k with
    | zero => simp [flatP]
    | succ k =>
      rw [List.take_succ_cons]
      have e1 : flatP (a :: l.take k) = .int .i64 a.1 :: .int .i64 a.2 :: flatP (l.take k) := rfl
      have e2 : flatP (a :: l) = .int .i64 a.1 :: .int .i64 a.2 :: flatP l := rfl
      rw [e1, e2, show (k + 1) * 2 = k * 2 + 1 + 1 by omega, List.take_succ_cons, List.take_succ_cons, ih]
theorem Own.clear_ {w : World} {base g n cap : Nat} {zs : List (Int × Int)} (h : Own w base g n cap zs) (k : Nat) (hk : k ≤ n) :
    Own (w.setCells g (k * 2) (List.replicate ((n - k) * 2) (.int .i64 0))) base g n cap (zs.take k ++ List.replicate (n - k) (0, 0)) ∧ Below base w (w.setCells g (k * 2) (List.replicate ((n - k) * 2) (.int .i64 0))) := by
  have hl := h.1
  have hr : ∀ m, flatP (List.replicate m (0, 0)) = List.replicate (m * 2) (.int .i64 0) := by
    intro m
    induction m with
    | zero => rfl
    | succ m ih =>
      rw [List.replicate_succ]
      have e1 : flatP ((0, 0) :: List.replicate m (0, 0)) = .int .i64 0 :: .int .i64 0 :: flatP (List.replicate m (0, 0)) := rfl
      rw [e1, ih, show (m + 1) * 2 = m * 2 + 1 + 1 by omega, List.replicate_succ, List.replicate_succ]
  have happ : flatP (zs.take k ++ List.replicate (n - k) (0, 0)) = flatP (zs.take k) ++ flatP (List.replicate (n - k) (0, 0)) := by simp [flatP]
  have := h.cells (ys := zs.take k ++ List.replicate (n - k) (0, 0)) (o := k * 2) (vs := List.replicate ((n - k) * 2) (.int .i64 0)) (by simp; omega) (by simp; omega)
    (by
      rw [happ, hr, flatP_take]
      rw [List.drop_of_length_le (by rw [flatP_length, List.length_replicate]; omega), List.append_nil])
  exact ⟨this.1, below_cells this.2 _ _ _⟩
theorem Own.cap_ {w : World} {base g n cap : Nat} {zs : List (Int × Int)} (h : Own w base g n cap zs) : n ≤ cap := by
  rcases h.2.2 with ⟨e0, _⟩ | ⟨g', cap', cur, e0, hb, hg, hn, hm, hs, ht⟩
  · cases e0
  · injection e0 with e1 _ e3
    subst e3
    exact hn
theorem Own.base_ {w : World} {base g n cap : Nat} {zs : List (Int × Int)} (h : Own w base g n cap zs) : base ≤ w.heap.size := by
  have := h.2.lt g rfl
  omega
theorem Own.prs {w : World} {base g n cap : Nat} {zs : List (Int × Int)} (h : Own w base g n cap zs) : Prs w w.heap.size (some ⟨g, 0, none⟩) zs := prs_of_own h.1 h.2
theorem Prs.take {w : World} {B : Nat} {A : Option Addr} {zs : List (Int × Int)} (h : Prs w B A zs) (k : Nat) : Prs w B A (zs.take k) := by
  intro i cs hi
  refine h i cs ?_
  rw [List.map_take, List.getElem?_take] at hi
  split at hi
  · exact hi
  · cases hi


set_option maxRecDepth 100000 in
set_option maxHeartbeats 4000000 in
theorem compact_any (n : Nat) (hn : 2 ≤ n) (hm : n ≤ 1000000) : CompOk n := by
  intro W base g cap ys hy h
  have HO := hide (show Own W base g n cap ys from ⟨hy, h⟩)
  have Hy := hide hy
  have hnI : ¬ ((n : Int) < 2) := by omega
  have hgd := guard50
  have hcap := HO.out.cap_
  clear h hy
  go_enter Tryz.func40, Tryz.ntmps40
  go_wp2
  go_loopw [3] (fun i wr => ∃ j : Nat, j + 1 ≤ n ∧ i = .int .i64 ((j : Int) + 1) ∧ Hid (Diff ys (j + 1)) ∧ Hid (Below W.heap.size W wr)) (fun i _ => n - (intOf i).toNat)
  case atStart => exact ⟨0, by omega, rfl, fun j a b h => by omega, Below.refl _ _⟩
  case round =>
    obtain ⟨j, hj, rfl, HD, HB⟩ := hrel
    by_cases hlt : j + 1 < n
    · have hyl := Hy.out
      obtain ⟨x, hx⟩ : ∃ x, ys[j]? = some x := ⟨_, List.getElem?_eq_getElem (by omega)⟩
      obtain ⟨y, hyy⟩ : ∃ y, ys[j + 1]? = some y := ⟨_, List.getElem?_eq_getElem (by omega)⟩
      have HOr := hide (HO.out.below HB.out)
      obtain ⟨c, c'⟩ := HOr.out.at_ hx
      obtain ⟨d, d'⟩ := HOr.out.at_ hyy
      have Hx := hide hx
      have Hyy := hide hyy
      have hlI : (j : Int) + 1 < (n : Int) := by omega
      have hcj : ¬ cap = j + 1 := by omega
      clear hyl hx hyy
      obtain ⟨x1, x2⟩ := x
      obtain ⟨y1, y2⟩ := y
      by_cases he : (x1, x2) = (y1, y2)
      · injection he with he1 he2
        subst he1
        subst he2
        go_wp2
        go_quiet (fail)
        go_wp2
        obtain ⟨wo, hwo⟩ : ∃ wo : World, wo = wr.drewN nq := ⟨_, rfl⟩
        go_loopw [3, 5] (fun k i wi => ∃ (K I : Nat) (zs : List (Int × Int)), k = .int .i64 K ∧ i = .int .i64 ((I : Int) + 1) ∧ j + 1 + I + 1 ≤ n ∧ Hid (Cst ys zs K (j + 1 + I + 1)) ∧ Hid (Own wi base g n cap zs) ∧ Hid (Below base W wi)) (fun _ i _ => n - (intOf i).toNat)
        case atStart =>
          have hyl := Hy.out
          refine ⟨j + 1, 0, ys, by go_num, by go_num, by omega, ⟨rfl, ?_, fun j hj => rfl, by omega, by omega, by omega⟩, HOr.out.below (below_drewN (Below.refl _ _) _), (below_drewN HB.out _).mono HO.out.base_⟩
          obtain ⟨hx1, hx2⟩ := List.getElem?_eq_some_iff.1 Hx.out
          obtain ⟨hy1, hy2⟩ := List.getElem?_eq_some_iff.1 Hyy.out
          rw [dedup_take ys j (by omega), if_pos (by rw [hx2, hy2]), dedup_diff (j + 1) (by omega) HD.out]
        case round =>
          clear c c' d d'
          obtain ⟨K, I, zs, rfl, rfl, hI, HC, HZ, HBz⟩ := hrel
          have hKi := HC.out.klt
          by_cases hlt2 : j + 1 + I + 1 < n
          · have hyl := Hy.out
            obtain ⟨u, hu⟩ : ∃ u, ys[j + 1 + I]? = some u := ⟨_, List.getElem?_eq_getElem (by omega)⟩
            obtain ⟨v, hv⟩ : ∃ v, ys[j + 1 + I + 1]? = some v := ⟨_, List.getElem?_eq_getElem (by omega)⟩
            have hzu := (HC.out.rest (j + 1 + I) (by omega)).trans hu
            have hzv := (HC.out.rest (j + 1 + I + 1) (by omega)).trans hv
            obtain ⟨c, c'⟩ := HZ.out.at_ hzu
            obtain ⟨d, d'⟩ := HZ.out.at_ hzv
            rw [show (j + 1 + I) * 2 = (j + 1) * 2 + I * 2 by omega] at c c'
            rw [show (j + 1 + I + 1) * 2 = (j + 1) * 2 + (I + 1) * 2 by omega] at d d'
            have Hu := hide hu
            have Hv := hide hv
            clear hyl hu hv hzu hzv
            obtain ⟨u1, u2⟩ := u
            obtain ⟨v1, v2⟩ := v
            by_cases hf : (u1, u2) = (v1, v2)
            · injection hf with hf1 hf2
              subst hf1
              subst hf2
              go_wp2
              go_quiet (fail)
              go_wp2
              go_roundw
              case rel =>
                obtain ⟨hx1, hx2⟩ := List.getElem?_eq_some_iff.1 Hu.out
                obtain ⟨hy1, hy2⟩ := List.getElem?_eq_some_iff.1 Hv.out
                exact ⟨K, I + 1, zs, rfl, by go_num, by omega, HC.out.same (i := j + 1 + I) (by have := Hy.out; omega) (by rw [hx2, hy2]), HZ.out.below (below_drewN (Below.refl _ _) _), (HBz.out.trans (below_drewN (Below.refl _ _) _))⟩
              case measure => simp [intOf]; omega
            · have hne : (!v1 == u1 || !v2 == u2) = true := by
                by_cases h1 : v1 = u1
                · have : v2 ≠ u2 := fun h => hf (by rw [h1, h])
                  simp [this]
                · simp [h1]
              have Hne := hide hne
              have Hf := hide hf
              clear hf hne
              go_wp2
              go_quiet (fail)
              rw [Hne.out]
              have HZ2 := hide fun q : Nat => HZ.out.below (below_drewN (Below.refl _ _) q)
              have hKn : K < n := by omega
              obtain ⟨z, hz⟩ : ∃ z, zs[K]? = some z := ⟨_, List.getElem?_eq_getElem (by rw [HZ.out.1]; exact hKn)⟩
              obtain ⟨e, e'⟩ := HZ.out.at_ hz
              have f := (HZ.out.there_ (K * 2) 2 (by omega) 0 (by omega)).2
              have f' := (HZ.out.there_ (K * 2) 2 (by omega) 1 (by omega)).2
              rw [Nat.add_zero] at f
              clear hz
              go_wp2
              go_roundw
              case rel =>
                obtain ⟨hx1, hx2⟩ := List.getElem?_eq_some_iff.1 Hu.out
                obtain ⟨hy1, hy2⟩ := List.getElem?_eq_some_iff.1 Hv.out
                have hs := (HZ2.out ‹_›).set_ K (v1, v2) hKn
                refine ⟨K + 1, I + 1, zs.set K (v1, v2), by go_num, by go_num, by omega, ?_, hs.1, (HBz.out.trans (below_drewN (Below.refl _ _) _)).trans hs.2⟩
                have := HC.out.other (i := j + 1 + I) (by have := Hy.out; omega) (by rw [hx2, hy2]; exact Hf.out)
                rw [hy2] at this
                exact this
              case measure => simp [intOf]; omega
          · have hIn : j + 1 + I + 1 = n := by omega
            have hKn : K < n := by omega
            have hcK : ¬ cap = K := by omega
            have hzl := HZ.out.1
            have hcl : ∀ ty, (Builtin.clear_ #[36] ty #[.slice (some ⟨g, K * 2, none⟩) (n - K) (cap - K)]).run Tryz.prog wr = .ok (.tuple #[]) (wr.setCells g (K * 2) (List.replicate ((n - K) * 2) (.int .i64 0))) := fun ty =>
              run_clear36 wr ty g (K * 2) (n - K) (cap - K) (by omega) (fun j hj => (HZ.out.there_ (K * 2) ((n - K) * 2) (by omega) j hj).1) (fun j hj => (HZ.out.there_ (K * 2) ((n - K) * 2) (by omega) j hj).2)
            have HE := hide hIn
            have HZl := hide hzl
            clear hIn hzl
            go_wp2
            refine bodyPost_ret (v := .slice (some ⟨g, 0, none⟩) K cap) (by simp [results, Tryz.results40, go_sem]) rfl ?_
            have hc := HZ.out.clear_ K (by omega)
            have hk := HC.out.len_k
            have hhd := HC.out.head
            rw [HE.out, ← Hy.out, List.take_length] at hk hhd
            refine ⟨HBz.out.trans hc.2, by rw [hk], ?_⟩
            have := hc.1.prs.take K
            rw [List.take_append_of_le_length (by rw [List.length_take, HZl.out]; omega), List.take_take, Nat.min_self, hhd] at this
            exact this
      · have hne : (y1 == x1 && y2 == x2) = false := by
          by_cases h1 : y1 = x1
          · have : y2 ≠ x2 := fun h => he (by rw [h1, h])
            simp [this]
          · simp [h1]
        have He := hide he
        have Hne := hide hne
        clear he hne
        go_wp2
        go_quiet (fail)
        rw [Hne.out]
        go_wp2
        go_roundw
        case rel =>
          refine ⟨j + 1, by omega, by go_num, ?_, below_drewN HB.out _⟩
          intro q a b hq ha hb
          by_cases hqj : q = j
          · subst hqj
            rw [Hx.out] at ha
            rw [Hyy.out] at hb
            injection ha with ha
            injection hb with hb
            subst ha
            subst hb
            exact He.out
          · exact HD.out q a b (by omega) ha hb
        case measure => simp [intOf]; omega
    · obtain rfl : j + 1 = n := by omega
      go_wp2
      refine bodyPost_ret (v := .slice (some ⟨g, 0, none⟩) (j + 1) cap) (by simp [results, Tryz.results40, go_sem]) rfl ?_
      have hdd := dedup_diff (j + 1) (by rw [Hy.out]; exact Nat.le_refl _) HD.out
      rw [← Hy.out, List.take_length] at hdd
      refine ⟨HB.out.mono HO.out.base_, by rw [hdd, Hy.out], ?_⟩
      rw [hdd]
      exact (HO.out.below HB.out).prs
/-- Compact's contract at any length. -/
theorem comp_ok (n : Nat) (hm : n ≤ 1000000) : CompOk n := by
  by_cases h : n < 2
  · exact compact_small n h
  · exact compact_any n (by omega) hm
end Go.Proofs.YtbojlnbdkaanmaaGreatDoor
