/-
  PolicyDependsOnPoints: facts whose outcomes are turned to another value wherever the policy names no point; the rows that the law builds of them.
-/
import Derived.Test.YtbojlnbdkaanmaaGreatDoorComp
import Derived.Test.YtbojlnbdkaanmaaGreatDoorPtsD
import Derived.Test.YtbojlnbdkaanmaaGreatDoorSanB
import Derived.Test.YtbojlnbdkaanmaaGreatDoorVld
import Derived.Test.YtbojlnbdkaanmaaGreatDoorPolT
import Derived.Outline
namespace Go.Proofs.YtbojlnbdkaanmaaGreatDoor
open Go.RowKit
set_option linter.unusedSimpArgs false
set_option linter.unusedVariables false

theorem FctAt.nxt {W W' : World} {F : Fct} {As Ap : Option Addr} (h : FctAt W W.heap.size F As Ap) (hb : Below W.heap.size W W') : FctAt W' W'.heap.size F As Ap :=
  ⟨(h.st.below hb (Nat.le_refl _)).more hb.size, h.pts.below2 hb⟩
theorem valid_bnds {F : Fct} (h : validF F = true) : F.st.length ≤ 10 ∧ F.pts.length ≤ 10 ∧ ∀ p ∈ F.pts, p.length ≤ 20 := by
  unfold validF at h
  simp only [Bool.and_eq_true, decide_eq_true_eq, List.all_eq_true] at h
  refine ⟨h.1, h.2.1, fun p hp => ?_⟩
  have := h.2.2 p hp
  unfold rowOk at this
  simp only [Bool.and_eq_true, decide_eq_true_eq] at this
  exact this.1

/-! ### Plain -/
def mixVal (ps : List (Int × Int)) (z : Int) (i k : Nat) (x : Int) : Int := if ((i : Int), (k : Int)) ∈ ps then x else z
def mixRow (ps : List (Int × Int)) (z : Int) (i : Nat) (p : List Int) : List Int := p.mapIdx fun k x => mixVal ps z i k x
def mixPts (ps : List (Int × Int)) (z : Int) (pts : List (List Int)) : List (List Int) := pts.mapIdx fun i p => mixRow ps z i p
def mixF (ps : List (Int × Int)) (z : Int) (F : Fct) : Fct := { F with pts := mixPts ps z F.pts }
theorem mixRow_length (ps : List (Int × Int)) (z : Int) (i : Nat) (p : List Int) : (mixRow ps z i p).length = p.length := by simp [mixRow]
theorem mixPts_length (ps : List (Int × Int)) (z : Int) (pts : List (List Int)) : (mixPts ps z pts).length = pts.length := by simp [mixPts]
theorem mixRow_take (ps : List (Int × Int)) (z : Int) (i : Nat) (p : List Int) (k : Nat) (hk : k < p.length) : (mixRow ps z i p).take (k + 1) = (mixRow ps z i p).take k ++ [mixVal ps z i k p[k]] := by
  have hl := mixRow_length ps z i p
  rw [List.take_add_one, List.getElem?_eq_getElem (by omega), Option.toList_some]
  simp [mixRow]
theorem mem_dedup (x : Int × Int) : ∀ ys : List (Int × Int), x ∈ dedupP ys ↔ x ∈ ys
  | [] => Iff.rfl
  | [a] => Iff.rfl
  | a :: b :: l => by
    have ih := mem_dedup x (b :: l)
    unfold dedupP
    split
    · rename_i h
      subst h
      rw [ih]
      simp
    · rw [List.mem_cons, ih]
      simp
theorem mem_ptsF {nds : List Nd} {nd : Nd} (h : nd ∈ nds) (h7 : nd.k = 7) : (nd.n, nd.m) ∈ ptsF nds := by
  unfold ptsF
  exact List.mem_map.2 ⟨nd, List.mem_filter.2 ⟨h, by simp [h7]⟩, rfl⟩
theorem leaf_of {t : Ast} : t.Ok → ∀ x ∈ t.leaves, Leaf x := by
  induction t with
  | leaf x => intro h y hy; simp [Ast.leaves] at hy; subst hy; exact h
  | neg t ih => intro h y hy; exact ih h y hy
  | bin k a b iha ihb =>
    intro h y hy
    rcases List.mem_append.1 hy with hy | hy
    · exact iha h.2.1 y hy
    · exact ihb h.2.2 y hy
theorem took_mix {ps : List (Int × Int)} (z : Int) (F : Fct) {n m sd : Int} (hn : 0 ≤ n) (hm : 0 ≤ m) (h : (n, m) ∈ ps) : tookF F n m sd = tookF (mixF ps z F) n m sd := by
  unfold tookF mixF mixPts
  simp only [List.getElem?_mapIdx]
  cases hp : F.pts[n.toNat]? with
  | none => rfl
  | some p =>
    simp only [Option.map_some]
    unfold mixRow
    simp only [List.getElem?_mapIdx]
    cases hq : p[m.toNat]? with
    | none => rfl
    | some o =>
      simp only [Option.map_some]
      have e : mixVal ps z n.toNat m.toNat o = o := by
        unfold mixVal
        rw [Int.toNat_of_nonneg hn, Int.toNat_of_nonneg hm, if_pos h]
      rw [e]
theorem mix_agree {t : Ast} (ht : t.Ok) {ps : List (Int × Int)} (hps : ∀ nd ∈ t.leaves, nd.k = 7 → (nd.n, nd.m) ∈ ps) (z : Int) (F : Fct) : evalT F t = evalT (mixF ps z F) t := by
  refine eval_agree t ht ⟨rfl, rfl, fun _ _ => rfl, fun nd hnd h7 => ?_⟩
  have hl := leaf_of ht nd hnd
  have hm := hps nd hnd h7
  cases hl with
  | any => simp [mkN] at h7
  | num k n hk hn => simp [mkN] at h7; omega
  | stage n d hn hd hz => simp at h7
  | took n m s hn hm' hs => exact took_mix z F hn.1 hm'.1 hm
theorem mix_parsed {s : ByteArray} {t : Ast} {ts : List Tok} (h : Parsed s t ts) {ys : List (Int × Int)} (hy : ys.Perm (ptsF (parseR s).2)) (z : Int) (F : Fct) : evalT F t = evalT (mixF (dedupP ys) z F) t := by
  refine mix_agree h.ok (fun nd hnd h7 => ?_) z F
  rw [mem_dedup, hy.mem_iff, h.nds]
  exact mem_ptsF (leaves_emit t 0 nd hnd) h7

/-! ### The rows built so far -/
def RowIs (w : World) (u : Value) (xs : List Int) : Prop := (u = .slice none 0 0 ∧ xs = []) ∨ ∃ g cap cur, u = .slice (some ⟨g, 0, none⟩) xs.length cap ∧ w.heap[g]? = some (.cells cur 3 (0, 0)) ∧ cur.toList.take xs.length = xs.map fun x => Value.int .i64 x
theorem RowIs.of_own {w : World} {base n : Nat} {u : Value} {xs : List Int} (h : w.ownsRow base 3 1 u n (xs.map fun x => .int .i64 x)) (hn : xs.length = n) : RowIs w u xs := by
  rcases h.2 with ⟨e, h0⟩ | ⟨g, cap, cur, e, hb, hg, h1, hm, hs, ht⟩
  · exact .inl ⟨e, List.eq_nil_of_length_eq_zero (by omega)⟩
  · subst hn
    rw [Nat.mul_one] at ht
    exact .inr ⟨g, cap, cur, e, hg, ht⟩
theorem RowIs.keep {w w' : World} {u : Value} {xs : List Int} (h : RowIs w u xs) (hk : ∀ (g : Nat) (c : Array Value), w.heap[g]? = some (Obj.cells c 3 (0, 0)) → w'.heap[g]? = w.heap[g]?) : RowIs w' u xs := by
  rcases h with h | ⟨g, cap, cur, e, hg, ht⟩
  · exact .inl h
  · exact .inr ⟨g, cap, cur, e, (hk g _ hg).trans hg, ht⟩
theorem RowIs.one {w : World} {u : Value} {xs : List Int} (h : RowIs w u xs) : u.oneCell' = true := by
  rcases h with ⟨rfl, _⟩ | ⟨g, cap, cur, rfl, _⟩ <;> rfl
theorem RowIs.ints {w : World} {u : Value} {xs : List Int} (h : RowIs w u xs) : ∃ A c, u = .slice A xs.length c ∧ Ints w w.heap.size A xs := by
  rcases h with ⟨rfl, rfl⟩ | ⟨g, cap, cur, rfl, hg, ht⟩
  · exact ⟨none, 0, rfl, Ints.nil_ _ _ _⟩
  · refine ⟨_, cap, rfl, fun i cs hi => ?_⟩
    rw [List.getElem?_map] at hi
    cases hx : xs[i]? with
    | none => rw [hx] at hi; cases hi
    | some x =>
      rw [hx] at hi
      injection hi with hi
      subst hi
      refine ⟨g, 0, rfl, (Array.getElem?_eq_some_iff.1 hg).1, fun j v hj => ?_⟩
      have hlt := (List.getElem?_eq_some_iff.1 hx).1
      have hc : cur[i]? = some (.int .i64 x) := by
        have := congrArg (fun l => l[i]?) ht
        simp only [List.getElem?_take, List.getElem?_map, hx, if_pos hlt, Option.map_some, Array.getElem?_toList] at this
        exact this
      cases j with
      | zero =>
        simp at hj
        subst hj
        rw [cell_of_row _ _ _ _ _ _ hg]
        simpa using hc
      | succ j => simp at hj
/-- The copy of the facts in the making: i rows are done. -/
structure Gst (b11 : Nat) (hd : List Value) (W0 : World) (ps : List (Int × Int)) (z : Int) (pts : List (List Int)) (i : Nat) (v : Value) (w : World) : Prop where
  hdl : hd.length = 3
  blk : w.heap[b11]? = some (.cells (hd ++ [v]).toArray 42 (0, 0))
  rows : ∃ vs : List Value, vs.length = i ∧ w.ownsRow (b11 + 1) 47 1 v i vs ∧ ∀ (r : Nat) u p, r < i → vs[r]? = some u → pts[r]? = some p → RowIs w u (mixRow ps z r p)
  bel : Below b11 W0 w
theorem Gst.below {b11 : Nat} {hd : List Value} {W0 : World} {ps : List (Int × Int)} {z : Int} {pts : List (List Int)} {i : Nat} {v : Value} {w w' : World} (h : Gst b11 hd W0 ps z pts i v w) (hb : Below w.heap.size w w') : Gst b11 hd W0 ps z pts i v w' := by
  obtain ⟨h0, h1, ⟨vs, h2, h3, h4⟩, h5⟩ := h
  have hlt : b11 < w.heap.size := (Array.getElem?_eq_some_iff.1 h1).1
  exact ⟨h0, (hb.block _ hlt).trans h1, ⟨vs, h2, own_below h3 hb, fun r u p hr hu hp => (h4 r u p hr hu hp).keep fun g c hg => hb.block g (Array.getElem?_eq_some_iff.1 hg).1⟩, h5.trans (hb.mono (by omega))⟩
theorem Gst.own_lt {b11 : Nat} {hd : List Value} {W0 : World} {ps : List (Int × Int)} {z : Int} {pts : List (List Int)} {i : Nat} {v : Value} {w : World} (h : Gst b11 hd W0 ps z pts i v w) : ∃ vs, vs.length = i ∧ w.ownsRow (b11 + 1) 47 1 v i vs ∧ b11 + 1 ≤ w.heap.size := by
  obtain ⟨h0, h1, ⟨vs, h2, h3, h4⟩, h5⟩ := h
  have hlt : b11 < w.heap.size := (Array.getElem?_eq_some_iff.1 h1).1
  exact ⟨vs, h2, h3, hlt⟩
theorem Gst.push {b11 : Nat} {hd : List Value} {W0 : World} {ps : List (Int × Int)} {z : Int} {pts : List (List Int)} {i : Nat} {v v' u : Value} {w wa w1 : World} {vs : List Value} {p : List Int} (h : Gst b11 hd W0 ps z pts i v w) (hp : pts[i]? = some p) (hu : RowIs w u (mixRow ps z i p))
    (hvs : vs.length = i) (hv : w.ownsRow (b11 + 1) 47 1 v i vs) (hwa : Below w.heap.size w wa) (hg : wa.grownBy w1 v.ownBlock) (hown : w1.ownsRow (b11 + 1) 47 1 v' (i + 1) (vs ++ [u])) :
    Gst b11 hd W0 ps z pts (i + 1) v' (w1.setCell ⟨b11, 3, none⟩ v') := by
  have ha := h.below hwa
  obtain ⟨h0, h1, ⟨vs', h2, h3, h4⟩, h5⟩ := ha
  have hva := own_below hv hwa
  -- the two lists of rows are one
  have hvv : vs' = vs := by
    have e1 := h3.2
    have e2 := hva.2
    rcases e1 with ⟨a1, a0⟩ | ⟨g, cap, cur, a1, _, ag, _, _, as_, at_⟩
    · rw [List.eq_nil_of_length_eq_zero (by omega : vs'.length = 0), List.eq_nil_of_length_eq_zero (by omega : vs.length = 0)]
    · rcases e2 with ⟨c1, c0⟩ | ⟨g2, cap2, cur2, c1, _, cg, _, _, cs_, ct_⟩
      · rw [List.eq_nil_of_length_eq_zero (by omega : vs'.length = 0), List.eq_nil_of_length_eq_zero (by omega : vs.length = 0)]
      · rw [a1] at c1
        injection c1 with c1 _ _
        injection c1 with c1
        injection c1 with c1
        subst c1
        rw [ag] at cg
        injection cg with cg
        injection cg with cg _ _
        subst cg
        rw [← at_, ← ct_]
  subst hvv
  have hlt : b11 < wa.heap.size := (Array.getElem?_eq_some_iff.1 h1).1
  have hno : some b11 ≠ v.ownBlock := by
    rcases h3.2 with ⟨e, _⟩ | ⟨g, cap, cur, e, hb, _⟩
    · rw [e]; simp [Value.ownBlock]
    · rw [e]
      intro e'
      simp [Value.ownBlock] at e'
      omega
  have k1 : ∀ (g : Nat) (c : Array Value), wa.heap[g]? = some (Obj.cells c 3 (0, 0)) → w1.heap[g]? = wa.heap[g]? := by
    intro g c hgc
    refine hg.block g (Array.getElem?_eq_some_iff.1 hgc).1 fun e => ?_
    rcases h3.2 with ⟨e', _⟩ | ⟨g', cap, cur, e', hb, hh, _⟩
    · rw [e'] at e; simp [Value.ownBlock] at e
    · rw [e'] at e
      simp [Value.ownBlock] at e
      subst e
      rw [hgc] at hh
      injection hh with hh
      injection hh with _ hh _
      exact absurd hh (by decide)
  have b1 : w1.heap[b11]? = some (.cells (hd ++ [v]).toArray 42 (0, 0)) := (hg.block b11 hlt hno).trans h1
  have k2 : ∀ (g : Nat), g ≠ b11 → (w1.setCell ⟨b11, 3, none⟩ v').heap[g]? = w1.heap[g]? := fun g hne => Below.heap_setCell w1 ⟨b11, 3, none⟩ v' g hne
  have k3 : ∀ (g : Nat) (c : Array Value), w1.heap[g]? = some (Obj.cells c 3 (0, 0)) → (w1.setCell ⟨b11, 3, none⟩ v').heap[g]? = w1.heap[g]? := by
    intro g c hgc
    refine k2 g fun e => ?_
    subst e
    rw [b1] at hgc
    injection hgc with hgc
    injection hgc with _ hgc _
    exact absurd hgc (by decide)
  refine ⟨h0, ?_, ⟨vs' ++ [u], by simp [h2], ?_, fun r x q hr hx hq => ?_⟩, ?_⟩
  · rw [blk_set1 b1]
    obtain ⟨a, b, c, rfl⟩ : ∃ a b c, hd = [a, b, c] := by
      match hd, h0 with
      | [a, b, c], _ => exact ⟨a, b, c, rfl⟩
    rfl
  · rcases hown.2 with ⟨e, e0⟩ | ⟨g, cap, cur, e, hb, hgg, hn, hm, hs, ht⟩
    · omega
    · exact ⟨hown.1, .inr ⟨g, cap, cur, e, hb, (k2 g (by omega)).trans hgg, hn, hm, hs, ht⟩⟩
  · by_cases hri : r < i
    · rw [List.getElem?_append_left (by omega)] at hx
      exact ((h4 r x q hri hx hq).keep k1).keep k3
    · obtain rfl : r = i := by omega
      rw [List.getElem?_append_right (by omega), h2, Nat.sub_self] at hx
      injection hx with hx
      subst hx
      rw [hp] at hq
      injection hq with hq
      subst hq
      exact ((hu.keep fun g c hgc => hwa.block g (Array.getElem?_eq_some_iff.1 hgc).1).keep k1).keep k3
  · have b2 : Below b11 W0 w1 := h5.grown hg (by omega) (fun k hk => by
      rcases h3.2 with ⟨e, _⟩ | ⟨g, cap, cur, e, hb, _⟩
      · rw [e] at hk; simp [Value.ownBlock] at hk
      · rw [e] at hk
        simp [Value.ownBlock] at hk
        omega)
    exact b2.setCell (p := ⟨b11, 3, none⟩) (Nat.le_refl _) v'
theorem Gst.pts {b11 : Nat} {hd : List Value} {W0 : World} {ps : List (Int × Int)} {z : Int} {pts : List (List Int)} {v : Value} {w : World} (h : Gst b11 hd W0 ps z pts pts.length v w) : ∃ A c, v = .slice A (mixPts ps z pts).length c ∧ Pts w w.heap.size A (mixPts ps z pts) := by
  obtain ⟨h0, h1, ⟨vs, h2, h3, h4⟩, h5⟩ := h
  obtain ⟨A, c, e, _, _, hr, _⟩ := Row.of_own (css := vs.map fun u => [u]) (sz := 1) (n := pts.length) (w := w) (base := b11 + 1) (e := 47) (v := v) (by
    have : (vs.map fun u => [u]).flatten = vs := by
      clear h4 h3 h2
      induction vs with
      | nil => rfl
      | cons a l ih => simpa using ih
    rw [this]; exact h3) (by simp [h2]) (by simp)
  refine ⟨A, c, by rw [mixPts_length]; exact e, vs, by rw [h2, mixPts_length], hr, fun i p o hp ho => ?_⟩
  unfold mixPts at hp
  rw [List.getElem?_mapIdx] at hp
  cases hq : pts[i]? with
  | none => rw [hq] at hp; cases hp
  | some q =>
    rw [hq] at hp
    injection hp with hp
    subst hp
    obtain ⟨Ao, co, eo, hi⟩ := (h4 i o q ((List.getElem?_eq_some_iff.1 hq).1) ho hq).ints
    exact ⟨Ao, co, eo, hi⟩
end Go.Proofs.YtbojlnbdkaanmaaGreatDoor
