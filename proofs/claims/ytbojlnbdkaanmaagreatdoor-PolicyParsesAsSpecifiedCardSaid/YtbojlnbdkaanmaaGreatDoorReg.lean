/-
  Regions that draw their order, as laws: a whole struct stored; a region that reads two values and stores them into two blocks.
-/
import Derived.Test.YtbojlnbdkaanmaaGreatDoorRep
import Derived.Deep.RegionHeld
set_option linter.unusedVariables false
set_option linter.unusedSimpArgs false
namespace Go.Proofs.YtbojlnbdkaanmaaGreatDoor
open Go.RowKit

theorem wp_store_row {P : Program} {o : Oper} {a : Act} {w : World} {K : Act → World → Prop} {Q : Exit → Act → World → Prop} (ty : TypeId) (x y : Operand) (ho : o.op = .store ty x y)
    (g : Nat) (hx : a.eval x = .pointer (some ⟨g, 0, none⟩)) (v : Value) (hy : a.eval y = v) (old : Array Value) (t : TypeId) (hg : w.heap[g]? = some (.cells old t (0, 0))) (hs : old.size = v.cells.size)
    (hi : (P.info? ty).map (·.size) = some v.cells.size) (h1 : v.cells.all (·.oneCell') = true) (h : K (a.put o.dst undef) (w.setRow g v.cells)) : o.wp P a w K Q := by
  have h1' : ∀ u ∈ v.cells.toList, u.oneCell' = true := fun u hu => by
    have := Array.all_eq_true'.1 h1 u (by simpa using hu)
    exact this
  unfold Oper.wp execOp
  simp only [ho, hx, hy, run_store_row w ty g v old t hg hs hi h1', Sem.run_bind, Sem.run_pure, Result.andThen_ok]
  exact h
theorem setRow_comm (w : World) (g k : Nat) (a b : Array Value) (h : g ≠ k) : (w.setRow g a).setRow k b = (w.setRow k b).setRow g a := by
  unfold World.setRow
  congr 1
  apply Array.ext_getElem?
  intro i
  simp only [Array.getElem?_modify]
  by_cases h1 : g = i
  · subst h1
    rw [if_neg (fun e => h e.symm), if_pos rfl, if_pos rfl, if_neg (fun e => h e.symm)]
  · by_cases h2 : k = i
    · subst h2
      rw [if_pos rfl, if_neg h1, if_neg h1, if_pos rfl]
    · rw [if_neg h2, if_neg h1, if_neg h1, if_neg h2]
theorem setRow_alloc (w : World) (old cs : Array Value) (t : TypeId) (f : Nat × Nat) : (w.alloc (.cells old t f)).setRow w.heap.size cs = w.alloc (.cells cs t f) := by
  unfold World.setRow World.alloc
  congr 1
  apply Array.ext_getElem?
  intro i
  simp only [Array.getElem?_modify, Array.getElem?_push]
  by_cases h : w.heap.size = i
  · subst h; simp
  · rw [if_neg h, if_neg (fun e => h e.symm), if_neg (fun e => h e.symm)]
/-- A whole struct stored into the block that was just made for it. -/
theorem wpList_store_fresh {P : Program} {ops : Array Oper} {rest : List Oper} {o : Oper} {a : Act} {w W : World} {Q : Exit → Act → World → Prop} {old : Array Value} {t : TypeId} (hgd : o.guard = none) (ty : TypeId) (x y : Operand) (ho : o.op = .store ty x y)
    (v : Value) (hy : a.eval y = v) (hx : a.eval x = .pointer (some ⟨w.heap.size, 0, none⟩)) (hs : old.size = v.cells.size)
    (hi : (P.info? ty).map (·.size) = some v.cells.size) (h1 : v.cells.all (·.oneCell') = true) (hW : W = w.alloc (.cells v.cells t))
    (h : wpList P ops Q rest (a.put o.dst undef) W) : wpList P ops Q (o :: rest) a (w.alloc (.cells old t)) :=
  wpList_store_row hgd ty x y ho w.heap.size hx v hy old t (heap_alloc_new _ _) hs hi h1 (by rw [setRow_alloc, ← hW]; exact h)
/-- What is known of a world behind one new block. -/
theorem fresh_facts {w W : World} {cs : Array Value} {t : TypeId} (hW : W = w.alloc (.cells cs t)) : Below w.heap.size w W ∧ W.heap[w.heap.size]? = some (.cells cs t (0, 0)) ∧ W.heap.size = w.heap.size + 1 := by
  subst hW
  exact ⟨(Below.refl _ _).alloc (Nat.le_refl _) _, heap_alloc_new _ _, by simp⟩
theorem nd_one {x : Nd} {o : Value} (h : o.oneCell' = true) : ((Value.agg (x.cells o).toArray).cells.all (·.oneCell')) = true := by
  have h1 : ((x.cells o).all (·.oneCell')) = true := by
    simp only [Nd.cells, List.all_cons, List.all_nil, h]
    rfl
  show ((x.cells o).toArray.all (·.oneCell')) = true
  rw [List.all_toArray]
  exact h1
/-- Two values are read, and stored into two blocks of the call's own: whatever the order. -/
theorem wp_two_stores {P : Program} {id : Nat} {ops : Array Oper} {Q : Exit → Act → World → Prop} {a : Act} {w : World} {o0 o1 o2 o3 : Oper} (hm : P.follows .mixedOrders = true) (hops : ops = #[o0, o1, o2, o3])
    (hs : Region.noSelect ops = true) (hf0 : Region.free .any ops #[false, false, false, false] 0 = true) (hr0 : (Region.ready .any ops #[false, false, false, false]).contains 0 = true)
    (hf1 : Region.free .any ops #[true, false, false, false] 1 = true) (hr1 : (Region.ready .any ops #[true, false, false, false]).contains 1 = true)
    (hr2 : Region.ready .any ops #[true, true, false, false] = [2, 3]) (hr3 : Region.ready .any ops #[true, true, true, false] = [3]) (hr4 : Region.ready .any ops #[true, true, false, true] = [2])
    (hr5 : Region.ready .any ops #[true, true, true, true] = []) (hQ : ∀ c a d v w, Q (.panic c) (a.put d v) w → Q (.panic c) a w)
    (g0 : o0.guard = none) (g1 : o1.guard = none) (g2 : o2.guard = none) (g3 : o3.guard = none) (d2 : o2.dst = none) (d3 : o3.dst = none)
    (p q : Nat) (hpq : p ≠ q) (v0 v1 : Value) (y0 : ∀ W : World, (∀ k, k ≠ p → k ≠ q → W.heap[k]? = w.heap[k]?) → (execOp a.eval o0).run P W = .ok (.value v0) W)
    (y1 : ∀ W : World, (∀ k, k ≠ p → k ≠ q → W.heap[k]? = w.heap[k]?) → (execOp (a.put o0.dst v0).eval o1).run P W = .ok (.value v1) W)
    (t2 : TypeId) (x2 z2 : Operand) (e2 : o2.op = .store t2 x2 z2) (ex2 : ((a.put o0.dst v0).put o1.dst v1).eval x2 = .pointer (some ⟨p, 0, none⟩)) (u2 : Value) (ez2 : ((a.put o0.dst v0).put o1.dst v1).eval z2 = u2)
    (t3 : TypeId) (x3 z3 : Operand) (e3 : o3.op = .store t3 x3 z3) (ex3 : ((a.put o0.dst v0).put o1.dst v1).eval x3 = .pointer (some ⟨q, 0, none⟩)) (u3 : Value) (ez3 : ((a.put o0.dst v0).put o1.dst v1).eval z3 = u3)
    (old2 : Array Value) (tt2 : TypeId) (hg2 : w.heap[p]? = some (.cells old2 tt2 (0, 0))) (hz2 : old2.size = u2.cells.size) (hi2 : (P.info? t2).map (·.size) = some u2.cells.size) (h12 : u2.cells.all (·.oneCell') = true)
    (old3 : Array Value) (tt3 : TypeId) (hg3 : w.heap[q]? = some (.cells old3 tt3 (0, 0))) (hz3 : old3.size = u3.cells.size) (hi3 : (P.info? t3).map (·.size) = some u3.cells.size) (h13 : u3.cells.all (·.oneCell') = true)
    (h : Q .normal ((a.put o0.dst v0).put o1.dst v1) ((w.drew.setRow p u2.cells).setRow q u3.cells)) : (Code.region id ops true).wp P Q a w := by
  subst hops
  have wt : ∀ {o : Oper} (ops : Array Oper) (b : Array Value), o.guard = none → Region.wanted o (yielded ops b) = true := fun ops b hb => by simp [Region.wanted, hb]
  refine wp_region_held (S := fun W => ∀ k, k ≠ p → k ≠ q → W.heap[k]? = w.heap[k]?) hm ?_
  change wpAnyH _ _ _ _ _ _ (Array.replicate 4 false) _ w.drew
  have hS : ∀ k, k ≠ p → k ≠ q → w.drew.heap[k]? = w.heap[k]? := fun _ _ _ => rfl
  refine wpAnyH_take (i := 0) (v := v0) rfl hs hf0 hr0 (fun c a w => hQ c a _ _ w) (Or.inl ⟨wt _ _ g0, fun W hW => y0 W hW⟩) hS ?_
  change wpAnyH _ _ _ _ _ _ #[true, false, false, false] _ _
  refine wpAnyH_take (i := 1) (v := v1) rfl hs hf1 hr1 (fun c a w => hQ c a _ _ w) (Or.inl ⟨wt _ _ g1, fun W hW => y1 W hW⟩) hS ?_
  change wpAnyH _ _ _ _ _ _ #[true, true, false, false] _ _
  have k2 : w.drew.heap[p]? = some (.cells old2 tt2 (0, 0)) := hg2
  have k3 : w.drew.heap[q]? = some (.cells old3 tt3 (0, 0)) := hg3
  refine wpAnyH_ready (rs := [2, 3]) hr2 (by simp) ?_
  refine AllReadyH.cons (o := o2) rfl (fun K hK => ?_) (AllReadyH.cons (o := o3) rfl (fun K hK => ?_) AllReadyH.nil)
  · rw [if_pos (wt _ _ g2)]
    refine wp_store_row t2 x2 z2 e2 p ex2 u2 ez2 old2 tt2 k2 hz2 hi2 h12 ?_
    rw [d2]
    refine hK.out _ _ (fun k h1 h2 => setRow_other _ _ _ _ h1) (fun _ => ?_)
    change wpAnyH _ _ _ _ _ _ #[true, true, true, false] _ _
    refine wpAnyH_ready (rs := [3]) hr3 (by simp) ?_
    refine AllReadyH.cons (o := o3) rfl (fun K hK => ?_) AllReadyH.nil
    rw [if_pos (wt _ _ g3)]
    refine wp_store_row t3 x3 z3 e3 q ex3 u3 ez3 old3 tt3 ((setRow_other _ _ _ _ (Ne.symm hpq)).trans k3) hz3 hi3 h13 ?_
    rw [d3]
    refine hK.out _ _ (fun k h1 h2 => (setRow_other _ _ _ _ h2).trans (setRow_other _ _ _ _ h1)) (fun _ => ?_)
    change wpAnyH _ _ _ _ _ _ #[true, true, true, true] _ _
    exact wpAnyH_done hr5 h _
  · rw [if_pos (wt _ _ g3)]
    refine wp_store_row t3 x3 z3 e3 q ex3 u3 ez3 old3 tt3 k3 hz3 hi3 h13 ?_
    rw [d3]
    refine hK.out _ _ (fun k h1 h2 => setRow_other _ _ _ _ h2) (fun _ => ?_)
    change wpAnyH _ _ _ _ _ _ #[true, true, false, true] _ _
    refine wpAnyH_ready (rs := [2]) hr4 (by simp) ?_
    refine AllReadyH.cons (o := o2) rfl (fun K hK => ?_) AllReadyH.nil
    rw [if_pos (wt _ _ g2)]
    refine wp_store_row t2 x2 z2 e2 p ex2 u2 ez2 old2 tt2 ((setRow_other _ _ _ _ hpq).trans k2) hz2 hi2 h12 ?_
    rw [d2]
    refine hK.out _ _ (fun k h1 h2 => (setRow_other _ _ _ _ h1).trans (setRow_other _ _ _ _ h2)) (fun _ => ?_)
    change wpAnyH _ _ _ _ _ _ #[true, true, true, true] _ _
    refine wpAnyH_done hr5 ?_ _
    rw [setRow_comm _ _ _ _ _ (Ne.symm hpq)]
    exact h
/-- The reading of a whole block, as the law above asks it. -/
theorem y_load {P : Program} {o : Oper} {a : Act} {w W : World} {p q : Nat} (ty : TypeId) (x : Operand) (ho : o.op = .load ty x) (g : Nat) (hp : g ≠ p) (hq : g ≠ q) (hx : a.eval x = .pointer (some ⟨g, 0, none⟩))
    (t : TypeId) (cs : Array Value) (fr : Nat × Nat) (d : TypeDesc) (hg : w.heap[g]? = some (.cells cs t fr)) (hu : P.underlying ty = some d) (hd : (match d with | .struct _ | .array _ _ => true | _ => false) = true)
    (hi : (P.info? ty).map (·.size) = some cs.size) (hW : ∀ k, k ≠ p → k ≠ q → W.heap[k]? = w.heap[k]?) : (execOp a.eval o).run P W = .ok (.value (.agg cs)) W := by
  unfold execOp
  simp only [ho, hx, Instr.loadAt, Instr.sureAddr, Sem.run_bind, Sem.run_pure, Result.andThen_ok, run_loadVar_row W g t ty cs fr d ((hW g hp hq).trans hg) hu hd hi]
/-- The reading of a whole block in one world. -/
theorem y_load1 {P : Program} {o : Oper} {a : Act} {W : World} (ty : TypeId) (x : Operand) (ho : o.op = .load ty x) (g : Nat) (hx : a.eval x = .pointer (some ⟨g, 0, none⟩))
    (t : TypeId) (cs : Array Value) (fr : Nat × Nat) (d : TypeDesc) (hg : W.heap[g]? = some (.cells cs t fr)) (hu : P.underlying ty = some d) (hd : (match d with | .struct _ | .array _ _ => true | _ => false) = true)
    (hi : (P.info? ty).map (·.size) = some cs.size) : (execOp a.eval o).run P W = .ok (.value (.agg cs)) W := by
  unfold execOp
  simp only [ho, hx, Instr.loadAt, Instr.sureAddr, Sem.run_bind, Sem.run_pure, Result.andThen_ok, run_loadVar_row W g t ty cs fr d hg hu hd hi]
end Go.Proofs.YtbojlnbdkaanmaaGreatDoor
