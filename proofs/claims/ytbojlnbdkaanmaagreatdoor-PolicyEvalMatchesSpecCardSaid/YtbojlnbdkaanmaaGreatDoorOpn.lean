/-
  A value of facts that came in, opened: its numbers, its digests, its rows of outcomes.
-/
import Derived.Test.YtbojlnbdkaanmaaGreatDoorClo
set_option linter.unusedVariables false
set_option linter.unusedSimpArgs false
namespace Go.Proofs.YtbojlnbdkaanmaaGreatDoor
open Go.RowKit Go.ChangeShapes Go.WideShapes Go.ChangeAt

theorem cells5' : Tryz.prog.cellsOf 5 = 1 := by kernel_rfl
theorem cells3' : Tryz.prog.cellsOf 3 = 1 := by kernel_rfl
theorem cells47' : Tryz.prog.cellsOf 47 = 1 := by kernel_rfl
theorem cells65' : Tryz.prog.cellsOf 65 = 16 := by kernel_rfl
theorem cells42' : Tryz.prog.cellsOf 42 = 4 := by kernel_rfl
section
variable {H : Type} {enc : TypeId × Value → H} {w : World} {base : Nat} {sp : Nat → Bool} {held : Bool}
theorem open_digest {fuel : Nat} {cs : List Value} {x : DataW H × List MemPlace} (h : DataW.trod enc Tryz.prog w base sp held fuel 65 cs = some x) : ∃ d : Nat → Int, cs = dCells d := by
  obtain ⟨xs, m, rfl, _, hlen, hxl, hel⟩ := DataW.trod_array Tryz.underlying65 h
  rw [cells65'] at hlen
  have each : ∀ i, i < 16 → ∃ z : Int, cs[i]? = some (.int .u8 z) := by
    intro i hi
    have h1 := hel i hi
    rw [cells5', Nat.mul_one] at h1
    have hc : cs[i]? = some (cs[i]'(by omega)) := List.getElem?_eq_getElem (by omega)
    have e1 : (cs.drop i).take 1 = [cs[i]'(by omega)] := by
      rw [List.drop_eq_getElem_cons (by omega)]
      rfl
    rw [e1, List.getElem?_eq_getElem (by omega)] at h1
    obtain ⟨z, hz, _⟩ := DataW.trod_int Tryz.underlying5 h1
    injection hz with hz
    exact ⟨z, by rw [hc, hz]⟩
  obtain ⟨d, hd⟩ := Deep.choose_lt each
  refine ⟨d, ?_⟩
  apply List.ext_getElem?
  intro i
  by_cases hi : i < 16
  · rw [hd i hi]
    have : i = 0 ∨ i = 1 ∨ i = 2 ∨ i = 3 ∨ i = 4 ∨ i = 5 ∨ i = 6 ∨ i = 7 ∨ i = 8 ∨ i = 9 ∨ i = 10 ∨ i = 11 ∨ i = 12 ∨ i = 13 ∨ i = 14 ∨ i = 15 := by omega
    rcases this with rfl | rfl | rfl | rfl | rfl | rfl | rfl | rfl | rfl | rfl | rfl | rfl | rfl | rfl | rfl | rfl <;> rfl
  · rw [List.getElem?_eq_none (by omega), List.getElem?_eq_none (by simp [dCells]; omega)]
theorem open_stages {fuel : Nat} {v : Value} {x : DataW H × List MemPlace} (h : DataW.trod enc Tryz.prog w base (fun _ => true) held fuel 39 [v] = some x) : ∃ (A : Option Addr) (c : Nat) (st : List (Nat → Int)), v = .slice A st.length c ∧ Row w w.heap.size 16 A (st.map dCells) := by
  rcases Deep.open_slice Tryz.underlying39 h with ⟨e, _⟩ | ⟨a, len, cap, m, n, D, Pl, e, _, hl, _, hm, _, hel⟩
  · injection e with e
    exact ⟨none, 0, [], e, Row.nil_ _ _ _ _⟩
  · injection e with e
    simp only [if_true] at hm
    have each : ∀ i, i < len → ∃ d : Nat → Int, ∀ j, j < 16 → w.cell? (a.add (i * 16 + j)) = (dCells d)[j]? := by
      intro i hi
      obtain ⟨cs', hc, ht⟩ := hel i (by omega)
      rw [cells65'] at hc
      obtain ⟨_, hcl, hat⟩ := World.cells?_some hc
      obtain ⟨d, hd⟩ := open_digest ht
      refine ⟨d, fun j hj => ?_⟩
      have := hat j hj
      rw [hd, Deep.add_add] at this
      exact this
    obtain ⟨y, hy⟩ := Deep.choose_lt each
    refine ⟨some a, cap, (List.range len).map y, by simpa using e, ?_⟩
    intro i cs hi
    have hlt : i < len := by
      have := (List.getElem?_eq_some_iff.1 hi).1
      simpa using this
    have hcs : cs = dCells (y i) := by
      simp [hlt] at hi
      exact hi.symm
    subst hcs
    have h0 := hy i hlt 0 (by omega)
    have hs := World.cell?_spot (w := w) (a := a.add (0 * 16 + 0)) (hy 0 (by omega) 0 (by omega))
    obtain ⟨b, off, spot⟩ := a
    have hspot : spot = none := by simpa [Addr.add] using hs
    subst hspot
    have eadd : ∀ q : Nat, (⟨b, off, none⟩ : Addr).add q = ⟨b, off + q, none⟩ := fun q => by unfold Addr.add; split <;> simp_all
    rw [eadd] at h0
    have hb := World.block_lt_of_cell? w _ h0
    refine ⟨b, off, rfl, hb, fun j u hj => ?_⟩
    have hj16 : j < 16 := (List.getElem?_eq_some_iff.1 hj).1
    have h1 := hy i hlt j hj16
    rw [eadd, hj] at h1
    rw [Nat.add_assoc]
    exact h1
theorem open_points {fuel : Nat} {v : Value} {x : DataW H × List MemPlace} (h : DataW.trod enc Tryz.prog w base (fun _ => true) held fuel 40 [v] = some x) : ∃ (A : Option Addr) (c : Nat) (pts : List (List Int)), v = .slice A pts.length c ∧ Pts w w.heap.size A pts := by
  rcases Deep.open_int_rows Tryz.underlying40 Tryz.underlying47 Tryz.underlying3 cells47' cells3' h with ⟨e, _⟩ | ⟨a, len, cap, A, L, C, Z, e, _, hl, _, _, hel⟩
  · injection e with e
    exact ⟨none, 0, [], e, [], rfl, Row.nil_ _ _ _ _, fun i p o h => by simp at h⟩
  · injection e with e
    refine ⟨some a, cap, (List.range len).map fun r => (Z r).take (L r), by simpa using e, (List.range len).map fun r => .slice (A r) (L r) (C r), by simp, ?_, ?_⟩
    · intro i cs hi
      have hlt : i < len := by
        have := (List.getElem?_eq_some_iff.1 hi).1
        simpa using this
      have hcs : cs = [.slice (A i) (L i) (C i)] := by
        simp [hlt] at hi
        exact hi.symm
      subst hcs
      obtain ⟨h0, _⟩ := hel i (by omega)
      have hs := World.cell?_spot (hel 0 (by omega)).1
      obtain ⟨b, off, spot⟩ := a
      have hspot : spot = none := by simpa [Addr.add] using hs
      subst hspot
      have eadd : ∀ q : Nat, (⟨b, off, none⟩ : Addr).add q = ⟨b, off + q, none⟩ := fun q => by unfold Addr.add; split <;> simp_all
      rw [eadd] at h0
      refine ⟨b, off, rfl, World.block_lt_of_cell? w _ h0, fun j u hj => ?_⟩
      cases j with
      | zero =>
        simp at hj
        subst hj
        simpa using h0
      | succ j => simp at hj
    · intro i p o hp ho
      have hlt : i < len := by
        have := (List.getElem?_eq_some_iff.1 hp).1
        simpa using this
      have hp' : p = (Z i).take (L i) := by
        simp [hlt] at hp
        exact hp.symm
      have ho' : o = .slice (A i) (L i) (C i) := by
        simp [hlt] at ho
        exact ho.symm
      obtain ⟨_, hLC, _, hZ, _, hnone, hsome⟩ := hel i (by omega)
      subst hp'
      subst ho'
      refine ⟨A i, C i, by rw [List.length_take, hZ, Nat.min_eq_left hLC], ?_⟩
      intro j cs hj
      rw [List.getElem?_map] at hj
      cases hz : ((Z i).take (L i))[j]? with
      | none => rw [hz] at hj; cases hj
      | some z =>
        rw [hz] at hj
        injection hj with hj
        subst hj
        have hjl := (List.getElem?_eq_some_iff.1 hz).1
        rw [List.length_take, hZ, Nat.min_eq_left hLC] at hjl
        cases hA : A i with
        | none => have := hnone hA; omega
        | some a' =>
          obtain ⟨_, hc⟩ := hsome a' hA
          have h0 := hc j (by omega)
          have hs := World.cell?_spot (hc 0 (by omega))
          obtain ⟨b, off, spot⟩ := a'
          have hspot : spot = none := by simpa [Addr.add] using hs
          subst hspot
          have eadd : ∀ q : Nat, (⟨b, off, none⟩ : Addr).add q = ⟨b, off + q, none⟩ := fun q => by unfold Addr.add; split <;> simp_all
          rw [eadd] at h0
          have hzz : (Z i).getD j 0 = z := by
            rw [List.getElem?_take, if_pos hjl] at hz
            rw [List.getD_eq_getElem?_getD, hz]
            rfl
          rw [hzz] at h0
          refine ⟨b, off, rfl, World.block_lt_of_cell? w _ h0, fun q u hq => ?_⟩
          cases q with
          | zero =>
            simp at hq
            subst hq
            simpa using h0
          | succ q => simp at hq
set_option maxRecDepth 100000 in
theorem open_facts {r : Reach} {b0 : Nat} {v : Value} {d : DataW H} {p : List MemPlace} (hv : Value.okWide Tryz.prog w r b0 42 v) (h : DataW.Trod enc Tryz.prog w base (fun _ => true) held 42 v d p) :
    ∃ (F : Fct) (As : Option Addr) (cs : Nat) (Ap : Option Addr) (cp : Nat), v = F.val As cs Ap cp ∧ FctAt w w.heap.size F As Ap := by
  obtain ⟨v0, v1, v2, v3, y0, y1, y2, y3, n, rfl, _, _, t0, t1, t2, t3⟩ := Joins.open_agg4 Tryz.underlying42 (by kernel_rfl) cells42' hv h
  obtain ⟨z0, e0, _⟩ := DataW.trod_int Tryz.underlying3 t0
  obtain ⟨z1, e1, _⟩ := DataW.trod_int Tryz.underlying3 t1
  injection e0 with e0
  injection e1 with e1
  obtain ⟨As, cs, st, rfl, hs⟩ := open_stages t2
  obtain ⟨Ap, cp, pts, rfl, hp⟩ := open_points t3
  subst e0
  subst e1
  exact ⟨⟨z0, z1, st, pts⟩, As, cs, Ap, cp, rfl, hs, hp⟩
end
end Go.Proofs.YtbojlnbdkaanmaaGreatDoor
