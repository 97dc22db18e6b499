/-
  The statements' sanity: true, and nothing that stood is touched.
-/
import Derived.Test.YtbojlnbdkaanmaaGreatDoorSanA
import Derived.Test.YtbojlnbdkaanmaaGreatDoorAstEv
set_option linter.unusedVariables false
set_option linter.unusedSimpArgs false
namespace Go.Proofs.YtbojlnbdkaanmaaGreatDoor
open Go.RowKit

theorem san_parse (w : World) (hE : Env w) : Calls Tryz.prog 10 #[.string sA] w fun e w' => ∃ A c, e = .returned (.tuple #[.agg #[.slice A 4 c], .int .i64 0]) ∧ Nodes w' w'.heap.size A ndsA ∧ Below w.heap.size w w' := by
  refine (parse_any w sA hE (by decide)).mono fun e w' h => ?_
  rw [parseA] at h
  obtain ⟨hb, A, c, rfl, hN, _, _⟩ := h
  exact ⟨A, c, rfl, hN, hb⟩
theorem san_parseB (w : World) (hE : Env w) : Calls Tryz.prog 10 #[.string sB] w fun e w' => ∃ A n c, e = .returned (.tuple #[.agg #[.slice A n c], .int .i64 3]) ∧ Below w.heap.size w w' := by
  refine (parse_any w sB hE (by decide)).mono fun e w' h => ?_
  obtain ⟨hb, A, c, rfl, _⟩ := h
  exact ⟨A, _, c, by rw [parseB], hb⟩
theorem san_parseC (w : World) (hE : Env w) : Calls Tryz.prog 10 #[.string sC] w fun e w' => ∃ A n c, e = .returned (.tuple #[.agg #[.slice A n c], .int .i64 0]) ∧ Below w.heap.size w w' := by
  refine (parse_any w sC hE (by decide)).mono fun e w' h => ?_
  obtain ⟨hb, A, c, rfl, _⟩ := h
  exact ⟨A, _, c, by rw [parseC], hb⟩
theorem ndsA_ok : ∀ i nd, ndsA[i]? = some nd → NdOk i nd := by
  have h := emit_ok (.bin 9 (.leaf (mkN 3 2 0 0)) (.neg (.leaf (mkN 7 0 1 1)))) 0 ⟨Or.inl rfl, Leaf.num 3 2 (by decide) (by decide), Leaf.took 0 1 1 (by decide) (by decide) (Or.inl rfl)⟩
  intro i nd hi
  have := h i nd hi
  rwa [Nat.zero_add] at this
theorem fact_one (W : World) (g1 g2 : Nat) (v x : Int) (t1 t2 : TypeId) (h1 : W.heap[g1]? = some (.cells #[.int .i64 3, .int .i64 x] t1 (0, 0))) (h2 : W.heap[g2]? = some (.cells #[.slice (some ⟨g1, 0, none⟩) 2 2] t2 (0, 0))) :
    FctAt W W.heap.size ⟨v, 0, [], [[3, x]]⟩ none (some ⟨g2, 0, none⟩) := by
  have l1 := (Array.getElem?_eq_some_iff.1 h1).1
  have l2 := (Array.getElem?_eq_some_iff.1 h2).1
  refine ⟨Row.nil_ _ _ _ _, [.slice (some ⟨g1, 0, none⟩) 2 2], rfl, ?_, ?_⟩
  · intro i cs hi
    cases i with
    | zero =>
      simp at hi
      subst hi
      refine ⟨g2, 0, rfl, l2, fun j u hj => ?_⟩
      cases j with
      | zero => simp at hj; subst hj; rw [cell_of_row _ _ _ _ _ _ h2]; rfl
      | succ j => simp at hj
    | succ i => simp at hi
  · intro i p o hp ho
    cases i with
    | zero =>
      simp at hp ho
      subst hp
      subst ho
      refine ⟨_, _, rfl, ?_⟩
      intro j cs hj
      have hj2 : j = 0 ∨ j = 1 := by
        have := (List.getElem?_eq_some_iff.1 hj).1
        simp at this
        omega
      rcases hj2 with rfl | rfl
      · simp at hj
        subst hj
        refine ⟨g1, 0, rfl, l1, fun q u hq => ?_⟩
        cases q with
        | zero => simp at hq; subst hq; rw [cell_of_row _ _ _ _ _ _ h1]; rfl
        | succ q => simp at hq
      · simp at hj
        subst hj
        refine ⟨g1, 0, rfl, l1, fun q u hq => ?_⟩
        cases q with
        | zero => simp at hq; subst hq; rw [cell_of_row _ _ _ _ _ _ h1]; rfl
        | succ q => simp at hq
    | succ i => simp at hp
theorem san_eval (W : World) (A : Option Addr) (c g1 g2 : Nat) (v x : Int) (t1 t2 : TypeId) (hN : Nodes W W.heap.size A ndsA) (hV : Evs W) (h1 : W.heap[g1]? = some (.cells #[.int .i64 3, .int .i64 x] t1 (0, 0))) (h2 : W.heap[g2]? = some (.cells #[.slice (some ⟨g1, 0, none⟩) 2 2] t2 (0, 0))) (r : Int) (hr : evalF ⟨v, 0, [], [[3, x]]⟩ ndsA = r) :
    Calls Tryz.prog 22 #[.agg #[.slice A 4 c], .agg #[.int .i64 v, .int .i64 0, .slice none 0 0, .slice (some ⟨g2, 0, none⟩) 1 1]] W fun e w' => e = .returned (.int .i64 r) ∧ Below W.heap.size W w' := by
  subst hr
  exact eval_any W A c ndsA hN ndsA_ok (by decide) ⟨v, 0, [], [[3, x]]⟩ none 0 (some ⟨g2, 0, none⟩) 1 (by simp) (fact_one W g1 g2 v x t1 t2 h1 h2) hV
theorem san_text (W : World) (A : Option Addr) (c : Nat) (hN : Nodes W W.heap.size A ndsA) (hE : Env W) : Calls Tryz.prog 16 #[.agg #[.slice A 4 c]] W fun e w' => e = .returned (.string sD) ∧ Below W.heap.size W w' := by
  refine (text_any W A c ndsA hN ndsA_ok ?_ (by decide) ?_ ?_ hE).mono ?_
  · intro nd h
    simp [ndsA] at h
    rcases h with rfl | rfl | rfl | rfl <;> decide
  · intro s h
    rw [textsA] at h
    simp at h
    rcases h with rfl | rfl | rfl | rfl <;> decide
  · intro nd h hk
    simp [ndsA] at h
    rcases h with rfl | rfl | rfl | rfl <;> simp [mkN, mkO] at hk
  · rintro e w' ⟨rfl, hb⟩
    refine ⟨?_, hb⟩
    rw [textF, textsA]
    rfl
theorem san_points (W : World) (A : Option Addr) (c : Nat) (hN : Nodes W W.heap.size A ndsA) : Calls Tryz.prog 19 #[.agg #[.slice A 4 c]] W fun e w' => ∃ B d, e = .returned (.slice B 1 d) ∧ Prs w' w'.heap.size B [(0, 1)] ∧ Below W.heap.size W w' := by
  refine (points_any W A c ndsA hN (by decide) (by rw [ptsA]; exact compact_small 1 (by omega))).mono ?_
  rintro e w' ⟨hb, B, d, ys, rfl, hp, _, hr⟩
  rw [ptsA, List.perm_singleton] at hp
  subst hp
  exact ⟨B, d, rfl, hr, hb⟩
theorem prs_one {W : World} {g : Nat} {a b : Int} {t : TypeId} (h : W.heap[g]? = some (.cells #[.int .i64 a, .int .i64 b] t (0, 0))) : Prs W W.heap.size (some ⟨g, 0, none⟩) [(a, b)] := by
  have l := (Array.getElem?_eq_some_iff.1 h).1
  intro i cs hi
  cases i with
  | zero =>
    simp at hi
    subst hi
    refine ⟨g, 0, rfl, l, fun j u hj => ?_⟩
    have hj2 : j = 0 ∨ j = 1 := by
      have := (List.getElem?_eq_some_iff.1 hj).1
      simp [encP] at this
      omega
    rcases hj2 with rfl | rfl
    · simp [encP] at hj; subst hj; rw [cell_of_row _ _ _ _ _ _ h]; rfl
    · simp [encP] at hj; subst hj; rw [cell_of_row _ _ _ _ _ _ h]; rfl
  | succ i => simp at hi

theorem two_new {W : World} {X Y : Obj} {n : Nat} (h : W.heap.size = n) : ((W.alloc X).alloc Y).heap[n]? = some X ∧ ((W.alloc X).alloc Y).heap[n + 1]? = some Y ∧ Below W.heap.size W ((W.alloc X).alloc Y) := by
  subst h
  exact ⟨(heap_alloc_old _ _ (by simp)).trans (heap_alloc_new _ _), heap_alloc2_new _ _ _, ((Below.refl _ W).alloc (Nat.le_refl _) _).alloc (by simp) _⟩
set_option maxRecDepth 100000 in
set_option maxHeartbeats 4000000 in
theorem sanity_any (w : World) (hE : Env w) (hV : Evs w) : Calls Tryz.prog 9 #[] w fun e w' => e = .returned (.bool true) ∧ Below w.heap.size w w' := by
  have HE := hide hE
  have HV := hide hV
  clear hE hV
  go_enter Tryz.func9, Tryz.ntmps9
  go_wp2_with fail
  refine Calls.mono (san_parse _ HE.out) ?_
  rintro e w1 ⟨A, c, rfl, hN, hb1⟩
  have HN := hide hN
  have HB1 := hide hb1
  clear hN hb1
  obtain ⟨Wa, hWa⟩ : ∃ Wa, Wa = w1.alloc (.cells #[.slice A 4 c] 25) := ⟨_, rfl⟩
  obtain ⟨fb, fk, fs⟩ := fresh_facts hWa
  have HA := hide (show Below w.heap.size w Wa from HB1.out.trans (fb.mono HB1.out.size))
  have KA := hide fk
  have NA := hide ((HN.out.below fb (Nat.le_refl _)).more fb.size)
  have HWa := hide hWa
  have SA := hide fs
  clear hWa fb fk fs HN HB1
  go_wp2_with fail
  rw [← HWa.out]
  refine Calls.mono (san_parseB _ (HE.out.below HA.out)) ?_
  rintro e w2 ⟨A2, n2, c2, rfl, hb2⟩
  obtain ⟨Wb, hWb⟩ : ∃ Wb, Wb = w2.alloc (.cells #[.slice A2 n2 c2] 25) := ⟨_, rfl⟩
  obtain ⟨fb, fk, fs⟩ := fresh_facts hWb
  have fab := hb2.trans (fb.mono hb2.size)
  have HB := hide (show Below w.heap.size w Wb from HA.out.trans (fab.mono HA.out.size))
  have KB := hide ((fab.block _ (World.lt_of_blk KA.out)).trans KA.out)
  have NB := hide ((NA.out.below fab (Nat.le_refl _)).more fab.size)
  have HWb := hide hWb
  clear hWb fb fk fs fab hb2 HA KA NA
  go_wp2_with fail
  rw [← HWb.out]
  refine Calls.mono (san_parseC _ (HE.out.below HB.out)) ?_
  rintro e w3 ⟨A3, n3, c3, rfl, hb3⟩
  obtain ⟨Wc, hWc⟩ : ∃ Wc, Wc = w3.alloc (.cells #[.slice A3 n3 c3] 25) := ⟨_, rfl⟩
  obtain ⟨fb, fk, fs⟩ := fresh_facts hWc
  have fab := hb3.trans (fb.mono hb3.size)
  have HC := hide (show Below w.heap.size w Wc from HB.out.trans (fab.mono HB.out.size))
  have kc := (fab.block _ (World.lt_of_blk KB.out)).trans KB.out
  have k3 := (hb3.block _ (World.lt_of_blk KB.out)).trans KB.out
  have cA : w3.cell? ⟨w1.heap.size, 0, none⟩ = some (.slice A 4 c) := by rw [cell_of_row _ _ _ _ _ _ k3]; rfl
  have ltA := World.lt_of_blk k3
  have SC := hide fs
  clear k3
  have KC := hide kc
  have NC := hide ((NB.out.below fab (Nat.le_refl _)).more fab.size)
  have HWc := hide hWc
  clear hWc fb fk fs fab hb3 HB KB NB kc
  go_wp2_with fail
  rw [← HWc.out]
  obtain ⟨g1, g2, gb⟩ := two_new (W := Wc) (X := .cells #[.int .i64 3, .int .i64 2] 3) (Y := .cells #[.slice (some ⟨w3.heap.size + 1, 0, none⟩) 2 2] 47) SC.out
  refine Calls.mono (san_eval _ A c _ _ 2 2 3 47 ((NC.out.below gb (Nat.le_refl _)).more gb.size) (HV.out.below (HC.out.trans (gb.mono HC.out.size))) g1 g2 1 evalA1) ?_
  rintro e w4 ⟨rfl, hb⟩
  have fab := gb.trans (hb.mono gb.size)
  have H4 := hide (show Below w.heap.size w w4 from HC.out.trans (fab.mono HC.out.size))
  have kc := (fab.block _ (World.lt_of_blk KC.out)).trans KC.out
  clear cA ltA
  have cA : w4.cell? ⟨w1.heap.size, 0, none⟩ = some (.slice A 4 c) := by rw [cell_of_row _ _ _ _ _ _ kc]; rfl
  have ltA := World.lt_of_blk kc
  have K4 := hide kc
  have N4 := hide ((NC.out.below fab (Nat.le_refl _)).more fab.size)
  clear g1 g2 gb hb fab kc
  go_wp2_with fail
  obtain ⟨g1, g2, gb⟩ := two_new (W := w4) (X := .cells #[.int .i64 3, .int .i64 (-1)] 3) (Y := .cells #[.slice (some ⟨w4.heap.size, 0, none⟩) 2 2] 47) rfl
  refine Calls.mono (san_eval _ A c _ _ 2 (-1) 3 47 ((N4.out.below gb (Nat.le_refl _)).more gb.size) (HV.out.below (H4.out.trans (gb.mono H4.out.size))) g1 g2 (-1) evalA2) ?_
  rintro e w5 ⟨rfl, hb⟩
  have fab := gb.trans (hb.mono gb.size)
  have H5 := hide (show Below w.heap.size w w5 from H4.out.trans (fab.mono H4.out.size))
  have kc := (fab.block _ (World.lt_of_blk K4.out)).trans K4.out
  clear cA ltA
  have cA : w5.cell? ⟨w1.heap.size, 0, none⟩ = some (.slice A 4 c) := by rw [cell_of_row _ _ _ _ _ _ kc]; rfl
  have ltA := World.lt_of_blk kc
  have K5 := hide kc
  have N5 := hide ((N4.out.below fab (Nat.le_refl _)).more fab.size)
  clear g1 g2 gb hb fab kc
  go_wp2_with fail
  obtain ⟨g1, g2, gb⟩ := two_new (W := w5) (X := .cells #[.int .i64 3, .int .i64 (-1)] 3) (Y := .cells #[.slice (some ⟨w5.heap.size, 0, none⟩) 2 2] 47) rfl
  refine Calls.mono (san_eval _ A c _ _ 1 (-1) 3 47 ((N5.out.below gb (Nat.le_refl _)).more gb.size) (HV.out.below (H5.out.trans (gb.mono H5.out.size))) g1 g2 0 evalA3) ?_
  rintro e w6 ⟨rfl, hb⟩
  have fab := gb.trans (hb.mono gb.size)
  have H6 := hide (show Below w.heap.size w w6 from H5.out.trans (fab.mono H5.out.size))
  have kc := (fab.block _ (World.lt_of_blk K5.out)).trans K5.out
  clear cA ltA
  have cA : w6.cell? ⟨w1.heap.size, 0, none⟩ = some (.slice A 4 c) := by rw [cell_of_row _ _ _ _ _ _ kc]; rfl
  have ltA := World.lt_of_blk kc
  have K6 := hide kc
  have N6 := hide ((N5.out.below fab (Nat.le_refl _)).more fab.size)
  clear g1 g2 gb hb fab kc
  go_wp2_with fail
  refine Calls.mono (san_text _ A c N6.out (HE.out.below H6.out)) ?_
  rintro e w7 ⟨rfl, fab⟩
  have H7 := hide (show Below w.heap.size w w7 from H6.out.trans (fab.mono H6.out.size))
  have kc := (fab.block _ (World.lt_of_blk K6.out)).trans K6.out
  clear cA ltA
  have cA : w7.cell? ⟨w1.heap.size, 0, none⟩ = some (.slice A 4 c) := by rw [cell_of_row _ _ _ _ _ _ kc]; rfl
  have ltA := World.lt_of_blk kc
  have K7 := hide kc
  have N7 := hide ((N6.out.below fab (Nat.le_refl _)).more fab.size)
  clear fab kc
  have hsd : (sD.toList == [40, 118, 101, 114, 115, 105, 111, 110, 32, 62, 61, 32, 50, 32, 38, 38, 32, 33, 112, 111, 105, 110, 116, 32, 48, 32, 49, 32, 116, 111, 111, 107, 32, 116, 114, 117, 101, 41]) = true := by kernel_rfl
  go_wp2_with fail
  refine Calls.mono (san_points _ A c N7.out) ?_
  rintro e w8 ⟨B, d, rfl, hp, fab⟩
  have H8 := hide (show Below w.heap.size w w8 from H7.out.trans (fab.mono H7.out.size))
  have HP := hide hp
  clear cA ltA hsd hp fab
  go_wp2_with fail
  obtain ⟨Z, hZ⟩ : ∃ Z, Z = w8.alloc (.cells #[.int .i64 0, .int .i64 1] 50) := ⟨_, rfl⟩
  obtain ⟨fb, fk, fs⟩ := fresh_facts hZ
  rw [← hZ]
  refine Calls.mono (pairs_any Z B (some ⟨w8.heap.size, 0, none⟩) d 1 [(0, 1)] [(0, 1)] (by decide) (Row.more (Row.below HP.out fb (Nat.le_refl _)) fb.size) (prs_one fk)) ?_
  rintro e w9 ⟨rfl, hb9⟩
  have H9 := hide (show Below w.heap.size w w9 from H8.out.trans ((fb.trans (hb9.mono fb.size)).mono H8.out.size))
  clear hZ fb fk fs hb9
  go_wp2
  go_ret
  exact ⟨rfl, H9.out⟩
end Go.Proofs.YtbojlnbdkaanmaaGreatDoor
