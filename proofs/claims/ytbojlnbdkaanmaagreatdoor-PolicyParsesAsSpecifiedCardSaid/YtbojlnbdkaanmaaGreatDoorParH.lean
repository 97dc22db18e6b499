/-
  The program's parser of policies, part H: tree, which recovers the panic.
-/
import Derived.Test.YtbojlnbdkaanmaaGreatDoorParG
import Derived.Recover
import Derived.Defers
set_option linter.unusedVariables false
set_option linter.unusedSimpArgs false
namespace Go.Proofs.YtbojlnbdkaanmaaGreatDoor
open Go.RowKit

set_option maxRecDepth 100000 in
theorem catch_panics (w : World) (b0 b1 : Nat) (v0 v1 : Value) (t0 t1 : TypeId) (h0 : w.heap[b0]? = some (.cells #[v0] t0 (0, 0))) (h1 : w.heap[b1]? = some (.cells #[v1] t1 (0, 0))) (hne : b0 ≠ b1) :
    CallsD Tryz.prog 52 #[.pointer (some ⟨b0, 0, none⟩), .pointer (some ⟨b1, 0, none⟩)] (.panicking [{ v := .iface 91 (.agg #[]), recovered := false }]) w fun e u' w' =>
      e = .returned (.tuple #[]) ∧ u' = .panicking [{ v := .iface 91 (.agg #[]), recovered := true }] ∧ w'.heap[b0]? = some (.cells #[.slice none 0 0] t0 (0, 0)) ∧ w'.heap[b1]? = some (.cells #[.bool false] t1 (0, 0)) ∧
        ∀ B, B ≤ b0 → B ≤ b1 → B ≤ w.heap.size → Below B w w' := by
  have l0 : b0 < w.heap.size := (Array.getElem?_eq_some_iff.1 h0).1
  have l1 : b1 < w.heap.size := (Array.getElem?_eq_some_iff.1 h1).1
  refine callsD_of_wpS Tryz.func52 rfl fun c₀ cs hu => ?_
  apply wpS_seq
  apply wpS_region
  simp [wpOpsS, go_sem, recoverD, hu, Tryz.ntmps52, Exit.thenS]
  refine wpS_of_wp ?_
  have c0 := cell_of_one h0
  have c1 := cell_of_one h1
  have f0 := free_of_one h0
  have f1 := free_of_one h1
  have hta : ∀ W, (Instr.typeAssert (.iface 91 (.agg #[])) 20 91 true).run Tryz.prog W = .ok (.tuple #[.agg #[], .bool true]) W := fun _ => by kernel_rfl
  have H0 := hide h0
  have H1 := hide h1
  have Hu := hide hu
  clear h0 h1 hu
  change Code.wp Tryz.prog _ _ { tmps := #[.pointer (some ⟨b0, 0, none⟩), .pointer (some ⟨b1, 0, none⟩), undef, undef, undef, .iface 91 (.agg #[]), undef, undef, undef, undef, undef], defers := [] } _
  go_wp2
  have e0 : ((((w.setCell ⟨b0, 0, none⟩ (.slice none 0 0)).setCell ⟨b1, 0, none⟩ (.bool false)).alloc (.cells #[] 91)).heap[b0]?) = some (.cells #[.slice none 0 0] t0 (0, 0)) := by
    rw [Below.heap_alloc _ _ _ (by simp [World.setCell]; exact l0), Below.heap_setCell _ _ _ _ (by simpa using hne)]
    exact one_setCell H0.out
  have e1 : ((((w.setCell ⟨b0, 0, none⟩ (.slice none 0 0)).setCell ⟨b1, 0, none⟩ (.bool false)).alloc (.cells #[] 91)).heap[b1]?) = some (.cells #[.bool false] t1 (0, 0)) := by
    rw [Below.heap_alloc _ _ _ (by simp [World.setCell]; exact l1)]
    refine one_setCell (v := v1) ?_
    rw [Below.heap_setCell _ _ _ _ (by simpa using Ne.symm hne)]
    exact H1.out
  have e2 : ∀ B, B ≤ b0 → B ≤ b1 → B ≤ w.heap.size → Below B w (((w.setCell ⟨b0, 0, none⟩ (.slice none 0 0)).setCell ⟨b1, 0, none⟩ (.bool false)).alloc (.cells #[] 91)) :=
    fun B p q r => (((Below.refl B w).setCell (p := ⟨b0, 0, none⟩) p _).setCell (p := ⟨b1, 0, none⟩) q _).alloc (by simpa [World.setCell] using r) _
  exact ⟨rfl, _, rfl, .tuple #[], results_none rfl _ _ _, rfl, rfl, e0, e1, e2⟩

set_option maxRecDepth 100000 in
theorem catch_idle (w : World) (p q : Value) : CallsD Tryz.prog 52 #[p, q] .returning w fun e u' w' => e = .returned (.tuple #[]) ∧ u' = .returning ∧ w = w' := by
  refine callsD_of_wpS Tryz.func52 rfl fun c₀ cs hu => ?_
  apply wpS_seq
  apply wpS_region
  simp [wpOpsS, go_sem, recoverD, hu, Tryz.ntmps52, Exit.thenS]
  refine wpS_of_wp ?_
  have Hu := hide hu
  clear hu
  change Code.wp Tryz.prog _ _ { tmps := #[p, q, undef, undef, undef, .nilIface, undef, undef, undef, undef, undef], defers := [] } _
  go_wp2
  refine ⟨rfl, .returning, ?_, .tuple #[], results_none rfl _ _ _, rfl, rfl, rfl⟩
  cases c₀
  have := Hu.out
  simp_all

/-- The parser's state at its start. -/
theorem ps_start {w w' : World} {A : Option Addr} {c : Nat} {ts : List Tok} (ht : Toks w w.heap.size A ts) (hl : ts.length ≤ c) (hm : c ≤ 9223372036854775807) (hb : Below w.heap.size w w') {B : Nat} (hB : w.heap.size ≤ B) (hsz : w'.heap.size = B) :
    PS B B (w'.alloc (.cells #[.slice A ts.length c, .slice none 0 0] 94)) ts [] := by
  subst hsz
  refine ⟨.slice none 0 0, [], A, c, Nat.le_refl _, heap_alloc_new _ _, hl, hm, ?_, rfl, World.ownsRow_nil _ _ _ _, fun i nd o h => by simp at h⟩
  exact ((ht.below hb (Nat.le_refl _)).more hB).below ((Below.refl _ _).alloc (Nat.le_refl _) _) (Nat.le_refl _)

theorem OfRow.ints {w : World} {of : List Int} {o : Value} (h : OfRow w of o) : ∃ Ao co, o = .slice Ao of.length co ∧ Ints w w.heap.size Ao of := by
  rcases h with ⟨rfl, rfl⟩ | ⟨g, rfl, hg⟩
  · exact ⟨none, 0, rfl, Ints.nil_ _ _ _⟩
  · refine ⟨_, _, rfl, fun i cs hi => ⟨g, 0, rfl, (Array.getElem?_eq_some_iff.1 hg).1, fun j v hj => ?_⟩⟩
    rw [List.getElem?_map] at hi
    cases hx : of[i]? with
    | none => rw [hx] at hi; cases hi
    | some x =>
      rw [hx] at hi
      simp at hi
      subst hi
      have hj0 : j = 0 := by
        rcases Nat.eq_zero_or_pos j with h | h
        · exact h
        · rw [List.getElem?_eq_none (by simp; omega)] at hj; cases hj
      subst hj0
      simp at hj
      subst hj
      rw [cell_of_row _ _ _ _ _ _ hg]
      simp [hx]
theorem nodes_of_own {w : World} {B : Nat} {v : Value} {nds : List Nd} {os : List Value} (hos : os.length = nds.length) (hown : w.ownsRow B 67 21 v nds.length (List.zipWith Nd.cells nds os).flatten)
    (hof : ∀ (i : Nat) nd o, nds[i]? = some nd → os[i]? = some o → OfRow w nd.of o) : ∃ A c, v = .slice A nds.length c ∧ nds.length ≤ c ∧ c ≤ 9223372036854775807 ∧ Nodes w w.heap.size A nds := by
  obtain ⟨Ao, co, rfl, hco1, hco2, hrow, _⟩ := Row.of_own hown (by simp [hos]) (fun cs hcs => by
    obtain ⟨i, hi, rfl⟩ := List.getElem_of_mem hcs
    simp [Nd.cells_length])
  exact ⟨Ao, co, rfl, hco1, by simpa [maxLen] using hco2, os, hos, hrow, fun i nd o hi ho => OfRow.ints (hof i nd o hi ho)⟩
theorem own_type {w : World} {B e size n b : Nat} {v : Value} {xs : List Value} {cs : Array Value} {t : TypeId} {f : Nat × Nat} (h : w.ownsRow B e size v n xs) (hb : w.heap[b]? = some (.cells cs t f)) (hne : t ≠ e) : v.ownBlock ≠ some b := by
  rcases h.2 with ⟨e', _⟩ | ⟨g', cap', cur, e', _, hh, _⟩
  · rw [e']; simp [Value.ownBlock]
  · rw [e']
    intro q
    have : g' = b := by simpa [Value.ownBlock] using q
    subst this
    rw [hb] at hh
    injection hh with hh
    injection hh with _ hh _
    exact hne hh
/-- The two stores of tree's results touch no node. -/
theorem tree_end {w1 : World} {B b0 b1 : Nat} {v : Value} {nds : List Nd} {os : List Value} {v0 v1 u0 u1 : Value} (hos : os.length = nds.length) (hown : w1.ownsRow B 67 21 v nds.length (List.zipWith Nd.cells nds os).flatten)
    (hof : ∀ (i : Nat) nd o, nds[i]? = some nd → os[i]? = some o → OfRow w1 nd.of o) (g0 : w1.heap[b0]? = some (.cells #[v0] 23 (0, 0))) (g1 : w1.heap[b1]? = some (.cells #[v1] 4 (0, 0))) :
    ∃ A c, v = .slice A nds.length c ∧ nds.length ≤ c ∧ c ≤ 9223372036854775807 ∧
      Nodes (((w1.setCell ⟨b0, 0, none⟩ u0).setCell ⟨b1, 0, none⟩ u1).drew) (((w1.setCell ⟨b0, 0, none⟩ u0).setCell ⟨b1, 0, none⟩ u1).drew).heap.size A nds := by
  have h1 : (w1.setCell ⟨b0, 0, none⟩ u0).ownsRow B 67 21 v nds.length (List.zipWith Nd.cells nds os).flatten := ownsRow_setCell_other hown (own_type hown g0 (by decide)) _
  have hbb : b1 ≠ b0 := by
    rintro rfl
    rw [g0] at g1
    injection g1 with g1
    injection g1 with _ g1 _
    exact absurd g1 (by decide)
  have g1' : (w1.setCell ⟨b0, 0, none⟩ u0).heap[b1]? = some (.cells #[v1] 4 (0, 0)) := (Below.heap_setCell _ _ _ _ (by simpa using hbb)).trans g1
  have h2 : ((w1.setCell ⟨b0, 0, none⟩ u0).setCell ⟨b1, 0, none⟩ u1).ownsRow B 67 21 v nds.length (List.zipWith Nd.cells nds os).flatten := ownsRow_setCell_other h1 (own_type h1 g1' (by decide)) _
  refine nodes_of_own (w := ((w1.setCell ⟨b0, 0, none⟩ u0).setCell ⟨b1, 0, none⟩ u1).drew) hos h2 fun i nd o hi ho => OfRow.keep (hof i nd o hi ho) fun g c f hg => ?_
  have e0 : g ≠ b0 := by rintro rfl; rw [g0] at hg; injection hg with hg; injection hg with _ hg _; exact absurd hg (by decide)
  have e1 : g ≠ b1 := by rintro rfl; rw [g1] at hg; injection hg with hg; injection hg with _ hg _; exact absurd hg (by decide)
  exact (Below.heap_setCell _ _ _ _ (by simpa using e1)).trans (Below.heap_setCell _ _ _ _ (by simpa using e0))

set_option maxRecDepth 100000 in
set_option maxHeartbeats 2000000 in
theorem tree_any (w : World) (A : Option Addr) (c : Nat) (ts : List Tok) (ht : Toks w w.heap.size A ts) (hl : ts.length ≤ c) (hm : c ≤ 9223372036854775807) (hs : ts.length ≤ 1000000) :
    Calls Tryz.prog 26 #[.slice A ts.length c] w fun e w' => Below w.heap.size w w' ∧
      ((treeF ts = none ∧ ∃ v, e = .returned (.tuple #[v, .bool false])) ∨
       (∃ nds A' c', treeF ts = some nds ∧ e = .returned (.tuple #[.slice A' nds.length c', .bool true]) ∧ Nodes w' w'.heap.size A' nds ∧ nds.length ≤ c' ∧ c' ≤ 9223372036854775807)) := by
  have hmf : ∀ (fn : Fn) (first cap : Array Value) (w : World), (Instr.makeFunc fn first cap).run Tryz.prog w = .ok (.func fn first cap) w := fun _ _ _ _ => rfl
  have HT := hide ht
  have Hl := hide hl
  clear ht hl
  go_enter_defers Tryz.func26, Tryz.ntmps26
  go_wp2_with fail
  obtain ⟨W, hW⟩ : ∃ W, W = (((w.alloc (.cells #[.slice none 0 0] 23)).alloc (.cells #[.bool false] 4)).alloc (.cells #[.slice A ts.length c, .slice none 0 0] 94)) := ⟨_, rfl⟩
  have hb2 : Below w.heap.size w ((w.alloc (.cells #[.slice none 0 0] 23)).alloc (.cells #[.bool false] 4)) := ((Below.refl _ _).alloc (Nat.le_refl _) _).alloc (by simp) _
  have hPS : PS (w.heap.size + 1 + 1) (w.heap.size + 1 + 1) W ts [] := by
    rw [hW]
    exact ps_start HT.out Hl.out hm hb2 (by omega) (by simp)
  have hbW : Below w.heap.size w W := by
    rw [hW]
    exact hb2.alloc (by simp; omega) _
  have k0 : W.heap[w.heap.size]? = some (.cells #[.slice none 0 0] 23 (0, 0)) := by
    rw [hW, Below.heap_alloc _ _ _ (by simp; omega), Below.heap_alloc _ _ _ (by simp)]
    exact heap_alloc_new w _
  have k1 : W.heap[w.heap.size + 1]? = some (.cells #[.bool false] 4 (0, 0)) := by
    rw [hW, Below.heap_alloc _ _ _ (by simp)]
    exact heap_alloc2_new w _ _
  have hWs : W.heap.size = w.heap.size + 1 + 1 + 1 := by rw [hW]; simp
  rw [← hW]
  have HbW := hide hbW
  have K0 := hide k0
  have K1 := hide k1
  have HPS := hide hPS
  have HWs := hide hWs
  clear hb2 hbW k0 k1 hPS hWs hW
  refine Calls.mono (policy_any _ _ W ts hs HPS.out) ?_
  intro e w1 h
  rcases PostP.elim h with ⟨hm1, rfl, hg1⟩ | ⟨a, r, nds, hm1, rfl, hI1, hg1⟩
  · clear h
    have ht : treeF ts = none := by rw [treeF, hm1]
    have j0 := (hg1.block w.heap.size (by omega)).trans K0.out
    have j1 := (hg1.block (w.heap.size + 1) (by omega)).trans K1.out
    go_wp2_with fail
    refine leaves_cons (f := 52) (args := #[.pointer (some ⟨w.heap.size, 0, none⟩), .pointer (some ⟨w.heap.size + 1, 0, none⟩)]) (by simp) (by simp [go_sem]) ?_
    refine (catch_panics w1 _ _ _ _ _ _ j0 j1 (by omega)).mono ?_
    rintro e u' w2 ⟨rfl, rfl, m0, m1, hB⟩
    have hbf : Below w.heap.size w w2 := (HbW.out.trans (hg1.mono (by omega))).trans (hB _ (by omega) (by omega) (by have := hg1.size; have := HWs.out; omega))
    have q0 := cell_of_one m0
    have q1 := cell_of_one m1
    simp [Leaves, settle, results, Tryz.results26, go_sem, ht, hbf, q0, q1]
  · clear h
    obtain ⟨ov, os, hI⟩ := hI1
    have g0 := (hg1.below.block w.heap.size (by omega)).trans K0.out
    have g1 := (hg1.below.block (w.heap.size + 1) (by omega)).trans K1.out
    obtain ⟨A', c', hB', hp, hl', hm', ht', hos, hown, hof⟩ := id hI
    have p0 : w1.cell? ⟨w.heap.size + 1 + 1, 0, none⟩ = some (.slice A' r.length c') := by simp [World.cell?, hp]
    have p1 : w1.cell? ⟨w.heap.size + 1 + 1, 1, none⟩ = some ov := by simp [World.cell?, hp]
    have hE := fun u0 u1 => tree_end (u0 := u0) (u1 := u1) hos hown hof g0 g1
    obtain ⟨Ao, co, rfl, hco1, hco2, _⟩ := hE (.bool true) (.bool true)
    have HE := hide hE
    have hbl : Below w.heap.size w w1 := HbW.out.trans (hg1.below.mono (by omega))
    have Hbl := hide hbl
    have Hhp := hide hp
    have c0 := cell_of_one g0
    have c1 := cell_of_one g1
    have f0 := free_of_one g0
    have f1 := free_of_one g1
    have Hm1 := hide hm1
    have HI := hide hI
    clear hE hbl hown hof hos ht' hp hI hm1
    have hfin : ∀ u0 u1, Below w.heap.size w ((w1.setCell ⟨w.heap.size, 0, none⟩ u0).setCell ⟨w.heap.size + 1, 0, none⟩ u1).drew ∧
        ((w1.setCell ⟨w.heap.size, 0, none⟩ u0).setCell ⟨w.heap.size + 1, 0, none⟩ u1).drew.cell? ⟨w.heap.size, 0, none⟩ = some u0 ∧
        ((w1.setCell ⟨w.heap.size, 0, none⟩ u0).setCell ⟨w.heap.size + 1, 0, none⟩ u1).drew.cell? ⟨w.heap.size + 1, 0, none⟩ = some u1 := by
      intro u0 u1
      refine ⟨((Hbl.out.setCell (p := ⟨w.heap.size, 0, none⟩) (Nat.le_refl _) _).setCell (p := ⟨w.heap.size + 1, 0, none⟩) (by simp) _).drew, ?_, ?_⟩
      · refine cell_of_one (t := 23) ?_
        change ((w1.setCell ⟨w.heap.size, 0, none⟩ u0).setCell ⟨w.heap.size + 1, 0, none⟩ u1).heap[w.heap.size]? = _
        rw [Below.heap_setCell _ _ _ _ (by simp)]
        exact one_setCell g0
      · refine cell_of_one (t := 4) ?_
        change ((w1.setCell ⟨w.heap.size, 0, none⟩ u0).setCell ⟨w.heap.size + 1, 0, none⟩ u1).heap[w.heap.size + 1]? = _
        refine one_setCell (v := .bool false) ?_
        rw [Below.heap_setCell _ _ _ _ (by simp)]
        exact g1
    have Hfin := hide hfin
    clear hfin g0 g1
    cases r with
    | nil =>
      have ht : treeF ts = some nds := by rw [treeF, Hm1.out]; rfl
      have Ht := hide ht
      clear ht
      go_wp2_with fail
      go_region
      all_goals go_wp2
      refine leaves_cons (f := 52) (args := #[.pointer (some ⟨w.heap.size, 0, none⟩), .pointer (some ⟨w.heap.size + 1, 0, none⟩)]) (by simp) (by simp [go_sem]) ?_
      refine (catch_idle _ _ _).mono ?_
      rintro e u' w2 ⟨rfl, rfl, rfl⟩
      obtain ⟨hbf, q0, q1⟩ := Hfin.out (.slice Ao nds.length co) (.bool true)
      obtain ⟨A2, c2, e2, h1, h2, h3⟩ := HE.out (.slice Ao nds.length co) (.bool true)
      generalize ((w1.setCell ⟨w.heap.size, 0, none⟩ (.slice Ao nds.length co)).setCell ⟨w.heap.size + 1, 0, none⟩ (.bool true)).drew = w3 at hbf q0 q1 h3 ⊢
      simp only [Leaves, settle, results, Tryz.results26, go_sem]
      simp [go_sem, q0, q1, Ht.out, hbf]
      cases e2
      exact ⟨_, _, ⟨rfl, rfl⟩, h3, hco1, hco2⟩
    | cons t r =>
      have ht : treeF ts = none := by rw [treeF, Hm1.out]; rfl
      have Ht := hide ht
      clear ht
      go_wp2_with fail
      go_region
      all_goals go_wp2
      refine leaves_cons (f := 52) (args := #[.pointer (some ⟨w.heap.size, 0, none⟩), .pointer (some ⟨w.heap.size + 1, 0, none⟩)]) (by simp) (by simp [go_sem]) ?_
      refine (catch_idle _ _ _).mono ?_
      rintro e u' w2 ⟨rfl, rfl, rfl⟩
      obtain ⟨hbf, q0, q1⟩ := Hfin.out (.slice Ao nds.length co) (.bool false)
      have hz : ((r.length : Int) + 1 == 0) = false := by simp; omega
      simp only [hz]
      generalize ((w1.setCell ⟨w.heap.size, 0, none⟩ (.slice Ao nds.length co)).setCell ⟨w.heap.size + 1, 0, none⟩ (.bool false)).drew = w3 at hbf q0 q1 ⊢
      simp [Leaves, settle, results, Tryz.results26, go_sem, Ht.out, hbf, q0, q1]
