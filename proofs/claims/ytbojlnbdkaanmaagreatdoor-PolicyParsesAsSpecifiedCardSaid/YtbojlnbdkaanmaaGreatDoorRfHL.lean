/-
  The reference's parser: is, must. The reference's parser: must. The reference's parser in plain Lean: what its functions leave, against the program's; and must in its plain form. The reference's parser: with (a node is appended to a copy of the nodes). The reference's parser: digest.
-/
import Derived.Test.YtbojlnbdkaanmaaGreatDoorReg
import Derived.Test.YtbojlnbdkaanmaaGreatDoorTk
import Derived.Outline
import Derived.Test.YtbojlnbdkaanmaaGreatDoorPtsA
import Derived.Test.YtbojlnbdkaanmaaGreatDoorParE
import Derived.Test.YtbojlnbdkaanmaaGreatDoorRfAG
namespace Go.Proofs.YtbojlnbdkaanmaaGreatDoor
open Go.RowKit
set_option linter.unusedSimpArgs false
set_option linter.unusedVariables false

/-- The state of the reference's parser, as a value. -/
def rsV (L : Option Addr) (n cl : Nat) (K : Int) (A : Option Addr) (m ca : Nat) : Value := .agg #[.slice L n cl, .int .i64 K, .slice A m ca]
def isR (ts : List Tok) (K : Int) (kd : Int) (tx : ByteArray) : Bool := if K < 0 then false else isB (ts.drop K.toNat) kd tx.toList
set_option maxHeartbeats 4000000 in
theorem ris_any (w : World) (L : Option Addr) (cl : Nat) (ts : List Tok) (K : Int) (A : Option Addr) (m ca : Nat) (kd : Int) (tx : ByteArray) (hl : ts.length ≤ 1000000) (hK : -1 ≤ K ∧ K ≤ ts.length) (h : Toks w w.heap.size L ts) :
    Calls Tryz.prog 55 #[rsV L ts.length cl K A m ca, .int .i64 kd, .string tx] w fun e w' => e = .returned (.bool (isR ts K kd tx)) ∧ Below w.heap.size w w' := by
  have HT := hide h
  clear h
  simp only [rsV]
  obtain ⟨W, hW⟩ : ∃ W, W = w.alloc (.cells #[.slice L ts.length cl, .int .i64 K, .slice A m ca] 57) := ⟨_, rfl⟩
  obtain ⟨fb, fk, fs⟩ := fresh_facts hW
  have HB := hide fb
  have HW := hide hW
  clear fk fs hW
  by_cases h0 : K < 0
  · have hr : isR ts K kd tx = false := by rw [isR, if_pos h0]
    rw [hr]
    have h0I : decide (K < 0) = true := by simpa using h0
    go_enter Tryz.func55, Tryz.ntmps55
    go_wp2
    go_ret
    exact ⟨rfl, by rw [← HW.out]; exact HB.out⟩
  · obtain ⟨k, rfl⟩ : ∃ k : Nat, K = k := ⟨K.toNat, by omega⟩
    by_cases hlt : k < ts.length
    · obtain ⟨b, off, hA, hbB, c0, c1, c2, c3⟩ := HT.out.at_ hlt
      subst hA
      obtain ⟨t, ht⟩ : ∃ t, ts[k] = t := ⟨_, rfl⟩
      rw [ht] at c0 c1 c2 c3
      have hr : isR ts k kd tx = (t.k == kd && (tx.toList.isEmpty || t.s.toList == tx.toList)) := by
        rw [isR, if_neg h0, Int.toNat_natCast, List.drop_eq_getElem_cons hlt, ht]
        rfl
      have hltI : (k : Int) < (ts.length : Int) := by omega
      have Hr := hide hr
      clear hr ht
      go_enter Tryz.func55, Tryz.ntmps55
      go_wp2
      all_goals go_ret
      all_goals refine ⟨?_, ((Below.refl _ w).alloc (Nat.le_refl _) _).alloc (by simp) _⟩
      all_goals rw [Hr.out]
      all_goals simp_all
    · obtain rfl : k = ts.length := by omega
      have hr : isR ts ts.length kd tx = false := by
        rw [isR, if_neg h0, Int.toNat_natCast, List.drop_length]
        rfl
      rw [hr]
      go_enter Tryz.func55, Tryz.ntmps55
      go_wp2
      go_ret
      exact ⟨rfl, by rw [← HW.out]; exact HB.out⟩
end Go.Proofs.YtbojlnbdkaanmaaGreatDoor
namespace Go.Proofs.YtbojlnbdkaanmaaGreatDoor
open Go.RowKit
set_option linter.unusedSimpArgs false
set_option linter.unusedVariables false

theorem results_two_rows {fn : Func} {p q : Tmp} {ty uy : TypeId} (h : fn.results = #[.cell p ty, .cell q uy]) (tmps : Array Value) (w : World) (g k : Nat) (cs ds : Array Value)
    (hp : tmps.getD p undef = .pointer (some ⟨g, 0, none⟩)) (hq : tmps.getD q undef = .pointer (some ⟨k, 0, none⟩)) (hl : (loadVar ty ⟨g, 0, none⟩).run Tryz.prog w = .ok (.agg cs) w) (hm : (loadVar uy ⟨k, 0, none⟩).run Tryz.prog w = .ok (.agg ds) w) :
    (results fn tmps).run Tryz.prog w = .ok (.tuple #[.agg cs, .agg ds]) w := by
  have e1 : tmps[p]?.getD undef = .pointer (some ⟨g, 0, none⟩) := by simpa using hp
  have e2 : tmps[q]?.getD undef = .pointer (some ⟨k, 0, none⟩) := by simpa using hq
  simp [results, h, e1, e2, asAddr, hl, hm, Result.andThen]
set_option maxRecDepth 100000 in
set_option maxHeartbeats 4000000 in
theorem rmust_any (w : World) (L : Option Addr) (cl : Nat) (ts : List Tok) (K : Int) (A : Option Addr) (m ca : Nat) (kd : Int) (tx : ByteArray) (hl : ts.length ≤ 1000000) (hK : -1 ≤ K ∧ K ≤ ts.length) (h : Toks w w.heap.size L ts) :
    Calls Tryz.prog 74 #[rsV L ts.length cl K A m ca, .int .i64 kd, .string tx] w fun e w' => Below w.heap.size w w' ∧
      ((isR ts K kd tx = false ∧ e = .returned (.tuple #[.agg #[.int .i64 0, .string ⟨#[]⟩, .int .i64 0, .int .i64 0], rsV L ts.length cl (-1) A m ca])) ∨
       (isR ts K kd tx = true ∧ ∃ k : Nat, K = k ∧ ∃ hk : k < ts.length, e = .returned (.tuple #[.agg (ts[k]).cells.toArray, rsV L ts.length cl (k + 1) A m ca]))) := by
  obtain ⟨W3, hW3⟩ : ∃ W3, W3 = ((w.alloc (.cells #[.slice L ts.length cl, .int .i64 K, .slice A m ca] 57)).alloc (.cells #[.int .i64 0, .string ⟨#[]⟩, .int .i64 0, .int .i64 0] 62)).alloc (.cells #[.slice none 0 0, .int .i64 0, .slice none 0 0] 57) := ⟨_, rfl⟩
  have hb3 : Below w.heap.size w W3 := by rw [hW3]; exact (((Below.refl _ w).alloc (Nat.le_refl _) _).alloc (by simp) _).alloc (by simp; omega) _
  have hT3 : Toks W3 W3.heap.size L ts := (h.below hb3 (Nat.le_refl _)).more hb3.size
  have hc := ris_any W3 L cl ts K A m ca kd tx hl hK hT3
  have Hc := hide hc
  have HW3 := hide hW3
  have HB3 := hide hb3
  have HT := hide h
  simp only [rsV] at Hc
  clear h hc hW3 hb3 hT3
  simp only [rsV]
  go_enter Tryz.func74, Tryz.ntmps74
  go_wp2_with fail
  rw [← HW3.out]
  refine Calls.mono Hc.out ?_
  rintro e w4 ⟨rfl, hb⟩
  have g0 : W3.heap[w.heap.size]? = some (.cells #[.slice L ts.length cl, .int .i64 K, .slice A m ca] 57 (0, 0)) := by rw [HW3.out]; exact (heap_alloc_old _ _ (by simp; omega)).trans ((heap_alloc_old _ _ (by simp)).trans (heap_alloc_new w _))
  have g1 : W3.heap[w.heap.size + 1]? = some (.cells #[.int .i64 0, .string ⟨#[]⟩, .int .i64 0, .int .i64 0] 62 (0, 0)) := by rw [HW3.out]; exact (heap_alloc_old _ _ (by simp)).trans (heap_alloc2_new w _ _)
  have g2 : W3.heap[w.heap.size + 2]? = some (.cells #[.slice none 0 0, .int .i64 0, .slice none 0 0] 57 (0, 0)) := by rw [HW3.out]; simpa using heap_alloc_new ((w.alloc (.cells #[.slice L ts.length cl, .int .i64 K, .slice A m ca] 57)).alloc (.cells #[.int .i64 0, .string ⟨#[]⟩, .int .i64 0, .int .i64 0] 62)) (.cells #[.slice none 0 0, .int .i64 0, .slice none 0 0] 57)
  have k0 := (hb.block _ (World.lt_of_blk g0)).trans g0
  have k1 := (hb.block _ (World.lt_of_blk g1)).trans g1
  have k2 := (hb.block _ (World.lt_of_blk g2)).trans g2
  have HB4 := hide (HB3.out.trans (hb.mono HB3.out.size))
  have s0 : w4.cell? ⟨w.heap.size, 0, none⟩ = some (.slice L ts.length cl) := by rw [cell_of_row _ _ _ _ _ _ k0]; rfl
  have s1 : w4.cell? ⟨w.heap.size, 1, none⟩ = some (.int .i64 K) := by rw [cell_of_row _ _ _ _ _ _ k0]; rfl
  have s2 : w4.cell? ⟨w.heap.size, 2, none⟩ = some (.slice A m ca) := by rw [cell_of_row _ _ _ _ _ _ k0]; rfl
  have sf : w4.frozen? ⟨w.heap.size, 1, none⟩ = false := frozen_of_row _ _ _ _ _ k0
  have K0 := hide k0
  have K1 := hide k1
  have K2 := hide k2
  clear g0 g1 g2 k0 k1 k2 hb
  cases hr : isR ts K kd tx with
  | false =>
    obtain ⟨W5, hW5⟩ : ∃ W5, W5 = w4.setCell ⟨w.heap.size, 1, none⟩ (.int .i64 (-1)) := ⟨_, rfl⟩
    have m0 : W5.heap[w.heap.size]? = some (.cells #[.slice L ts.length cl, .int .i64 (-1), .slice A m ca] 57 (0, 0)) := by rw [hW5]; simp [World.setCell, Array.getElem?_modify, K0.out]
    have m1 : W5.heap[w.heap.size + 1]? = some (.cells #[.int .i64 0, .string ⟨#[]⟩, .int .i64 0, .int .i64 0] 62 (0, 0)) := by rw [hW5]; exact (Below.heap_setCell w4 ⟨w.heap.size, 1, none⟩ _ _ (by simp)).trans K1.out
    have m2 : W5.heap[w.heap.size + 1 + 1]? = some (.cells #[.slice none 0 0, .int .i64 0, .slice none 0 0] 57 (0, 0)) := by rw [hW5]; exact (Below.heap_setCell w4 ⟨w.heap.size, 1, none⟩ _ _ (by simp; omega)).trans K2.out
    have hb5 : Below w.heap.size w W5 := by rw [hW5]; exact HB4.out.setCell (p := ⟨w.heap.size, 1, none⟩) (Nat.le_refl _) _
    have M0 := hide m0
    have M1 := hide m1
    have M2 := hide m2
    have HB5 := hide hb5
    have HW5 := hide hW5
    clear m0 m1 m2 hb5 hW5
    go_wp2
    rw [← HW5.out]
    clear s0 s1 s2 sf
    refine wp_region_held (S := fun W' => W'.heap[w.heap.size]? = some (.cells #[.slice L ts.length cl, .int .i64 (-1), .slice A m ca] 57 (0, 0))) (by kernel_rfl) ?_
    change wpAnyH _ _ _ _ _ _ _ _ (World.drew _)
    have HS := hide (show W5.drew.heap[w.heap.size]? = some (.cells #[.slice L ts.length cl, .int .i64 (-1), .slice A m ca] 57 (0, 0)) from M0.out)
    refine takeH (i := 0) (d := 17) (v := .agg #[.int .i64 0, .string ⟨#[]⟩, .int .i64 0, .int .i64 0]) rfl rfl (by kernel_rfl) (by kernel_rfl) (by kernel_rfl) (fun _ _ _ h => h) rfl HS.out ?_ ?_
    · intro W' _; go_simp
    try simp only [Act.put, List.setIfInBounds_toArray, List.set_cons_zero, List.set_cons_succ]
    refine takeH (i := 1) (d := 18) (v := .agg #[.slice L ts.length cl, .int .i64 (-1), .slice A m ca]) rfl rfl (by kernel_rfl) (by kernel_rfl) (by kernel_rfl) (fun _ _ _ h => h) rfl HS.out ?_ ?_
    · intro W' hS; exact y_load1 57 (.tmp 3) rfl w.heap.size rfl 57 _ (0, 0) _ hS Tryz.underlying57 rfl (by kernel_rfl)
    try simp only [Act.put, List.setIfInBounds_toArray, List.set_cons_zero, List.set_cons_succ]
    refine wpAnyH_ready (rs := [2]) (by kernel_rfl) (by simp) ?_
    refine AllReadyH.cons rfl (fun K hK => ?_) AllReadyH.nil
    rw [if_pos (by rfl)]
    refine wp_store_row 62 (.tmp 6) (.tmp 17) rfl (w.heap.size + 1) rfl (.agg #[.int .i64 0, .string ⟨#[]⟩, .int .i64 0, .int .i64 0]) rfl _ _ (show W5.drew.heap[w.heap.size + 1]? = _ from M1.out) rfl (by kernel_rfl) (by kernel_rfl) ?_
    have n0 : (W5.drew.setRow (w.heap.size + 1) #[.int .i64 0, .string ⟨#[]⟩, .int .i64 0, .int .i64 0]).heap[w.heap.size]? = some (.cells #[.slice L ts.length cl, .int .i64 (-1), .slice A m ca] 57 (0, 0)) := (setRow_other _ _ _ _ (by omega)).trans HS.out
    refine hK.out _ _ n0 (fun _ => ?_)
    have N0 := hide n0
    clear hK K n0
    refine wpAnyH_ready (rs := [3]) (by kernel_rfl) (by simp) ?_
    refine AllReadyH.cons rfl (fun K hK => ?_) AllReadyH.nil
    rw [if_pos (by rfl)]
    refine wp_store_row 57 (.tmp 7) (.tmp 18) rfl (w.heap.size + 1 + 1) rfl (.agg #[.slice L ts.length cl, .int .i64 (-1), .slice A m ca]) rfl _ _ ((setRow_other _ _ _ _ (by omega)).trans (show W5.drew.heap[w.heap.size + 1 + 1]? = _ from M2.out)) rfl (by kernel_rfl) (by simp [Value.cells, Value.oneCell']) ?_
    refine hK.out _ _ ((setRow_other _ _ _ _ (by omega)).trans N0.out) (fun _ => ?_)
    clear hK K
    refine wpAnyH_done (by kernel_rfl) ?_ _
    obtain ⟨W6, hW6⟩ : ∃ W6, W6 = (W5.drew.setRow (w.heap.size + 1) (Value.agg #[.int .i64 0, .string ⟨#[]⟩, .int .i64 0, .int .i64 0]).cells).setRow (w.heap.size + 1 + 1) (Value.agg #[.slice L ts.length cl, .int .i64 (-1), .slice A m ca]).cells := ⟨_, rfl⟩
    have r1 : W6.heap[w.heap.size + 1]? = some (.cells #[.int .i64 0, .string ⟨#[]⟩, .int .i64 0, .int .i64 0] 62 (0, 0)) := by rw [hW6]; exact (setRow_other _ _ _ _ (by omega)).trans (setRow_heap _ _ _ _ 62 (0, 0) (show W5.drew.heap[w.heap.size + 1]? = _ from M1.out))
    have r2 : W6.heap[w.heap.size + 1 + 1]? = some (.cells #[.slice L ts.length cl, .int .i64 (-1), .slice A m ca] 57 (0, 0)) := by rw [hW6]; exact setRow_heap _ _ _ _ 57 (0, 0) ((setRow_other _ _ _ _ (by omega)).trans (show W5.drew.heap[w.heap.size + 1 + 1]? = _ from M2.out))
    have hb6 : Below w.heap.size w W6 := by rw [hW6]; exact below_setRow' (below_setRow' (HB5.out.drew) (by omega) _) (by omega) _
    rw [← hW6]
    have R1 := hide r1
    have R2 := hide r2
    have HB6 := hide hb6
    clear r1 r2 hb6 hW6
    simp only [List.getElem_toArray, List.getElem_cons_succ, List.getElem_cons_zero, Act.put]
    go_wp2
    refine bodyPost_ret (results_two_rows Tryz.results74 _ _ (w.heap.size + 1) (w.heap.size + 1 + 1) #[.int .i64 0, .string ⟨#[]⟩, .int .i64 0, .int .i64 0] #[.slice L ts.length cl, .int .i64 (-1), .slice A m ca] rfl rfl (run_loadVar_row _ _ 62 62 _ (0, 0) _ R1.out Tryz.underlying62 rfl (by kernel_rfl)) (run_loadVar_row _ _ 57 57 _ (0, 0) _ R2.out Tryz.underlying57 rfl (by kernel_rfl))) rfl ?_
    exact ⟨HB6.out, Or.inl ⟨hr, rfl⟩⟩
  | true =>
    obtain ⟨k, rfl, hlt⟩ : ∃ k : Nat, K = k ∧ k < ts.length := by
      unfold isR at hr
      by_cases h0 : K < 0
      · rw [if_pos h0] at hr; cases hr
      · rw [if_neg h0] at hr
        refine ⟨K.toNat, by omega, ?_⟩
        obtain ⟨t, r, ht⟩ := isB_cons hr
        have := congrArg List.length ht
        rw [List.length_drop] at this
        simp at this
        omega
    obtain ⟨b, off, hA, hbB, c0, c1, c2, c3⟩ := HT.out.at_ hlt
    subst hA
    have d0 := (HB4.out.cell (p := ⟨b, off + k * 4, none⟩) hbB).trans c0
    have d1 := (HB4.out.cell (p := ⟨b, off + k * 4 + 1, none⟩) hbB).trans c1
    have d2 := (HB4.out.cell (p := ⟨b, off + k * 4 + 2, none⟩) hbB).trans c2
    have d3 := (HB4.out.cell (p := ⟨b, off + k * 4 + 3, none⟩) hbB).trans c3
    obtain ⟨t, ht⟩ : ∃ t, ts[k] = t := ⟨_, rfl⟩
    rw [ht] at d0 d1 d2 d3
    have Ht := hide ht
    have hltI : (k : Int) < (ts.length : Int) := by omega
    clear c0 c1 c2 c3 ht hbB
    have hlt0 := World.lt_of_blk K0.out
    obtain ⟨Wc, hWc⟩ : ∃ Wc, Wc = w4.setCell ⟨w.heap.size, 1, none⟩ (.int .i64 ((k : Int) + 1)) := ⟨_, rfl⟩
    have hszc : Wc.heap.size = w4.heap.size := by rw [hWc]; simp [World.setCell]
    have z0 : Wc.heap[w.heap.size]? = some (.cells #[.slice (some ⟨b, off, none⟩) ts.length cl, .int .i64 ((k : Int) + 1), .slice A m ca] 57 (0, 0)) := by rw [hWc]; simp [World.setCell, Array.getElem?_modify, K0.out]
    have z1 : Wc.heap[w.heap.size + 1]? = some (.cells #[.int .i64 0, .string ⟨#[]⟩, .int .i64 0, .int .i64 0] 62 (0, 0)) := by rw [hWc]; exact (Below.heap_setCell _ ⟨w.heap.size, 1, none⟩ _ _ (by simp)).trans K1.out
    have z2 : Wc.heap[w.heap.size + 1 + 1]? = some (.cells #[.slice none 0 0, .int .i64 0, .slice none 0 0] 57 (0, 0)) := by rw [hWc]; exact (Below.heap_setCell _ ⟨w.heap.size, 1, none⟩ _ _ (by simp; omega)).trans K2.out
    have hbc : Below w.heap.size w Wc := by rw [hWc]; exact HB4.out.setCell (p := ⟨w.heap.size, 1, none⟩) (Nat.le_refl _) _
    obtain ⟨W5, hW5⟩ : ∃ W5, W5 = Wc.alloc (.cells #[.int .i64 t.k, .string t.s, .int .i64 t.n, .int .i64 t.p] 62) := ⟨_, rfl⟩
    have m0 := (show W5.heap[w.heap.size]? = _ by rw [hW5]; exact heap_alloc_old _ _ (World.lt_of_blk z0)).trans z0
    have m1 := (show W5.heap[w.heap.size + 1]? = _ by rw [hW5]; exact heap_alloc_old _ _ (World.lt_of_blk z1)).trans z1
    have m2 := (show W5.heap[w.heap.size + 1 + 1]? = _ by rw [hW5]; exact heap_alloc_old _ _ (World.lt_of_blk z2)).trans z2
    have m3 : W5.heap[w4.heap.size]? = some (.cells #[.int .i64 t.k, .string t.s, .int .i64 t.n, .int .i64 t.p] 62 (0, 0)) := by rw [hW5, ← hszc]; exact heap_alloc_new Wc _
    have hb5 : Below w.heap.size w W5 := by rw [hW5]; exact hbc.alloc hbc.size _
    rw [hWc] at hW5
    clear z0 z1 z2 hbc hszc hWc
    have M0 := hide m0
    have M1 := hide m1
    have M2 := hide m2
    have M3 := hide m3
    have HB5 := hide hb5
    have HW5 := hide hW5
    clear m0 m1 m2 m3 hb5 hW5
    go_wp2
    rw [← HW5.out]
    clear s0 s1 s2 sf d0 d1 d2 d3
    refine wp_region_held (S := fun W' => W'.heap[w.heap.size]? = some (.cells #[.slice (some ⟨b, off, none⟩) ts.length cl, .int .i64 ((k : Int) + 1), .slice A m ca] 57 (0, 0)) ∧ W'.heap[w4.heap.size]? = some (.cells #[.int .i64 t.k, .string t.s, .int .i64 t.n, .int .i64 t.p] 62 (0, 0))) (by kernel_rfl) ?_
    change wpAnyH _ _ _ _ _ _ _ _ (World.drew _)
    have HS := hide (show W5.drew.heap[w.heap.size]? = some (.cells #[.slice (some ⟨b, off, none⟩) ts.length cl, .int .i64 ((k : Int) + 1), .slice A m ca] 57 (0, 0)) ∧ W5.drew.heap[w4.heap.size]? = some (.cells #[.int .i64 t.k, .string t.s, .int .i64 t.n, .int .i64 t.p] 62 (0, 0)) from ⟨M0.out, M3.out⟩)
    have hl1 : w.heap.size + 1 + 1 < w4.heap.size := World.lt_of_blk K2.out
    refine takeH (i := 0) (d := 29) (v := .agg #[.int .i64 t.k, .string t.s, .int .i64 t.n, .int .i64 t.p]) rfl rfl (by kernel_rfl) (by kernel_rfl) (by kernel_rfl) (fun _ _ _ h => h) rfl HS.out ?_ ?_
    · intro W' hS; exact y_load1 62 (.tmp 9) rfl w4.heap.size rfl 62 _ (0, 0) _ hS.2 Tryz.underlying62 rfl (by kernel_rfl)
    try simp only [Act.put, List.setIfInBounds_toArray, List.set_cons_zero, List.set_cons_succ]
    refine takeH (i := 1) (d := 30) (v := .agg #[.slice (some ⟨b, off, none⟩) ts.length cl, .int .i64 ((k : Int) + 1), .slice A m ca]) rfl rfl (by kernel_rfl) (by kernel_rfl) (by kernel_rfl) (fun _ _ _ h => h) rfl HS.out ?_ ?_
    · intro W' hS; exact y_load1 57 (.tmp 3) rfl w.heap.size rfl 57 _ (0, 0) _ hS.1 Tryz.underlying57 rfl (by kernel_rfl)
    try simp only [Act.put, List.setIfInBounds_toArray, List.set_cons_zero, List.set_cons_succ]
    refine wpAnyH_ready (rs := [2]) (by kernel_rfl) (by simp) ?_
    refine AllReadyH.cons rfl (fun K hK => ?_) AllReadyH.nil
    rw [if_pos (by rfl)]
    refine wp_store_row 62 (.tmp 6) (.tmp 29) rfl (w.heap.size + 1) rfl (.agg #[.int .i64 t.k, .string t.s, .int .i64 t.n, .int .i64 t.p]) rfl _ _ (show W5.drew.heap[w.heap.size + 1]? = _ from M1.out) rfl (by kernel_rfl) (by simp [Value.cells, Value.oneCell']) ?_
    have n0 : (W5.drew.setRow (w.heap.size + 1) #[.int .i64 t.k, .string t.s, .int .i64 t.n, .int .i64 t.p]).heap[w.heap.size]? = some (.cells #[.slice (some ⟨b, off, none⟩) ts.length cl, .int .i64 ((k : Int) + 1), .slice A m ca] 57 (0, 0)) ∧ (W5.drew.setRow (w.heap.size + 1) #[.int .i64 t.k, .string t.s, .int .i64 t.n, .int .i64 t.p]).heap[w4.heap.size]? = some (.cells #[.int .i64 t.k, .string t.s, .int .i64 t.n, .int .i64 t.p] 62 (0, 0)) := ⟨(setRow_other _ _ _ _ (by omega)).trans HS.out.1, (setRow_other _ _ _ _ (by omega)).trans HS.out.2⟩
    refine hK.out _ _ n0 (fun _ => ?_)
    have N0 := hide n0
    clear hK K n0
    refine wpAnyH_ready (rs := [3]) (by kernel_rfl) (by simp) ?_
    refine AllReadyH.cons rfl (fun K hK => ?_) AllReadyH.nil
    rw [if_pos (by rfl)]
    refine wp_store_row 57 (.tmp 7) (.tmp 30) rfl (w.heap.size + 1 + 1) rfl (.agg #[.slice (some ⟨b, off, none⟩) ts.length cl, .int .i64 ((k : Int) + 1), .slice A m ca]) rfl _ _ ((setRow_other _ _ _ _ (by omega)).trans (show W5.drew.heap[w.heap.size + 1 + 1]? = _ from M2.out)) rfl (by kernel_rfl) (by simp [Value.cells, Value.oneCell']) ?_
    refine hK.out _ _ ⟨(setRow_other _ _ _ _ (by omega)).trans N0.out.1, (setRow_other _ _ _ _ (by omega)).trans N0.out.2⟩ (fun _ => ?_)
    clear hK K
    refine wpAnyH_done (by kernel_rfl) ?_ _
    obtain ⟨W6, hW6⟩ : ∃ W6, W6 = (W5.drew.setRow (w.heap.size + 1) (Value.agg #[.int .i64 t.k, .string t.s, .int .i64 t.n, .int .i64 t.p]).cells).setRow (w.heap.size + 1 + 1) (Value.agg #[.slice (some ⟨b, off, none⟩) ts.length cl, .int .i64 ((k : Int) + 1), .slice A m ca]).cells := ⟨_, rfl⟩
    have r1 : W6.heap[w.heap.size + 1]? = some (.cells #[.int .i64 t.k, .string t.s, .int .i64 t.n, .int .i64 t.p] 62 (0, 0)) := by rw [hW6]; exact (setRow_other _ _ _ _ (by omega)).trans (setRow_heap _ _ _ _ 62 (0, 0) (show W5.drew.heap[w.heap.size + 1]? = _ from M1.out))
    have r2 : W6.heap[w.heap.size + 1 + 1]? = some (.cells #[.slice (some ⟨b, off, none⟩) ts.length cl, .int .i64 ((k : Int) + 1), .slice A m ca] 57 (0, 0)) := by rw [hW6]; exact setRow_heap _ _ _ _ 57 (0, 0) ((setRow_other _ _ _ _ (by omega)).trans (show W5.drew.heap[w.heap.size + 1 + 1]? = _ from M2.out))
    have hb6 : Below w.heap.size w W6 := by rw [hW6]; exact below_setRow' (below_setRow' (HB5.out.drew) (by omega) _) (by omega) _
    rw [← hW6]
    have R1 := hide r1
    have R2 := hide r2
    have HB6 := hide hb6
    clear r1 r2 hb6 hW6
    simp only [List.getElem_toArray, List.getElem_cons_succ, List.getElem_cons_zero, Act.put]
    go_wp2
    refine bodyPost_ret (results_two_rows Tryz.results74 _ _ (w.heap.size + 1) (w.heap.size + 1 + 1) #[.int .i64 t.k, .string t.s, .int .i64 t.n, .int .i64 t.p] #[.slice (some ⟨b, off, none⟩) ts.length cl, .int .i64 ((k : Int) + 1), .slice A m ca] rfl rfl (run_loadVar_row _ _ 62 62 _ (0, 0) _ R1.out Tryz.underlying62 rfl (by kernel_rfl)) (run_loadVar_row _ _ 57 57 _ (0, 0) _ R2.out Tryz.underlying57 rfl (by kernel_rfl))) rfl ?_
    exact ⟨HB6.out, Or.inr ⟨hr, k, rfl, hlt, by rw [Ht.out]; rfl⟩⟩
end Go.Proofs.YtbojlnbdkaanmaaGreatDoor
namespace Go.Proofs.YtbojlnbdkaanmaaGreatDoor
open Go.RowKit
set_option linter.unusedSimpArgs false
set_option linter.unusedVariables false

def tok0 : Tok := ⟨0, ⟨#[]⟩, 0, 0⟩
/-- What must leaves: the token and the position. -/
def mustR (ts : List Tok) (K : Int) (kd : Int) (tx : ByteArray) : Tok × Int := if isR ts K kd tx then (ts.getD K.toNat tok0, K + 1) else (tok0, -1)
/-- A position against what is left of the tokens. -/
def Live (ts : List Tok) (K : Int) (o : Option (List Tok)) : Prop := match o with | none => K = -1 | some r => ∃ k : Nat, K = k ∧ k ≤ ts.length ∧ ts.drop k = r
theorem Live.none_ {ts : List Tok} {K : Int} : Live ts K none ↔ K = -1 := Iff.rfl
theorem Live.some_ {ts : List Tok} {k : Nat} (h : k ≤ ts.length) : Live ts k (some (ts.drop k)) := ⟨k, rfl, h, rfl⟩
theorem Live.range {ts : List Tok} {K : Int} {o : Option (List Tok)} (h : Live ts K o) : -1 ≤ K ∧ K ≤ ts.length := by
  cases o with
  | none => have : K = -1 := h; omega
  | some r => obtain ⟨k, rfl, hk, _⟩ := h; omega
theorem isR_dead (ts : List Tok) (kd : Int) (tx : ByteArray) : isR ts (-1) kd tx = false := by rw [isR, if_pos (by omega)]
theorem isR_live {ts l : List Tok} {K : Int} (h : Live ts K (some l)) (kd : Int) (tx : ByteArray) : isR ts K kd tx = isB l kd tx.toList := by
  obtain ⟨k, rfl, hk, rfl⟩ := h
  rw [isR, if_neg (by omega), Int.toNat_natCast]
theorem mustR_dead (ts : List Tok) (kd : Int) (tx : ByteArray) : mustR ts (-1) kd tx = (tok0, -1) := by rw [mustR, isR_dead]; simp
theorem Live.next {ts : List Tok} {K : Int} {t : Tok} {r : List Tok} (h : Live ts K (some (t :: r))) : Live ts (K + 1) (some r) ∧ ts.getD K.toNat tok0 = t := by
  obtain ⟨k, rfl, hk, hd⟩ := h
  have hlt : k < ts.length := by
    rcases Nat.lt_or_ge k ts.length with q | q
    · exact q
    · rw [List.drop_eq_nil_of_le q] at hd; cases hd
  rw [List.drop_eq_getElem_cons hlt] at hd
  injection hd with h1 h2
  refine ⟨⟨k + 1, by omega, by omega, h2⟩, ?_⟩
  rw [Int.toNat_natCast, List.getD_eq_getElem?_getD, List.getElem?_eq_getElem hlt]
  exact h1
theorem mustR_fail {ts l : List Tok} {K : Int} (h : Live ts K (some l)) {kd : Int} {tx : ByteArray} (hm : mustF kd tx.toList l = none) : mustR ts K kd tx = (tok0, -1) := by
  rw [mustR, isR_live h, mustF_none.1 hm]
  simp
theorem mustR_ok {ts l r : List Tok} {K : Int} {t : Tok} (h : Live ts K (some l)) {kd : Int} {tx : ByteArray} (hm : mustF kd tx.toList l = some (t, r)) : mustR ts K kd tx = (t, K + 1) ∧ Live ts (K + 1) (some r) := by
  obtain ⟨rfl, hb⟩ := mustF_some.1 hm
  obtain ⟨h1, h2⟩ := h.next
  rw [mustR, isR_live h, hb, h2]
  exact ⟨rfl, h1⟩
/-- must, whatever the position. -/
theorem mustR_any {ts : List Tok} {K : Int} {o : Option (List Tok)} (h : Live ts K o) (kd : Int) (tx : ByteArray) {t : Tok} {K' : Int} (hm : mustR ts K kd tx = (t, K')) :
    Live ts K' (o.bind fun l => (mustF kd tx.toList l).map (·.2)) ∧ ∀ l t' r, o = some l → mustF kd tx.toList l = some (t', r) → t = t' := by
  cases o with
  | none =>
    have h : K = -1 := h
    subst h
    rw [mustR_dead] at hm
    injection hm with h1 h2
    exact ⟨h2.symm, fun _ _ _ e => by cases e⟩
  | some l =>
    cases hf : mustF kd tx.toList l with
    | none =>
      rw [mustR_fail h hf] at hm
      injection hm with h1 h2
      refine ⟨?_, fun l' t' r e he => ?_⟩
      · simp only [Option.bind_some, hf]
        exact h2.symm
      · injection e with e; subst e; rw [hf] at he; cases he
    | some p =>
      obtain ⟨t', r⟩ := p
      obtain ⟨h1, h2⟩ := mustR_ok h hf
      rw [h1] at hm
      injection hm with h3 h4
      subst h4
      refine ⟨?_, fun l' t2 r2 e he => ?_⟩
      · simp only [Option.bind_some, hf]
        exact h2
      · injection e with e; subst e; rw [hf] at he; injection he with he; injection he with he _; rw [← h3, he]
theorem mustR_range {ts : List Tok} {K : Int} (h : -1 ≤ K ∧ K ≤ ts.length) (kd : Int) (tx : ByteArray) {t : Tok} {K' : Int} (hm : mustR ts K kd tx = (t, K')) : -1 ≤ K' ∧ K' ≤ ts.length := by
  unfold mustR at hm
  cases hi : isR ts K kd tx with
  | false => rw [hi] at hm; simp at hm; omega
  | true =>
    rw [hi] at hm
    simp at hm
    unfold isR at hi
    split at hi
    · cases hi
    · rename_i h0
      obtain ⟨t, r, ht⟩ := isB_cons hi
      have := congrArg List.length ht
      rw [List.length_drop] at this
      simp at this
      omega

/-! ### The parts of an atom -/
def PairOk (ts : List Tok) (x : Nd) (K' : Int) (o : Option (Nd × List Tok)) : Prop := Live ts K' (o.map (·.2)) ∧ ∀ x' r, o = some (x', r) → x = x'
theorem PairOk.no {ts : List Tok} {x : Nd} {K' : Int} {o : Option (Nd × List Tok)} (h : o = none) (hK : Live ts K' none) : PairOk ts x K' o := by subst h; exact ⟨hK, fun _ _ e => by cases e⟩
theorem PairOk.yes {ts : List Tok} {x : Nd} {K' : Int} {o : Option (Nd × List Tok)} {r : List Tok} (h : o = some (x, r)) (hK : Live ts K' (some r)) : PairOk ts x K' o := by
  subst h
  exact ⟨hK, fun _ _ e => by injection e with e; injection e⟩

section
variable {ts l : List Tok} {K : Int}
/-- A comparison with '=='. -/
theorem cmp_eq (h : Live ts K (some l)) {s2 s0 : ByteArray} (hs2 : s2.toList = [61, 61]) (hs0 : s0.toList = []) (he : isR ts K 3 s2 = true) {m : Tok} {K2 : Int} (hm : mustR ts (K + 1) 2 s0 = (m, K2)) (eq al : Int) :
    PairOk ts (mkN eq m.n 0 0) K2 (compareF eq al l) := by
  rw [isR_live h, hs2] at he
  obtain ⟨t, r, rfl⟩ := isB_cons he
  have h1 := (h.next).1
  obtain ⟨h2, h3⟩ := mustR_any h1 2 s0 hm
  rw [hs0] at h2 h3
  unfold compareF
  rw [if_pos he]
  rw [List.tail_cons]
  cases hf : mustF 2 [] r with
  | none => exact PairOk.no rfl (by simpa [hf] using h2)
  | some p =>
    obtain ⟨t', r'⟩ := p
    rw [h3 _ _ _ rfl hf]
    exact PairOk.yes rfl (by simpa [hf] using h2)
/-- A comparison with '>='. -/
theorem cmp_ge (h : Live ts K (some l)) {s2 s3 s0 : ByteArray} (hs2 : s2.toList = [61, 61]) (hs3 : s3.toList = [62, 61]) (hs0 : s0.toList = []) (he : isR ts K 3 s2 = false) {t1 m : Tok} {K1 K2 : Int} (hm1 : mustR ts K 3 s3 = (t1, K1)) (hm : mustR ts K1 2 s0 = (m, K2)) (eq al : Int) :
    PairOk ts (mkN al m.n 0 0) K2 (compareF eq al l) := by
  rw [isR_live h, hs2] at he
  obtain ⟨h1, _⟩ := mustR_any h 3 s3 hm1
  obtain ⟨h2, h3⟩ := mustR_any h1 2 s0 hm
  rw [hs3] at h2 h3
  rw [hs0] at h2 h3
  unfold compareF
  rw [he]
  simp only [Bool.false_eq_true, if_false]
  cases hf : mustF 3 [62, 61] l with
  | none => exact PairOk.no rfl (by simpa [hf] using h2)
  | some p =>
    obtain ⟨t', r'⟩ := p
    cases hf2 : mustF 2 [] r' with
    | none => exact PairOk.no (by simp [hf2]) (by simpa [hf, hf2] using h2)
    | some p2 =>
      obtain ⟨t2, r2⟩ := p2
      rw [h3 r' t2 r2 (by simp [hf]) hf2]
      exact PairOk.yes (r := r2) (by simp [hf2]) (by simpa [hf, hf2] using h2)
/-- What digest leaves, against the program's. -/
def RDig (ts : List Tok) (d : Nat → Int) (K' : Int) (o : Option (List Tok)) : Prop :=
  Live ts K' (o.bind fun l => (digestF l).map (·.2)) ∧ ∀ l d' r, o = some l → digestF l = some (d', r) → d = d'
theorem stage_ok (h : Live ts K (some l)) {s0 s1 : ByteArray} (hs0 : s0.toList = []) (hs1 : s1.toList = tIs) {m t2 : Tok} {K1 K2 K3 : Int} (hm : mustR ts K 2 s0 = (m, K1)) (hm2 : mustR ts K1 1 s1 = (t2, K2)) {d : Nat → Int}
    (hd : ∀ o, Live ts K2 o → RDig ts d K3 o) : PairOk ts ⟨6, m.n, 0, 0, d, []⟩ K3 (stageF l) := by
  obtain ⟨h1, e1⟩ := mustR_any h 2 s0 hm
  obtain ⟨h2, _⟩ := mustR_any h1 1 s1 hm2
  rw [hs0] at h1 e1 h2
  rw [hs1] at h2
  obtain ⟨h3, e3⟩ := hd _ h2
  unfold stageF
  cases hf : mustF 2 [] l with
  | none => exact PairOk.no rfl (by simpa [hf] using h3)
  | some p =>
    obtain ⟨a, r1⟩ := p
    cases hf2 : mustF 1 tIs r1 with
    | none => exact PairOk.no (by simp [hf2]) (by simpa [hf, hf2] using h3)
    | some p2 =>
      obtain ⟨t', r2⟩ := p2
      cases hf3 : digestF r2 with
      | none => exact PairOk.no (by simp [hf2, hf3]) (by simpa [hf, hf2, hf3] using h3)
      | some p3 =>
        obtain ⟨d', r3⟩ := p3
        rw [e1 _ _ _ rfl hf, e3 r2 d' r3 (by simp [hf, hf2]) hf3]
        exact PairOk.yes (r := r3) (by simp [hf2, hf3]) (by simpa [hf, hf2, hf3] using h3)
theorem point_head (h : Live ts K (some l)) {s0 sT : ByteArray} (hs0 : s0.toList = []) (hsT : sT.toList = tTook) {m n t3 : Tok} {K1 K2 K3 : Int} (hm : mustR ts K 2 s0 = (m, K1)) (hm2 : mustR ts K1 2 s0 = (n, K2)) (hm3 : mustR ts K2 1 sT = (t3, K3)) :
    (pointF l = none ∧ K3 = -1) ∨ ∃ r3, Live ts K3 (some r3) ∧ pointF l = match sideF r3 with | none => none | some (s, r4) => some (mkN 7 m.n n.n s, r4) := by
  obtain ⟨h1, e1⟩ := mustR_any h 2 s0 hm
  obtain ⟨h2, e2⟩ := mustR_any h1 2 s0 hm2
  obtain ⟨h3, _⟩ := mustR_any h2 1 sT hm3
  rw [hs0] at h1 e1 h2 e2 h3
  rw [hsT] at h3
  unfold pointF
  cases hf : mustF 2 [] l with
  | none => exact .inl ⟨rfl, Live.none_.1 (by simpa [hf] using h3)⟩
  | some p =>
    obtain ⟨a, r1⟩ := p
    cases hf2 : mustF 2 [] r1 with
    | none => exact .inl ⟨by simp [hf2], Live.none_.1 (by simpa [hf, hf2] using h3)⟩
    | some p2 =>
      obtain ⟨b, r2⟩ := p2
      cases hf3 : mustF 1 tTook r2 with
      | none => exact .inl ⟨by simp [hf2, hf3], Live.none_.1 (by simpa [hf, hf2, hf3] using h3)⟩
      | some p3 =>
        obtain ⟨c, r3⟩ := p3
        refine .inr ⟨r3, by simpa [hf, hf2, hf3] using h3, ?_⟩
        rw [e1 _ _ _ rfl hf, e2 r1 b r2 (by simp [hf]) hf2]
        simp only [hf2, hf3]
        cases sideF r3 <;> rfl
theorem point_true (h : Live ts K (some l)) {s0 sT sY : ByteArray} (hs0 : s0.toList = []) (hsT : sT.toList = tTook) (hsY : sY.toList = tTrue) {m n t3 : Tok} {K1 K2 K3 : Int} (hm : mustR ts K 2 s0 = (m, K1)) (hm2 : mustR ts K1 2 s0 = (n, K2)) (hm3 : mustR ts K2 1 sT = (t3, K3))
    (hy : isR ts K3 1 sY = true) : PairOk ts (mkN 7 m.n n.n 1) (K3 + 1) (pointF l) := by
  rcases point_head h hs0 hsT hm hm2 hm3 with ⟨_, h2⟩ | ⟨r3, h1, h2⟩
  · rw [h2, isR_dead] at hy; cases hy
  · rw [isR_live h1, hsY] at hy
    obtain ⟨t, r, rfl⟩ := isB_cons hy
    rw [h2, sideF, if_pos hy]
    exact PairOk.yes rfl h1.next.1
theorem point_false (h : Live ts K (some l)) {s0 sT sY sN : ByteArray} (hs0 : s0.toList = []) (hsT : sT.toList = tTook) (hsY : sY.toList = tTrue) (hsN : sN.toList = tFalse) {m n t3 t4 : Tok} {K1 K2 K3 K4 : Int} (hm : mustR ts K 2 s0 = (m, K1)) (hm2 : mustR ts K1 2 s0 = (n, K2)) (hm3 : mustR ts K2 1 sT = (t3, K3))
    (hy : isR ts K3 1 sY = false) (hm4 : mustR ts K3 1 sN = (t4, K4)) : PairOk ts (mkN 7 m.n n.n 2) K4 (pointF l) := by
  rcases point_head h hs0 hsT hm hm2 hm3 with ⟨h1, h2⟩ | ⟨r3, h1, h2⟩
  · subst h2
    rw [mustR_dead] at hm4
    injection hm4 with _ e
    exact PairOk.no h1 e.symm
  · rw [isR_live h1, hsY] at hy
    obtain ⟨h4, _⟩ := mustR_any h1 1 sN hm4
    rw [hsN] at h4
    rw [h2, sideF, hy]
    simp only [Bool.false_eq_true, if_false]
    cases hf : mustF 1 tFalse r3 with
    | none => exact PairOk.no rfl (by simpa [hf] using h4)
    | some p =>
      obtain ⟨c, r⟩ := p
      exact PairOk.yes rfl (by simpa [hf] using h4)
/-- An atom's first word. -/
theorem atom_ok (h : Live ts K (some l)) {s0 : ByteArray} (hs0 : s0.toList = []) {t : Tok} {K1 : Int} (hm : mustR ts K 1 s0 = (t, K1)) :
    (atomF l = none ∧ K1 = -1 ∧ t.s.toList = []) ∨ ∃ r, Live ts K1 (some r) ∧ atomF l = (if t.s.toList == tAny then some (mkN 1 0 0 0, r)
    else if t.s.toList == tVersion then compareF 2 3 r
    else if t.s.toList == tEpoch then compareF 4 5 r
    else if t.s.toList == tStage then stageF r
    else if t.s.toList == tPoint then pointF r
    else none) := by
  obtain ⟨h1, e1⟩ := mustR_any h 1 s0 hm
  rw [hs0] at h1 e1
  unfold atomF
  cases hf : mustF 1 [] l with
  | none =>
    rw [mustR_fail h (by rw [hs0]; exact hf)] at hm
    injection hm with h2 h3
    exact .inl ⟨rfl, h3.symm, by rw [← h2]; simp [tok0]⟩
  | some p =>
    obtain ⟨a, r⟩ := p
    rw [e1 _ _ _ rfl hf]
    exact .inr ⟨r, by simpa [hf] using h1, rfl⟩
end
/-- must, in the form that the walks ask. -/
theorem rmust_r (w : World) (L : Option Addr) (cl : Nat) (ts : List Tok) (K : Int) (A : Option Addr) (m ca : Nat) (kd : Int) (tx : ByteArray) (hl : ts.length ≤ 1000000) (hK : -1 ≤ K ∧ K ≤ ts.length) (h : Toks w w.heap.size L ts) :
    Calls Tryz.prog 74 #[.agg #[.slice L ts.length cl, .int .i64 K, .slice A m ca], .int .i64 kd, .string tx] w fun e w' => ∃ t K', e = .returned (.tuple #[.agg #[.int .i64 t.k, .string t.s, .int .i64 t.n, .int .i64 t.p], .agg #[.slice L ts.length cl, .int .i64 K', .slice A m ca]]) ∧
      mustR ts K kd tx = (t, K') ∧ Below w.heap.size w w' := by
  refine (rmust_any w L cl ts K A m ca kd tx hl hK h).mono ?_
  rintro e w' ⟨hb, ⟨hr, rfl⟩ | ⟨hr, k, rfl, hlt, rfl⟩⟩
  · exact ⟨tok0, -1, rfl, by rw [mustR, hr]; rfl, hb⟩
  · refine ⟨ts[k], k + 1, rfl, ?_, hb⟩
    rw [mustR, hr, if_pos rfl, Int.toNat_natCast, List.getD_eq_getElem?_getD, List.getElem?_eq_getElem hlt]
    rfl
end Go.Proofs.YtbojlnbdkaanmaaGreatDoor
namespace Go.Proofs.YtbojlnbdkaanmaaGreatDoor
open Go.RowKit
set_option linter.unusedSimpArgs false
set_option linter.unusedVariables false

theorem blk_lt {w : World} {g : Nat} {o : Obj} (h : w.heap[g]? = some o) : g < w.heap.size := (Array.getElem?_eq_some_iff.1 h).1
theorem flatten_inv {css : List (List Value)} {sz : Nat} (hsz : ∀ cs ∈ css, cs.length = sz) : ∀ (j : Nat) (u : Value), css.flatten[j]? = some u → ∃ i cs r, css[i]? = some cs ∧ cs[r]? = some u ∧ j = i * sz + r := by
  induction css with
  | nil => intro j u h; simp at h
  | cons c r ih =>
    intro j u h
    have hc : c.length = sz := hsz c (by simp)
    rw [List.flatten_cons] at h
    by_cases hlt : j < c.length
    · rw [List.getElem?_append_left hlt] at h
      exact ⟨0, c, j, rfl, h, by omega⟩
    · rw [List.getElem?_append_right (by omega)] at h
      obtain ⟨i, cs, q, h1, h2, h3⟩ := ih (fun cs hcs => hsz cs (by simp [hcs])) _ u h
      refine ⟨i + 1, cs, q, by simpa using h1, h2, ?_⟩
      rw [Nat.add_mul]
      omega
theorem Row.flat {w : World} {B sz : Nat} {ad : Addr} {css : List (List Value)} (h : Row w B sz (some ad) css) (hsz : ∀ cs ∈ css, cs.length = sz) : ∀ j u, css.flatten[j]? = some u → w.cell? (ad.add j) = some u := by
  intro j u hj
  obtain ⟨i, cs, r, h1, h2, rfl⟩ := flatten_inv hsz j u hj
  obtain ⟨b, off, hA, hb, hc⟩ := h i cs h1
  cases hA
  have := hc r u h2
  rw [show (⟨b, off, none⟩ : Addr).add (i * sz + r) = ⟨b, off + i * sz + r, none⟩ by unfold Addr.add; split <;> simp_all <;> omega]
  exact this
theorem Row.none_nil {w : World} {B sz : Nat} {css : List (List Value)} (h : Row w B sz none css) : css = [] := by
  cases css with
  | nil => rfl
  | cons c r => obtain ⟨_, _, hA, _⟩ := h 0 c rfl; cases hA
theorem flatten_len {css : List (List Value)} {sz : Nat} (hsz : ∀ cs ∈ css, cs.length = sz) : css.flatten.length = css.length * sz := by
  induction css with
  | nil => simp
  | cons c r ih =>
    rw [List.flatten_cons, List.length_append, hsz c (by simp), ih (fun cs hcs => hsz cs (by simp [hcs])), List.length_cons, Nat.add_mul]
    omega
theorem run_append_none {P : Program} (w : World) (t ty e : TypeId) (i : TypeInfo) (ht : P.underlying t = some (.slice e)) (hi : P.info? e = some i) (ad : Addr) (n c0 c : Nat) (h : n ≤ c0) :
    (Builtin.append_ #[t, t] ty #[.slice (some ad) n c0, .slice none 0 c]).run P w = .ok (.slice (some ad) n c0) w := by
  simp [Builtin.append_, run_underlying ht, sizeOf, typeInfo, hi, Builtin.lenOf, Builtin.firstCells, h, storeCells]

theorem heap_third (w : World) (a b c : Obj) : (((w.alloc a).alloc b).alloc c).heap[w.heap.size + 2]? = some c := by
  have := heap_alloc_new ((w.alloc a).alloc b) c
  simpa using this
/-- Behind the blocks that with begins with: the state, the node, the result. -/
structure WI (w V : World) (rs nd : Array Value) : Prop where
  bel : Below w.heap.size w V
  k0 : V.heap[w.heap.size]? = some (.cells rs 57 (0, 0))
  k1 : V.heap[w.heap.size + 1]? = some (.cells nd 67 (0, 0))
  k2 : V.heap[w.heap.size + 2]? = some (.cells #[.slice none 0 0, .int .i64 0, .slice none 0 0] 57 (0, 0))
theorem WI.lt {w V : World} {rs nd : Array Value} (h : WI w V rs nd) : w.heap.size + 3 ≤ V.heap.size := blk_lt h.k2
theorem WI.alloc {w V : World} {rs nd : Array Value} (h : WI w V rs nd) (o : Obj) : WI w (V.alloc o) rs nd := by
  have hl := h.lt
  exact ⟨h.bel.alloc (by omega) o, (heap_alloc_old _ _ (by omega)).trans h.k0, (heap_alloc_old _ _ (by omega)).trans h.k1, (heap_alloc_old _ _ (by omega)).trans h.k2⟩
theorem WI.grown {w V V' : World} {rs nd : Array Value} {row : Option Nat} (h : WI w V rs nd) (hg : V.grownBy V' row) (hr : ∀ k, row = some k → w.heap.size + 3 ≤ k) : WI w V' rs nd := by
  have hl := h.lt
  have key : ∀ k, k < w.heap.size + 3 → V'.heap[k]? = V.heap[k]? := fun k hk => hg.block k (by omega) (fun e => by have := hr k e.symm; omega)
  refine ⟨⟨hg.os.trans h.bel.os, hg.tape.trans h.bel.tape, hg.output.trans h.bel.output, Nat.le_trans h.bel.size hg.size, fun k hk => (key k (by omega)).trans (h.bel.block k hk)⟩, (key _ (by omega)).trans h.k0, (key _ (by omega)).trans h.k1, (key _ (by omega)).trans h.k2⟩
/-- The running world of the region that draws: what its operations have left so far. -/
structure WS (w V : World) (rs nd : Array Value) (css : List (List Value)) (e5 f10 : Option Nat) (e8 : Option Value) : Prop where
  wi : WI w V rs nd
  h5 : ∀ g, e5 = some g → V.ownsRow (w.heap.size + 3) 67 21 (.slice (some ⟨g, 0, none⟩) 0 0) 0 []
  h10 : ∀ g, f10 = some g → w.heap.size + 3 ≤ g ∧ V.heap[g]? = some (.cells nd 67 (0, 0)) ∧ e5 ≠ some g
  h8 : ∀ v, e8 = some v → V.ownsRow (w.heap.size + 3) 67 21 v css.length css.flatten ∧ ∀ g, f10 = some g → v.ownBlock ≠ some g
section
variable {w V V' : World} {rs nd : Array Value} {css : List (List Value)} {e5 f10 : Option Nat} {e8 : Option Value}
theorem WS.t0 (h : WS w V rs nd css none f10 none) : WS w (V.alloc (.cells #[] 67)) rs nd css (some V.heap.size) f10 none := by
  refine ⟨h.wi.alloc _, fun g hg => ?_, fun g hg => ?_, fun v hv => by cases hv⟩
  · cases hg
    exact ⟨rfl, .inr ⟨_, 0, #[], rfl, h.wi.lt, heap_alloc_new _ _, Nat.le_refl _, by simp [maxLen], by simp, by simp⟩⟩
  · obtain ⟨a, b, _⟩ := h.h10 g hg
    have hl := blk_lt b
    exact ⟨a, (heap_alloc_old _ _ hl).trans b, fun e => by injection e with e; omega⟩
theorem WS.t5 (h : WS w V rs nd css e5 none e8) : WS w (V.alloc (.cells nd 67)) rs nd css e5 (some V.heap.size) e8 := by
  refine ⟨h.wi.alloc _, fun g hg => (h.h5 g hg).alloc _, fun g hg => ?_, fun v hv => ⟨(h.h8 v hv).1.alloc _, fun g hg e => ?_⟩⟩
  · cases hg
    refine ⟨h.wi.lt, heap_alloc_new _ _, fun e => ?_⟩
    have := ((h.h5 _ e).lt _ rfl).2
    exact Nat.lt_irrefl _ this
  · cases hg
    have := ((h.h8 v hv).1.lt _ e).2
    omega
theorem WS.t3 {g0 : Nat} (h : WS w V rs nd css (some g0) f10 none) (hg : V.grownBy V' (some g0)) {v : Value} (hv : V'.ownsRow (w.heap.size + 3) 67 21 v css.length css.flatten) (hat : v.ownBlock = some g0 ∨ v.ownBlock = some V.heap.size) :
    WS w V' rs nd css none f10 (some v) := by
  have hb := (h.h5 g0 rfl).lt g0 rfl
  refine ⟨h.wi.grown hg (fun k e => by injection e with e; omega), fun g e => (by cases e), fun g hf => ?_, fun u hu => ?_⟩
  · obtain ⟨a, b, c⟩ := h.h10 g hf
    have hl := blk_lt b
    exact ⟨a, (hg.block g hl (fun e => c e.symm)).trans b, fun e => by cases e⟩
  · cases hu
    refine ⟨hv, fun g hf e => ?_⟩
    obtain ⟨a, b, c⟩ := h.h10 g hf
    have hl := blk_lt b
    rcases hat with q | q
    · exact c (q.symm.trans e)
    · rw [q] at e; injection e with e; omega
theorem WS.t6 {g : Nat} {v : Value} (h : WS w V rs nd css none (some g) (some v)) (hg : V.grownBy V' v.ownBlock) : WI w V' rs nd :=
  h.wi.grown hg (fun k e => ((h.h8 v rfl).1.lt k e).1)
/-- The copy of the nodes. -/
theorem step_copy {ops : Array Oper} {o : Oper} {a : Act} {K : Act → World → Prop} {Q : Exit → Act → World → Prop} {E : Prop} (hgd : o.guard = none) (s x : Operand)
    (ho : o.op = .call { callee := .builtin .append, args := #[s, x], argTypes := #[23, 23] }) {g0 : Nat} (h : WS w V rs nd css (some g0) f10 none) (hs : a.eval s = .slice (some ⟨g0, 0, none⟩) 0 0)
    {A : Option Addr} {m c : Nat} (hx : a.eval x = .slice A m c) {B : Nat} (hr : Row V B 21 A css) (hm : css.length = m) (hsz : ∀ cs ∈ css, cs.length = 21) (h1 : ∀ u ∈ css.flatten, u.oneCell' = true) (hl : m ≤ 1000000)
    (hK : ∀ v V', WS w V' rs nd css none f10 (some v) → K (a.put o.dst v) V') :
    if Region.wanted o (yielded ops a.tmps) = true then Oper.wp Tryz.prog o a V K Q else E := by
  have hw : Region.wanted o (yielded ops a.tmps) = true := by simp [Region.wanted, hgd]
  rw [if_pos hw]
  obtain ⟨i0, hi0, hz0, hz1, hz2⟩ := info_parts info67
  have hown := h.h5 g0 rfl
  have hrun : ∃ v V', (Builtin.append_ #[23, 23] o.type #[.slice (some ⟨g0, 0, none⟩) 0 0, .slice A m c]).run Tryz.prog V = .ok v V' ∧ V'.ownsRow (w.heap.size + 3) 67 21 v css.length css.flatten ∧ V.grownBy V' (some g0) ∧ (v.ownBlock = some g0 ∨ v.ownBlock = some V.heap.size) := by
    cases A with
    | none =>
      obtain rfl := hr.none_nil
      obtain rfl : m = 0 := by rw [← hm]; rfl
      refine ⟨_, V, run_append_none V 23 o.type 67 i0 Tryz.underlying23 hi0 ⟨g0, 0, none⟩ 0 0 c (Nat.le_refl _), hown, ⟨rfl, rfl, rfl, Nat.le_refl _, fun _ _ _ => rfl⟩, .inl rfl⟩
    | some ad =>
      obtain ⟨v', w', hrr, h2, h3, _, h5⟩ := run_append_own_at (P := Tryz.prog) V (w.heap.size + 3) 23 o.type 67 i0 _ 21 72 Tryz.underlying23 hi0 hz0 hz1 hz2 rfl (by decide) _ 0 [] hown ad m c css.flatten (by rw [flatten_len hsz, hm]) (hr.flat hsz) h1 (by simp only [maxLen]; omega) (by omega) h.wi.lt
      refine ⟨v', w', hrr, ?_, h3, ?_⟩
      · rw [hm]
        simpa using h2
      · rcases h5 with q | q
        · exact .inl q
        · exact .inr q
  obtain ⟨v, V', hr1, hr2, hr3, hr4⟩ := hrun
  unfold Oper.wp execOp
  simp only [ho, resolve, invoke, builtin, Sem.run_bind, Sem.run_pure, Result.andThen_ok, List.map_toArray, List.map_cons, List.map_nil, hs, hx, hr1]
  exact hK v V' (h.t3 hr3 hr2 hr4)
/-- A node in a block of its own. -/
theorem step_node {ops : Array Oper} {o : Oper} {a : Act} {K : Act → World → Prop} {Q : Exit → Act → World → Prop} {E : Prop} (hgd : o.guard = none) (x : Operand) (ho : o.op = .buildSlice 23 1 #[(0, x)]) {y : Nd} {oc : Value} (hnd : (y.cells oc).toArray = nd)
    (hx : a.eval x = .agg nd) (hK : K (a.put o.dst (.slice (some ⟨V.heap.size, 0, none⟩) 1 1)) (V.alloc (.cells nd 67))) :
    if Region.wanted o (yielded ops a.tmps) = true then Oper.wp Tryz.prog o a V K Q else E := by
  have hw : Region.wanted o (yielded ops a.tmps) = true := by simp [Region.wanted, hgd]
  rw [if_pos hw]
  subst hnd
  simp only [Nd.cells] at hx hK
  unfold Oper.wp execOp
  simp only [ho, List.map_toArray, List.map_cons, List.map_nil, hx]
  go_simp
  exact hK
/-- The new node behind the copy. -/
theorem step_more {ops : Array Oper} {o : Oper} {a : Act} {K : Act → World → Prop} {Q : Exit → Act → World → Prop} {E : Prop} (hgd : o.guard = none) (s x : Operand)
    (ho : o.op = .call { callee := .builtin .append, args := #[s, x], argTypes := #[23, 23] }) {g : Nat} {v : Value} (h : WS w V rs nd css none (some g) (some v)) (hs : a.eval s = v) (hx : a.eval x = .slice (some ⟨g, 0, none⟩) 1 1)
    (hn : nd.size = 21) (h1 : ∀ u ∈ nd.toList, u.oneCell' = true) (hl : css.length ≤ 1000000)
    (hK : ∀ b cap V', WI w V' rs nd → V'.ownsRow (w.heap.size + 3) 67 21 (.slice (some ⟨b, 0, none⟩) (css.length + 1) cap) (css.length + 1) (css.flatten ++ nd.toList) → K (a.put o.dst (.slice (some ⟨b, 0, none⟩) (css.length + 1) cap)) V') :
    if Region.wanted o (yielded ops a.tmps) = true then Oper.wp Tryz.prog o a V K Q else E := by
  obtain ⟨i0, hi0, hz0, hz1, hz2⟩ := info_parts info67
  obtain ⟨_, hb, _⟩ := h.h10 g rfl
  refine step_append_lies V hgd s x 23 ho (w.heap.size + 3) 67 i0 _ 21 72 Tryz.underlying23 hi0 hz0 hz1 hz2 rfl (by decide) v css.length css.flatten hs (h.h8 v rfl).1 ⟨g, 0, none⟩ 1 1 nd.toList hx (by simpa using hn) (World.news_of_block hb) h1 (by decide) (by simp only [maxLen]; omega) (by omega) h.wi.lt _ rfl ?_
  intro b cap V' h2 h3 _ _
  exact hK b cap V' (h.t6 h3) h2
end
/-- A row whose block is one of those that P names; so are numbers and nodes. -/
def RowP (w : World) (P : Nat → Prop) (sz : Nat) (A : Option Addr) (css : List (List Value)) : Prop :=
  ∀ i cs, css[i]? = some cs → ∃ b off, A = some ⟨b, off, none⟩ ∧ P b ∧ ∀ j v, cs[j]? = some v → w.cell? ⟨b, off + i * sz + j, none⟩ = some v
def IntsP (w : World) (P : Nat → Prop) (A : Option Addr) (xs : List Int) : Prop := RowP w P 1 A (xs.map fun x => [.int .i64 x])
def NodesP (w : World) (P : Nat → Prop) (A : Option Addr) (nds : List Nd) : Prop :=
  ∃ os : List Value, os.length = nds.length ∧ RowP w P 21 A (List.zipWith Nd.cells nds os) ∧
    ∀ (i : Nat) nd o, nds[i]? = some nd → os[i]? = some o → ∃ Ao co, o = .slice Ao nd.of.length co ∧ IntsP w P Ao nd.of
section
variable {w W : World} {P P' : Nat → Prop} {B sz : Nat} {A : Option Addr} {css : List (List Value)} {xs : List Int} {nds : List Nd}
theorem RowP.keep (h : RowP w P sz A css) (hk : ∀ b, P b → W.heap[b]? = w.heap[b]?) (hP : ∀ b, P b → P' b) : RowP W P' sz A css := by
  intro i cs hi
  obtain ⟨b, off, rfl, hb, hc⟩ := h i cs hi
  exact ⟨b, off, rfl, hP b hb, fun j v hj => (World.cell?_of_block (a := ⟨b, off + i * sz + j, none⟩) (hk b hb)).trans (hc j v hj)⟩
theorem RowP.row (h : RowP w P sz A css) (hP : ∀ b, P b → b < B) : Row w B sz A css := by
  intro i cs hi
  obtain ⟨b, off, rfl, hb, hc⟩ := h i cs hi
  exact ⟨b, off, rfl, hP b hb, hc⟩
theorem RowP.of_row (h : Row w B sz A css) : RowP w (fun b => b < B) sz A css := h
theorem NodesP.keep (h : NodesP w P A nds) (hk : ∀ b, P b → W.heap[b]? = w.heap[b]?) (hP : ∀ b, P b → P' b) : NodesP W P' A nds := by
  obtain ⟨os, h1, h2, h3⟩ := h
  refine ⟨os, h1, h2.keep hk hP, fun i nd o hi ho => ?_⟩
  obtain ⟨Ao, co, e, hx⟩ := h3 i nd o hi ho
  exact ⟨Ao, co, e, RowP.keep hx hk hP⟩
theorem NodesP.nodes (h : NodesP w P A nds) (hP : ∀ b, P b → b < B) : Nodes w B A nds := by
  obtain ⟨os, h1, h2, h3⟩ := h
  refine ⟨os, h1, h2.row hP, fun i nd o hi ho => ?_⟩
  obtain ⟨Ao, co, e, hx⟩ := h3 i nd o hi ho
  exact ⟨Ao, co, e, RowP.row hx hP⟩
theorem NodesP.nil_ (w : World) (P : Nat → Prop) (A : Option Addr) : NodesP w P A [] := ⟨[], rfl, fun i cs h => by simp at h, fun i nd o h => by simp at h⟩
theorem IntsP.nil_ (w : World) (P : Nat → Prop) (A : Option Addr) : IntsP w P A [] := fun i cs h => by simp at h
end
/-- What with leaves. -/
def WPost (w : World) (P : Nat → Prop) (L : Option Addr) (n cl : Nat) (K : Int) (nds : List Nd) (x : Nd) (e : Ending) (w' : World) : Prop :=
  Below w.heap.size w w' ∧ ∃ A' ca', e = .returned (rsV L n cl K A' (nds.length + 1) ca') ∧ NodesP w' (fun b => P b ∨ (w.heap.size ≤ b ∧ b < w'.heap.size)) A' (nds ++ [x]) ∧ nds.length + 1 ≤ ca' ∧ ca' ≤ 9223372036854775807
theorem with_nodes {w V : World} {P : Nat → Prop} (hP : ∀ b, P b → b < w.heap.size) {nds : List Nd} {os : List Value} {x : Nd} {Ao : Option Addr} {co b cap : Nat} (hb : Below w.heap.size w V) (hos : os.length = nds.length)
    (hof : ∀ (i : Nat) nd o, nds[i]? = some nd → os[i]? = some o → ∃ Ao co, o = .slice Ao nd.of.length co ∧ IntsP w P Ao nd.of) (ho : IntsP w P Ao x.of)
    (hown : V.ownsRow (w.heap.size + 3) 67 21 (.slice (some ⟨b, 0, none⟩) (nds.length + 1) cap) (nds.length + 1) ((List.zipWith Nd.cells nds os).flatten ++ x.cells (.slice Ao x.of.length co))) :
    NodesP V (fun k => P k ∨ (w.heap.size ≤ k ∧ k < V.heap.size)) (some ⟨b, 0, none⟩) (nds ++ [x]) ∧ nds.length + 1 ≤ cap ∧ cap ≤ 9223372036854775807 := by
  rw [← zip_snoc hos] at hown
  obtain ⟨A, c, e, q1, q2, q3, q4⟩ := Row.of_own hown (by simp [hos]) (fun cs hcs => by
    obtain ⟨i, hi, rfl⟩ := List.mem_iff_getElem.1 hcs
    rw [List.getElem_zipWith]
    rfl)
  injection e with e1 e2 e3
  subst e1
  subst e3
  have hkp : ∀ k, P k → V.heap[k]? = w.heap[k]? := fun k hk => hb.block k (hP k hk)
  have q5 := q4 b 0 none rfl
  refine ⟨⟨os ++ [.slice Ao x.of.length co], by simp [hos], fun i cs hi => ?_, fun i nd o hi' ho' => ?_⟩, q1, by simp only [maxLen] at q2; omega⟩
  · obtain ⟨b', off, e, h1, h2⟩ := q3 i cs hi
    cases e
    exact ⟨b, 0, rfl, .inr ⟨by omega, h1⟩, h2⟩
  rcases Nat.lt_or_ge i nds.length with hlt | hge
  · rw [List.getElem?_append_left hlt] at hi'
    rw [List.getElem?_append_left (by omega)] at ho'
    obtain ⟨A2, c2, e, h⟩ := hof i nd o hi' ho'
    exact ⟨A2, c2, e, RowP.keep h hkp (fun _ h => .inl h)⟩
  · have h0 : i = nds.length := by
      rcases Nat.lt_or_ge nds.length i with q | q
      · rw [List.getElem?_eq_none (by simp; omega)] at hi'; cases hi'
      · omega
    subst h0
    rw [List.getElem?_append_right (Nat.le_refl _)] at hi'
    rw [List.getElem?_append_right (by omega)] at ho'
    simp at hi'
    simp [hos] at ho'
    subst hi'
    subst ho'
    exact ⟨Ao, co, rfl, RowP.keep ho hkp (fun _ h => .inl h)⟩
theorem with_end {w V : World} {L : Option Addr} {n cl nn ca b cap : Nat} {K : Int} {A : Option Addr} {rs nd : Array Value} {xs : List Value} (hi : WI w V rs nd) (hrs : rs = #[.slice L n cl, .int .i64 K, .slice A nn ca])
    (hown : V.ownsRow (w.heap.size + 3) 67 21 (.slice (some ⟨b, 0, none⟩) (nn + 1) cap) (nn + 1) xs) :
    V.cell? ⟨w.heap.size, 2, none⟩ = some (.slice A nn ca) ∧ V.frozen? ⟨w.heap.size, 2, none⟩ = false ∧
    WI w (V.setCell ⟨w.heap.size, 2, none⟩ (.slice (some ⟨b, 0, none⟩) (nn + 1) cap)) #[.slice L n cl, .int .i64 K, .slice (some ⟨b, 0, none⟩) (nn + 1) cap] nd ∧
    (V.setCell ⟨w.heap.size, 2, none⟩ (.slice (some ⟨b, 0, none⟩) (nn + 1) cap)).ownsRow (w.heap.size + 3) 67 21 (.slice (some ⟨b, 0, none⟩) (nn + 1) cap) (nn + 1) xs := by
  subst hrs
  have hb : w.heap.size + 3 ≤ b := (hown.lt b rfl).1
  refine ⟨by rw [cell_of_row _ _ _ _ _ _ hi.k0]; rfl, frozen_of_row _ _ _ _ _ hi.k0, ⟨hi.bel.setCell (p := ⟨w.heap.size, 2, none⟩) (Nat.le_refl _) _, ?_, ?_, ?_⟩, ?_⟩
  · simp [World.setCell, Array.getElem?_modify, hi.k0]
  · exact (Below.heap_setCell _ ⟨w.heap.size, 2, none⟩ _ _ (by simp)).trans hi.k1
  · exact (Below.heap_setCell _ ⟨w.heap.size, 2, none⟩ _ _ (by simp)).trans hi.k2
  · refine ownsRow_setCell_other hown (fun e => ?_) _
    have e : b = w.heap.size := by simpa [Value.ownBlock] using e
    omega
theorem with_post {w Z : World} {P : Nat → Prop} (hP : ∀ b, P b → b < w.heap.size) {L : Option Addr} {n cl nn : Nat} {K : Int} {rs nd : Array Value} {nds : List Nd} {os : List Value} {x : Nd} {Ao : Option Addr} {co b cap : Nat} {css : List (List Value)} (hi : WI w Z rs nd)
    (hown : Z.ownsRow (w.heap.size + 3) 67 21 (.slice (some ⟨b, 0, none⟩) (nn + 1) cap) (nn + 1) (css.flatten ++ nd.toList)) (hnn : nds.length = nn) (hcss : List.zipWith Nd.cells nds os = css) (hnd : nd.toList = x.cells (.slice Ao x.of.length co))
    (hos : os.length = nds.length) (hof : ∀ (i : Nat) nd o, nds[i]? = some nd → os[i]? = some o → ∃ Ao co, o = .slice Ao nd.of.length co ∧ IntsP w P Ao nd.of) (ho : IntsP w P Ao x.of) :
    WPost w P L n cl K nds x (.returned (.agg #[.slice L n cl, .int .i64 K, .slice (some ⟨b, 0, none⟩) (nn + 1) cap])) (Z.setRow (w.heap.size + 2) #[.slice L n cl, .int .i64 K, .slice (some ⟨b, 0, none⟩) (nn + 1) cap]) := by
  subst hnn
  subst hcss
  rw [hnd] at hown
  have hb : w.heap.size + 3 ≤ b := (hown.lt b rfl).1
  have hg : Z.grownBy (Z.setRow (w.heap.size + 2) #[.slice L n cl, .int .i64 K, .slice (some ⟨b, 0, none⟩) (nds.length + 1) cap]) (some (w.heap.size + 2)) := ⟨rfl, rfl, rfl, by simp, fun k _ hk => setRow_other _ _ _ _ (fun e => hk (by rw [e]))⟩
  have hne : (Value.slice (some ⟨b, 0, none⟩) (nds.length + 1) cap).ownBlock ≠ some (w.heap.size + 2) := by
    intro e
    have e : b = w.heap.size + 2 := by simpa [Value.ownBlock] using e
    omega
  have hown2 := hown.kept hg (.inr hne)
  have hb2 : Below w.heap.size w (Z.setRow (w.heap.size + 2) #[.slice L n cl, .int .i64 K, .slice (some ⟨b, 0, none⟩) (nds.length + 1) cap]) := below_setRow' hi.bel (by omega) _
  obtain ⟨q1, q2, q3⟩ := with_nodes hP hb2 hos hof ho hown2
  exact ⟨hb2, some ⟨b, 0, none⟩, cap, rfl, q1, q2, q3⟩
set_option maxRecDepth 100000 in
set_option maxHeartbeats 8000000 in
theorem rwith_any (w : World) (L : Option Addr) (n cl : Nat) (K : Int) (A : Option Addr) (ca : Nat) (nds : List Nd) (x : Nd) (Ao : Option Addr) (co : Nat) (P : Nat → Prop) (hP : ∀ b, P b → b < w.heap.size) (hN : NodesP w P A nds) (ho : IntsP w P Ao x.of) (hl : nds.length ≤ 1000000) :
    Calls Tryz.prog 56 #[rsV L n cl K A nds.length ca, .agg (x.cells (.slice Ao x.of.length co)).toArray] w (WPost w P L n cl K nds x) := by
  obtain ⟨os, hos, hrowP, hof⟩ := hN
  have hrow := hrowP.row hP
  clear hrowP
  obtain ⟨nd, hnd⟩ : ∃ nd, (x.cells (.slice Ao x.of.length co)).toArray = nd := ⟨_, rfl⟩
  have hns : nd.size = 21 := by rw [← hnd]; rfl
  have hn1 : ∀ u ∈ nd.toList, u.oneCell' = true := by rw [← hnd]; exact Nd.cells_one rfl
  have hn2 : nd.all (·.oneCell') = true := by rw [← hnd]; exact nd_one rfl
  have hn3 : nd.toList = x.cells (.slice Ao x.of.length co) := by rw [← hnd]
  rw [hnd]
  obtain ⟨css, hcss⟩ : ∃ css, List.zipWith Nd.cells nds os = css := ⟨_, rfl⟩
  have hcl : css.length = nds.length := by rw [← hcss]; simp [hos]
  have hc21 : ∀ cs ∈ css, cs.length = 21 := by
    intro cs h
    rw [← hcss] at h
    obtain ⟨i, hi, rfl⟩ := List.mem_iff_getElem.1 h
    rw [List.getElem_zipWith]
    rfl
  have hc1 : ∀ u ∈ css.flatten, u.oneCell' = true := by
    intro u hu
    rw [← hcss] at hu
    obtain ⟨cs, h1, h2⟩ := List.mem_flatten.1 hu
    obtain ⟨i, hi, rfl⟩ := List.mem_iff_getElem.1 h1
    rw [List.getElem_zipWith] at h2
    simp at hi
    obtain ⟨Ai, ci, e, _⟩ := hof i nds[i] os[i] (List.getElem?_eq_getElem (by omega)) (List.getElem?_eq_getElem (by omega))
    exact Nd.cells_one (by rw [e]; rfl) u h2
  rw [hcss] at hrow
  obtain ⟨V0, hV0⟩ : ∃ V0, V0 = ((w.alloc (.cells #[.slice L n cl, .int .i64 K, .slice A nds.length ca] 57)).alloc (.cells nd 67)).alloc (.cells #[.slice none 0 0, .int .i64 0, .slice none 0 0] 57) := ⟨_, rfl⟩
  have h0 : WS w V0.drew #[.slice L n cl, .int .i64 K, .slice A nds.length ca] nd css none none none := by
    refine ⟨⟨?_, ?_, ?_, ?_⟩, fun g e => (by cases e), fun g e => (by cases e), fun g e => (by cases e)⟩
    · rw [hV0]; exact ((((Below.refl _ w).alloc (Nat.le_refl _) _).alloc (by simp) _).alloc (by simp; omega) _).drew
    · rw [hV0]; exact (heap_alloc_old _ _ (by simp; omega)).trans ((heap_alloc_old _ _ (by simp)).trans (heap_alloc_new w _))
    · rw [hV0]; exact (heap_alloc_old _ _ (by simp)).trans (heap_alloc2_new w _ _)
    · rw [hV0]; exact heap_third _ _ _ _
  have HS := hide h0
  have HV0 := hide hV0
  have Hns := hide hns
  have Hnd := hide hnd
  have Hn1 := hide hn1
  have Hn2 := hide hn2
  have Hn3 := hide hn3
  have Hcss := hide hcss
  have Hcl := hide hcl
  have Hc21 := hide hc21
  have Hc1 := hide hc1
  have Hrow := hide hrow
  have Hof := hide hof
  have Ho := hide ho
  have Hos := hide hos
  have HP := hide hP
  clear hP hos hrow hof hnd hns hn1 hn2 hn3 hcss hcl hc21 hc1 hV0 h0 ho
  simp only [rsV]
  obtain ⟨nn, hnn⟩ : ∃ nn, nds.length = nn := ⟨_, rfl⟩
  have Hnn := hide hnn
  rw [hnn] at HV0 HS hl ⊢
  clear hnn
  obtain ⟨rs, hrs⟩ : ∃ rs : Array Value, rs = #[.slice L n cl, .int .i64 K, .slice A nn ca] := ⟨_, rfl⟩
  rw [← hrs] at HS
  have Hrs := hide hrs
  clear hrs
  go_enter Tryz.func56, Tryz.ntmps56
  go_wp2_with fail
  rw [← HV0.out]
  refine wp_region_held (S := fun V => V.heap[w.heap.size + 1]? = some (.cells nd 67 (0, 0))) (by kernel_rfl) ?_
  change wpAnyH _ _ _ _ _ _ _ _ (World.drew _)
  generalize V0.drew = V at HS
  refine takeH (i := 1) (d := 6) (v := .pointer (some ⟨w.heap.size, 2, none⟩)) rfl rfl (by kernel_rfl) (by kernel_rfl) (by kernel_rfl) (fun _ _ _ h => h) rfl HS.out.wi.k1 ?_ ?_
  · intro W' _; go_simp
  try simp only [Act.put, List.setIfInBounds_toArray, List.set_cons_zero, List.set_cons_succ]
  refine takeH (i := 4) (d := 9) (v := .agg nd) rfl rfl (by kernel_rfl) (by kernel_rfl) (by kernel_rfl) (fun _ _ _ h => h) rfl HS.out.wi.k1 ?_ ?_
  · intro W' hS; exact y_load1 67 (.tmp 3) rfl (w.heap.size + 1) rfl 67 _ (0, 0) _ hS Tryz.underlying67 rfl (by rw [Hns.out]; kernel_rfl)
  try simp only [Act.put, List.setIfInBounds_toArray, List.set_cons_zero, List.set_cons_succ]
  refine wpAnyH_ready (rs := [0, 2, 5]) (by kernel_rfl) (by simp) ?_
  refine AllReadyH.cons rfl (fun K hK => ?_) (AllReadyH.cons rfl (fun K hK => ?_) (AllReadyH.cons rfl (fun K hK => ?_) (AllReadyH.nil)))
  · go_simp
    obtain ⟨V1, hV⟩ : ∃ V1, V1 = V.alloc (.cells #[] 67) := ⟨_, rfl⟩
    have ht := HS.out.t0
    rw [← hV] at ht ⊢
    replace HS := hide ht
    obtain ⟨g5, hg5⟩ : ∃ g5, g5 = V.heap.size := ⟨_, rfl⟩
    rw [← hg5] at HS ⊢
    clear ht hV hg5
    refine hK.out _ _ HS.out.wi.k1 (fun _ => ?_)
    clear hK K
    try simp only [Act.put, List.setIfInBounds_toArray, List.set_cons_zero, List.set_cons_succ]
    refine wpAnyH_ready (rs := [2, 5]) (by kernel_rfl) (by simp) ?_
    refine AllReadyH.cons rfl (fun K hK => ?_) (AllReadyH.cons rfl (fun K hK => ?_) (AllReadyH.nil))
    · have q2 : V1.cell? ⟨w.heap.size, 2, none⟩ = some (.slice A nn ca) := by rw [cell_of_row _ _ _ _ _ _ HS.out.wi.k0, Hrs.out]; rfl
      go_simp
      clear q2
      refine hK.out _ _ HS.out.wi.k1 (fun _ => ?_)
      clear hK K
      try simp only [Act.put, List.setIfInBounds_toArray, List.set_cons_zero, List.set_cons_succ]
      refine wpAnyH_ready (rs := [3, 5]) (by kernel_rfl) (by simp) ?_
      refine AllReadyH.cons rfl (fun K hK => ?_) (AllReadyH.cons rfl (fun K hK => ?_) (AllReadyH.nil))
      · refine step_copy rfl (.tmp 5) (.tmp 7) rfl HS.out rfl rfl (Hrow.out.below HS.out.wi.bel (Nat.le_refl _)) (by rw [Hcl.out]; exact Hnn.out) Hc21.out Hc1.out hl ?_
        intro v8 V2 ht
        replace HS := hide ht
        clear ht
        refine hK.out _ _ HS.out.wi.k1 (fun _ => ?_)
        clear hK K
        try simp only [Act.put, List.setIfInBounds_toArray, List.set_cons_zero, List.set_cons_succ]
        refine wpAnyH_ready (rs := [5]) (by kernel_rfl) (by simp) ?_
        refine AllReadyH.cons rfl (fun K hK => ?_) (AllReadyH.nil)
        refine step_node rfl (.tmp 9) rfl Hnd.out rfl ?_
        obtain ⟨V3, hV⟩ : ∃ V3, V3 = V2.alloc (.cells nd 67) := ⟨_, rfl⟩
        have ht := HS.out.t5
        rw [← hV] at ht ⊢
        replace HS := hide ht
        obtain ⟨g10, hg10⟩ : ∃ g10, g10 = V2.heap.size := ⟨_, rfl⟩
        rw [← hg10] at HS ⊢
        clear ht hV hg10
        refine hK.out _ _ HS.out.wi.k1 (fun _ => ?_)
        clear hK K
        try simp only [Act.put, List.setIfInBounds_toArray, List.set_cons_zero, List.set_cons_succ]
        refine wpAnyH_ready (rs := [6]) (by kernel_rfl) (by simp) ?_
        refine AllReadyH.cons rfl (fun K hK => ?_) (AllReadyH.nil)
        refine step_more rfl (.tmp 8) (.tmp 10) rfl HS.out rfl rfl Hns.out Hn1.out (by rw [Hcl.out, Hnn.out]; exact hl) ?_
        intro b cap V4 hi hown
        refine hK.out _ _ hi.k1 (fun _ => ?_)
        clear hK K
        try simp only [Act.put, List.setIfInBounds_toArray, List.set_cons_zero, List.set_cons_succ]
        rw [Hcl.out, Hnn.out] at hown ⊢
        have HI := hide hi
        have HW := hide hown
        clear hi hown HS
        refine takeH (i := 7) (d := 12) (v := .pointer (some ⟨w.heap.size, 2, none⟩)) rfl rfl (by kernel_rfl) (by kernel_rfl) (by kernel_rfl) (fun _ _ _ h => h) rfl HI.out.k1 ?_ ?_
        · intro W' _; go_simp
        try simp only [Act.put, List.setIfInBounds_toArray, List.set_cons_zero, List.set_cons_succ]
        refine wpAnyH_ready (rs := [8]) (by kernel_rfl) (by simp) ?_
        refine AllReadyH.cons rfl (fun K hK => ?_) AllReadyH.nil
        have q := with_end HI.out Hrs.out HW.out
        obtain ⟨q0, q1, q2⟩ := q
        have Q2 := hide q2
        clear q2
        go_simp
        refine hK.out _ _ Q2.out.1.k1 (fun _ => ?_)
        clear hK K q0 q1
        refine wpAnyH_done (by kernel_rfl) ?_ _
        generalize V4.setCell ⟨w.heap.size, 2, none⟩ (.slice (some ⟨b, 0, none⟩) (nn + 1) cap) = Z at Q2 ⊢
        go_wp2_with (first
          | (with_reducible refine wpList_load_row rfl 57 (.tmp 2) rfl w.heap.size rfl 57 _ (0, 0) _ Q2.out.1.k0 Tryz.underlying57 rfl (by kernel_rfl) ?_)
          | (with_reducible refine wpList_store_row rfl 57 (.tmp 4) (.tmp 13) rfl (w.heap.size + 2) rfl _ rfl _ _ Q2.out.1.k2 rfl (by kernel_rfl) (by kernel_rfl) ?_))
        refine bodyPost_ret (results_cell_row Tryz.results56 _ _ (w.heap.size + 2) 57 _ (0, 0) _ rfl (setRow_heap _ _ _ _ 57 (0, 0) Q2.out.1.k2) Tryz.underlying57 rfl (by kernel_rfl)) rfl ?_
        exact with_post HP.out Q2.out.1 Q2.out.2 Hnn.out Hcss.out Hn3.out Hos.out Hof.out Ho.out
      · refine step_node rfl (.tmp 9) rfl Hnd.out rfl ?_
        obtain ⟨V2, hV⟩ : ∃ V2, V2 = V1.alloc (.cells nd 67) := ⟨_, rfl⟩
        have ht := HS.out.t5
        rw [← hV] at ht ⊢
        replace HS := hide ht
        obtain ⟨g10, hg10⟩ : ∃ g10, g10 = V1.heap.size := ⟨_, rfl⟩
        rw [← hg10] at HS ⊢
        clear ht hV hg10
        refine hK.out _ _ HS.out.wi.k1 (fun _ => ?_)
        clear hK K
        try simp only [Act.put, List.setIfInBounds_toArray, List.set_cons_zero, List.set_cons_succ]
        refine wpAnyH_ready (rs := [3]) (by kernel_rfl) (by simp) ?_
        refine AllReadyH.cons rfl (fun K hK => ?_) (AllReadyH.nil)
        refine step_copy rfl (.tmp 5) (.tmp 7) rfl HS.out rfl rfl (Hrow.out.below HS.out.wi.bel (Nat.le_refl _)) (by rw [Hcl.out]; exact Hnn.out) Hc21.out Hc1.out hl ?_
        intro v8 V3 ht
        replace HS := hide ht
        clear ht
        refine hK.out _ _ HS.out.wi.k1 (fun _ => ?_)
        clear hK K
        try simp only [Act.put, List.setIfInBounds_toArray, List.set_cons_zero, List.set_cons_succ]
        refine wpAnyH_ready (rs := [6]) (by kernel_rfl) (by simp) ?_
        refine AllReadyH.cons rfl (fun K hK => ?_) (AllReadyH.nil)
        refine step_more rfl (.tmp 8) (.tmp 10) rfl HS.out rfl rfl Hns.out Hn1.out (by rw [Hcl.out, Hnn.out]; exact hl) ?_
        intro b cap V4 hi hown
        refine hK.out _ _ hi.k1 (fun _ => ?_)
        clear hK K
        try simp only [Act.put, List.setIfInBounds_toArray, List.set_cons_zero, List.set_cons_succ]
        rw [Hcl.out, Hnn.out] at hown ⊢
        have HI := hide hi
        have HW := hide hown
        clear hi hown HS
        refine takeH (i := 7) (d := 12) (v := .pointer (some ⟨w.heap.size, 2, none⟩)) rfl rfl (by kernel_rfl) (by kernel_rfl) (by kernel_rfl) (fun _ _ _ h => h) rfl HI.out.k1 ?_ ?_
        · intro W' _; go_simp
        try simp only [Act.put, List.setIfInBounds_toArray, List.set_cons_zero, List.set_cons_succ]
        refine wpAnyH_ready (rs := [8]) (by kernel_rfl) (by simp) ?_
        refine AllReadyH.cons rfl (fun K hK => ?_) AllReadyH.nil
        have q := with_end HI.out Hrs.out HW.out
        obtain ⟨q0, q1, q2⟩ := q
        have Q2 := hide q2
        clear q2
        go_simp
        refine hK.out _ _ Q2.out.1.k1 (fun _ => ?_)
        clear hK K q0 q1
        refine wpAnyH_done (by kernel_rfl) ?_ _
        generalize V4.setCell ⟨w.heap.size, 2, none⟩ (.slice (some ⟨b, 0, none⟩) (nn + 1) cap) = Z at Q2 ⊢
        go_wp2_with (first
          | (with_reducible refine wpList_load_row rfl 57 (.tmp 2) rfl w.heap.size rfl 57 _ (0, 0) _ Q2.out.1.k0 Tryz.underlying57 rfl (by kernel_rfl) ?_)
          | (with_reducible refine wpList_store_row rfl 57 (.tmp 4) (.tmp 13) rfl (w.heap.size + 2) rfl _ rfl _ _ Q2.out.1.k2 rfl (by kernel_rfl) (by kernel_rfl) ?_))
        refine bodyPost_ret (results_cell_row Tryz.results56 _ _ (w.heap.size + 2) 57 _ (0, 0) _ rfl (setRow_heap _ _ _ _ 57 (0, 0) Q2.out.1.k2) Tryz.underlying57 rfl (by kernel_rfl)) rfl ?_
        exact with_post HP.out Q2.out.1 Q2.out.2 Hnn.out Hcss.out Hn3.out Hos.out Hof.out Ho.out
    · refine step_node rfl (.tmp 9) rfl Hnd.out rfl ?_
      obtain ⟨V2, hV⟩ : ∃ V2, V2 = V1.alloc (.cells nd 67) := ⟨_, rfl⟩
      have ht := HS.out.t5
      rw [← hV] at ht ⊢
      replace HS := hide ht
      obtain ⟨g10, hg10⟩ : ∃ g10, g10 = V1.heap.size := ⟨_, rfl⟩
      rw [← hg10] at HS ⊢
      clear ht hV hg10
      refine hK.out _ _ HS.out.wi.k1 (fun _ => ?_)
      clear hK K
      try simp only [Act.put, List.setIfInBounds_toArray, List.set_cons_zero, List.set_cons_succ]
      refine wpAnyH_ready (rs := [2]) (by kernel_rfl) (by simp) ?_
      refine AllReadyH.cons rfl (fun K hK => ?_) (AllReadyH.nil)
      have q2 : V2.cell? ⟨w.heap.size, 2, none⟩ = some (.slice A nn ca) := by rw [cell_of_row _ _ _ _ _ _ HS.out.wi.k0, Hrs.out]; rfl
      go_simp
      clear q2
      refine hK.out _ _ HS.out.wi.k1 (fun _ => ?_)
      clear hK K
      try simp only [Act.put, List.setIfInBounds_toArray, List.set_cons_zero, List.set_cons_succ]
      refine wpAnyH_ready (rs := [3]) (by kernel_rfl) (by simp) ?_
      refine AllReadyH.cons rfl (fun K hK => ?_) (AllReadyH.nil)
      refine step_copy rfl (.tmp 5) (.tmp 7) rfl HS.out rfl rfl (Hrow.out.below HS.out.wi.bel (Nat.le_refl _)) (by rw [Hcl.out]; exact Hnn.out) Hc21.out Hc1.out hl ?_
      intro v8 V3 ht
      replace HS := hide ht
      clear ht
      refine hK.out _ _ HS.out.wi.k1 (fun _ => ?_)
      clear hK K
      try simp only [Act.put, List.setIfInBounds_toArray, List.set_cons_zero, List.set_cons_succ]
      refine wpAnyH_ready (rs := [6]) (by kernel_rfl) (by simp) ?_
      refine AllReadyH.cons rfl (fun K hK => ?_) (AllReadyH.nil)
      refine step_more rfl (.tmp 8) (.tmp 10) rfl HS.out rfl rfl Hns.out Hn1.out (by rw [Hcl.out, Hnn.out]; exact hl) ?_
      intro b cap V4 hi hown
      refine hK.out _ _ hi.k1 (fun _ => ?_)
      clear hK K
      try simp only [Act.put, List.setIfInBounds_toArray, List.set_cons_zero, List.set_cons_succ]
      rw [Hcl.out, Hnn.out] at hown ⊢
      have HI := hide hi
      have HW := hide hown
      clear hi hown HS
      refine takeH (i := 7) (d := 12) (v := .pointer (some ⟨w.heap.size, 2, none⟩)) rfl rfl (by kernel_rfl) (by kernel_rfl) (by kernel_rfl) (fun _ _ _ h => h) rfl HI.out.k1 ?_ ?_
      · intro W' _; go_simp
      try simp only [Act.put, List.setIfInBounds_toArray, List.set_cons_zero, List.set_cons_succ]
      refine wpAnyH_ready (rs := [8]) (by kernel_rfl) (by simp) ?_
      refine AllReadyH.cons rfl (fun K hK => ?_) AllReadyH.nil
      have q := with_end HI.out Hrs.out HW.out
      obtain ⟨q0, q1, q2⟩ := q
      have Q2 := hide q2
      clear q2
      go_simp
      refine hK.out _ _ Q2.out.1.k1 (fun _ => ?_)
      clear hK K q0 q1
      refine wpAnyH_done (by kernel_rfl) ?_ _
      generalize V4.setCell ⟨w.heap.size, 2, none⟩ (.slice (some ⟨b, 0, none⟩) (nn + 1) cap) = Z at Q2 ⊢
      go_wp2_with (first
        | (with_reducible refine wpList_load_row rfl 57 (.tmp 2) rfl w.heap.size rfl 57 _ (0, 0) _ Q2.out.1.k0 Tryz.underlying57 rfl (by kernel_rfl) ?_)
        | (with_reducible refine wpList_store_row rfl 57 (.tmp 4) (.tmp 13) rfl (w.heap.size + 2) rfl _ rfl _ _ Q2.out.1.k2 rfl (by kernel_rfl) (by kernel_rfl) ?_))
      refine bodyPost_ret (results_cell_row Tryz.results56 _ _ (w.heap.size + 2) 57 _ (0, 0) _ rfl (setRow_heap _ _ _ _ 57 (0, 0) Q2.out.1.k2) Tryz.underlying57 rfl (by kernel_rfl)) rfl ?_
      exact with_post HP.out Q2.out.1 Q2.out.2 Hnn.out Hcss.out Hn3.out Hos.out Hof.out Ho.out
  · have q2 : V.cell? ⟨w.heap.size, 2, none⟩ = some (.slice A nn ca) := by rw [cell_of_row _ _ _ _ _ _ HS.out.wi.k0, Hrs.out]; rfl
    go_simp
    clear q2
    refine hK.out _ _ HS.out.wi.k1 (fun _ => ?_)
    clear hK K
    try simp only [Act.put, List.setIfInBounds_toArray, List.set_cons_zero, List.set_cons_succ]
    refine wpAnyH_ready (rs := [0, 5]) (by kernel_rfl) (by simp) ?_
    refine AllReadyH.cons rfl (fun K hK => ?_) (AllReadyH.cons rfl (fun K hK => ?_) (AllReadyH.nil))
    · go_simp
      obtain ⟨V1, hV⟩ : ∃ V1, V1 = V.alloc (.cells #[] 67) := ⟨_, rfl⟩
      have ht := HS.out.t0
      rw [← hV] at ht ⊢
      replace HS := hide ht
      obtain ⟨g5, hg5⟩ : ∃ g5, g5 = V.heap.size := ⟨_, rfl⟩
      rw [← hg5] at HS ⊢
      clear ht hV hg5
      refine hK.out _ _ HS.out.wi.k1 (fun _ => ?_)
      clear hK K
      try simp only [Act.put, List.setIfInBounds_toArray, List.set_cons_zero, List.set_cons_succ]
      refine wpAnyH_ready (rs := [3, 5]) (by kernel_rfl) (by simp) ?_
      refine AllReadyH.cons rfl (fun K hK => ?_) (AllReadyH.cons rfl (fun K hK => ?_) (AllReadyH.nil))
      · refine step_copy rfl (.tmp 5) (.tmp 7) rfl HS.out rfl rfl (Hrow.out.below HS.out.wi.bel (Nat.le_refl _)) (by rw [Hcl.out]; exact Hnn.out) Hc21.out Hc1.out hl ?_
        intro v8 V2 ht
        replace HS := hide ht
        clear ht
        refine hK.out _ _ HS.out.wi.k1 (fun _ => ?_)
        clear hK K
        try simp only [Act.put, List.setIfInBounds_toArray, List.set_cons_zero, List.set_cons_succ]
        refine wpAnyH_ready (rs := [5]) (by kernel_rfl) (by simp) ?_
        refine AllReadyH.cons rfl (fun K hK => ?_) (AllReadyH.nil)
        refine step_node rfl (.tmp 9) rfl Hnd.out rfl ?_
        obtain ⟨V3, hV⟩ : ∃ V3, V3 = V2.alloc (.cells nd 67) := ⟨_, rfl⟩
        have ht := HS.out.t5
        rw [← hV] at ht ⊢
        replace HS := hide ht
        obtain ⟨g10, hg10⟩ : ∃ g10, g10 = V2.heap.size := ⟨_, rfl⟩
        rw [← hg10] at HS ⊢
        clear ht hV hg10
        refine hK.out _ _ HS.out.wi.k1 (fun _ => ?_)
        clear hK K
        try simp only [Act.put, List.setIfInBounds_toArray, List.set_cons_zero, List.set_cons_succ]
        refine wpAnyH_ready (rs := [6]) (by kernel_rfl) (by simp) ?_
        refine AllReadyH.cons rfl (fun K hK => ?_) (AllReadyH.nil)
        refine step_more rfl (.tmp 8) (.tmp 10) rfl HS.out rfl rfl Hns.out Hn1.out (by rw [Hcl.out, Hnn.out]; exact hl) ?_
        intro b cap V4 hi hown
        refine hK.out _ _ hi.k1 (fun _ => ?_)
        clear hK K
        try simp only [Act.put, List.setIfInBounds_toArray, List.set_cons_zero, List.set_cons_succ]
        rw [Hcl.out, Hnn.out] at hown ⊢
        have HI := hide hi
        have HW := hide hown
        clear hi hown HS
        refine takeH (i := 7) (d := 12) (v := .pointer (some ⟨w.heap.size, 2, none⟩)) rfl rfl (by kernel_rfl) (by kernel_rfl) (by kernel_rfl) (fun _ _ _ h => h) rfl HI.out.k1 ?_ ?_
        · intro W' _; go_simp
        try simp only [Act.put, List.setIfInBounds_toArray, List.set_cons_zero, List.set_cons_succ]
        refine wpAnyH_ready (rs := [8]) (by kernel_rfl) (by simp) ?_
        refine AllReadyH.cons rfl (fun K hK => ?_) AllReadyH.nil
        have q := with_end HI.out Hrs.out HW.out
        obtain ⟨q0, q1, q2⟩ := q
        have Q2 := hide q2
        clear q2
        go_simp
        refine hK.out _ _ Q2.out.1.k1 (fun _ => ?_)
        clear hK K q0 q1
        refine wpAnyH_done (by kernel_rfl) ?_ _
        generalize V4.setCell ⟨w.heap.size, 2, none⟩ (.slice (some ⟨b, 0, none⟩) (nn + 1) cap) = Z at Q2 ⊢
        go_wp2_with (first
          | (with_reducible refine wpList_load_row rfl 57 (.tmp 2) rfl w.heap.size rfl 57 _ (0, 0) _ Q2.out.1.k0 Tryz.underlying57 rfl (by kernel_rfl) ?_)
          | (with_reducible refine wpList_store_row rfl 57 (.tmp 4) (.tmp 13) rfl (w.heap.size + 2) rfl _ rfl _ _ Q2.out.1.k2 rfl (by kernel_rfl) (by kernel_rfl) ?_))
        refine bodyPost_ret (results_cell_row Tryz.results56 _ _ (w.heap.size + 2) 57 _ (0, 0) _ rfl (setRow_heap _ _ _ _ 57 (0, 0) Q2.out.1.k2) Tryz.underlying57 rfl (by kernel_rfl)) rfl ?_
        exact with_post HP.out Q2.out.1 Q2.out.2 Hnn.out Hcss.out Hn3.out Hos.out Hof.out Ho.out
      · refine step_node rfl (.tmp 9) rfl Hnd.out rfl ?_
        obtain ⟨V2, hV⟩ : ∃ V2, V2 = V1.alloc (.cells nd 67) := ⟨_, rfl⟩
        have ht := HS.out.t5
        rw [← hV] at ht ⊢
        replace HS := hide ht
        obtain ⟨g10, hg10⟩ : ∃ g10, g10 = V1.heap.size := ⟨_, rfl⟩
        rw [← hg10] at HS ⊢
        clear ht hV hg10
        refine hK.out _ _ HS.out.wi.k1 (fun _ => ?_)
        clear hK K
        try simp only [Act.put, List.setIfInBounds_toArray, List.set_cons_zero, List.set_cons_succ]
        refine wpAnyH_ready (rs := [3]) (by kernel_rfl) (by simp) ?_
        refine AllReadyH.cons rfl (fun K hK => ?_) (AllReadyH.nil)
        refine step_copy rfl (.tmp 5) (.tmp 7) rfl HS.out rfl rfl (Hrow.out.below HS.out.wi.bel (Nat.le_refl _)) (by rw [Hcl.out]; exact Hnn.out) Hc21.out Hc1.out hl ?_
        intro v8 V3 ht
        replace HS := hide ht
        clear ht
        refine hK.out _ _ HS.out.wi.k1 (fun _ => ?_)
        clear hK K
        try simp only [Act.put, List.setIfInBounds_toArray, List.set_cons_zero, List.set_cons_succ]
        refine wpAnyH_ready (rs := [6]) (by kernel_rfl) (by simp) ?_
        refine AllReadyH.cons rfl (fun K hK => ?_) (AllReadyH.nil)
        refine step_more rfl (.tmp 8) (.tmp 10) rfl HS.out rfl rfl Hns.out Hn1.out (by rw [Hcl.out, Hnn.out]; exact hl) ?_
        intro b cap V4 hi hown
        refine hK.out _ _ hi.k1 (fun _ => ?_)
        clear hK K
        try simp only [Act.put, List.setIfInBounds_toArray, List.set_cons_zero, List.set_cons_succ]
        rw [Hcl.out, Hnn.out] at hown ⊢
        have HI := hide hi
        have HW := hide hown
        clear hi hown HS
        refine takeH (i := 7) (d := 12) (v := .pointer (some ⟨w.heap.size, 2, none⟩)) rfl rfl (by kernel_rfl) (by kernel_rfl) (by kernel_rfl) (fun _ _ _ h => h) rfl HI.out.k1 ?_ ?_
        · intro W' _; go_simp
        try simp only [Act.put, List.setIfInBounds_toArray, List.set_cons_zero, List.set_cons_succ]
        refine wpAnyH_ready (rs := [8]) (by kernel_rfl) (by simp) ?_
        refine AllReadyH.cons rfl (fun K hK => ?_) AllReadyH.nil
        have q := with_end HI.out Hrs.out HW.out
        obtain ⟨q0, q1, q2⟩ := q
        have Q2 := hide q2
        clear q2
        go_simp
        refine hK.out _ _ Q2.out.1.k1 (fun _ => ?_)
        clear hK K q0 q1
        refine wpAnyH_done (by kernel_rfl) ?_ _
        generalize V4.setCell ⟨w.heap.size, 2, none⟩ (.slice (some ⟨b, 0, none⟩) (nn + 1) cap) = Z at Q2 ⊢
        go_wp2_with (first
          | (with_reducible refine wpList_load_row rfl 57 (.tmp 2) rfl w.heap.size rfl 57 _ (0, 0) _ Q2.out.1.k0 Tryz.underlying57 rfl (by kernel_rfl) ?_)
          | (with_reducible refine wpList_store_row rfl 57 (.tmp 4) (.tmp 13) rfl (w.heap.size + 2) rfl _ rfl _ _ Q2.out.1.k2 rfl (by kernel_rfl) (by kernel_rfl) ?_))
        refine bodyPost_ret (results_cell_row Tryz.results56 _ _ (w.heap.size + 2) 57 _ (0, 0) _ rfl (setRow_heap _ _ _ _ 57 (0, 0) Q2.out.1.k2) Tryz.underlying57 rfl (by kernel_rfl)) rfl ?_
        exact with_post HP.out Q2.out.1 Q2.out.2 Hnn.out Hcss.out Hn3.out Hos.out Hof.out Ho.out
    · refine step_node rfl (.tmp 9) rfl Hnd.out rfl ?_
      obtain ⟨V1, hV⟩ : ∃ V1, V1 = V.alloc (.cells nd 67) := ⟨_, rfl⟩
      have ht := HS.out.t5
      rw [← hV] at ht ⊢
      replace HS := hide ht
      obtain ⟨g10, hg10⟩ : ∃ g10, g10 = V.heap.size := ⟨_, rfl⟩
      rw [← hg10] at HS ⊢
      clear ht hV hg10
      refine hK.out _ _ HS.out.wi.k1 (fun _ => ?_)
      clear hK K
      try simp only [Act.put, List.setIfInBounds_toArray, List.set_cons_zero, List.set_cons_succ]
      refine wpAnyH_ready (rs := [0]) (by kernel_rfl) (by simp) ?_
      refine AllReadyH.cons rfl (fun K hK => ?_) (AllReadyH.nil)
      go_simp
      obtain ⟨V2, hV⟩ : ∃ V2, V2 = V1.alloc (.cells #[] 67) := ⟨_, rfl⟩
      have ht := HS.out.t0
      rw [← hV] at ht ⊢
      replace HS := hide ht
      obtain ⟨g5, hg5⟩ : ∃ g5, g5 = V1.heap.size := ⟨_, rfl⟩
      rw [← hg5] at HS ⊢
      clear ht hV hg5
      refine hK.out _ _ HS.out.wi.k1 (fun _ => ?_)
      clear hK K
      try simp only [Act.put, List.setIfInBounds_toArray, List.set_cons_zero, List.set_cons_succ]
      refine wpAnyH_ready (rs := [3]) (by kernel_rfl) (by simp) ?_
      refine AllReadyH.cons rfl (fun K hK => ?_) (AllReadyH.nil)
      refine step_copy rfl (.tmp 5) (.tmp 7) rfl HS.out rfl rfl (Hrow.out.below HS.out.wi.bel (Nat.le_refl _)) (by rw [Hcl.out]; exact Hnn.out) Hc21.out Hc1.out hl ?_
      intro v8 V3 ht
      replace HS := hide ht
      clear ht
      refine hK.out _ _ HS.out.wi.k1 (fun _ => ?_)
      clear hK K
      try simp only [Act.put, List.setIfInBounds_toArray, List.set_cons_zero, List.set_cons_succ]
      refine wpAnyH_ready (rs := [6]) (by kernel_rfl) (by simp) ?_
      refine AllReadyH.cons rfl (fun K hK => ?_) (AllReadyH.nil)
      refine step_more rfl (.tmp 8) (.tmp 10) rfl HS.out rfl rfl Hns.out Hn1.out (by rw [Hcl.out, Hnn.out]; exact hl) ?_
      intro b cap V4 hi hown
      refine hK.out _ _ hi.k1 (fun _ => ?_)
      clear hK K
      try simp only [Act.put, List.setIfInBounds_toArray, List.set_cons_zero, List.set_cons_succ]
      rw [Hcl.out, Hnn.out] at hown ⊢
      have HI := hide hi
      have HW := hide hown
      clear hi hown HS
      refine takeH (i := 7) (d := 12) (v := .pointer (some ⟨w.heap.size, 2, none⟩)) rfl rfl (by kernel_rfl) (by kernel_rfl) (by kernel_rfl) (fun _ _ _ h => h) rfl HI.out.k1 ?_ ?_
      · intro W' _; go_simp
      try simp only [Act.put, List.setIfInBounds_toArray, List.set_cons_zero, List.set_cons_succ]
      refine wpAnyH_ready (rs := [8]) (by kernel_rfl) (by simp) ?_
      refine AllReadyH.cons rfl (fun K hK => ?_) AllReadyH.nil
      have q := with_end HI.out Hrs.out HW.out
      obtain ⟨q0, q1, q2⟩ := q
      have Q2 := hide q2
      clear q2
      go_simp
      refine hK.out _ _ Q2.out.1.k1 (fun _ => ?_)
      clear hK K q0 q1
      refine wpAnyH_done (by kernel_rfl) ?_ _
      generalize V4.setCell ⟨w.heap.size, 2, none⟩ (.slice (some ⟨b, 0, none⟩) (nn + 1) cap) = Z at Q2 ⊢
      go_wp2_with (first
        | (with_reducible refine wpList_load_row rfl 57 (.tmp 2) rfl w.heap.size rfl 57 _ (0, 0) _ Q2.out.1.k0 Tryz.underlying57 rfl (by kernel_rfl) ?_)
        | (with_reducible refine wpList_store_row rfl 57 (.tmp 4) (.tmp 13) rfl (w.heap.size + 2) rfl _ rfl _ _ Q2.out.1.k2 rfl (by kernel_rfl) (by kernel_rfl) ?_))
      refine bodyPost_ret (results_cell_row Tryz.results56 _ _ (w.heap.size + 2) 57 _ (0, 0) _ rfl (setRow_heap _ _ _ _ 57 (0, 0) Q2.out.1.k2) Tryz.underlying57 rfl (by kernel_rfl)) rfl ?_
      exact with_post HP.out Q2.out.1 Q2.out.2 Hnn.out Hcss.out Hn3.out Hos.out Hof.out Ho.out
  · refine step_node rfl (.tmp 9) rfl Hnd.out rfl ?_
    obtain ⟨V1, hV⟩ : ∃ V1, V1 = V.alloc (.cells nd 67) := ⟨_, rfl⟩
    have ht := HS.out.t5
    rw [← hV] at ht ⊢
    replace HS := hide ht
    obtain ⟨g10, hg10⟩ : ∃ g10, g10 = V.heap.size := ⟨_, rfl⟩
    rw [← hg10] at HS ⊢
    clear ht hV hg10
    refine hK.out _ _ HS.out.wi.k1 (fun _ => ?_)
    clear hK K
    try simp only [Act.put, List.setIfInBounds_toArray, List.set_cons_zero, List.set_cons_succ]
    refine wpAnyH_ready (rs := [0, 2]) (by kernel_rfl) (by simp) ?_
    refine AllReadyH.cons rfl (fun K hK => ?_) (AllReadyH.cons rfl (fun K hK => ?_) (AllReadyH.nil))
    · go_simp
      obtain ⟨V2, hV⟩ : ∃ V2, V2 = V1.alloc (.cells #[] 67) := ⟨_, rfl⟩
      have ht := HS.out.t0
      rw [← hV] at ht ⊢
      replace HS := hide ht
      obtain ⟨g5, hg5⟩ : ∃ g5, g5 = V1.heap.size := ⟨_, rfl⟩
      rw [← hg5] at HS ⊢
      clear ht hV hg5
      refine hK.out _ _ HS.out.wi.k1 (fun _ => ?_)
      clear hK K
      try simp only [Act.put, List.setIfInBounds_toArray, List.set_cons_zero, List.set_cons_succ]
      refine wpAnyH_ready (rs := [2]) (by kernel_rfl) (by simp) ?_
      refine AllReadyH.cons rfl (fun K hK => ?_) (AllReadyH.nil)
      have q2 : V2.cell? ⟨w.heap.size, 2, none⟩ = some (.slice A nn ca) := by rw [cell_of_row _ _ _ _ _ _ HS.out.wi.k0, Hrs.out]; rfl
      go_simp
      clear q2
      refine hK.out _ _ HS.out.wi.k1 (fun _ => ?_)
      clear hK K
      try simp only [Act.put, List.setIfInBounds_toArray, List.set_cons_zero, List.set_cons_succ]
      refine wpAnyH_ready (rs := [3]) (by kernel_rfl) (by simp) ?_
      refine AllReadyH.cons rfl (fun K hK => ?_) (AllReadyH.nil)
      refine step_copy rfl (.tmp 5) (.tmp 7) rfl HS.out rfl rfl (Hrow.out.below HS.out.wi.bel (Nat.le_refl _)) (by rw [Hcl.out]; exact Hnn.out) Hc21.out Hc1.out hl ?_
      intro v8 V3 ht
      replace HS := hide ht
      clear ht
      refine hK.out _ _ HS.out.wi.k1 (fun _ => ?_)
      clear hK K
      try simp only [Act.put, List.setIfInBounds_toArray, List.set_cons_zero, List.set_cons_succ]
      refine wpAnyH_ready (rs := [6]) (by kernel_rfl) (by simp) ?_
      refine AllReadyH.cons rfl (fun K hK => ?_) (AllReadyH.nil)
      refine step_more rfl (.tmp 8) (.tmp 10) rfl HS.out rfl rfl Hns.out Hn1.out (by rw [Hcl.out, Hnn.out]; exact hl) ?_
      intro b cap V4 hi hown
      refine hK.out _ _ hi.k1 (fun _ => ?_)
      clear hK K
      try simp only [Act.put, List.setIfInBounds_toArray, List.set_cons_zero, List.set_cons_succ]
      rw [Hcl.out, Hnn.out] at hown ⊢
      have HI := hide hi
      have HW := hide hown
      clear hi hown HS
      refine takeH (i := 7) (d := 12) (v := .pointer (some ⟨w.heap.size, 2, none⟩)) rfl rfl (by kernel_rfl) (by kernel_rfl) (by kernel_rfl) (fun _ _ _ h => h) rfl HI.out.k1 ?_ ?_
      · intro W' _; go_simp
      try simp only [Act.put, List.setIfInBounds_toArray, List.set_cons_zero, List.set_cons_succ]
      refine wpAnyH_ready (rs := [8]) (by kernel_rfl) (by simp) ?_
      refine AllReadyH.cons rfl (fun K hK => ?_) AllReadyH.nil
      have q := with_end HI.out Hrs.out HW.out
      obtain ⟨q0, q1, q2⟩ := q
      have Q2 := hide q2
      clear q2
      go_simp
      refine hK.out _ _ Q2.out.1.k1 (fun _ => ?_)
      clear hK K q0 q1
      refine wpAnyH_done (by kernel_rfl) ?_ _
      generalize V4.setCell ⟨w.heap.size, 2, none⟩ (.slice (some ⟨b, 0, none⟩) (nn + 1) cap) = Z at Q2 ⊢
      go_wp2_with (first
        | (with_reducible refine wpList_load_row rfl 57 (.tmp 2) rfl w.heap.size rfl 57 _ (0, 0) _ Q2.out.1.k0 Tryz.underlying57 rfl (by kernel_rfl) ?_)
        | (with_reducible refine wpList_store_row rfl 57 (.tmp 4) (.tmp 13) rfl (w.heap.size + 2) rfl _ rfl _ _ Q2.out.1.k2 rfl (by kernel_rfl) (by kernel_rfl) ?_))
      refine bodyPost_ret (results_cell_row Tryz.results56 _ _ (w.heap.size + 2) 57 _ (0, 0) _ rfl (setRow_heap _ _ _ _ 57 (0, 0) Q2.out.1.k2) Tryz.underlying57 rfl (by kernel_rfl)) rfl ?_
      exact with_post HP.out Q2.out.1 Q2.out.2 Hnn.out Hcss.out Hn3.out Hos.out Hof.out Ho.out
    · have q2 : V1.cell? ⟨w.heap.size, 2, none⟩ = some (.slice A nn ca) := by rw [cell_of_row _ _ _ _ _ _ HS.out.wi.k0, Hrs.out]; rfl
      go_simp
      clear q2
      refine hK.out _ _ HS.out.wi.k1 (fun _ => ?_)
      clear hK K
      try simp only [Act.put, List.setIfInBounds_toArray, List.set_cons_zero, List.set_cons_succ]
      refine wpAnyH_ready (rs := [0]) (by kernel_rfl) (by simp) ?_
      refine AllReadyH.cons rfl (fun K hK => ?_) (AllReadyH.nil)
      go_simp
      obtain ⟨V2, hV⟩ : ∃ V2, V2 = V1.alloc (.cells #[] 67) := ⟨_, rfl⟩
      have ht := HS.out.t0
      rw [← hV] at ht ⊢
      replace HS := hide ht
      obtain ⟨g5, hg5⟩ : ∃ g5, g5 = V1.heap.size := ⟨_, rfl⟩
      rw [← hg5] at HS ⊢
      clear ht hV hg5
      refine hK.out _ _ HS.out.wi.k1 (fun _ => ?_)
      clear hK K
      try simp only [Act.put, List.setIfInBounds_toArray, List.set_cons_zero, List.set_cons_succ]
      refine wpAnyH_ready (rs := [3]) (by kernel_rfl) (by simp) ?_
      refine AllReadyH.cons rfl (fun K hK => ?_) (AllReadyH.nil)
      refine step_copy rfl (.tmp 5) (.tmp 7) rfl HS.out rfl rfl (Hrow.out.below HS.out.wi.bel (Nat.le_refl _)) (by rw [Hcl.out]; exact Hnn.out) Hc21.out Hc1.out hl ?_
      intro v8 V3 ht
      replace HS := hide ht
      clear ht
      refine hK.out _ _ HS.out.wi.k1 (fun _ => ?_)
      clear hK K
      try simp only [Act.put, List.setIfInBounds_toArray, List.set_cons_zero, List.set_cons_succ]
      refine wpAnyH_ready (rs := [6]) (by kernel_rfl) (by simp) ?_
      refine AllReadyH.cons rfl (fun K hK => ?_) (AllReadyH.nil)
      refine step_more rfl (.tmp 8) (.tmp 10) rfl HS.out rfl rfl Hns.out Hn1.out (by rw [Hcl.out, Hnn.out]; exact hl) ?_
      intro b cap V4 hi hown
      refine hK.out _ _ hi.k1 (fun _ => ?_)
      clear hK K
      try simp only [Act.put, List.setIfInBounds_toArray, List.set_cons_zero, List.set_cons_succ]
      rw [Hcl.out, Hnn.out] at hown ⊢
      have HI := hide hi
      have HW := hide hown
      clear hi hown HS
      refine takeH (i := 7) (d := 12) (v := .pointer (some ⟨w.heap.size, 2, none⟩)) rfl rfl (by kernel_rfl) (by kernel_rfl) (by kernel_rfl) (fun _ _ _ h => h) rfl HI.out.k1 ?_ ?_
      · intro W' _; go_simp
      try simp only [Act.put, List.setIfInBounds_toArray, List.set_cons_zero, List.set_cons_succ]
      refine wpAnyH_ready (rs := [8]) (by kernel_rfl) (by simp) ?_
      refine AllReadyH.cons rfl (fun K hK => ?_) AllReadyH.nil
      have q := with_end HI.out Hrs.out HW.out
      obtain ⟨q0, q1, q2⟩ := q
      have Q2 := hide q2
      clear q2
      go_simp
      refine hK.out _ _ Q2.out.1.k1 (fun _ => ?_)
      clear hK K q0 q1
      refine wpAnyH_done (by kernel_rfl) ?_ _
      generalize V4.setCell ⟨w.heap.size, 2, none⟩ (.slice (some ⟨b, 0, none⟩) (nn + 1) cap) = Z at Q2 ⊢
      go_wp2_with (first
        | (with_reducible refine wpList_load_row rfl 57 (.tmp 2) rfl w.heap.size rfl 57 _ (0, 0) _ Q2.out.1.k0 Tryz.underlying57 rfl (by kernel_rfl) ?_)
        | (with_reducible refine wpList_store_row rfl 57 (.tmp 4) (.tmp 13) rfl (w.heap.size + 2) rfl _ rfl _ _ Q2.out.1.k2 rfl (by kernel_rfl) (by kernel_rfl) ?_))
      refine bodyPost_ret (results_cell_row Tryz.results56 _ _ (w.heap.size + 2) 57 _ (0, 0) _ rfl (setRow_heap _ _ _ _ 57 (0, 0) Q2.out.1.k2) Tryz.underlying57 rfl (by kernel_rfl)) rfl ?_
      exact with_post HP.out Q2.out.1 Q2.out.2 Hnn.out Hcss.out Hn3.out Hos.out Hof.out Ho.out
end Go.Proofs.YtbojlnbdkaanmaaGreatDoor
namespace Go.Proofs.YtbojlnbdkaanmaaGreatDoor
open Go.RowKit
set_option linter.unusedSimpArgs false
set_option linter.unusedVariables false

/-- Two values are read, and stored into two blocks of the call's own, one after the other. -/
theorem wp_two_chain {P : Program} {id : Nat} {ops : Array Oper} {Q : Exit → Act → World → Prop} {a : Act} {w : World} {o0 o1 o2 o3 : Oper} (hm : P.follows .mixedOrders = true) (hops : ops = #[o0, o1, o2, o3])
    (hs : Region.noSelect ops = true) (hf0 : Region.free .any ops #[false, false, false, false] 0 = true) (hr0 : (Region.ready .any ops #[false, false, false, false]).contains 0 = true)
    (hf1 : Region.free .any ops #[true, false, false, false] 1 = true) (hr1 : (Region.ready .any ops #[true, false, false, false]).contains 1 = true)
    (hr2 : Region.ready .any ops #[true, true, false, false] = [2]) (hr3 : Region.ready .any ops #[true, true, true, false] = [3])
    (hr5 : Region.ready .any ops #[true, true, true, true] = []) (hQ : ∀ c a d v w, Q (.panic c) (a.put d v) w → Q (.panic c) a w)
    (g0 : o0.guard = none) (g1 : o1.guard = none) (g2 : o2.guard = none) (g3 : o3.guard = none) (d2 : o2.dst = none) (d3 : o3.dst = none)
    (p q : Nat) (hpq : p ≠ q) (v0 v1 : Value) (y0 : ∀ W : World, (∀ k, k ≠ p → k ≠ q → W.heap[k]? = w.heap[k]?) → (execOp a.eval o0).run P W = .ok (.value v0) W)
    (y1 : ∀ W : World, (∀ k, k ≠ p → k ≠ q → W.heap[k]? = w.heap[k]?) → (execOp (a.put o0.dst v0).eval o1).run P W = .ok (.value v1) W)
    (t2 : TypeId) (x2 z2 : Operand) (e2 : o2.op = .store t2 x2 z2) (ex2 : ((a.put o0.dst v0).put o1.dst v1).eval x2 = .pointer (some ⟨p, 0, none⟩)) (u2 : Value) (ez2 : ((a.put o0.dst v0).put o1.dst v1).eval z2 = u2)
    (t3 : TypeId) (x3 z3 : Operand) (e3 : o3.op = .store t3 x3 z3) (ex3 : ((a.put o0.dst v0).put o1.dst v1).eval x3 = .pointer (some ⟨q, 0, none⟩)) (u3 : Value) (ez3 : ((a.put o0.dst v0).put o1.dst v1).eval z3 = u3)
    (old2 : Array Value) (tt2 : TypeId) (hg2 : w.heap[p]? = some (.cells old2 tt2 (0, 0))) (hz2 : old2.size = u2.cells.size) (hi2 : (P.info? t2).map (·.size) = some u2.cells.size) (h12 : u2.cells.all (·.oneCell') = true)
    (old3 : Array Value) (tt3 : TypeId) (hg3 : w.heap[q]? = some (.cells old3 tt3 (0, 0))) (hz3 : old3.size = u3.cells.size) (hi3 : (P.info? t3).map (·.size) = some u3.cells.size) (h13 : u3.cells.all (·.oneCell') = true)
    (h : Q .normal ((a.put o0.dst v0).put o1.dst v1) ((w.drew.setRow p u2.cells).setRow q u3.cells)) : (Code.region id ops true).wp P Q a w := by
  subst hops
  have wt : ∀ {o : Oper} (ops : Array Oper) (b : Array Value), o.guard = none → Region.wanted o (yielded ops b) = true := fun ops b hb => by simp [Region.wanted, hb]
  refine wp_region_held (S := fun W => ∀ k, k ≠ p → k ≠ q → W.heap[k]? = w.heap[k]?) hm ?_
  change wpAnyH _ _ _ _ _ _ (Array.replicate 4 false) _ w.drew
  have hS : ∀ k, k ≠ p → k ≠ q → w.drew.heap[k]? = w.heap[k]? := fun _ _ _ => rfl
  refine wpAnyH_take (i := 0) (v := v0) rfl hs hf0 hr0 (fun c a w => hQ c a _ _ w) (Or.inl ⟨wt _ _ g0, fun W hW => y0 W hW⟩) hS ?_
  change wpAnyH _ _ _ _ _ _ #[true, false, false, false] _ _
  refine wpAnyH_take (i := 1) (v := v1) rfl hs hf1 hr1 (fun c a w => hQ c a _ _ w) (Or.inl ⟨wt _ _ g1, fun W hW => y1 W hW⟩) hS ?_
  change wpAnyH _ _ _ _ _ _ #[true, true, false, false] _ _
  have k2 : w.drew.heap[p]? = some (.cells old2 tt2 (0, 0)) := hg2
  have k3 : w.drew.heap[q]? = some (.cells old3 tt3 (0, 0)) := hg3
  refine wpAnyH_ready (rs := [2]) hr2 (by simp) ?_
  refine AllReadyH.cons (o := o2) rfl (fun K hK => ?_) AllReadyH.nil
  rw [if_pos (wt _ _ g2)]
  refine wp_store_row t2 x2 z2 e2 p ex2 u2 ez2 old2 tt2 k2 hz2 hi2 h12 ?_
  rw [d2]
  refine hK.out _ _ (fun k h1 h2 => setRow_other _ _ _ _ h1) (fun _ => ?_)
  change wpAnyH _ _ _ _ _ _ #[true, true, true, false] _ _
  refine wpAnyH_ready (rs := [3]) hr3 (by simp) ?_
  refine AllReadyH.cons (o := o3) rfl (fun K hK => ?_) AllReadyH.nil
  rw [if_pos (wt _ _ g3)]
  refine wp_store_row t3 x3 z3 e3 q ex3 u3 ez3 old3 tt3 ((setRow_other _ _ _ _ (Ne.symm hpq)).trans k3) hz3 hi3 h13 ?_
  rw [d3]
  refine hK.out _ _ (fun k h1 h2 => (setRow_other _ _ _ _ h2).trans (setRow_other _ _ _ _ h1)) (fun _ => ?_)
  change wpAnyH _ _ _ _ _ _ #[true, true, true, true] _ _
  exact wpAnyH_done hr5 h _
/-- The blocks of digest: the state, the two results, the bytes. -/
structure DgS (w W : World) (L : Option Addr) (n cl : Nat) (K : Int) (A : Option Addr) (m ca : Nat) (d : Nat → Int) : Prop where
  bel : Below w.heap.size w W
  k0 : W.heap[w.heap.size]? = some (.cells #[.slice L n cl, .int .i64 K, .slice A m ca] 57 (0, 0))
  k1 : W.heap[w.heap.size + 1]? = some (.cells (digArr fun _ => 0) 65 (0, 0))
  k2 : W.heap[w.heap.size + 2]? = some (.cells #[.slice none 0 0, .int .i64 0, .slice none 0 0] 57 (0, 0))
  k3 : W.heap[w.heap.size + 3]? = some (.cells (digArr d) 65 (0, 0))
section
variable {w W W' : World} {L : Option Addr} {n cl : Nat} {K : Int} {A : Option Addr} {m ca : Nat} {d : Nat → Int}
theorem DgS.lt (h : DgS w W L n cl K A m ca d) : w.heap.size + 4 ≤ W.heap.size := World.lt_of_blk h.k3
theorem DgS.next (h : DgS w W L n cl K A m ca d) (hb : Below W.heap.size W W') : DgS w W' L n cl K A m ca d := by
  have hl := h.lt
  exact ⟨h.bel.trans (hb.mono h.bel.size), (hb.block _ (by omega)).trans h.k0, (hb.block _ (by omega)).trans h.k1, (hb.block _ (by omega)).trans h.k2, (hb.block _ (by omega)).trans h.k3⟩
theorem DgS.put (h : DgS w W L n cl K A m ca d) (K' : Int) : DgS w (W.setRow w.heap.size #[.slice L n cl, .int .i64 K', .slice A m ca]) L n cl K' A m ca d :=
  ⟨below_setRow' h.bel (Nat.le_refl _) _, setRow_heap _ _ _ _ _ _ h.k0, (setRow_other _ _ _ _ (by omega)).trans h.k1, (setRow_other _ _ _ _ (by omega)).trans h.k2, (setRow_other _ _ _ _ (by omega)).trans h.k3⟩
theorem DgS.dead (h : DgS w W L n cl K A m ca d) : DgS w (W.setCell ⟨w.heap.size, 1, none⟩ (.int .i64 (-1))) L n cl (-1) A m ca d := by
  rw [setCell_eq_setRow W w.heap.size 1 _ _ _ _ h.k0]
  exact h.put (-1)
theorem DgS.byte (h : DgS w W L n cl K A m ca d) {i : Nat} (hi : i < 16) (v : Int) : DgS w (W.setCell ⟨w.heap.size + 3, i, none⟩ (.int .u8 v)) L n cl K A m ca (upd d i v) := by
  rw [setCell_eq_setRow W (w.heap.size + 3) i _ _ _ _ h.k3, digArr_set d i hi]
  exact ⟨below_setRow' h.bel (by omega) _, (setRow_other _ _ _ _ (by omega)).trans h.k0, (setRow_other _ _ _ _ (by omega)).trans h.k1, (setRow_other _ _ _ _ (by omega)).trans h.k2, setRow_heap _ _ _ _ _ _ h.k3⟩
theorem DgS.cells (h : DgS w W L n cl K A m ca d) : W.cell? ⟨w.heap.size, 1, none⟩ = some (.int .i64 K) ∧ W.frozen? ⟨w.heap.size, 1, none⟩ = false :=
  ⟨by rw [cell_of_row _ _ _ _ _ _ h.k0]; rfl, frozen_of_row _ _ _ _ _ h.k0⟩
theorem DgS.load (h : DgS w W L n cl K A m ca d) : W.cell? ⟨w.heap.size, 0, none⟩ = some (.slice L n cl) ∧ W.cell? ⟨w.heap.size, 1, none⟩ = some (.int .i64 K) ∧ W.cell? ⟨w.heap.size, 2, none⟩ = some (.slice A m ca) :=
  ⟨by rw [cell_of_row _ _ _ _ _ _ h.k0]; rfl, by rw [cell_of_row _ _ _ _ _ _ h.k0]; rfl, by rw [cell_of_row _ _ _ _ _ _ h.k0]; rfl⟩
end
/-- What digest leaves. -/
def PostG (w : World) (L : Option Addr) (cl : Nat) (ts : List Tok) (A : Option Addr) (m ca : Nat) (o : Option (List Tok)) (e : Ending) (w' : World) : Prop :=
  Below w.heap.size w w' ∧ ∃ d K', e = .returned (.tuple #[.agg (digArr d), .agg #[.slice L ts.length cl, .int .i64 K', .slice A m ca]]) ∧ RDig ts d K' o
/-- The loop's relation. -/
def DgR (ts : List Tok) (o : Option (List Tok)) (g n : Nat) (d : Nat → Int) (K : Int) : Prop := (K = -1 ∧ ∀ l, o = some l → digestF l = none) ∨ ∃ r l, o = some l ∧ Live ts K (some r) ∧ digGo g n d r = digestF l
theorem RDig.no {ts : List Tok} {o : Option (List Tok)} {d : Nat → Int} (h : ∀ l, o = some l → digestF l = none) : RDig ts d (-1) o := by
  cases o with
  | none => exact ⟨rfl, fun _ _ _ e => by cases e⟩
  | some l =>
    have h := h l rfl
    refine ⟨by simp [h, Live], fun l' d' r e he => ?_⟩
    injection e with e; subst e; rw [h] at he; cases he
theorem RDig.yes {ts l r : List Tok} {d : Nat → Int} {K : Int} (hL : Live ts K (some r)) (h : digestF l = some (d, r)) : RDig ts d K (some l) := by
  refine ⟨by simpa [h] using hL, fun l' d' r' e he => ?_⟩
  injection e with e; subst e; rw [h] at he; injection he with he; injection he
theorem DgR.end_ {ts : List Tok} {o : Option (List Tok)} {n : Nat} {d : Nat → Int} {K : Int} (h : DgR ts o 0 n d K) : RDig ts d K o := by
  rcases h with ⟨rfl, h⟩ | ⟨r, l, rfl, hL, h⟩
  · exact RDig.no h
  · exact RDig.yes hL h.symm
theorem DgR.start {ts : List Tok} {o : Option (List Tok)} {K : Int} (h : Live ts K o) : DgR ts o 4 0 (fun _ => 0) K := by
  cases o with
  | none => exact .inl ⟨h, fun l e => by cases e⟩
  | some l => exact .inr ⟨l, l, rfl, h, rfl⟩
/-- Behind must: the three ways. -/
theorem DgR.word {ts r l : List Tok} {g n : Nat} {d : Nat → Int} {K K1 : Int} {s0 : ByteArray} {t : Tok} (hs0 : s0.toList = []) (hL : Live ts K (some r)) (h : digGo (g + 1) n d r = digestF l) (hm : mustR ts K 1 s0 = (t, K1)) :
    (((t.s.size : Int) != 9) = true ∧ digestF l = none) ∨
    (((t.s.size : Int) != 9) = false ∧ t.s.size = 9 ∧ digestF l = none ∧ ∀ h : 0 < t.s.size, (((t.s[0]'h).toNat : Int) != 120) = true) ∨
    (((t.s.size : Int) != 9) = false ∧ t.s.size = 9 ∧ (∀ h : 0 < t.s.size, (((t.s[0]'h).toNat : Int) != 120) = false) ∧ ∃ r', Live ts K1 (some r') ∧ (match inGo t.s.toList n 4 0 d with | none => none | some d' => digGo g (n + 1) d' r') = digestF l) := by
  rw [digGo] at h
  cases hf : mustF 1 [] r with
  | none =>
    rw [mustR_fail hL (by rw [hs0]; exact hf)] at hm
    injection hm with h1 h2
    left
    rw [hf] at h
    refine ⟨?_, h.symm⟩
    rw [← h1]
    have : (tok0.s.size : Int) = 0 := by simp [tok0, ByteArray.size]
    rw [this]
    decide
  | some p =>
    obtain ⟨t', r'⟩ := p
    obtain ⟨h1, h2⟩ := mustR_ok hL (show mustF 1 s0.toList r = some (t', r') by rw [hs0]; exact hf)
    rw [h1] at hm
    injection hm with h3 h4
    subst h3
    subst h4
    rw [hf] at h
    rcases word_cases t'.s with ⟨q1, q2⟩ | ⟨q1, q2, q3, q4⟩ | ⟨q1, q2, q3, q4⟩
    · exact .inl ⟨q1, by rw [← h]; simp [q2]⟩
    · exact .inr (.inl ⟨q1, q2, by rw [← h]; simp [q3], q4⟩)
    · exact .inr (.inr ⟨q1, q2, q4, r', h2, by rw [← h]; simp only [q3, if_true]; rfl⟩)
theorem byteF_dig (l : List UInt8) (k : Nat) :
    ((digitF (byteAt l (2 * k + 1)) < 0 ∨ (0 ≤ digitF (byteAt l (2 * k + 1)) ∧ digitF (byteAt l (2 * k + 2)) < 0)) ∧ byteF l k = none) ∨
    ((0 ≤ digitF (byteAt l (2 * k + 1)) ∧ digitF (byteAt l (2 * k + 1)) ≤ 15) ∧ (0 ≤ digitF (byteAt l (2 * k + 2)) ∧ digitF (byteAt l (2 * k + 2)) ≤ 15) ∧ byteF l k = some (16 * digitF (byteAt l (2 * k + 1)) + digitF (byteAt l (2 * k + 2)))) := by
  unfold byteF digitF
  cases h1 : hexd (byteAt l (2 * k + 1)) with
  | none => left; exact ⟨.inl (by simp), rfl⟩
  | some a =>
    have ha := hexd_range h1
    cases h2 : hexd (byteAt l (2 * k + 2)) with
    | none => left; exact ⟨.inr ⟨ha.1, by simp⟩, rfl⟩
    | some b => right; exact ⟨ha, hexd_range h2, rfl⟩
theorem dig_one (d : Nat → Int) : (digArr d).all (·.oneCell') = true := by simp [digArr, Value.oneCell']
theorem ret2_world {w W : World} {L : Option Addr} {n cl : Nat} {K : Int} {A : Option Addr} {m ca : Nat} {d : Nat → Int} (h : DgS w W L n cl K A m ca d) (cs1 cs2 : Array Value) :
    ((W.drew.setRow (w.heap.size + 1) cs1).setRow (w.heap.size + 2) cs2).heap[w.heap.size + 1]? = some (.cells cs1 65 (0, 0)) ∧ ((W.drew.setRow (w.heap.size + 1) cs1).setRow (w.heap.size + 2) cs2).heap[w.heap.size + 2]? = some (.cells cs2 57 (0, 0)) ∧
    Below w.heap.size w ((W.drew.setRow (w.heap.size + 1) cs1).setRow (w.heap.size + 2) cs2) :=
  ⟨(setRow_other _ _ _ _ (by omega)).trans (setRow_heap _ _ _ _ _ _ (show W.drew.heap[w.heap.size + 1]? = _ from h.k1)), setRow_heap _ _ _ _ 57 (0, 0) ((setRow_other _ _ _ _ (by omega)).trans (show W.drew.heap[w.heap.size + 2]? = _ from h.k2)), below_setRow' (below_setRow' h.bel.drew (by omega) _) (by omega) _⟩
set_option maxRecDepth 100000 in
set_option maxHeartbeats 8000000 in
theorem rdigest_any (w : World) (L : Option Addr) (cl : Nat) (ts : List Tok) (K : Int) (A : Option Addr) (m ca : Nat) (o : Option (List Tok)) (hl : ts.length ≤ 1000000) (hK : Live ts K o) (h : Toks w w.heap.size L ts) :
    Calls Tryz.prog 96 #[.agg #[.slice L ts.length cl, .int .i64 K, .slice A m ca]] w (PostG w L cl ts A m ca o) := by
  obtain ⟨W0, hW0⟩ : ∃ W0, W0 = (((w.alloc (.cells #[.slice L ts.length cl, .int .i64 K, .slice A m ca] 57)).alloc (.cells (digArr fun _ => 0) 65)).alloc (.cells #[.slice none 0 0, .int .i64 0, .slice none 0 0] 57)).alloc (.cells (digArr fun _ => 0) 65) := ⟨_, rfl⟩
  have h0 : DgS w W0 L ts.length cl K A m ca (fun _ => 0) := by
    rw [hW0]
    refine ⟨((((Below.refl _ w).alloc (Nat.le_refl _) _).alloc (by simp) _).alloc (by simp <;> omega) _).alloc (by simp <;> omega) _, ?_, ?_, ?_, ?_⟩
    · exact (heap_alloc_old _ _ (by simp <;> omega)).trans ((heap_alloc_old _ _ (by simp <;> omega)).trans ((heap_alloc_old _ _ (by simp)).trans (heap_alloc_new w _)))
    · exact (heap_alloc_old _ _ (by simp <;> omega)).trans ((heap_alloc_old _ _ (by simp)).trans (heap_alloc2_new w _ _))
    · exact (heap_alloc_old _ _ (by simp)).trans (heap_third _ _ _ _)
    · have := heap_alloc_new (((w.alloc (.cells #[.slice L ts.length cl, .int .i64 K, .slice A m ca] 57)).alloc (.cells (digArr fun _ => 0) 65)).alloc (.cells #[.slice none 0 0, .int .i64 0, .slice none 0 0] 57)) (.cells (digArr fun _ => 0) 65)
      simpa using this
  have HS := hide h0
  have HT := hide h
  subst hW0
  have HR := hide (DgR.start hK)
  have hKr := hK.range
  clear h0 h hK
  go_enter Tryz.func96, Tryz.ntmps96
  go_wp2
  go_loopg [5] 4 (fun g i wr => ∃ (n : Nat) (d : Nat → Int) (K' : Int), n + g = 4 ∧ i = .int .i64 n ∧ -1 ≤ K' ∧ K' ≤ (ts.length : Int) ∧ Hid (DgS w wr L ts.length cl K' A m ca d) ∧ Hid (DgR ts o g n d K'))
  case atStart => exact ⟨0, _, K, rfl, rfl, hKr.1, hKr.2, HS, HR⟩
  case round =>
    clear HS HR hKr
    obtain ⟨n, d, K', hng, rfl, hk1, hk2, HS, HR⟩ := hrel
    obtain ⟨c0, c1, c2⟩ := DgS.load HS.out
    have c3 := (DgS.cells HS.out).2
    cases gk with
    | zero =>
      obtain rfl : n = 4 := by omega
      go_wp2_with fail
      refine wp_two_chain (by kernel_rfl) rfl (by kernel_rfl) (by kernel_rfl) (by kernel_rfl) (by kernel_rfl) (by kernel_rfl) (by kernel_rfl) (by kernel_rfl) (by kernel_rfl) (fun _ _ d _ _ h => by cases d <;> exact h) rfl rfl rfl rfl rfl rfl (w.heap.size + 1) (w.heap.size + 2) (by omega) (.agg (digArr d)) (.agg #[.slice L ts.length cl, .int .i64 K', .slice A m ca]) (fun W hW => y_load 65 (.tmp 4) rfl (w.heap.size + 3) (by omega) (by omega) rfl 65 _ (0, 0) _ (DgS.k3 HS.out) Tryz.underlying65 rfl (by kernel_rfl) hW) (fun W hW => y_load 57 (.tmp 1) rfl (w.heap.size) (by omega) (by omega) rfl 57 _ (0, 0) _ (DgS.k0 HS.out) Tryz.underlying57 rfl (by kernel_rfl) hW) 65 (.tmp 2) (.tmp 76) rfl rfl (.agg (digArr d)) rfl 57 (.tmp 3) (.tmp 77) rfl rfl (.agg #[.slice L ts.length cl, .int .i64 K', .slice A m ca]) rfl _ _ (DgS.k1 HS.out) rfl (by kernel_rfl) (dig_one d) _ _ (DgS.k2 HS.out) rfl (by kernel_rfl) (by simp [Value.cells, Value.oneCell']) ?_
      obtain ⟨q1, q2, q3⟩ := ret2_world HS.out (digArr d) #[.slice L ts.length cl, .int .i64 K', .slice A m ca]
      go_wp2
      refine bodyPost_ret (results_two_rows Tryz.results96 _ _ (w.heap.size + 1) (w.heap.size + 2) (digArr d) #[.slice L ts.length cl, .int .i64 K', .slice A m ca] rfl rfl (run_loadVar_row _ _ 65 65 _ (0, 0) _ q1 Tryz.underlying65 rfl (by kernel_rfl)) (run_loadVar_row _ _ 57 57 _ (0, 0) _ q2 Tryz.underlying57 rfl (by kernel_rfl))) rfl ?_
      exact ⟨q3, d, K', rfl, DgR.end_ HR.out⟩
    | succ g =>
      have hn4 : n < 4 := by omega
      rcases HR.out with ⟨rfl, hno⟩ | ⟨r, l, rfl, hL, hgo⟩
      · go_wp2_with fail
        refine wp_two_chain (by kernel_rfl) rfl (by kernel_rfl) (by kernel_rfl) (by kernel_rfl) (by kernel_rfl) (by kernel_rfl) (by kernel_rfl) (by kernel_rfl) (by kernel_rfl) (fun _ _ d _ _ h => by cases d <;> exact h) rfl rfl rfl rfl rfl rfl (w.heap.size + 1) (w.heap.size + 2) (by omega) (.agg (digArr d)) (.agg #[.slice L ts.length cl, .int .i64 (-1), .slice A m ca]) (fun W hW => y_load 65 (.tmp 4) rfl (w.heap.size + 3) (by omega) (by omega) rfl 65 _ (0, 0) _ (DgS.k3 HS.out) Tryz.underlying65 rfl (by kernel_rfl) hW) (fun W hW => y_load 57 (.tmp 1) rfl (w.heap.size) (by omega) (by omega) rfl 57 _ (0, 0) _ (DgS.k0 HS.out) Tryz.underlying57 rfl (by kernel_rfl) hW) 65 (.tmp 2) (.tmp 76) rfl rfl (.agg (digArr d)) rfl 57 (.tmp 3) (.tmp 77) rfl rfl (.agg #[.slice L ts.length cl, .int .i64 (-1), .slice A m ca]) rfl _ _ (DgS.k1 HS.out) rfl (by kernel_rfl) (dig_one d) _ _ (DgS.k2 HS.out) rfl (by kernel_rfl) (by simp [Value.cells, Value.oneCell']) ?_
        obtain ⟨q1, q2, q3⟩ := ret2_world HS.out (digArr d) #[.slice L ts.length cl, .int .i64 (-1), .slice A m ca]
        go_wp2
        refine bodyPost_ret (results_two_rows Tryz.results96 _ _ (w.heap.size + 1) (w.heap.size + 2) (digArr d) #[.slice L ts.length cl, .int .i64 (-1), .slice A m ca] rfl rfl (run_loadVar_row _ _ 65 65 _ (0, 0) _ q1 Tryz.underlying65 rfl (by kernel_rfl)) (run_loadVar_row _ _ 57 57 _ (0, 0) _ q2 Tryz.underlying57 rfl (by kernel_rfl))) rfl ?_
        exact ⟨q3, d, -1, rfl, RDig.no hno⟩
      · have hK0 : 0 ≤ K' := by obtain ⟨k, rfl, _⟩ := hL; omega
        have HL := hide hL
        have HGo := hide hgo
        clear hL hgo
        go_wp2_with fail
        refine Calls.mono (rmust_r wr L cl ts K' A m ca 1 _ hl ⟨hk1, hk2⟩ ((HT.out.below (DgS.bel HS.out) (Nat.le_refl _)).more (DgS.bel HS.out).size)) ?_
        rintro e w1 ⟨t, K1, rfl, hm, hb⟩
        have hK1 := mustR_range ⟨hk1, hk2⟩ 1 _ hm
        obtain ⟨Z1, hZ1⟩ : ∃ Z1, Z1 = (w1.alloc (.cells #[.int .i64 t.k, .string t.s, .int .i64 t.n, .int .i64 t.p] 62)).alloc (.cells #[.slice L ts.length cl, .int .i64 K1, .slice A m ca] 57) := ⟨_, rfl⟩
        have hbZ : Below w1.heap.size w1 Z1 := by rw [hZ1]; exact ((Below.refl _ w1).alloc (Nat.le_refl _) _).alloc (by simp) _
        have hs1 := (DgS.next HS.out hb).next hbZ
        have ht1 : Z1.heap[w1.heap.size]? = some (.cells #[.int .i64 t.k, .string t.s, .int .i64 t.n, .int .i64 t.p] 62 (0, 0)) := by rw [hZ1]; exact (heap_alloc_old _ _ (by simp)).trans (heap_alloc_new w1 _)
        have hlt1 : w.heap.size + 4 ≤ w1.heap.size := Nat.le_trans (DgS.lt HS.out) hb.size
        obtain ⟨Z2, hZ2⟩ : ∃ Z2, Z2 = Z1.setRow w.heap.size (Value.agg #[.slice L ts.length cl, .int .i64 K1, .slice A m ca]).cells := ⟨_, rfl⟩
        have hs2 := hs1.put K1
        have ht2 := (setRow_other Z1 w.heap.size w1.heap.size #[.slice L ts.length cl, .int .i64 K1, .slice A m ca] (by omega)).trans ht1
        have hZ2' : Z2 = Z1.setRow w.heap.size #[.slice L ts.length cl, .int .i64 K1, .slice A m ca] := hZ2
        rw [← hZ2'] at hs2 ht2
        clear hZ2'
        have cT : Z2.cell? ⟨w1.heap.size, 1, none⟩ = some (.string t.s) := by rw [cell_of_row _ _ _ _ _ _ ht2]; rfl
        have HK1 := hide (DgS.k0 hs1)
        rw [hZ1] at HK1
        have HW := DgR.word (by simp) HL.out HGo.out hm
        have HS1 := hide hs1
        have HS2 := hide hs2
        have HT2 := hide ht2
        have HZ1 := hide hZ1
        have HZ2 := hide hZ2
        have Hm := hide hm
        clear hb hbZ hs1 hs2 ht1 ht2 hZ1 hZ2 hm c0 c1 c2 c3 HR
        obtain ⟨c0, c1, c2⟩ := DgS.load HS2.out
        have c3 := (DgS.cells HS2.out).2
        rcases HW with ⟨q1, q2⟩ | ⟨q1, q2, q3, q4⟩ | ⟨q1, q2, q3, r', hL', hgo'⟩
        · have hno : ∀ l', some l = some l' → digestF l' = none := fun l' e => by injection e with e; subst e; exact q2
          have HNo := hide hno
          clear q2 hno
          have HS := hide (DgS.dead HS2.out)
          go_wp2_with (first
            | (with_reducible refine wpList_store_row rfl 57 (.tmp 1) (.tmp 26) rfl w.heap.size rfl (.agg #[.slice L ts.length cl, .int .i64 K1, .slice A m ca]) rfl _ _ HK1.out rfl (by kernel_rfl) (by simp [Value.cells, Value.oneCell']) ?_; rw [← HZ1.out, ← HZ2.out]))
          refine wp_two_chain (by kernel_rfl) rfl (by kernel_rfl) (by kernel_rfl) (by kernel_rfl) (by kernel_rfl) (by kernel_rfl) (by kernel_rfl) (by kernel_rfl) (by kernel_rfl) (fun _ _ d _ _ h => by cases d <;> exact h) rfl rfl rfl rfl rfl rfl (w.heap.size + 1) (w.heap.size + 2) (by omega) (.agg (digArr d)) (.agg #[.slice L ts.length cl, .int .i64 (-1), .slice A m ca]) (fun W hW => y_load 65 (.tmp 4) rfl (w.heap.size + 3) (by omega) (by omega) rfl 65 _ (0, 0) _ (DgS.k3 HS.out) Tryz.underlying65 rfl (by kernel_rfl) hW) (fun W hW => y_load 57 (.tmp 1) rfl (w.heap.size) (by omega) (by omega) rfl 57 _ (0, 0) _ (DgS.k0 HS.out) Tryz.underlying57 rfl (by kernel_rfl) hW) 65 (.tmp 2) (.tmp 32) rfl rfl (.agg (digArr d)) rfl 57 (.tmp 3) (.tmp 33) rfl rfl (.agg #[.slice L ts.length cl, .int .i64 (-1), .slice A m ca]) rfl _ _ (DgS.k1 HS.out) rfl (by kernel_rfl) (dig_one d) _ _ (DgS.k2 HS.out) rfl (by kernel_rfl) (by simp [Value.cells, Value.oneCell']) ?_
          obtain ⟨q1, q2, q3⟩ := ret2_world HS.out (digArr d) #[.slice L ts.length cl, .int .i64 (-1), .slice A m ca]
          go_wp2
          refine bodyPost_ret (results_two_rows Tryz.results96 _ _ (w.heap.size + 1) (w.heap.size + 2) (digArr d) #[.slice L ts.length cl, .int .i64 (-1), .slice A m ca] rfl rfl (run_loadVar_row _ _ 65 65 _ (0, 0) _ q1 Tryz.underlying65 rfl (by kernel_rfl)) (run_loadVar_row _ _ 57 57 _ (0, 0) _ q2 Tryz.underlying57 rfl (by kernel_rfl))) rfl ?_
          exact ⟨q3, d, -1, rfl, RDig.no HNo.out⟩
        · have hno : ∀ l', some l = some l' → digestF l' = none := fun l' e => by injection e with e; subst e; exact q3
          have HNo := hide hno
          clear q3 hno
          have q5 := q4 (by omega)
          have q2' : (t.s.size : Int) = 9 := by omega
          have hlt0 : (0 : Int) < (t.s.size : Int) := by omega
          clear q4
          have HS0 := hide (DgS.dead HS2.out)
          have HT0 := hide (show (Z2.setCell ⟨w.heap.size, 1, none⟩ (.int .i64 (-1))).heap[w1.heap.size]? = _ from (Below.heap_setCell Z2 ⟨w.heap.size, 1, none⟩ _ _ (by simp; omega)).trans HT2.out)
          go_wp2_with (first
            | (with_reducible refine wpList_store_row rfl 57 (.tmp 1) (.tmp 26) rfl w.heap.size rfl (.agg #[.slice L ts.length cl, .int .i64 K1, .slice A m ca]) rfl _ _ HK1.out rfl (by kernel_rfl) (by simp [Value.cells, Value.oneCell']) ?_; rw [← HZ1.out, ← HZ2.out]))
          clear c0 c1 c2 c3 cT q5
          go_loopg [8] 4 (fun g2 i2 wr2 => ∃ (k : Nat) (d2 : Nat → Int), k + g2 = 4 ∧ i2 = .int .i64 k ∧ Hid (DgS w wr2 L ts.length cl (-1) A m ca d2) ∧ Hid (wr2.heap[w1.heap.size]? = some (.cells #[.int .i64 t.k, .string t.s, .int .i64 t.n, .int .i64 t.p] 62 (0, 0))) ∧ Hid (True))
          case atStart => exact ⟨0, d, rfl, rfl, HS0, HT0, trivial⟩
          case round =>
            obtain ⟨k, d2, hkg, rfl, HSi, HTi, HPi⟩ := hrel
            cases gk with
            | zero =>
              obtain rfl : k = 4 := by omega
              have hR : Hid (DgR ts (some l) g (n + 1) d2 (-1)) := .inl ⟨rfl, HNo.out⟩
              go_wp2
              go_roundg g
              case measure => omega
              case rel => exact ⟨n + 1, d2, -1, by omega, by go_num, by omega, by omega, HSi, hR⟩
            | succ g2 =>
              have hk4 : k < 4 := by omega
              obtain ⟨c0, c1, c2⟩ := DgS.load HSi.out
              have c3 := (DgS.cells HSi.out).2
              have cT : wr.cell? ⟨w1.heap.size, 1, none⟩ = some (.string t.s) := by rw [cell_of_row _ _ _ _ _ _ HTi.out]; rfl
              have b1 : 2 * k + 1 < t.s.size := by omega
              have b2 : 2 * k + 2 < t.s.size := by omega
              obtain ⟨e, he⟩ : ∃ c, c = byteAt t.s.toList (2 * k + 1) := ⟨_, rfl⟩
              obtain ⟨f, hf⟩ : ∃ c, c = byteAt t.s.toList (2 * k + 2) := ⟨_, rfl⟩
              have e1 : ∀ W, (Instr.index 9 (.string t.s) (.int .i64 (2 * (k : Int) + 1))).run Tryz.prog W = .ok (.int .u8 e) W := fun W => by rw [he]; exact run_index_str _ _ _ (by omega) b1 W
              have e2 : ∀ W, (Instr.index 9 (.string t.s) (.int .i64 (2 * (k : Int) + 2))).run Tryz.prog W = .ok (.int .u8 f) W := fun W => by rw [hf]; exact run_index_str _ _ _ (by omega) b2 W
              have w1' : IntKind.i64.wrap (2 * (k : Int)) = 2 * (k : Int) := IntWalk.i64_in _ (by omega)
              have w2' : IntKind.i64.wrap (2 * (k : Int) + 1) = 2 * (k : Int) + 1 := IntWalk.i64_in _ (by omega)
              have w3' : IntKind.i64.wrap (2 * (k : Int) + 2) = 2 * (k : Int) + 2 := IntWalk.i64_in _ (by omega)
              have w4' : IntKind.i64.wrap (4 * (n : Int)) = 4 * (n : Int) := IntWalk.i64_in _ (by omega)
              have w5' : IntKind.i64.wrap (4 * (n : Int) + (k : Int)) = 4 * (n : Int) + (k : Int) := IntWalk.i64_in _ (by omega)
              have hr1 := byteAt_range t.s.toList (2 * k + 1)
              have hr2 := byteAt_range t.s.toList (2 * k + 2)
              rw [← he] at hr1
              rw [← hf] at hr2
              have hbf := byteF_dig t.s.toList k
              rw [← he, ← hf] at hbf
              obtain ⟨a, ha⟩ : ∃ a, digitF e = a := ⟨_, rfl⟩
              obtain ⟨b, hb⟩ : ∃ b, digitF f = b := ⟨_, rfl⟩
              rw [ha, hb] at hbf
              have Ha := hide ha
              have Hb := hide hb
              clear ha hb he hf
              have x0 : wr.cell? ⟨w.heap.size + 3, 4 * n + k, none⟩ = some (.int .u8 (d2 (4 * n + k))) := by rw [cell_of_row _ _ _ _ _ _ (DgS.k3 HSi.out)]; exact digArr_get _ _ (by omega)
              have x1 : wr.frozen? ⟨w.heap.size + 3, 4 * n + k, none⟩ = false := frozen_of_row _ _ _ _ _ (DgS.k3 HSi.out)
              rcases hbf with ⟨hneg, hbn⟩ | ⟨hra, hrb, hbs⟩
              · have HNo2 := HNo
                have HS := hide (DgS.dead HSi.out)
                clear hbn x0 x1
                rcases hneg with hneg | ⟨hpos, hneg⟩
                · go_wp2_with (first
                    | (go_at_call 116; (with_reducible refine Calls.mono (rdigit_any _ e (by omega)) ?_); rintro er w9 ⟨rfl, rfl⟩; rw [Ha.out])
                    | (go_at_call 116; (with_reducible refine Calls.mono (rdigit_any _ f (by omega)) ?_); rintro er w9 ⟨rfl, rfl⟩; rw [Hb.out]))
                  clear c0 c1 c2 c3
                  refine wp_two_chain (by kernel_rfl) rfl (by kernel_rfl) (by kernel_rfl) (by kernel_rfl) (by kernel_rfl) (by kernel_rfl) (by kernel_rfl) (by kernel_rfl) (by kernel_rfl) (fun _ _ d _ _ h => by cases d <;> exact h) rfl rfl rfl rfl rfl rfl (w.heap.size + 1) (w.heap.size + 2) (by omega) (.agg (digArr d2)) (.agg #[.slice L ts.length cl, .int .i64 (-1), .slice A m ca]) (fun W hW => y_load 65 (.tmp 4) rfl (w.heap.size + 3) (by omega) (by omega) rfl 65 _ (0, 0) _ (DgS.k3 HS.out) Tryz.underlying65 rfl (by kernel_rfl) hW) (fun W hW => y_load 57 (.tmp 1) rfl (w.heap.size) (by omega) (by omega) rfl 57 _ (0, 0) _ (DgS.k0 HS.out) Tryz.underlying57 rfl (by kernel_rfl) hW) 65 (.tmp 2) (.tmp 64) rfl rfl (.agg (digArr d2)) rfl 57 (.tmp 3) (.tmp 65) rfl rfl (.agg #[.slice L ts.length cl, .int .i64 (-1), .slice A m ca]) rfl _ _ (DgS.k1 HS.out) rfl (by kernel_rfl) (dig_one d2) _ _ (DgS.k2 HS.out) rfl (by kernel_rfl) (by simp [Value.cells, Value.oneCell']) ?_
                  obtain ⟨q1, q2, q3⟩ := ret2_world HS.out (digArr d2) #[.slice L ts.length cl, .int .i64 (-1), .slice A m ca]
                  go_wp2
                  refine bodyPost_ret (results_two_rows Tryz.results96 _ _ (w.heap.size + 1) (w.heap.size + 2) (digArr d2) #[.slice L ts.length cl, .int .i64 (-1), .slice A m ca] rfl rfl (run_loadVar_row _ _ 65 65 _ (0, 0) _ q1 Tryz.underlying65 rfl (by kernel_rfl)) (run_loadVar_row _ _ 57 57 _ (0, 0) _ q2 Tryz.underlying57 rfl (by kernel_rfl))) rfl ?_
                  exact ⟨q3, d2, -1, rfl, RDig.no HNo2.out⟩
                · go_wp2_with (first
                    | (go_at_call 116; (with_reducible refine Calls.mono (rdigit_any _ e (by omega)) ?_); rintro er w9 ⟨rfl, rfl⟩; rw [Ha.out])
                    | (go_at_call 116; (with_reducible refine Calls.mono (rdigit_any _ f (by omega)) ?_); rintro er w9 ⟨rfl, rfl⟩; rw [Hb.out]))
                  clear c0 c1 c2 c3
                  refine wp_two_chain (by kernel_rfl) rfl (by kernel_rfl) (by kernel_rfl) (by kernel_rfl) (by kernel_rfl) (by kernel_rfl) (by kernel_rfl) (by kernel_rfl) (by kernel_rfl) (fun _ _ d _ _ h => by cases d <;> exact h) rfl rfl rfl rfl rfl rfl (w.heap.size + 1) (w.heap.size + 2) (by omega) (.agg (digArr d2)) (.agg #[.slice L ts.length cl, .int .i64 (-1), .slice A m ca]) (fun W hW => y_load 65 (.tmp 4) rfl (w.heap.size + 3) (by omega) (by omega) rfl 65 _ (0, 0) _ (DgS.k3 HS.out) Tryz.underlying65 rfl (by kernel_rfl) hW) (fun W hW => y_load 57 (.tmp 1) rfl (w.heap.size) (by omega) (by omega) rfl 57 _ (0, 0) _ (DgS.k0 HS.out) Tryz.underlying57 rfl (by kernel_rfl) hW) 65 (.tmp 2) (.tmp 64) rfl rfl (.agg (digArr d2)) rfl 57 (.tmp 3) (.tmp 65) rfl rfl (.agg #[.slice L ts.length cl, .int .i64 (-1), .slice A m ca]) rfl _ _ (DgS.k1 HS.out) rfl (by kernel_rfl) (dig_one d2) _ _ (DgS.k2 HS.out) rfl (by kernel_rfl) (by simp [Value.cells, Value.oneCell']) ?_
                  obtain ⟨q1, q2, q3⟩ := ret2_world HS.out (digArr d2) #[.slice L ts.length cl, .int .i64 (-1), .slice A m ca]
                  go_wp2
                  refine bodyPost_ret (results_two_rows Tryz.results96 _ _ (w.heap.size + 1) (w.heap.size + 2) (digArr d2) #[.slice L ts.length cl, .int .i64 (-1), .slice A m ca] rfl rfl (run_loadVar_row _ _ 65 65 _ (0, 0) _ q1 Tryz.underlying65 rfl (by kernel_rfl)) (run_loadVar_row _ _ 57 57 _ (0, 0) _ q2 Tryz.underlying57 rfl (by kernel_rfl))) rfl ?_
                  exact ⟨q3, d2, -1, rfl, RDig.no HNo2.out⟩
              · have HSn := hide (DgS.byte HSi.out (show 4 * n + k < 16 by omega) (16 * a + b))
                have HTn := hide (show (wr.setCell ⟨w.heap.size + 3, 4 * n + k, none⟩ (.int .u8 (16 * a + b))).heap[w1.heap.size]? = _ from (Below.heap_setCell wr ⟨w.heap.size + 3, 4 * n + k, none⟩ _ _ (by simp; omega)).trans HTi.out)
                have w6' : IntKind.i64.wrap (16 * a) = 16 * a := IntWalk.i64_in _ (by omega)
                have w7' : IntKind.i64.wrap (16 * a + b) = 16 * a + b := IntWalk.i64_in _ (by omega)
                have w8' : IntKind.u8.wrap (16 * a + b) = 16 * a + b := IntWalk.u8_in _ (by omega)
                clear hbs
                go_wp2_with (first
                  | (go_at_call 116; (with_reducible refine Calls.mono (rdigit_any _ e (by omega)) ?_); rintro er w9 ⟨rfl, rfl⟩; rw [Ha.out])
                  | (go_at_call 116; (with_reducible refine Calls.mono (rdigit_any _ f (by omega)) ?_); rintro er w9 ⟨rfl, rfl⟩; rw [Hb.out]))
                go_roundg g2
                case measure => omega
                case rel => exact ⟨k + 1, upd d2 (4 * n + k) (16 * a + b), by omega, by go_num, HSn, HTn, trivial⟩
        · have hK1' : 0 ≤ K1 := by obtain ⟨k, rfl, _⟩ := hL'; omega
          have HL' := hide hL'
          have HGo' := hide hgo'
          have q5 := q3 (by omega)
          have q2' : (t.s.size : Int) = 9 := by omega
          have hlt0 : (0 : Int) < (t.s.size : Int) := by omega
          clear q3 hL' hgo'
          have HS0 := HS2
          have HT0 := HT2
          go_wp2_with (first
            | (with_reducible refine wpList_store_row rfl 57 (.tmp 1) (.tmp 26) rfl w.heap.size rfl (.agg #[.slice L ts.length cl, .int .i64 K1, .slice A m ca]) rfl _ _ HK1.out rfl (by kernel_rfl) (by simp [Value.cells, Value.oneCell']) ?_; rw [← HZ1.out, ← HZ2.out]))
          clear c0 c1 c2 c3 cT q5
          go_loopg [8] 4 (fun g2 i2 wr2 => ∃ (k : Nat) (d2 : Nat → Int), k + g2 = 4 ∧ i2 = .int .i64 k ∧ Hid (DgS w wr2 L ts.length cl K1 A m ca d2) ∧ Hid (wr2.heap[w1.heap.size]? = some (.cells #[.int .i64 t.k, .string t.s, .int .i64 t.n, .int .i64 t.p] 62 (0, 0))) ∧ Hid (inGo t.s.toList n g2 k d2 = inGo t.s.toList n 4 0 d))
          case atStart => exact ⟨0, d, rfl, rfl, HS0, HT0, rfl⟩
          case round =>
            obtain ⟨k, d2, hkg, rfl, HSi, HTi, HPi⟩ := hrel
            cases gk with
            | zero =>
              obtain rfl : k = 4 := by omega
              have hn : digGo g (n + 1) d2 r' = digestF l := by
                rw [← HGo'.out, ← HPi.out]
                simp only [inGo]
              have hR : Hid (DgR ts (some l) g (n + 1) d2 K1) := .inr ⟨r', l, rfl, HL'.out, hn⟩
              clear hn
              go_wp2
              go_roundg g
              case measure => omega
              case rel => exact ⟨n + 1, d2, K1, by omega, by go_num, hK1.1, hK1.2, HSi, hR⟩
            | succ g2 =>
              have hk4 : k < 4 := by omega
              obtain ⟨c0, c1, c2⟩ := DgS.load HSi.out
              have c3 := (DgS.cells HSi.out).2
              have cT : wr.cell? ⟨w1.heap.size, 1, none⟩ = some (.string t.s) := by rw [cell_of_row _ _ _ _ _ _ HTi.out]; rfl
              have b1 : 2 * k + 1 < t.s.size := by omega
              have b2 : 2 * k + 2 < t.s.size := by omega
              obtain ⟨e, he⟩ : ∃ c, c = byteAt t.s.toList (2 * k + 1) := ⟨_, rfl⟩
              obtain ⟨f, hf⟩ : ∃ c, c = byteAt t.s.toList (2 * k + 2) := ⟨_, rfl⟩
              have e1 : ∀ W, (Instr.index 9 (.string t.s) (.int .i64 (2 * (k : Int) + 1))).run Tryz.prog W = .ok (.int .u8 e) W := fun W => by rw [he]; exact run_index_str _ _ _ (by omega) b1 W
              have e2 : ∀ W, (Instr.index 9 (.string t.s) (.int .i64 (2 * (k : Int) + 2))).run Tryz.prog W = .ok (.int .u8 f) W := fun W => by rw [hf]; exact run_index_str _ _ _ (by omega) b2 W
              have w1' : IntKind.i64.wrap (2 * (k : Int)) = 2 * (k : Int) := IntWalk.i64_in _ (by omega)
              have w2' : IntKind.i64.wrap (2 * (k : Int) + 1) = 2 * (k : Int) + 1 := IntWalk.i64_in _ (by omega)
              have w3' : IntKind.i64.wrap (2 * (k : Int) + 2) = 2 * (k : Int) + 2 := IntWalk.i64_in _ (by omega)
              have w4' : IntKind.i64.wrap (4 * (n : Int)) = 4 * (n : Int) := IntWalk.i64_in _ (by omega)
              have w5' : IntKind.i64.wrap (4 * (n : Int) + (k : Int)) = 4 * (n : Int) + (k : Int) := IntWalk.i64_in _ (by omega)
              have hr1 := byteAt_range t.s.toList (2 * k + 1)
              have hr2 := byteAt_range t.s.toList (2 * k + 2)
              rw [← he] at hr1
              rw [← hf] at hr2
              have hbf := byteF_dig t.s.toList k
              rw [← he, ← hf] at hbf
              obtain ⟨a, ha⟩ : ∃ a, digitF e = a := ⟨_, rfl⟩
              obtain ⟨b, hb⟩ : ∃ b, digitF f = b := ⟨_, rfl⟩
              rw [ha, hb] at hbf
              have Ha := hide ha
              have Hb := hide hb
              clear ha hb he hf
              have x0 : wr.cell? ⟨w.heap.size + 3, 4 * n + k, none⟩ = some (.int .u8 (d2 (4 * n + k))) := by rw [cell_of_row _ _ _ _ _ _ (DgS.k3 HSi.out)]; exact digArr_get _ _ (by omega)
              have x1 : wr.frozen? ⟨w.heap.size + 3, 4 * n + k, none⟩ = false := frozen_of_row _ _ _ _ _ (DgS.k3 HSi.out)
              rcases hbf with ⟨hneg, hbn⟩ | ⟨hra, hrb, hbs⟩
              · have hno2 : ∀ l', some l = some l' → digestF l' = none := by
                  intro l' e
                  injection e with e
                  subst e
                  rw [← HGo'.out, ← HPi.out, inGo, hbn]
                have HNo2 := hide hno2
                clear hno2
                have HS := hide (DgS.dead HSi.out)
                clear hbn x0 x1
                rcases hneg with hneg | ⟨hpos, hneg⟩
                · go_wp2_with (first
                    | (go_at_call 116; (with_reducible refine Calls.mono (rdigit_any _ e (by omega)) ?_); rintro er w9 ⟨rfl, rfl⟩; rw [Ha.out])
                    | (go_at_call 116; (with_reducible refine Calls.mono (rdigit_any _ f (by omega)) ?_); rintro er w9 ⟨rfl, rfl⟩; rw [Hb.out]))
                  clear c0 c1 c2 c3
                  refine wp_two_chain (by kernel_rfl) rfl (by kernel_rfl) (by kernel_rfl) (by kernel_rfl) (by kernel_rfl) (by kernel_rfl) (by kernel_rfl) (by kernel_rfl) (by kernel_rfl) (fun _ _ d _ _ h => by cases d <;> exact h) rfl rfl rfl rfl rfl rfl (w.heap.size + 1) (w.heap.size + 2) (by omega) (.agg (digArr d2)) (.agg #[.slice L ts.length cl, .int .i64 (-1), .slice A m ca]) (fun W hW => y_load 65 (.tmp 4) rfl (w.heap.size + 3) (by omega) (by omega) rfl 65 _ (0, 0) _ (DgS.k3 HS.out) Tryz.underlying65 rfl (by kernel_rfl) hW) (fun W hW => y_load 57 (.tmp 1) rfl (w.heap.size) (by omega) (by omega) rfl 57 _ (0, 0) _ (DgS.k0 HS.out) Tryz.underlying57 rfl (by kernel_rfl) hW) 65 (.tmp 2) (.tmp 64) rfl rfl (.agg (digArr d2)) rfl 57 (.tmp 3) (.tmp 65) rfl rfl (.agg #[.slice L ts.length cl, .int .i64 (-1), .slice A m ca]) rfl _ _ (DgS.k1 HS.out) rfl (by kernel_rfl) (dig_one d2) _ _ (DgS.k2 HS.out) rfl (by kernel_rfl) (by simp [Value.cells, Value.oneCell']) ?_
                  obtain ⟨q1, q2, q3⟩ := ret2_world HS.out (digArr d2) #[.slice L ts.length cl, .int .i64 (-1), .slice A m ca]
                  go_wp2
                  refine bodyPost_ret (results_two_rows Tryz.results96 _ _ (w.heap.size + 1) (w.heap.size + 2) (digArr d2) #[.slice L ts.length cl, .int .i64 (-1), .slice A m ca] rfl rfl (run_loadVar_row _ _ 65 65 _ (0, 0) _ q1 Tryz.underlying65 rfl (by kernel_rfl)) (run_loadVar_row _ _ 57 57 _ (0, 0) _ q2 Tryz.underlying57 rfl (by kernel_rfl))) rfl ?_
                  exact ⟨q3, d2, -1, rfl, RDig.no HNo2.out⟩
                · go_wp2_with (first
                    | (go_at_call 116; (with_reducible refine Calls.mono (rdigit_any _ e (by omega)) ?_); rintro er w9 ⟨rfl, rfl⟩; rw [Ha.out])
                    | (go_at_call 116; (with_reducible refine Calls.mono (rdigit_any _ f (by omega)) ?_); rintro er w9 ⟨rfl, rfl⟩; rw [Hb.out]))
                  clear c0 c1 c2 c3
                  refine wp_two_chain (by kernel_rfl) rfl (by kernel_rfl) (by kernel_rfl) (by kernel_rfl) (by kernel_rfl) (by kernel_rfl) (by kernel_rfl) (by kernel_rfl) (by kernel_rfl) (fun _ _ d _ _ h => by cases d <;> exact h) rfl rfl rfl rfl rfl rfl (w.heap.size + 1) (w.heap.size + 2) (by omega) (.agg (digArr d2)) (.agg #[.slice L ts.length cl, .int .i64 (-1), .slice A m ca]) (fun W hW => y_load 65 (.tmp 4) rfl (w.heap.size + 3) (by omega) (by omega) rfl 65 _ (0, 0) _ (DgS.k3 HS.out) Tryz.underlying65 rfl (by kernel_rfl) hW) (fun W hW => y_load 57 (.tmp 1) rfl (w.heap.size) (by omega) (by omega) rfl 57 _ (0, 0) _ (DgS.k0 HS.out) Tryz.underlying57 rfl (by kernel_rfl) hW) 65 (.tmp 2) (.tmp 64) rfl rfl (.agg (digArr d2)) rfl 57 (.tmp 3) (.tmp 65) rfl rfl (.agg #[.slice L ts.length cl, .int .i64 (-1), .slice A m ca]) rfl _ _ (DgS.k1 HS.out) rfl (by kernel_rfl) (dig_one d2) _ _ (DgS.k2 HS.out) rfl (by kernel_rfl) (by simp [Value.cells, Value.oneCell']) ?_
                  obtain ⟨q1, q2, q3⟩ := ret2_world HS.out (digArr d2) #[.slice L ts.length cl, .int .i64 (-1), .slice A m ca]
                  go_wp2
                  refine bodyPost_ret (results_two_rows Tryz.results96 _ _ (w.heap.size + 1) (w.heap.size + 2) (digArr d2) #[.slice L ts.length cl, .int .i64 (-1), .slice A m ca] rfl rfl (run_loadVar_row _ _ 65 65 _ (0, 0) _ q1 Tryz.underlying65 rfl (by kernel_rfl)) (run_loadVar_row _ _ 57 57 _ (0, 0) _ q2 Tryz.underlying57 rfl (by kernel_rfl))) rfl ?_
                  exact ⟨q3, d2, -1, rfl, RDig.no HNo2.out⟩
              · have HSn := hide (DgS.byte HSi.out (show 4 * n + k < 16 by omega) (16 * a + b))
                have HTn := hide (show (wr.setCell ⟨w.heap.size + 3, 4 * n + k, none⟩ (.int .u8 (16 * a + b))).heap[w1.heap.size]? = _ from (Below.heap_setCell wr ⟨w.heap.size + 3, 4 * n + k, none⟩ _ _ (by simp; omega)).trans HTi.out)
                have hPn : Hid (inGo t.s.toList n g2 (k + 1) (upd d2 (4 * n + k) (16 * a + b)) = inGo t.s.toList n 4 0 d) := by
                  show inGo t.s.toList n g2 (k + 1) (upd d2 (4 * n + k) (16 * a + b)) = inGo t.s.toList n 4 0 d
                  rw [← HPi.out, inGo, hbs]
                have w6' : IntKind.i64.wrap (16 * a) = 16 * a := IntWalk.i64_in _ (by omega)
                have w7' : IntKind.i64.wrap (16 * a + b) = 16 * a + b := IntWalk.i64_in _ (by omega)
                have w8' : IntKind.u8.wrap (16 * a + b) = 16 * a + b := IntWalk.u8_in _ (by omega)
                clear hbs
                go_wp2_with (first
                  | (go_at_call 116; (with_reducible refine Calls.mono (rdigit_any _ e (by omega)) ?_); rintro er w9 ⟨rfl, rfl⟩; rw [Ha.out])
                  | (go_at_call 116; (with_reducible refine Calls.mono (rdigit_any _ f (by omega)) ?_); rintro er w9 ⟨rfl, rfl⟩; rw [Hb.out]))
                go_roundg g2
                case measure => omega
                case rel => exact ⟨k + 1, upd d2 (4 * n + k) (16 * a + b), by omega, by go_num, HSn, HTn, hPn⟩
end Go.Proofs.YtbojlnbdkaanmaaGreatDoor
