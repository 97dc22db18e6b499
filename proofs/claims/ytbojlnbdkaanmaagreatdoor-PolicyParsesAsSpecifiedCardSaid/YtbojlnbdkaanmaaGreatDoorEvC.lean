/-
  The program's Eval.
-/
import Derived.Test.YtbojlnbdkaanmaaGreatDoorLoadAt
import Derived.Test.YtbojlnbdkaanmaaGreatDoorReg
import Derived.Outline
set_option linter.unusedVariables false
set_option linter.unusedSimpArgs false
namespace Go.Proofs.YtbojlnbdkaanmaaGreatDoor
open Go.RowKit

/-- The cells of the table of evaluators. -/
def Evs (w : World) : Prop := ∀ k : Nat, 1 ≤ k → k ≤ 10 → w.cell? ⟨0, k, none⟩ = some (.func (.func (evFn k)) #[] #[])
theorem Evs.below {w w' : World} (h : Evs w) (hb : Below w.heap.size w w') : Evs w' := by
  intro k h1 h2
  have := h k h1 h2
  have hlt : 0 < w.heap.size := World.block_lt_of_cell? w _ this
  exact (hb.cell (p := ⟨0, k, none⟩) hlt).trans this
/-- The results' slice in a round: what is reckoned, then zeros. -/
def resZ (F : Fct) (nds : List Nd) (k : Nat) : List Int := evAll F (nds.take k) ++ List.replicate (nds.length - k) 0
theorem evAll_snoc (F : Fct) (nds : List Nd) (x : Nd) : evAll F (nds ++ [x]) = evAll F nds ++ [evStep F (evAll F nds) x] := by simp [evAll]
theorem evFold_length (F : Fct) : ∀ (nds : List Nd) (rs : List Int), (nds.foldl (fun rs nd => rs ++ [evStep F rs nd]) rs).length = rs.length + nds.length
  | [], rs => rfl
  | x :: l, rs => by simp only [List.foldl_cons]; rw [evFold_length F l]; simp; omega
theorem evAll_length (F : Fct) (nds : List Nd) : (evAll F nds).length = nds.length := by rw [evAll, evFold_length]; simp
theorem evFold_b (F : Fct) : ∀ (nds : List Nd) (rs : List Int), (∀ x ∈ rs, -1 ≤ x ∧ x ≤ 1) → ∀ x ∈ nds.foldl (fun rs nd => rs ++ [evStep F rs nd]) rs, -1 ≤ x ∧ x ≤ 1
  | [], rs, h => h
  | x :: l, rs, h => by
    simp only [List.foldl_cons]
    refine evFold_b F l _ fun y hy => ?_
    rcases List.mem_append.1 hy with q | q
    · exact h y q
    · simp at q
      subst q
      exact evStep_b F rs x h
theorem evAll_b (F : Fct) (nds : List Nd) : ∀ x ∈ evAll F nds, -1 ≤ x ∧ x ≤ 1 := evFold_b F nds [] (by simp)
theorem evAll_take (F : Fct) (nds : List Nd) (k : Nat) (hk : k < nds.length) : evAll F (nds.take (k + 1)) = evAll F (nds.take k) ++ [evStep F (evAll F (nds.take k)) nds[k]] := by
  rw [List.take_add_one, List.getElem?_eq_getElem hk, Option.toList_some, evAll_snoc]
theorem resZ_length (F : Fct) (nds : List Nd) (k : Nat) (hk : k ≤ nds.length) : (resZ F nds k).length = nds.length := by
  rw [resZ, List.length_append, evAll_length, List.length_take, List.length_replicate]
  omega
theorem resZ_set (F : Fct) (nds : List Nd) (k : Nat) (hk : k < nds.length) : (resZ F nds k).set k (evStep F (evAll F (nds.take k)) nds[k]) = resZ F nds (k + 1) := by
  have hl : (evAll F (nds.take k)).length = k := by rw [evAll_length, List.length_take]; omega
  rw [resZ, resZ, evAll_take F nds k hk, List.set_append, if_neg (by omega), hl, Nat.sub_self]
  rw [show nds.length - k = (nds.length - (k + 1)) + 1 by omega, List.replicate_succ]
  simp

theorem evalF_get (F : Fct) {nds : List Nd} (h : ¬ nds.length = 0) : (evAll F nds)[nds.length - 1]? = some (evalF F nds) := by
  have hl := evAll_length F nds
  have hx : nds.length - 1 < (evAll F nds).length := by omega
  unfold evalF
  rw [List.getLastD_eq_getLast?, List.getLast?_eq_getElem?, hl, List.getElem?_eq_getElem hx]
  rfl
theorem made_zero (n : Nat) : (madeCells #[.int .i64 0] n).toList = (List.replicate n (0 : Int)).map (fun x => Value.int .i64 x) := by
  apply List.ext_getElem?
  intro j
  by_cases h : j < n
  · simp [madeCells, h, Nat.mod_one]
  · simp [madeCells, h]
theorem ev_enter (k : Int) (h : 1 ≤ k ∧ k ≤ 10) (args : Array Value) (w : World) : (callFunc (evFn k) args).run Tryz.prog w = .ok (.enter (evFn k) args) w := by
  have h : k = 1 ∨ k = 2 ∨ k = 3 ∨ k = 4 ∨ k = 5 ∨ k = 6 ∨ k = 7 ∨ k = 8 ∨ k = 9 ∨ k = 10 := by omega
  rcases h with rfl | rfl | rfl | rfl | rfl | rfl | rfl | rfl | rfl | rfl
  · show (callFunc 155 args).run Tryz.prog w = .ok (.enter 155 args) w
    go_simp
  · show (callFunc 156 args).run Tryz.prog w = .ok (.enter 156 args) w
    go_simp
  · show (callFunc 158 args).run Tryz.prog w = .ok (.enter 158 args) w
    go_simp
  · show (callFunc 159 args).run Tryz.prog w = .ok (.enter 159 args) w
    go_simp
  · show (callFunc 160 args).run Tryz.prog w = .ok (.enter 160 args) w
    go_simp
  · show (callFunc 161 args).run Tryz.prog w = .ok (.enter 161 args) w
    go_simp
  · show (callFunc 162 args).run Tryz.prog w = .ok (.enter 162 args) w
    go_simp
  · show (callFunc 164 args).run Tryz.prog w = .ok (.enter 164 args) w
    go_simp
  · show (callFunc 166 args).run Tryz.prog w = .ok (.enter 166 args) w
    go_simp
  · show (callFunc 168 args).run Tryz.prog w = .ok (.enter 168 args) w
    go_simp
/-- The results so far read. -/
theorem resAt_of {w : World} {base P0 n k : Nat} {F : Fct} {nds : List Nd} (h : w.ownsRow base 3 1 (.slice (some ⟨P0, 0, none⟩) n n) n ((resZ F nds k).map fun x => .int .i64 x)) (hn : n = nds.length) (hk : k ≤ nds.length) :
    ResAt w w.heap.size (some ⟨P0, 0, none⟩) n (evAll F (nds.take k)) := by
  have hl := resZ_length F nds k hk
  have he : (evAll F (nds.take k)).length = k := by rw [evAll_length, List.length_take]; omega
  refine ⟨resZ F nds k, by omega, fun i hi => ?_, by omega, fun i cs hi => ?_⟩
  · rw [resZ, List.getElem?_append_left hi]
  · rw [List.getElem?_map] at hi
    cases hx : (resZ F nds k)[i]? with
    | none => rw [hx] at hi; cases hi
    | some x =>
      rw [hx] at hi
      injection hi with hi
      subst hi
      have hlt := (List.getElem?_eq_some_iff.1 hx).1
      have hc := h.cellAt i (by omega)
      rw [List.getElem?_map, hx] at hc
      refine ⟨P0, 0, rfl, World.block_lt_of_cell? w _ hc, fun j v hj => ?_⟩
      cases j with
      | zero => simp at hj; subst hj; simpa using hc
      | succ j => simp at hj
set_option maxRecDepth 100000 in
set_option maxHeartbeats 4000000 in
theorem eval_any (w : World) (A : Option Addr) (c : Nat) (nds : List Nd) (hN : Nodes w w.heap.size A nds) (hok : ∀ i nd, nds[i]? = some nd → NdOk i nd) (hln : nds.length ≤ 1000000) (F : Fct) (As : Option Addr) (cs : Nat) (Ap : Option Addr) (cp : Nat)
    (hst : F.st.length ≤ 1000000) (hF : FctAt w w.heap.size F As Ap) (hE : Evs w) :
    Calls Tryz.prog 22 #[.agg #[.slice A nds.length c], F.val As cs Ap cp] w fun e w' => e = .returned (.int .i64 (evalF F nds)) ∧ Below w.heap.size w w' := by
  have HN := hide hN
  have Hok := hide hok
  have HF := hide hF
  have HE := hide hE
  clear hN hok hF hE
  obtain ⟨i0, hi0, hz0, hz1, hz2⟩ := info_parts info3
  simp only [Fct.val]
  go_enter Tryz.func22, Tryz.ntmps22
  go_wp2_with (first
    | (with_reducible refine wpList_make_full _ rfl (.tmp 10) (.tmp 10) 47 rfl (w.heap.size + 2) 3 i0 (.int .i64 0) 1 Tryz.underlying47 hi0 hz0 hz1 .i64 .i64 _ _ nds.length rfl rfl rfl rfl (by rw [hz2]; omega) (by unfold maxLen; omega) (by simp) ?_))
  intro w1 hown hgr
  have hz : (madeCells #[.int .i64 0] nds.length).toList = (resZ F nds 0).map (fun x => .int .i64 x) := by
    rw [made_zero]
    simp [resZ, evAll]
  have hB : Below (w.heap.size + 2) ((w.alloc (.cells #[.slice A nds.length c] 25)).alloc (.cells #[.int .i64 F.v, .int .i64 F.e, .slice As F.st.length cs, .slice Ap F.pts.length cp] 42)) w1 :=
    (Below.refl _ _).grown hgr (by simp) (fun k h => by cases h)
  have k25 : w1.heap[w.heap.size]? = some (.cells #[.slice A nds.length c] 25 (0, 0)) := (hB.block _ (by omega)).trans ((heap_alloc_old _ _ (by simp)).trans (heap_alloc_new w _))
  have k42 : w1.heap[w.heap.size + 1]? = some (.cells #[.int .i64 F.v, .int .i64 F.e, .slice As F.st.length cs, .slice Ap F.pts.length cp] 42 (0, 0)) := (hB.block _ (by omega)).trans (heap_alloc2_new w _ _)
  have hBw : Below w.heap.size w w1 := (((Below.refl _ w).alloc (Nat.le_refl _) _).alloc (by simp) _).trans (hB.mono (by omega))
  rw [hz] at hown
  have c25 := cell_of_one k25
  have Hown := hide hown
  have HB := hide hBw
  have K25 := hide k25
  have K42 := hide k42
  clear hown hgr hz hB hBw k25 k42
  go_wp2
  go_loopg [15] (nds.length + 1) (fun g kv wr => ∃ k : Nat, kv = .int .i64 k ∧ k ≤ nds.length ∧ nds.length < g + k ∧ Hid (wr.ownsRow (w.heap.size + 2) 3 1 (.slice (some ⟨w.heap.size + 1 + 1, 0, none⟩) nds.length nds.length) nds.length ((resZ F nds k).map fun x => .int .i64 x)) ∧ Hid (Below (w.heap.size + 2) w1 wr))
  case atStart => exact ⟨0, rfl, Nat.zero_le _, by omega, Hown, Below.refl _ _⟩
  case round =>
    obtain ⟨k, rfl, hk, hg, HO, HBr⟩ := hrel
    cases gk with
    | zero => omega
    | succ g =>
      by_cases hlt : k < nds.length
      · obtain ⟨b, off, Ao, co, rfl, hbl, hat, hof⟩ := HN.out.at_ hlt
        obtain ⟨nd, hnd⟩ : ∃ nd, nds[k] = nd := ⟨_, rfl⟩
        have hokk := Hok.out k nds[k] (List.getElem?_eq_getElem hlt)
        rw [hnd] at hat hof hokk
        have hbr := HB.out.trans (HBr.out.mono (by omega))
        have hat2 := (hat.below hbr hbl).read
        have Hat := hide hat2
        have hlI : (k : Int) < (nds.length : Int) := by omega
        clear hat hat2
        have Hnd := hide hnd
        have Hof := hide hof
        have Hokk := hide hokk
        have Hbr := hide hbr
        clear hnd hof hokk hbr
        obtain ⟨o, ho⟩ : ∃ o, (Value.slice Ao nd.of.length co) = o := ⟨_, rfl⟩
        rw [ho] at Hat
        have hoc : o.oneCell' = true := by rw [← ho]; rfl
        have Ho := hide ho
        clear ho
        obtain ⟨W, hW⟩ : ∃ W, W = wr.alloc (.cells (nd.cells o).toArray 67) := ⟨_, rfl⟩
        obtain ⟨hWb, hWk, hWs⟩ := fresh_facts hW
        have c0 : W.cell? ⟨wr.heap.size, 0, none⟩ = some (.int .i64 nd.k) := by rw [cell_of_row _ _ _ _ _ _ hWk]; rfl
        have HWe := hide hW
        have HWb := hide hWb
        have HWk := hide hWk
        have HWs := hide hWs
        clear hW hWb hWk hWs
        have hk1 : 0 < nd.k := by have := Hokk.out.k; omega
        have hk0 : 0 ≤ nd.k := by omega
        have hk2 : nd.k < 11 := by have := Hokk.out.k; omega
        go_wp2_with (first
          | (with_reducible refine wpList_load_at rfl 67 (.tmp 18) rfl ⟨b, off + k * 21, none⟩ rfl _ _ Hat.out Tryz.underlying67 rfl (by kernel_rfl) ?_)
          | (with_reducible refine wpList_store_fresh rfl 67 (.tmp 7) (.tmp 19) rfl (.agg (nd.cells o).toArray) rfl rfl rfl (by kernel_rfl) (nd_one hoc) HWe.out ?_))
        have hltW : w.heap.size + 1 + 1 < wr.heap.size := (HO.out.lt _ rfl).2
        have hres := own_below HO.out HWb.out
        have cev : W.cell? ⟨0, nd.k.toNat, none⟩ = some (.func (.func (evFn nd.k)) #[] #[]) := by
          have h1 := HE.out nd.k.toNat (by omega) (by omega)
          rw [show ((nd.k.toNat : Nat) : Int) = nd.k by omega] at h1
          have hlt0 := World.block_lt_of_cell? w _ h1
          exact (HWb.out.cell (p := ⟨0, _, none⟩) (Nat.lt_of_lt_of_le hlt0 Hbr.out.size)).trans ((Hbr.out.cell (p := ⟨0, _, none⟩) hlt0).trans h1)
        have h42 : W.heap[w.heap.size + 1]? = some (.cells #[.int .i64 F.v, .int .i64 F.e, .slice As F.st.length cs, .slice Ap F.pts.length cp] 42 (0, 0)) :=
          (HWb.out.block _ (by omega)).trans ((HBr.out.block _ (by omega)).trans K42.out)
        obtain ⟨P0, hP0⟩ : ∃ P0, P0 = w.heap.size + 1 + 1 := ⟨_, rfl⟩
        rw [← hP0]
        rw [← hP0] at hres
        refine wp_region_held (S := fun W' => ∀ k, k ≠ P0 → k < W.heap.size → W'.heap[k]? = W.heap[k]?) (by kernel_rfl) ?_
        change wpAnyH _ _ _ _ _ _ _ _ (World.drew _)
        have HS := hide (show ∀ k, k ≠ P0 → k < W.heap.size → W.drew.heap[k]? = W.heap[k]? from fun _ _ _ => rfl)
        have Hres := hide hres
        have Hcev := hide cev
        have H42 := hide h42
        have HltW := hide hltW
        have HP0 := hide hP0
        clear hres cev h42 hltW hP0
        refine wpAnyH_take (i := 0) (v := .slice (some ⟨P0, 0, none⟩) nds.length nds.length) rfl (by kernel_rfl) (by kernel_rfl) (by kernel_rfl) (fun _ _ _ h => h) (Or.inl ⟨by rfl, ?_⟩) HS.out ?_
        · intro W' _; go_simp
        try simp only [Act.put, List.setIfInBounds_toArray, List.set_cons_zero, List.set_cons_succ]
        refine wpAnyH_take (i := 1) (v := .int .i64 k) rfl (by kernel_rfl) (by kernel_rfl) (by kernel_rfl) (fun _ _ _ h => h) (Or.inl ⟨by rfl, ?_⟩) HS.out ?_
        · intro W' _; go_simp
        try simp only [Act.put, List.setIfInBounds_toArray, List.set_cons_zero, List.set_cons_succ]
        refine wpAnyH_take (i := 2) (v := .pointer (some ⟨wr.heap.size, 0, none⟩)) rfl (by kernel_rfl) (by kernel_rfl) (by kernel_rfl) (fun _ _ _ h => h) (Or.inl ⟨by rfl, ?_⟩) HS.out ?_
        · intro W' _; go_simp
        try simp only [Act.put, List.setIfInBounds_toArray, List.set_cons_zero, List.set_cons_succ]
        refine wpAnyH_take (i := 3) (v := .int .i64 nd.k) rfl (by kernel_rfl) (by kernel_rfl) (by kernel_rfl) (fun _ _ _ h => h) (Or.inl ⟨by rfl, ?_⟩) HS.out ?_
        · intro W' hS; have c1 : W'.cell? ⟨wr.heap.size, 0, none⟩ = some (.int .i64 nd.k) := (World.cell?_of_block (hS wr.heap.size (by have := HltW.out; have := HP0.out; omega) (by have := HWs.out; omega))).trans c0; clear hS; go_simp
        try simp only [Act.put, List.setIfInBounds_toArray, List.set_cons_zero, List.set_cons_succ]
        refine wpAnyH_take (i := 4) (v := .pointer (some ⟨0, nd.k.toNat, none⟩)) rfl (by kernel_rfl) (by kernel_rfl) (by kernel_rfl) (fun _ _ _ h => h) (Or.inl ⟨by rfl, ?_⟩) HS.out ?_
        · intro W' _; go_simp
        try simp only [Act.put, List.setIfInBounds_toArray, List.set_cons_zero, List.set_cons_succ]
        refine wpAnyH_take (i := 5) (v := .func (.func (evFn nd.k)) #[] #[]) rfl (by kernel_rfl) (by kernel_rfl) (by kernel_rfl) (fun _ _ _ h => h) (Or.inl ⟨by rfl, ?_⟩) HS.out ?_
        · intro W' hS; have c1 : W'.cell? ⟨0, nd.k.toNat, none⟩ = some (.func (.func (evFn nd.k)) #[] #[]) := (World.cell?_of_block (hS 0 (by have := HltW.out; have := HP0.out; omega) (by have := HWs.out; omega))).trans Hcev.out; clear hS; go_simp
        try simp only [Act.put, List.setIfInBounds_toArray, List.set_cons_zero, List.set_cons_succ]
        refine wpAnyH_take (i := 6) (v := .agg (nd.cells o).toArray) rfl (by kernel_rfl) (by kernel_rfl) (by kernel_rfl) (fun _ _ _ h => h) (Or.inl ⟨by rfl, ?_⟩) HS.out ?_
        · intro W' hS; exact y_load1 67 (.tmp 7) rfl wr.heap.size rfl 67 _ (0, 0) _ ((hS _ (by have := HltW.out; have := HP0.out; omega) (by have := HWs.out; omega)).trans HWk.out) Tryz.underlying67 rfl (by kernel_rfl)
        try simp only [Act.put, List.setIfInBounds_toArray, List.set_cons_zero, List.set_cons_succ]
        refine wpAnyH_take (i := 7) (v := .agg #[.int .i64 F.v, .int .i64 F.e, .slice As F.st.length cs, .slice Ap F.pts.length cp]) rfl (by kernel_rfl) (by kernel_rfl) (by kernel_rfl) (fun _ _ _ h => h) (Or.inl ⟨by rfl, ?_⟩) HS.out ?_
        · intro W' hS; exact y_load1 42 (.tmp 3) rfl (w.heap.size + 1) rfl 42 _ (0, 0) _ ((hS _ (by have := HltW.out; have := HP0.out; omega) (by have := HWs.out; have := HltW.out; omega)).trans H42.out) Tryz.underlying42 rfl (by kernel_rfl)
        try simp only [Act.put, List.setIfInBounds_toArray, List.set_cons_zero, List.set_cons_succ]
        refine wpAnyH_take (i := 8) (v := .slice (some ⟨P0, 0, none⟩) nds.length nds.length) rfl (by kernel_rfl) (by kernel_rfl) (by kernel_rfl) (fun _ _ _ h => h) (Or.inl ⟨by rfl, ?_⟩) HS.out ?_
        · intro W' _; go_simp
        try simp only [Act.put, List.setIfInBounds_toArray, List.set_cons_zero, List.set_cons_succ]
        refine wpAnyH_ready (rs := [9]) (by kernel_rfl) (by simp) ?_
        refine AllReadyH.cons rfl (fun K hK => ?_) AllReadyH.nil
        go_simp
        rw [ev_enter nd.k (by omega), Oper.upon_enter]
        have hbW : Below w.heap.size w W.drew := (Hbr.out.trans (HWb.out.mono Hbr.out.size)).drew
        have hlk : (evAll F (nds.take k)).length = k := by rw [evAll_length, List.length_take]; omega
        have hev := ev_all W.drew nd Ao co F As cs Ap cp (some ⟨P0, 0, none⟩) nds.length nds.length (evAll F (nds.take k)) (by rw [hlk]; exact Hokk.out) hst ((Hof.out.below hbW (Nat.le_refl _)).more hbW.size)
          ⟨(HF.out.st.below hbW (Nat.le_refl _)).more hbW.size, HF.out.pts.below2 hbW⟩ (resAt_of Hres.out rfl hk) (evAll_b F _)
        rw [Ho.out] at hev
        change Calls Tryz.prog (evFn nd.k) #[Nd.val nd o, F.val As cs Ap cp, .slice (some ⟨P0, 0, none⟩) nds.length nds.length] W.drew _
        refine Calls.mono hev ?_
        rintro e w2 ⟨rfl, hb2⟩
        have hown2 := own_below Hres.out.drew hb2
        refine hK.out _ _ (fun q h1 h2 => hb2.block q (by simpa using h2)) (fun HS2 => ?_)
        clear hK K hev
        simp only [Act.put, List.setIfInBounds_toArray, List.set_cons_zero, List.set_cons_succ]
        refine wpAnyH_take (i := 10) (v := .pointer (some ⟨P0, k, none⟩)) rfl (by kernel_rfl) (by kernel_rfl) (by kernel_rfl) (fun _ _ _ h => h) (Or.inl ⟨by rfl, ?_⟩) HS2 ?_
        · intro W' _; go_simp
        try simp only [Act.put, List.setIfInBounds_toArray, List.set_cons_zero, List.set_cons_succ]
        refine wpAnyH_ready (rs := [11]) (by kernel_rfl) (by simp) ?_
        refine AllReadyH.cons rfl (fun K hK => ?_) AllReadyH.nil
        have cst : (w2.cell? ⟨P0, k, none⟩).isSome = true := by rw [hown2.cellAt k (by omega), List.getElem?_map]; simp [resZ_length F nds k hk, hlt]
        obtain ⟨old, hold⟩ := Option.isSome_iff_exists.1 cst
        have hfz := hown2.frozenAt k
        have Hown2 := hide hown2
        have Hb2 := hide hb2
        have HbW := hide hbW
        clear hown2 hb2 hbW cst hlk
        go_simp
        refine hK.out _ _ (fun q h1 h2 => (Below.heap_setCell w2 _ _ q h1).trans (HS2 q h1 h2)) (fun _ => ?_)
        refine wpAnyH_done (by kernel_rfl) ?_ _
        have HX := hide (Hown2.out.stored k (.int .i64 (evStep F (evAll F (nds.take k)) nd)))
        have e0 := HP0.out
        clear HP0
        subst e0
        go_wp2
        go_roundg g
        case measure => omega
        case rel =>
          refine ⟨k + 1, by go_num, by omega, by omega, ?_, ?_⟩
          · have h1 := HX.out.1
            have h2 := resZ_set F nds k hlt
            rw [Hnd.out] at h2
            rw [← List.map_set (f := fun x => Value.int .i64 x), h2] at h1
            exact h1
          · exact (((HBr.out.trans (HWb.out.mono (by have := HltW.out; omega))).drew).trans (Hb2.out.mono (by have := HWs.out; have := HltW.out; simp; omega))).setCell (by simp) _
      · obtain rfl : k = nds.length := by omega
        have hres : resZ F nds nds.length = evAll F nds := by simp [resZ]
        have hlen := evAll_length F nds
        by_cases h0 : nds.length = 0
        · have hz0 : nds = [] := List.eq_nil_of_length_eq_zero h0
          go_wp2
          go_ret
          refine ⟨?_, HB.out.trans (HBr.out.mono (by omega))⟩
          rw [hz0]
          rfl
        · have hcell : wr.cell? ⟨w.heap.size + 1 + 1, nds.length - 1, none⟩ = some (.int .i64 (evalF F nds)) := by
            rw [HO.out.cellAt (nds.length - 1) (by omega), hres, List.getElem?_map, evalF_get F h0]
            rfl
          have hidx : ((nds.length : Int) - 1) = ((nds.length - 1 : Nat) : Int) := by omega
          go_wp2
          go_ret
          exact ⟨rfl, HB.out.trans (HBr.out.mono (by omega))⟩
end Go.Proofs.YtbojlnbdkaanmaaGreatDoor
