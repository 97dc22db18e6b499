/-
  The reference's Parse leaves what the program's does. PolicyEvalMatchesSpec: its walk, from the contract of the reference's Parse. PolicyEvalMatchesSpec: for every input the statement answers true, and each argument reads afterwards as before: the row and the card, tied to the program's text.
-/
import Derived.Test.YtbojlnbdkaanmaaGreatDoorRfMN
import Derived.Test.YtbojlnbdkaanmaaGreatDoorRfAG
import Derived.Test.YtbojlnbdkaanmaaGreatDoorParse
import Derived.Test.YtbojlnbdkaanmaaGreatDoorSanB
import Derived.Test.YtbojlnbdkaanmaaGreatDoorVld
import Derived.Test.YtbojlnbdkaanmaaGreatDoorPolT
import Derived.Outline
import Derived.Test.YtbojlnbdkaanmaaGreatDoorRow
import Derived.Test.YtbojlnbdkaanmaaGreatDoorCards
import Derived.Test.YtbojlnbdkaanmaaGreatDoorTie
import Derived.ChangeMaps5
namespace Go.Proofs.YtbojlnbdkaanmaaGreatDoor
open Go.RowKit
set_option linter.unusedSimpArgs false
set_option linter.unusedVariables false

theorem tree_of {ts : List Tok} {K : Int} {nds : List Nd} (h : (polF (ts.length + 1) ts [] = none ∧ K = -1 ∧ nds.length ≤ 0 + ts.length + 1) ∨ ∃ q, polF (ts.length + 1) ts [] = some ((nds.length : Int) - 1, q, nds) ∧ Live ts K (some q) ∧ q.length < ts.length ∧ nds.length + q.length ≤ 0 + ts.length) :
    (treeF ts = none ∧ (K != (ts.length : Int)) = true) ∨ (treeF ts = some nds ∧ K = ts.length ∧ nds.length ≤ ts.length) := by
  unfold treeF
  rcases h with ⟨h1, h2, _⟩ | ⟨q, h1, ⟨k, rfl, hk, hd⟩, h3, h4⟩
  · rw [h1]
    exact .inl ⟨rfl, by rw [bne_iff_ne]; omega⟩
  · rw [h1]
    cases q with
    | nil =>
      have := congrArg List.length hd
      rw [List.length_drop] at this
      simp at this h4
      exact .inr ⟨rfl, by omega, h4⟩
    | cons t r =>
      have := congrArg List.length hd
      rw [List.length_drop] at this
      simp at this
      exact .inl ⟨rfl, by rw [bne_iff_ne]; omega⟩
set_option maxRecDepth 100000 in
set_option maxHeartbeats 8000000 in
theorem rparse_any (w : World) (s : ByteArray) (hs : s.size ≤ 900000) : Calls Tryz.prog 11 #[.string s] w (PostR w (parseR s)) := by
  obtain ⟨er, hel⟩ : ∃ er, (lexR s).1 = er := ⟨_, rfl⟩
  obtain ⟨ts, hts⟩ : ∃ ts, (lexR s).2 = ts := ⟨_, rfl⟩
  have HT := hide (rtokens_any (w.alloc (.cells #[.slice none 0 0] 25)) s)
  have Hel := hide hel
  have Hts := hide hts
  clear hel hts
  go_enter Tryz.func11, Tryz.ntmps11
  go_wp2_with fail
  refine Calls.mono HT.out ?_
  rintro e w1 ⟨hb1, A, c, rfl, ht1, hl1, hc1, hn1⟩
  rw [Hts.out] at ht1 hl1 hn1
  rw [Hel.out, Hts.out]
  have hlen : ts.length ≤ 900000 := by omega
  have HB := hide hb1
  have Ht := hide ht1
  clear hb1 ht1 HT hl1 hc1 hn1
  cases hq : (er != 0) with
  | true =>
    have hp : parseR s = (er, []) := by rw [parseR, Hel.out, if_neg (by simpa using hq)]
    have Hp := hide hp
    clear hp
    go_wp2_with (first
      | (with_reducible refine wpList_store_row rfl 25 (.tmp 2) (.tmp 14) rfl w.heap.size rfl _ rfl _ _ (blk_keep HB.out) rfl (by kernel_rfl) (by kernel_rfl) ?_))
    refine bodyPost_ret (results_row_tmp Tryz.results11 _ _ w.heap.size _ rfl (load25 _ _ _ 25 (setRow_heap _ _ _ _ 25 (0, 0) (blk_keep HB.out)))) rfl ?_
    rw [Hp.out]
    exact PostR.none_ (below_setRow' (((Below.refl _ w).alloc (Nat.le_refl _) _).trans (HB.out.mono (by simp))) (Nat.le_refl _) _)
  | false =>
    have he0 : er = 0 := by simpa using hq
    go_wp2_with fail
    refine Calls.mono (rdepth_any w1 A c ts (by omega) Ht.out) ?_
    rintro e w2 ⟨rfl, rfl⟩
    by_cases hd : 30 < depthF ts
    · have hp : parseR s = (2, []) := by rw [parseR, Hel.out, if_pos he0, Hts.out, parseT, if_pos hd]
      have Hp := hide hp
      clear hp
      go_wp2_with (first
        | (with_reducible refine wpList_store_row rfl 25 (.tmp 2) (.tmp 19) rfl w.heap.size rfl _ rfl _ _ (blk_keep HB.out) rfl (by kernel_rfl) (by kernel_rfl) ?_))
      refine bodyPost_ret (results_row_tmp Tryz.results11 _ _ w.heap.size _ rfl (load25 _ _ _ 25 (setRow_heap _ _ _ _ 25 (0, 0) (blk_keep HB.out)))) rfl ?_
      rw [Hp.out]
      exact PostR.none_ (below_setRow' (((Below.refl _ w).alloc (Nat.le_refl _) _).trans (HB.out.mono (by simp))) (Nat.le_refl _) _)
    · have hd' : depthF ts ≤ 30 := by omega
      have hcall := rchain_all (ts.length + 1) w1 (fun _ => False) A c ts 0 none 0 [] ts (by omega) ⟨0, rfl, Nat.zero_le _, rfl⟩ (by omega) (by simp; omega) (fun _ h => h.elim) (NodesP.nil_ _ _ _) (by simp) (by omega) Ht.out
      have HC := hide hcall
      clear hcall hd
      go_wp2_with fail
      refine Calls.mono HC.out ?_
      rintro e w3 ⟨hb3, K', A', ca', nds', rfl, hn3, hc1, hc2, hor⟩
      have hres := tree_of hor
      have HD := hide (HB.out.trans (hb3.mono HB.out.size))
      have HN := hide (hn3.nodes (B := w3.heap.size) (fun b hb => hb.elim (fun h => h.elim) (fun h => h.2)))
      clear hb3 hn3 hor HC
      obtain ⟨Z, hZ⟩ : ∃ Z, Z = w3.alloc (.cells #[.slice A ts.length c, .int .i64 K', .slice A' nds'.length ca'] 57) := ⟨_, rfl⟩
      have fb := (fresh_facts hZ).1
      have hbZ : Below (w.alloc (.cells #[.slice none 0 0] 25)).heap.size (w.alloc (.cells #[.slice none 0 0] 25)) Z := HD.out.trans (fb.mono HD.out.size)
      have HK := hide (blk_keep hbZ)
      have HbZ := hide (((Below.refl _ w).alloc (Nat.le_refl w.heap.size) _).trans (hbZ.mono (by simp)))
      have HNZ := hide ((HN.out.below fb (Nat.le_refl _)).more fb.size)
      rw [hZ] at HK HbZ HNZ
      clear hbZ fb HN HD hZ Z
      rcases hres with ⟨ht, hk⟩ | ⟨ht, rfl, hnl⟩
      · have hp : parseR s = (3, []) := by rw [parseR, Hel.out, if_pos he0, Hts.out, parseT, if_neg (by omega), ht]
        have Hp := hide hp
        clear hp
        clear ht
        go_wp2_with (first
          | (with_reducible refine wpList_store_row rfl 25 (.tmp 2) (.tmp 28) rfl w.heap.size rfl _ rfl _ _ HK.out rfl (by kernel_rfl) (by kernel_rfl) ?_))
        refine bodyPost_ret (results_row_tmp Tryz.results11 _ _ w.heap.size _ rfl (load25 _ _ _ 25 (setRow_heap _ _ _ _ 25 (0, 0) HK.out))) rfl ?_
        rw [Hp.out]
        exact PostR.none_ (below_setRow' HbZ.out (Nat.le_refl _) _)
      · by_cases h4 : 400 < nds'.length
        · have h4I : (400 : Int) < (nds'.length : Int) := by omega
          have hp : parseR s = (2, []) := by rw [parseR, Hel.out, if_pos he0, Hts.out, parseT, if_neg (by omega), ht]; simp; omega
          have Hp := hide hp
          clear hp
          clear ht
          go_wp2_with (first
            | (with_reducible refine wpList_store_row rfl 25 (.tmp 2) (.tmp 33) rfl w.heap.size rfl _ rfl _ _ HK.out rfl (by kernel_rfl) (by kernel_rfl) ?_))
          refine bodyPost_ret (results_row_tmp Tryz.results11 _ _ w.heap.size _ rfl (load25 _ _ _ 25 (setRow_heap _ _ _ _ 25 (0, 0) HK.out))) rfl ?_
          rw [Hp.out]
          exact PostR.none_ (below_setRow' HbZ.out (Nat.le_refl _) _)
        · have h4I : (nds'.length : Int) ≤ (400 : Int) := by omega
          have hp : parseR s = (0, nds') := by rw [parseR, Hel.out, if_pos he0, Hts.out, parseT, if_neg (by omega), ht]; simp; omega
          have Hp := hide hp
          clear hp
          clear ht
          go_wp2_with (first
            | (with_reducible refine wpList_store_row rfl 25 (.tmp 2) (.tmp 36) rfl w.heap.size rfl _ rfl _ _ HK.out rfl (by kernel_rfl) (by kernel_rfl) ?_))
          refine bodyPost_ret (results_row_tmp Tryz.results11 _ _ w.heap.size _ rfl (load25 _ _ _ 25 (setRow_heap _ _ _ _ 25 (0, 0) HK.out))) rfl ?_
          rw [Hp.out]
          refine ⟨below_setRow' HbZ.out (Nat.le_refl _) _, A', ca', rfl, ?_, hc1, hc2⟩
          have := HNZ.out.setOther HK.out (fun k n => by simp) #[.slice A' nds'.length ca']
          simpa using this
end Go.Proofs.YtbojlnbdkaanmaaGreatDoor
namespace Go.Proofs.YtbojlnbdkaanmaaGreatDoor
open Go.RowKit
set_option linter.unusedSimpArgs false
set_option linter.unusedVariables false

theorem takeHG {P : Program} {ops : Array Oper} {Q : Exit → Act → World → Prop} {md : Region.Mode} {S : World → Prop} {i : Nat} {d : Tmp} {oi : Oper} {v : Value} {fuel : Nat} {listed : Array Bool} {a : Act} {w : World} (hi : ops[i]? = some oi) (hd : oi.dst = some d)
    (hs : Region.noSelect ops = true) (hf : Region.free md ops listed i = true) (hr : (Region.ready md ops listed).contains i = true)
    (hQ : ∀ c a w, Q (.panic c) (a.put (some d) v) w → Q (.panic c) a w) (hg : Region.wanted oi (yielded ops a.tmps) = true) (hS : S w) (hy : ∀ W, S W → (execOp a.eval oi).run P W = .ok (.value v) W)
    (h : wpAnyH P md ops Q S fuel (listed.setIfInBounds i true) (a.put (some d) v) w) : wpAnyH P md ops Q S (fuel + 1) listed a w :=
  wpAnyH_take hi hs hf hr (fun c a w => by rw [hd]; exact hQ c a w) (Or.inl ⟨hg, hy⟩) hS (by rw [hd]; exact h)
/-- One copy of facts in a block of the call's, and the world behind it. -/
structure One (w : World) (F : Fct) (As : Option Addr) (cs : Nat) (Ap : Option Addr) (cp : Nat) (W : World) : Prop where
  f : W.heap[w.heap.size]? = some (.cells #[.int .i64 F.v, .int .i64 F.e, .slice As F.st.length cs, .slice Ap F.pts.length cp] 42 (0, 0))
  fa : FctAt W W.heap.size F As Ap
  bel : Below w.heap.size w W
  env : Env W
  evs : Evs W
section
variable {w : World} {F : Fct} {As : Option Addr} {cs : Nat} {Ap : Option Addr} {cp : Nat} {W W' : World}
theorem One.next (h : One w F As cs Ap cp W) (hb : Below W.heap.size W W') : One w F As cs Ap cp W' :=
  ⟨(hb.block _ (World.lt_of_blk h.f)).trans h.f, ⟨(h.fa.st.below hb (Nat.le_refl _)).more hb.size, h.fa.pts.below2 hb⟩, h.bel.trans (hb.mono h.bel.size), h.env.below hb, h.evs.below hb⟩
theorem One.cells (h : One w F As cs Ap cp W) :
    W.cell? ⟨w.heap.size, 0, none⟩ = some (.int .i64 F.v) ∧ W.cell? ⟨w.heap.size, 1, none⟩ = some (.int .i64 F.e) ∧ W.cell? ⟨w.heap.size, 2, none⟩ = some (.slice As F.st.length cs) ∧ W.cell? ⟨w.heap.size, 3, none⟩ = some (.slice Ap F.pts.length cp) := by
  refine ⟨?_, ?_, ?_, ?_⟩
  · rw [cell_of_row _ _ _ _ _ _ h.f]; rfl
  · rw [cell_of_row _ _ _ _ _ _ h.f]; rfl
  · rw [cell_of_row _ _ _ _ _ _ h.f]; rfl
  · rw [cell_of_row _ _ _ _ _ _ h.f]; rfl
theorem One.start (hF : FctAt w w.heap.size F As Ap) (hE : Env w) (hV : Evs w) :
    One w F As cs Ap cp (w.alloc (.cells #[.int .i64 F.v, .int .i64 F.e, .slice As F.st.length cs, .slice Ap F.pts.length cp] 42)) := by
  have gb : Below w.heap.size w (w.alloc (.cells #[.int .i64 F.v, .int .i64 F.e, .slice As F.st.length cs, .slice Ap F.pts.length cp] 42)) := (Below.refl _ w).alloc (Nat.le_refl _) _
  exact ⟨heap_alloc_new w _, ⟨(hF.st.below gb (Nat.le_refl _)).more gb.size, hF.pts.below2 gb⟩, gb, hE.below gb, hV.below gb⟩
end
theorem valid_bnd4 {F : Fct} (h : validF F = true) : F.st.length ≤ 10 := by
  unfold validF at h
  simp only [Bool.and_eq_true, decide_eq_true_eq, List.all_eq_true] at h
  exact h.1
/-- What is asked of the reference's Parse. -/
def RParseOk : Prop := ∀ (W : World) (s : ByteArray), s.size ≤ 600 → Calls Tryz.prog 11 #[.string s] W (PostR W (parseR s))
theorem Parsed.pos {s : ByteArray} {t : Ast} {ts : List Tok} (h : Parsed s t ts) : 0 < (parseR s).2.length := by
  rw [h.nds, Ast.emit_length]
  cases t <;> simp [Ast.sz]
set_option maxRecDepth 100000 in
set_option maxHeartbeats 8000000 in
theorem law4 (hRP : RParseOk) (w : World) (s : ByteArray) (hs : s.size ≤ maxLen) (F : Fct) (As : Option Addr) (cs : Nat) (Ap : Option Addr) (cp : Nat) (hF : FctAt w w.heap.size F As Ap) (hE : Env w) (hV : Evs w) :
    Calls Tryz.prog 4 #[.string s, F.val As cs Ap cp] w fun e w' => e = .returned (.bool true) ∧ Below w.heap.size w w' := by
  unfold maxLen at hs
  have H0 := hide (One.start (cs := cs) (cp := cp) hF hE hV)
  clear hF hE hV
  unfold RParseOk at hRP
  have HRP := hide hRP
  clear hRP
  simp only [Fct.val]
  by_cases h6 : s.size ≤ 600
  · have e6 : decide ((600 : Int) < (s.size : Int)) = false := by simp; omega
    go_enter Tryz.func4, Tryz.ntmps4
    go_wp2_with fail
    refine Calls.mono (sanity_any _ H0.out.env H0.out.evs) ?_
    rintro e w1 ⟨rfl, hb⟩
    have H1 := hide (H0.out.next hb)
    obtain ⟨f0, f1, f2, f3⟩ := H1.out.cells
    clear hb
    go_wp2_with fail
    refine Calls.mono (valid_any w1 F As cs Ap cp H1.out.fa) ?_
    rintro e w2 ⟨rfl, hb⟩
    have H2 := hide (H1.out.next hb)
    clear f0 f1 f2 f3 hb
    cases hv : validF F with
    | false =>
      clear hv
      go_wp2
      go_ret
      exact ⟨rfl, H2.out.bel⟩
    | true =>
      have hst := valid_bnd4 hv
      clear hv
      go_wp2_with fail
      obtain ⟨er, her⟩ : ∃ er, (parseR s).1 = er := ⟨_, rfl⟩
      obtain ⟨nds, hnds⟩ : ∃ nds, (parseR s).2 = nds := ⟨_, rfl⟩
      have Her := hide her
      have Hnds := hide hnds
      refine Calls.mono (HRP.out w2 s h6) ?_
      rintro e w5 ⟨hb, A, c, rfl, hN, _, _⟩
      rw [her, hnds]
      rw [hnds] at hN
      have H5 := hide (H2.out.next hb)
      have HN := hide hN
      clear hb hN her hnds
      by_cases h0 : er = 0
      · subst h0
        obtain ⟨t, ts, hp⟩ := parsed Her.out
        have hnl := hp.length
        have hn0 := hp.pos
        rw [Hnds.out] at hnl hn0
        have hok : ∀ i nd, nds[i]? = some nd → NdOk i nd := fun i nd hi => hp.ndok i nd (by rw [Hnds.out]; exact hi)
        have he1 := fun W hN hF hV => eval_any W A c nds hN hok (by omega) F As cs Ap cp (by omega) hF hV
        have he2 := fun W hN hF => reval23_any W A c nds F As cs Ap cp hok (by omega) hn0 (by omega) hN hF
        have He1 := hide he1
        have He2 := hide he2
        clear hp he1 he2 hok
        obtain ⟨Z, hZ⟩ : ∃ Z, Z = w5.alloc (.cells #[.slice A nds.length c] 25) := ⟨_, rfl⟩
        obtain ⟨fb, fk, fs⟩ := fresh_facts hZ
        have H6 := hide (H5.out.next fb)
        have N6 := hide (Nodes.more (Nodes.below HN.out fb (Nat.le_refl _)) fb.size)
        have K6 := hide fk
        have HZ := hide hZ
        clear fb fk fs hZ
        go_wp2
        rw [← HZ.out]
        have HDr := hide (Below.refl Z.heap.size Z).drew
        refine wp_region_held (S := fun W' => W'.heap[w5.heap.size]? = some (.cells #[.slice A nds.length c] 25 (0, 0)) ∧ W'.heap[w.heap.size]? = some (.cells #[.int .i64 F.v, .int .i64 F.e, .slice As F.st.length cs, .slice Ap F.pts.length cp] 42 (0, 0))) (by kernel_rfl) ?_
        change wpAnyH _ _ _ _ _ _ _ _ (World.drew _)
        have HS := hide (show Z.drew.heap[w5.heap.size]? = some (.cells #[.slice A nds.length c] 25 (0, 0)) ∧ Z.drew.heap[w.heap.size]? = some (.cells #[.int .i64 F.v, .int .i64 F.e, .slice As F.st.length cs, .slice Ap F.pts.length cp] 42 (0, 0)) from ⟨K6.out, H6.out.f⟩)
        refine takeHG (i := 0) (d := 26) (v := .bool true) rfl rfl (by kernel_rfl) (by kernel_rfl) (by kernel_rfl) (fun _ _ _ h => h) (by rfl) HS.out ?_ ?_
        · intro W' _; go_simp
        try simp only [Act.put, List.setIfInBounds_toArray, List.set_cons_zero, List.set_cons_succ]
        refine takeHG (i := 1) (d := 27) (v := .bool true) rfl rfl (by kernel_rfl) (by kernel_rfl) (by kernel_rfl) (fun _ _ _ h => h) (by rfl) HS.out ?_ ?_
        · intro W' _; go_simp
        try simp only [Act.put, List.setIfInBounds_toArray, List.set_cons_zero, List.set_cons_succ]
        refine takeHG (i := 2) (d := 28) (v := .agg #[.slice A nds.length c]) rfl rfl (by kernel_rfl) (by kernel_rfl) (by kernel_rfl) (fun _ _ _ h => h) (by rfl) HS.out ?_ ?_
        · intro W' hS; exact y_load1 25 (.tmp 6) rfl w5.heap.size rfl 25 _ (0, 0) _ hS.1 Tryz.underlying25 rfl (by kernel_rfl)
        try simp only [Act.put, List.setIfInBounds_toArray, List.set_cons_zero, List.set_cons_succ]
        refine takeHG (i := 3) (d := 29) (v := .agg #[.int .i64 F.v, .int .i64 F.e, .slice As F.st.length cs, .slice Ap F.pts.length cp]) rfl rfl (by kernel_rfl) (by kernel_rfl) (by kernel_rfl) (fun _ _ _ h => h) (by rfl) HS.out ?_ ?_
        · intro W' hS; exact y_load1 42 (.tmp 3) rfl w.heap.size rfl 42 _ (0, 0) _ hS.2 Tryz.underlying42 rfl (by kernel_rfl)
        try simp only [Act.put, List.setIfInBounds_toArray, List.set_cons_zero, List.set_cons_succ]
        refine takeHG (i := 5) (d := 31) (v := .agg #[.slice A nds.length c]) rfl rfl (by kernel_rfl) (by kernel_rfl) (by kernel_rfl) (fun _ _ _ h => h) (by rfl) HS.out ?_ ?_
        · intro W' hS; exact y_load1 25 (.tmp 6) rfl w5.heap.size rfl 25 _ (0, 0) _ hS.1 Tryz.underlying25 rfl (by kernel_rfl)
        try simp only [Act.put, List.setIfInBounds_toArray, List.set_cons_zero, List.set_cons_succ]
        refine takeHG (i := 6) (d := 32) (v := .agg #[.int .i64 F.v, .int .i64 F.e, .slice As F.st.length cs, .slice Ap F.pts.length cp]) rfl rfl (by kernel_rfl) (by kernel_rfl) (by kernel_rfl) (fun _ _ _ h => h) (by rfl) HS.out ?_ ?_
        · intro W' hS; exact y_load1 42 (.tmp 3) rfl w.heap.size rfl 42 _ (0, 0) _ hS.2 Tryz.underlying42 rfl (by kernel_rfl)
        try simp only [Act.put, List.setIfInBounds_toArray, List.set_cons_zero, List.set_cons_succ]
        refine wpAnyH_ready (rs := [4]) (by kernel_rfl) (by simp) ?_
        refine AllReadyH.cons rfl (fun K hK => ?_) AllReadyH.nil
        go_simp
        refine Calls.mono (He1.out _ (N6.out.below HDr.out (Nat.le_refl _)) (H6.out.next HDr.out).fa (H6.out.next HDr.out).evs) ?_
        rintro e wA ⟨rfl, hbA⟩
        have hA := HDr.out.trans hbA
        have HRA := hide (H6.out.next hA)
        have HA := hide hA
        have SA := hide (And.intro ((hA.block _ (World.lt_of_blk K6.out)).trans K6.out) HRA.out.f)
        clear hbA hA
        refine hK.out _ _ SA.out (fun _ => ?_)
        clear hK K
        try simp only [Act.put, List.setIfInBounds_toArray, List.set_cons_zero, List.set_cons_succ]
        refine wpAnyH_ready (rs := [7]) (by kernel_rfl) (by simp) ?_
        refine AllReadyH.cons rfl (fun K hK => ?_) AllReadyH.nil
        go_simp
        refine Calls.mono (He2.out _ (Nodes.more (N6.out.below HA.out (Nat.le_refl _)) HA.out.size) HRA.out.fa) ?_
        rintro e wB ⟨rfl, hbB⟩
        generalize evalF F nds = r
        have hB := HA.out.trans (hbB.mono HA.out.size)
        have HRB := hide (H6.out.next hB)
        have SB := hide (And.intro ((hB.block _ (World.lt_of_blk K6.out)).trans K6.out) HRB.out.f)
        clear hbB hB
        refine hK.out _ _ SB.out (fun _ => ?_)
        clear hK K
        try simp only [Act.put, List.setIfInBounds_toArray, List.set_cons_zero, List.set_cons_succ]
        refine takeHG (i := 8) (d := 34) (v := .bool true) rfl rfl (by kernel_rfl) (by kernel_rfl) (by kernel_rfl) (fun _ _ _ h => h) (by rfl) SB.out ?_ ?_
        · intro W' _; go_simp
        try simp only [Act.put, List.setIfInBounds_toArray, List.set_cons_zero, List.set_cons_succ]
        refine takeHG (i := 9) (d := 35) (v := .bool true) rfl rfl (by kernel_rfl) (by kernel_rfl) (by kernel_rfl) (fun _ _ _ h => h) (by rfl) SB.out ?_ ?_
        · intro W' _; go_simp
        try simp only [Act.put, List.setIfInBounds_toArray, List.set_cons_zero, List.set_cons_succ]
        refine takeHG (i := 10) (d := 4) (v := .bool true) rfl rfl (by kernel_rfl) (by kernel_rfl) (by kernel_rfl) (fun _ _ _ h => h) (by rfl) SB.out ?_ ?_
        · intro W' _; go_simp
        try simp only [Act.put, List.setIfInBounds_toArray, List.set_cons_zero, List.set_cons_succ]
        refine wpAnyH_done (by kernel_rfl) ?_ _
        go_wp2
        refine bodyPost_ret (v := .bool true) (by simp [results, Tryz.results4, go_sem]) rfl ?_
        exact ⟨rfl, HRB.out.bel⟩
      · have e9 : (er != 0) = true := by simpa using h0
        clear h0
        go_wp2
        go_ret
        exact ⟨rfl, H5.out.bel.alloc H5.out.bel.size _⟩
  · have e6 : decide ((600 : Int) < (s.size : Int)) = true := by simp; omega
    go_enter Tryz.func4, Tryz.ntmps4
    go_wp2_with fail
    refine Calls.mono (sanity_any _ H0.out.env H0.out.evs) ?_
    rintro e w1 ⟨rfl, hb⟩
    have H1 := hide (H0.out.next hb)
    clear hb
    go_wp2
    go_ret
    exact ⟨rfl, H1.out.bel⟩
end Go.Proofs.YtbojlnbdkaanmaaGreatDoor
namespace Go.Proofs.YtbojlnbdkaanmaaGreatDoor
open Go.RowKit Go.ChangeShapes Go.WideShapes Go.ChangeAt
set_option linter.unusedSimpArgs false
set_option linter.unusedVariables false

set_option maxRecDepth 100000 in
theorem evms_contract (H : Type) (enc : TypeId × Value → H) (W : World) (base : Nat) (args : Array Value) (ds gs : List (DataW H)) (before : List MemPlace)
    (hval : ∀ (j : Nat) t v, Tryz.f4.params[j]? = some t → args[j]? = some v → Value.okWide Tryz.prog W .any base t v)
    (hW : DataW.Whole enc Tryz.prog Tryz.f4.params.toList Rows.policyEvalMatchesSpecSpec.vars false W args.toList ds gs before) (hL : laidMetH Tryz.prog laidL W) :
    Calls Tryz.prog 4 args W fun e W' => ∃ v, e = .returned v ∧ Rows.policyEvalMatchesSpecSpec.post enc Tryz.prog Tryz.f4 false true false false W args v W' := by
  have hW' := hW
  obtain ⟨p, q, hA0, hV, rfl, hfz, hnd⟩ := hW
  have hA : DataW.TrodAll enc Tryz.prog W 0 (fun _ => true) true Tryz.f4.params.toList args.toList ds p := hA0
  rw [Tryz.params4] at hA hval
  obtain ⟨v0, vs0, d0, ds0, p0, q0, hargs, rfl, rfl, h0, r0⟩ := trodAll_cons hA
  obtain ⟨v1, vs1, d1, ds1, p1, q1, rfl, rfl, rfl, h1, r1⟩ := trodAll_cons r0
  obtain ⟨rfl, rfl, rfl⟩ := trodAll_nil r1
  obtain rfl : args = #[v0, v1] := by cases args; simp_all
  obtain ⟨s0, rfl, _, _, ws0⟩ := ChangeMaps.open_string Tryz.underlying9 (hval 0 9 v0 rfl rfl) h0
  obtain ⟨F1, As1, cs1, Ap1, cp1, rfl, hF1⟩ := open_facts (hval 1 42 v1 rfl rfl) h1
  refine (law4 (fun W s h => rparse_any W s (by omega)) W s0 ws0 F1 As1 cs1 Ap1 cp1 hF1 (env_of_laid hL) (evs_of_laid hL)).mono fun e W' ⟨he, hb⟩ => ?_
  subst he
  exact ⟨_, rfl, close_true rfl rfl (by decide +kernel) hW' rfl rfl rfl hb⟩
theorem evms_reads (os : Os) {H : Type} (enc : TypeId × Value → H) : ∃ places, DataW.whole enc Tryz.prog ((wit os).forCall (fun _ _ => 0) ⟨#[], #[.string ⟨#[]⟩, .agg #[.int .i64 0, .int .i64 0, .slice none 0 0, .slice none 0 0]], []⟩).memory Tryz.f4.params.toList Rows.policyEvalMatchesSpecSpec.vars false [.string ⟨#[]⟩, .agg #[.int .i64 0, .int .i64 0, .slice none 0 0, .slice none 0 0]] 8 =
    some ([.lit (.string []), .agg [.lit (.int .i64 0), .lit (.int .i64 0), .nil, .nil]], [], places) :=
  ⟨[], by kernel_rfl⟩
set_option maxRecDepth 100000 in
theorem evms_lifted (os : Os) (started : os.Started) (H : Type) (enc : TypeId × Value → H) (F : Stop.Interp) :
    ReturnsInHanded {} Tryz.checked os 4 .any ((OpenSpec.ofChange Rows.policyEvalMatchesSpecSpec).preRow enc Tryz.prog Tryz.f4 Rows.policyEvalMatchesSpecRow.domain false Rows.policyEvalMatchesSpecRow.laid) (((OpenSpec.ofChange Rows.policyEvalMatchesSpecSpec).at F).post enc Tryz.prog Tryz.f4 false true false false) := by
  obtain ⟨places, hx⟩ := evms_reads os enc
  refine returnsInHanded_of_row (C := Tryz.checked) (s := OpenSpec.ofChange Rows.policyEvalMatchesSpecSpec) own started (by kernel_rfl) Tryz.func4
    (witness_row_atRef (enc := enc) (C := Tryz.checked) false (wit os) #[.string ⟨#[]⟩, .agg #[.int .i64 0, .int .i64 0, .slice none 0 0, .slice none 0 0]] (wit_os os) (by kernel_rfl) (by kernel_rfl) (by kernel_rfl)
      (OpenSpec.preRow_of_cond 8 hx (by kernel_rfl) (fun k hk => by cases hk) (by kernel_rfl) (wit_met os _))) ?_
  intro W base args ds gs before hval hW _ _ _ hL _ _
  exact evms_contract H enc W base args ds gs before hval hW hL
theorem evms_said : Rows.PolicyEvalMatchesSpecSaid :=
  OpenClaim.holds_of_cond 4 Tryz.f4 rfl rfl rfl rfl rfl rfl rfl ⟨rfl, rfl, rfl, rfl, rfl⟩ rfl rfl rfl rfl rfl (by kernel_rfl) Tryz.func4 (by kernel_rfl)
    (of_decide_eq_true (by kernel_rfl)) (by unfold Func.isWrapper; first | (rw [if_pos (by decide +kernel)]; kernel_rfl) | (rw [if_neg (by decide +kernel)]; exact ⟨rfl, rfl⟩))
    (fun os started H enc _ F => by rw [OpenClaim.pre_eq_preRow]; exact evms_lifted os started H enc F)
/-- No parameter wants a stand-in; the program's own looks. -/
theorem evms_plain (f : FuncId) (fn : Func) (hf : Tryz.pinned.checked.prog.funcNamed "bootchain/bootchainlaw29.PolicyEvalMatchesSpec" = some f) (hfn : Tryz.pinned.checked.prog.funcs[f]? = some fn) :
    true = Tryz.pinned.checked.prog.looks [] ∧ ∀ (j : Nat) t, fn.params[j]? = some t → Tryz.pinned.checked.prog.wantsStandIn t = false := by
  obtain rfl : f = 4 := Option.some.inj ((show Tryz.prog.funcNamed "bootchain/bootchainlaw29.PolicyEvalMatchesSpec" = some 4 by kernel_rfl).symm.trans hf) |>.symm
  obtain rfl : fn = Tryz.f4 := (Option.some.inj (Tryz.func4.symm.trans hfn)).symm
  refine ⟨by kernel_rfl, fun j t ht => ?_⟩
  rw [Tryz.params4] at ht
  have hm := Array.mem_of_getElem? ht
  simp at hm
  rcases hm with rfl | rfl
  · exact (show Tryz.prog.wantsStandIn 9 = false by kernel_rfl)
  · exact (show Tryz.prog.wantsStandIn 42 = false by kernel_rfl)
theorem evms_holds : Rows.PolicyEvalMatchesSpecCardSaid :=
  Claim7.holds_tied_plain_at .later [] _ _ _ _ evms_said (fun _ h => by cases h) (by kernel_rfl) (fun _ h => by cases h) policyEvalMatchesSpec_row_tie rfl ⟨rfl, rfl⟩ (by kernel_rfl) rfl evms_plain (by kernel_rfl)
#print axioms evms_holds
end Go.Proofs.YtbojlnbdkaanmaaGreatDoor
