/-
  PolicyDeMorgan: its walk: it answers true, and nothing that stood is touched.
-/
import Derived.Test.YtbojlnbdkaanmaaGreatDoorSanB
import Derived.Test.YtbojlnbdkaanmaaGreatDoorVld
import Derived.Test.YtbojlnbdkaanmaaGreatDoorDemP
import Derived.Test.YtbojlnbdkaanmaaGreatDoorParL
import Derived.Outline
namespace Go.Proofs.YtbojlnbdkaanmaaGreatDoor
open Go.RowKit
set_option linter.unusedSimpArgs false
set_option linter.unusedVariables false

/-- One copy of facts in a block of the call's, and the world behind it. -/
structure One (w : World) (F : Fct) (As : Option Addr) (cs : Nat) (Ap : Option Addr) (cp : Nat) (W : World) : Prop where
  f : W.heap[w.heap.size]? = some (.cells #[.int .i64 F.v, .int .i64 F.e, .slice As F.st.length cs, .slice Ap F.pts.length cp] 42 (0, 0))
  fa : FctAt W W.heap.size F As Ap
  bel : Below w.heap.size w W
  env : Env W
  evs : Evs W
section
variable {w : World} {F : Fct} {As : Option Addr} {cs : Nat} {Ap : Option Addr} {cp : Nat} {W W' : World}
theorem One.next (h : One w F As cs Ap cp W) (hb : Below W.heap.size W W') : One w F As cs Ap cp W' :=
  ⟨(hb.block _ (World.lt_of_blk h.f)).trans h.f, ⟨(h.fa.st.below hb (Nat.le_refl _)).more hb.size, h.fa.pts.below2 hb⟩, h.bel.trans (hb.mono h.bel.size), h.env.below hb, h.evs.below hb⟩
theorem One.cells (h : One w F As cs Ap cp W) :
    W.cell? ⟨w.heap.size, 0, none⟩ = some (.int .i64 F.v) ∧ W.cell? ⟨w.heap.size, 1, none⟩ = some (.int .i64 F.e) ∧ W.cell? ⟨w.heap.size, 2, none⟩ = some (.slice As F.st.length cs) ∧ W.cell? ⟨w.heap.size, 3, none⟩ = some (.slice Ap F.pts.length cp) := by
  refine ⟨?_, ?_, ?_, ?_⟩
  · rw [cell_of_row _ _ _ _ _ _ h.f]; rfl
  · rw [cell_of_row _ _ _ _ _ _ h.f]; rfl
  · rw [cell_of_row _ _ _ _ _ _ h.f]; rfl
  · rw [cell_of_row _ _ _ _ _ _ h.f]; rfl
theorem One.start (hF : FctAt w w.heap.size F As Ap) (hE : Env w) (hV : Evs w) :
    One w F As cs Ap cp (w.alloc (.cells #[.int .i64 F.v, .int .i64 F.e, .slice As F.st.length cs, .slice Ap F.pts.length cp] 42)) := by
  have gb : Below w.heap.size w (w.alloc (.cells #[.int .i64 F.v, .int .i64 F.e, .slice As F.st.length cs, .slice Ap F.pts.length cp] 42)) := (Below.refl _ w).alloc (Nat.le_refl _) _
  exact ⟨heap_alloc_new w _, ⟨(hF.st.below gb (Nat.le_refl _)).more gb.size, hF.pts.below2 gb⟩, gb, hE.below gb, hV.below gb⟩
end
/-- Texts in a block of the call's own. -/
theorem texts_at {V : World} {g : Nat} {l : List ByteArray} (h : V.heap[g]? = some (.cells (l.map Value.string).toArray 9 (0, 0))) {k : Nat} {x : ByteArray} (hx : l[k]? = some x) : V.cell? ⟨g, k, none⟩ = some (.string x) := by
  rw [cell_of_row _ _ _ _ _ _ h]
  simp [hx]
theorem valid_bnd8 {F : Fct} (h : validF F = true) : F.st.length ≤ 10 := by
  unfold validF at h
  simp only [Bool.and_eq_true, decide_eq_true_eq, List.all_eq_true] at h
  exact h.1
set_option maxRecDepth 100000 in
set_option maxHeartbeats 8000000 in
theorem law8 (w : World) (a b : ByteArray) (hsa : a.size ≤ maxLen) (hsb : b.size ≤ maxLen) (F : Fct) (As : Option Addr) (cs : Nat) (Ap : Option Addr) (cp : Nat) (hF : FctAt w w.heap.size F As Ap) (hE : Env w) (hV : Evs w) :
    Calls Tryz.prog 8 #[.string a, .string b, F.val As cs Ap cp] w fun e w' => e = .returned (.bool true) ∧ Below w.heap.size w w' := by
  unfold maxLen at hsa hsb
  have H0 := hide (One.start (cs := cs) (cp := cp) hF hE hV)
  clear hF hE hV
  simp only [Fct.val]
  obtain ⟨ea, hea⟩ : ∃ er, (parseR a).1 = er := ⟨_, rfl⟩
  obtain ⟨na, hna⟩ : ∃ nds, (parseR a).2 = nds := ⟨_, rfl⟩
  obtain ⟨eb, heb⟩ : ∃ er, (parseR b).1 = er := ⟨_, rfl⟩
  obtain ⟨nb, hnb⟩ : ∃ nds, (parseR b).2 = nds := ⟨_, rfl⟩
  have Hea := hide hea
  have Heb := hide heb
  have hpa := fun W hW => parse_all W a hW
  have hpb := fun W hW => parse_all W b hW
  have Hpa := hide hpa
  have Hpb := hide hpb
  have Hna := hide hna
  have Hnb := hide hnb
  clear hea hna heb hnb hpa hpb
  go_enter Tryz.func8, Tryz.ntmps8
  go_wp2_with fail
  refine Calls.mono (sanity_any _ H0.out.env H0.out.evs) ?_
  rintro e w1 ⟨rfl, hb⟩
  have H1 := hide (H0.out.next hb)
  clear hb
  go_wp2_with fail
  refine Calls.mono (Hpa.out _ H1.out.env) ?_
  rintro e w2 ⟨hb, Aa, ca, rfl, _, _, _⟩
  rw [Hea.out, Hna.out]
  have H2 := hide (H1.out.next hb)
  clear hb
  obtain ⟨Z, hZ⟩ : ∃ Z, Z = w2.alloc (.cells #[.slice Aa na.length ca] 25) := ⟨_, rfl⟩
  obtain ⟨fb, _, _⟩ := fresh_facts hZ
  have H3 := hide (H2.out.next fb)
  have HZ := hide hZ
  clear fb hZ
  go_wp2_with fail
  rw [← HZ.out]
  refine Calls.mono (Hpb.out _ H3.out.env) ?_
  rintro e w4 ⟨hb, Ab, cb, rfl, _, _, _⟩
  rw [Heb.out, Hnb.out]
  have H4 := hide (H3.out.next hb)
  clear hb
  obtain ⟨Y, hY⟩ : ∃ Z, Z = w4.alloc (.cells #[.slice Ab nb.length cb] 25) := ⟨_, rfl⟩
  obtain ⟨fb, _, _⟩ := fresh_facts hY
  have H5 := hide (H4.out.next fb)
  have HY := hide hY
  clear fb hY
  by_cases sa : a.size ≤ 200
  · by_cases sb : b.size ≤ 200
    · by_cases xa : ea = 0
      · by_cases xb : eb = 0
        · subst xa
          subst xb
          obtain ⟨f0, f1, f2, f3⟩ := H5.out.cells
          rw [HY.out] at f0 f1 f2 f3
          have e6 : decide ((200 : Int) < (a.size : Int)) = false := by simp; omega
          have e7 : decide ((200 : Int) < (b.size : Int)) = false := by simp; omega
          go_wp2_with fail
          rw [← HY.out]
          clear f0 f1 f2 f3
          refine Calls.mono (valid_any Y F As cs Ap cp H5.out.fa) ?_
          rintro e w5 ⟨rfl, hb⟩
          have H6 := hide (H5.out.next hb)
          clear hb
          cases hv : validF F with
          | false =>
            clear hv
            go_wp2
            go_ret
            exact ⟨rfl, H6.out.bel⟩
          | true =>
            have hst := valid_bnd8 hv
            clear hv
            go_wp2
            obtain ⟨V, hV⟩ : ∃ V, V = (w5.alloc (.cells ((leftS a b).map Value.string).toArray 9)).alloc (.cells ((rightS a b).map Value.string).toArray 9) := ⟨_, rfl⟩
            obtain ⟨gl, gr, gb⟩ := two_new (W := w5) (X := .cells ((leftS a b).map Value.string).toArray 9) (Y := .cells ((rightS a b).map Value.string).toArray 9) rfl
            rw [← hV] at gl gr gb
            have H7 := hide (H6.out.next gb)
            have GL := hide gl
            have GR := hide gr
            have hlr : w5.heap.size + 1 < V.heap.size := World.lt_of_blk gr
            have hlf : w.heap.size < V.heap.size := World.lt_of_blk H7.out.f
            change Code.wp _ _ _ _ ((w5.alloc (.cells ((leftS a b).map Value.string).toArray 9)).alloc (.cells ((rightS a b).map Value.string).toArray 9))
            rw [← hV]
            clear hV gl gr gb
            go_loopw [14] (fun iv wr => ∃ k : Nat, k ≤ 5 ∧ iv = .int .i64 k ∧ Hid (Below V.heap.size V wr)) (fun iv _ => 5 - (intOf iv).toNat)
            case atStart => exact ⟨0, by omega, rfl, Below.refl _ _⟩
            case round =>
              obtain ⟨k, hk, rfl, HB⟩ := hrel
              by_cases hlt : k < 5
              · obtain ⟨x, hx⟩ : ∃ x, (leftS a b)[k]? = some x := ⟨_, List.getElem?_eq_getElem (by simpa [leftS] using hlt)⟩
                obtain ⟨y, hy⟩ : ∃ y, (rightS a b)[k]? = some y := ⟨_, List.getElem?_eq_getElem (by simpa [rightS] using hlt)⟩
                have cx1 := (HB.out.cell (p := ⟨w5.heap.size, k, none⟩) (show w5.heap.size < V.heap.size by omega)).trans (texts_at GL.out hx)
                have cy1 := (HB.out.cell (p := ⟨w5.heap.size + 1, k, none⟩) hlr).trans (texts_at GR.out hy)
                have Cy1 := hide cy1
                have J0 := hide (H7.out.next HB.out)
                obtain ⟨ex, hex⟩ : ∃ er, (parseR x).1 = er := ⟨_, rfl⟩
                obtain ⟨nx, hnx⟩ : ∃ nds, (parseR x).2 = nds := ⟨_, rfl⟩
                obtain ⟨ey, hey⟩ : ∃ er, (parseR y).1 = er := ⟨_, rfl⟩
                obtain ⟨ny, hny⟩ : ∃ nds, (parseR y).2 = nds := ⟨_, rfl⟩
                have hpx := fun W hW => parse_all W x hW
                have hpy := fun W hW => parse_all W y hW
                have Hpx := hide hpx
                have Hpy := hide hpy
                have Hex := hide hex
                have Hey := hide hey
                have Hnx := hide hnx
                have Hny := hide hny
                have Hx := hide hx
                have Hy := hide hy
                have hltI : (k : Int) < 5 := by omega
                clear hx hy hex hnx hey hny hpx hpy cy1
                go_wp2_with (go_at_call 10; fail)
                refine Calls.mono (Hpx.out _ J0.out.env) ?_
                rintro e u1 ⟨hb, Ax, cx, rfl, hNx, _, _⟩
                rw [Hnx.out] at hNx
                rw [Hex.out, Hnx.out]
                have J1 := hide (J0.out.next hb)
                obtain ⟨Z1, hZ1⟩ : ∃ Z, Z = u1.alloc (.cells #[.slice Ax nx.length cx] 25) := ⟨_, rfl⟩
                obtain ⟨fb, fk, fs⟩ := fresh_facts hZ1
                have J2 := hide (J1.out.next fb)
                have HZ1 := hide hZ1
                have HNx := hide ((hNx.below fb (Nat.le_refl _)).more fb.size)
                have hbV := HB.out.trans ((hb.trans (fb.mono hb.size)).mono HB.out.size)
                have cy2 := (((hb.trans (fb.mono hb.size)).cell (p := ⟨w5.heap.size + 1, k, none⟩) (Nat.lt_of_lt_of_le hlr HB.out.size)).trans Cy1.out)
                have HbV := hide hbV
                have K1 := hide fk
                have Fb1 := hide fb
                clear hb fb hZ1 hNx cx1 fk fs hbV
                have cy3 := cy2
                rw [HZ1.out] at cy3
                clear cy2
                go_wp2_with (go_at_call 10; fail)
                rw [← HZ1.out]
                clear cy3
                refine Calls.mono (Hpy.out _ J2.out.env) ?_
                rintro e u3 ⟨hb, Ay, cy, rfl, hNy, _, _⟩
                rw [Hny.out] at hNy
                rw [Hey.out, Hny.out]
                have J3 := hide (J2.out.next hb)
                obtain ⟨Z3, hZ3⟩ : ∃ Z, Z = u3.alloc (.cells #[.slice Ay ny.length cy] 25) := ⟨_, rfl⟩
                obtain ⟨fb, fk, fs⟩ := fresh_facts hZ3
                have J4 := hide (J3.out.next fb)
                have HZ3 := hide hZ3
                have HNy := hide ((hNy.below fb (Nat.le_refl _)).more fb.size)
                have hb2 := hb.trans (fb.mono hb.size)
                have HNx3 := hide ((HNx.out.below hb2 (Nat.le_refl _)).more hb2.size)
                have HbV3 := hide (HbV.out.trans (hb2.mono HbV.out.size))
                have K3 := hide fk
                have K13 := hide ((hb2.block _ (World.lt_of_blk K1.out)).trans K1.out)
                clear hb fb hZ3 hNy fk fs hb2
                by_cases x0 : ex = 0
                · by_cases y0 : ey = 0
                  · subst x0
                    subst y0
                    obtain ⟨tA, tsA, PA⟩ := parsed Hea.out
                    obtain ⟨tB, tsB, PB⟩ := parsed Heb.out
                    obtain ⟨tx, tsx, px⟩ := parsed Hex.out
                    obtain ⟨ty, tsy, py⟩ := parsed Hey.out
                    have hval : evalF F ny = evalF F nx := by
                      rw [← Hnx.out, ← Hny.out, px.eval, py.eval]
                      exact (deMorgan_eq PA PB k x y Hx.out Hy.out px py F).symm
                    have lx := px.length
                    have ly := py.length
                    rw [Hnx.out] at lx
                    rw [Hny.out] at ly
                    have hvx := fun W hN hF hV => eval_any W Ax cx nx hN (fun i nd hi => px.ndok i nd (by rw [Hnx.out]; exact hi)) (by omega) F As cs Ap cp (by omega) hF hV
                    have hvy := fun W hN hF hV => eval_any W Ay cy ny hN (fun i nd hi => py.ndok i nd (by rw [Hny.out]; exact hi)) (by omega) F As cs Ap cp (by omega) hF hV
                    have Hvx := hide hvx
                    have Hvy := hide hvy
                    have Hval := hide hval
                    clear PA PB px py hval hvx hvy
                    go_wp2
                    rw [← HZ3.out]
                    have HDr := hide (Below.refl Z3.heap.size Z3).drew
                    refine wp_region_held (S := fun W' => W'.heap[u1.heap.size]? = some (.cells #[.slice Ax nx.length cx] 25 (0, 0)) ∧ W'.heap[w.heap.size]? = some (.cells #[.int .i64 F.v, .int .i64 F.e, .slice As F.st.length cs, .slice Ap F.pts.length cp] 42 (0, 0)) ∧ W'.heap[u3.heap.size]? = some (.cells #[.slice Ay ny.length cy] 25 (0, 0))) (by kernel_rfl) ?_
                    change wpAnyH _ _ _ _ _ _ _ _ (World.drew _)
                    have HS := hide (show Z3.drew.heap[u1.heap.size]? = some (.cells #[.slice Ax nx.length cx] 25 (0, 0)) ∧ Z3.drew.heap[w.heap.size]? = some (.cells #[.int .i64 F.v, .int .i64 F.e, .slice As F.st.length cs, .slice Ap F.pts.length cp] 42 (0, 0)) ∧ Z3.drew.heap[u3.heap.size]? = some (.cells #[.slice Ay ny.length cy] 25 (0, 0)) from ⟨K13.out, J4.out.f, K3.out⟩)
                    refine takeH (i := 0) (d := 117) (v := .agg #[.slice Ax nx.length cx]) rfl rfl (by kernel_rfl) (by kernel_rfl) (by kernel_rfl) (fun _ _ _ h => h) rfl HS.out ?_ ?_
                    · intro W' hS; exact y_load1 25 (.tmp 15) rfl u1.heap.size rfl 25 _ (0, 0) _ hS.1 Tryz.underlying25 rfl (by kernel_rfl)
                    try simp only [Act.put, List.setIfInBounds_toArray, List.set_cons_zero, List.set_cons_succ]
                    refine takeH (i := 1) (d := 118) (v := .agg #[.int .i64 F.v, .int .i64 F.e, .slice As F.st.length cs, .slice Ap F.pts.length cp]) rfl rfl (by kernel_rfl) (by kernel_rfl) (by kernel_rfl) (fun _ _ _ h => h) rfl HS.out ?_ ?_
                    · intro W' hS; exact y_load1 42 (.tmp 5) rfl w.heap.size rfl 42 _ (0, 0) _ hS.2.1 Tryz.underlying42 rfl (by kernel_rfl)
                    try simp only [Act.put, List.setIfInBounds_toArray, List.set_cons_zero, List.set_cons_succ]
                    refine takeH (i := 3) (d := 120) (v := .agg #[.slice Ay ny.length cy]) rfl rfl (by kernel_rfl) (by kernel_rfl) (by kernel_rfl) (fun _ _ _ h => h) rfl HS.out ?_ ?_
                    · intro W' hS; exact y_load1 25 (.tmp 17) rfl u3.heap.size rfl 25 _ (0, 0) _ hS.2.2 Tryz.underlying25 rfl (by kernel_rfl)
                    try simp only [Act.put, List.setIfInBounds_toArray, List.set_cons_zero, List.set_cons_succ]
                    refine takeH (i := 4) (d := 121) (v := .agg #[.int .i64 F.v, .int .i64 F.e, .slice As F.st.length cs, .slice Ap F.pts.length cp]) rfl rfl (by kernel_rfl) (by kernel_rfl) (by kernel_rfl) (fun _ _ _ h => h) rfl HS.out ?_ ?_
                    · intro W' hS; exact y_load1 42 (.tmp 5) rfl w.heap.size rfl 42 _ (0, 0) _ hS.2.1 Tryz.underlying42 rfl (by kernel_rfl)
                    try simp only [Act.put, List.setIfInBounds_toArray, List.set_cons_zero, List.set_cons_succ]
                    refine wpAnyH_ready (rs := [2]) (by kernel_rfl) (by simp) ?_
                    refine AllReadyH.cons rfl (fun K hK => ?_) AllReadyH.nil
                    go_simp
                    refine Calls.mono (Hvx.out _ (HNx3.out.below HDr.out (Nat.le_refl _)) (J4.out.next HDr.out).fa (J4.out.next HDr.out).evs) ?_
                    rintro e wA ⟨rfl, hbA⟩
                    have hA := HDr.out.trans hbA
                    have HRA := hide (J4.out.next hA)
                    have hl1 : u1.heap.size < Z3.heap.size := World.lt_of_blk K13.out
                    have hl3 : u3.heap.size < Z3.heap.size := World.lt_of_blk K3.out
                    have hSA := And.intro ((hA.block _ hl1).trans K13.out) (And.intro HRA.out.f ((hA.block _ hl3).trans K3.out))
                    have HA := hide hA
                    clear hbA hA
                    refine hK.out _ _ hSA (fun hSA' => ?_)
                    have HSA := hide hSA'
                    clear hSA hSA' hK K
                    try simp only [Act.put, List.setIfInBounds_toArray, List.set_cons_zero, List.set_cons_succ]
                    refine wpAnyH_ready (rs := [5]) (by kernel_rfl) (by simp) ?_
                    refine AllReadyH.cons rfl (fun K hK => ?_) AllReadyH.nil
                    go_simp
                    refine Calls.mono (Hvy.out _ (Nodes.more (HNy.out.below HA.out (Nat.le_refl _)) HA.out.size) HRA.out.fa HRA.out.evs) ?_
                    rintro e wB ⟨rfl, hbB⟩
                    rw [Hval.out]
                    generalize evalF F nx = r
                    have hB := HA.out.trans (hbB.mono HA.out.size)
                    have hSB := And.intro ((hB.block _ hl1).trans K13.out) (And.intro ((hB.block _ (World.lt_of_blk J4.out.f)).trans J4.out.f) ((hB.block _ hl3).trans K3.out))
                    have HbVe := hide (HbV3.out.trans (hB.mono HbV3.out.size))
                    clear hbB hB
                    refine hK.out _ _ hSB (fun hSB' => ?_)
                    have HSB := hide hSB'
                    clear hSB hSB' hK K
                    try simp only [Act.put, List.setIfInBounds_toArray, List.set_cons_zero, List.set_cons_succ]
                    refine takeH (i := 6) (d := 123) (v := .bool false) rfl rfl (by kernel_rfl) (by kernel_rfl) (by kernel_rfl) (fun _ _ _ h => h) rfl HSB.out ?_ ?_
                    · intro W' _; go_simp
                    try simp only [Act.put, List.setIfInBounds_toArray, List.set_cons_zero, List.set_cons_succ]
                    refine wpAnyH_done (by kernel_rfl) ?_ _
                    go_wp2
                    go_roundw
                    case rel => exact ⟨k + 1, by omega, by go_num, HbVe.out⟩
                    case measure => simp [intOf]; omega
                  · have e9 : (ey != 0) = true := by simpa using y0
                    subst x0
                    clear y0
                    go_wp2
                    go_roundw
                    case rel => exact ⟨k + 1, by omega, by go_num, by rw [← HZ3.out]; exact HbV3.out⟩
                    case measure => simp [intOf]; omega
                · have e9 : (ex != 0) = true := by simpa using x0
                  clear x0
                  go_wp2
                  go_roundw
                  case rel => exact ⟨k + 1, by omega, by go_num, by rw [← HZ3.out]; exact HbV3.out⟩
                  case measure => simp [intOf]; omega
              · obtain rfl : k = 5 := by omega
                go_wp2
                go_ret
                exact ⟨rfl, H7.out.bel.trans (HB.out.mono H7.out.bel.size)⟩
        · have e9 : (eb != 0) = true := by simpa using xb
          have e6 : decide ((200 : Int) < (a.size : Int)) = false := by simp; omega
          have e7 : decide ((200 : Int) < (b.size : Int)) = false := by simp; omega
          subst xa
          go_wp2
          go_ret
          exact ⟨rfl, H4.out.bel.alloc H4.out.bel.size _⟩
      · have e9 : (ea != 0) = true := by simpa using xa
        have e6 : decide ((200 : Int) < (a.size : Int)) = false := by simp; omega
        have e7 : decide ((200 : Int) < (b.size : Int)) = false := by simp; omega
        go_wp2
        go_ret
        exact ⟨rfl, H4.out.bel.alloc H4.out.bel.size _⟩
    · have e6 : decide ((200 : Int) < (a.size : Int)) = false := by simp; omega
      have e7 : decide ((200 : Int) < (b.size : Int)) = true := by simp; omega
      go_wp2
      go_ret
      exact ⟨rfl, H4.out.bel.alloc H4.out.bel.size _⟩
  · have e6 : decide ((200 : Int) < (a.size : Int)) = true := by simp; omega
    go_wp2
    go_ret
    exact ⟨rfl, H4.out.bel.alloc H4.out.bel.size _⟩
end Go.Proofs.YtbojlnbdkaanmaaGreatDoor
