/-
  The statements' refines: where it answers true, the one's facts refine the other's.
-/
import Derived.Test.YtbojlnbdkaanmaaGreatDoorDig
namespace Go.Proofs.YtbojlnbdkaanmaaGreatDoor
open Go.RowKit

theorem sameD_iff {a b : Nat → Int} : sameD a b = true ↔ ∀ i, i < 16 → a i = b i := by
  unfold sameD
  rw [List.all_eq_true]
  constructor
  · intro h i hi
    have := h i (List.mem_range.2 hi)
    simpa using this
  · intro h i hi
    have := h i (List.mem_range.1 hi)
    simpa using this
theorem sameD_congr {a b : Nat → Int} (h : sameD a b = true) (x : Nat → Int) : sameD a x = sameD b x := by
  rw [Bool.eq_iff_iff, sameD_iff, sameD_iff]
  rw [sameD_iff] at h
  constructor
  · intro k i hi
    rw [← h i hi]
    exact k i hi
  · intro k i hi
    rw [h i hi]
    exact k i hi
theorem stage_eq {F G : Fct} (h : StEq F.st G.st) (n : Nat) (x : Nat → Int) : stageV F n x = stageV G n x := by
  unfold stageV
  cases hd : F.st[n]? with
  | none =>
    have : G.st[n]? = none := by rw [List.getElem?_eq_none_iff] at hd ⊢; have := h.1; omega
    rw [this]
  | some d =>
    obtain ⟨e, he⟩ : ∃ e, G.st[n]? = some e := ⟨G.st[n]'(by have := (List.getElem?_eq_some_iff.1 hd).1; have := h.1; omega), List.getElem?_eq_getElem _⟩
    rw [he]
    simp only []
    rw [sameD_congr (h.2 n d e hd he)]
/-- Of two rows of outcomes. -/
def RowLe (p q : List Int) : Prop := p.length = q.length ∧ ∀ (k : Nat) (x y : Int), p[k]? = some x → q[k]? = some y → y = -1 ∨ x = y
theorem refines_mk {F G : Fct} (h1 : F.v = G.v) (h2 : F.e = G.e) (h3 : StEq F.st G.st) (h4 : F.pts.length = G.pts.length) (h5 : ∀ (i : Nat) p q, i < F.pts.length → F.pts[i]? = some p → G.pts[i]? = some q → RowLe p q) : Refines F G :=
  ⟨h1, h2, stage_eq h3, h4, fun i p q hp hq => (h5 i p q (List.getElem?_eq_some_iff.1 hp).1 hp hq).1, fun i p q k x y hp hq hx hy => (h5 i p q (List.getElem?_eq_some_iff.1 hp).1 hp hq).2 k x y hx hy⟩

theorem row_step {p q : List Int} {k : Nat} {x y : Int} (h : ∀ (j : Nat) x y, j < k → p[j]? = some x → q[j]? = some y → y = -1 ∨ x = y) (hx : p[k]? = some x) (hy : q[k]? = some y) (hxy : y = -1 ∨ x = y) :
    ∀ (j : Nat) x y, j < k + 1 → p[j]? = some x → q[j]? = some y → y = -1 ∨ x = y := by
  intro j x' y' hj h1 h2
  rcases Nat.lt_or_ge j k with hlt | hge
  · exact h j x' y' hlt h1 h2
  · obtain rfl : j = k := by omega
    rw [hx] at h1
    rw [hy] at h2
    injection h1 with h1
    injection h2 with h2
    rw [← h1, ← h2]
    exact hxy
set_option maxRecDepth 100000 in
set_option maxHeartbeats 4000000 in
theorem refines_any (w : World) (F G : Fct) (As Bs : Option Addr) (cs ds : Nat) (Ap Bp : Option Addr) (cp dp : Nat) (hF : FctAt w w.heap.size F As Ap) (hG : FctAt w w.heap.size G Bs Bp) (hl : F.st.length ≤ 1000000) (hlp : F.pts.length ≤ 1000000) (hlr : ∀ p ∈ F.pts, p.length ≤ 1000000) :
    Calls Tryz.prog 24 #[F.val As cs Ap cp, G.val Bs ds Bp dp] w (Grants (Refines F G) w) := by
  obtain ⟨W0, hW0⟩ : ∃ W0, W0 = ((w.alloc (.cells #[.int .i64 F.v, .int .i64 F.e, .slice As F.st.length cs, .slice Ap F.pts.length cp] 42)).alloc (.cells #[.int .i64 G.v, .int .i64 G.e, .slice Bs G.st.length ds, .slice Bp G.pts.length dp] 42)) := ⟨_, rfl⟩
  have hB0 : Below w.heap.size w W0 := by rw [hW0]; exact ((Below.refl _ w).alloc (Nat.le_refl _) _).alloc (by simp) _
  have hz0 : W0.heap.size = w.heap.size + 2 := by rw [hW0]; simp
  have kf : W0.heap[w.heap.size]? = some (.cells #[.int .i64 F.v, .int .i64 F.e, .slice As F.st.length cs, .slice Ap F.pts.length cp] 42 (0, 0)) := by rw [hW0]; exact (heap_alloc_old _ _ (by simp)).trans (heap_alloc_new w _)
  have kg : W0.heap[w.heap.size + 1]? = some (.cells #[.int .i64 G.v, .int .i64 G.e, .slice Bs G.st.length ds, .slice Bp G.pts.length dp] 42 (0, 0)) := by rw [hW0]; exact heap_alloc2_new w _ _
  have HD := hide (digests_any W0 As Bs cs ds F.st G.st hl ((hF.st.below hB0 (Nat.le_refl _)).more hB0.size) ((hG.st.below hB0 (Nat.le_refl _)).more hB0.size))
  rw [hW0] at HD
  have fcell : ∀ W, Below W0.heap.size W0 W → W.cell? ⟨w.heap.size, 3, none⟩ = some (.slice Ap F.pts.length cp) := fun W hb => by
    rw [cell_of_row W w.heap.size 3 _ _ _ ((hb.block _ (by omega)).trans kf)]; rfl
  have gcell : ∀ W, Below W0.heap.size W0 W → W.cell? ⟨w.heap.size + 1, 3, none⟩ = some (.slice Bp G.pts.length dp) := fun W hb => by
    rw [cell_of_row W (w.heap.size + 1) 3 _ _ _ ((hb.block _ (by omega)).trans kg)]; rfl
  have Fc := hide fcell
  have Gc := hide gcell
  have HB0 := hide hB0
  have Hlr := hide hlr
  have HFp := hide hF.pts
  have HGp := hide hG.pts
  have HW := hide hW0
  clear hlr fcell gcell kf kg hB0 hz0 hF hG hW0
  simp only [Fct.val]
  by_cases c1 : F.v = G.v
  · have d1 : (F.v != G.v) = false := by simpa using c1
    have C1 := hide c1
    clear c1
    by_cases c2 : F.e = G.e
    · have d2 : (F.e != G.e) = false := by simpa using c2
      have C2 := hide c2
      clear c2
      by_cases c3 : F.pts.length = G.pts.length
      · have d3 : ((F.pts.length : Int) != (G.pts.length : Int)) = false := by simp; omega
        have C3 := hide c3
        clear c3
        go_enter Tryz.func24, Tryz.ntmps24
        go_wp2_with (go_at_call 42; (with_reducible refine Calls.mono HD.out ?_); rintro e w1 ⟨r, rfl, hr, hb⟩; rw [← HW.out] at hb; have HR := hide hr; have HB := hide hb; have f3 := Fc.out w1 hb; have g3 := Gc.out w1 hb; clear hr hb; cases r)
        · refine bodyPost_ret (v := .bool false) (by simp [results, Tryz.results24, go_sem]) rfl ?_
          exact Grants.no (HB0.out.trans (HB.out.mono HB0.out.size))
        · clear f3 g3
          go_loopw [5, 6] (fun i _ wr => ∃ n : Nat, i = .int .i64 n ∧ n ≤ F.pts.length ∧ Hid (∀ (i : Nat) p q, i < n → F.pts[i]? = some p → G.pts[i]? = some q → RowLe p q) ∧ Hid (Below W0.heap.size W0 wr)) (fun i _ _ => F.pts.length - (intOf i).toNat)
          case atStart => exact ⟨0, rfl, Nat.zero_le _, fun i p q h => by omega, HB⟩
          case round =>
            obtain ⟨n, rfl, hn, HT, HBr⟩ := hrel
            have f3 := Fc.out wr HBr.out
            have g3 := Gc.out wr HBr.out
            by_cases hlt : n < F.pts.length
            · have hlt2 : n < G.pts.length := by rw [← C3.out]; exact hlt
              obtain ⟨b, off, Ao, co, rfl, hb, c, hI⟩ := HFp.out.at_ hlt
              obtain ⟨b2, off2, Ao2, co2, rfl, hb2, c2, hI2⟩ := HGp.out.at_ hlt2
              have hbw : Below w.heap.size w wr := HB0.out.trans (HBr.out.mono HB0.out.size)
              have e1 := (hbw.cell (p := ⟨b, off + n, none⟩) hb).trans c
              have e2 := (hbw.cell (p := ⟨b2, off2 + n, none⟩) hb2).trans c2
              have hpl := Hlr.out F.pts[n] (List.getElem_mem hlt)
              obtain ⟨p, hp⟩ : ∃ p, F.pts[n] = p := ⟨_, rfl⟩
              obtain ⟨q, hq⟩ : ∃ q, G.pts[n] = q := ⟨_, rfl⟩
              rw [hp] at e1 hI hpl
              rw [hq] at e2 hI2
              have Hp := hide (show F.pts[n]? = some p by rw [List.getElem?_eq_getElem hlt, hp])
              have Hq := hide (show G.pts[n]? = some q by rw [List.getElem?_eq_getElem hlt2, hq])
              have HI := hide hI
              have HI2 := hide hI2
              have hltI : (n : Int) < (F.pts.length : Int) := by omega
              have hlt2I : (n : Int) < (G.pts.length : Int) := by omega
              have HbF := hide hb
              have HbG := hide hb2
              have E1 := hide (show w.cell? ⟨b, off + n, none⟩ = some (.slice Ao p.length co) by rw [← hp]; exact c)
              have E2 := hide (show w.cell? ⟨b2, off2 + n, none⟩ = some (.slice Ao2 q.length co2) by rw [← hq]; exact c2)
              clear c c2 hb hb2 hp hq hI hI2 hbw
              by_cases c4 : p.length = q.length
              · have d4 : ((p.length : Int) != (q.length : Int)) = false := by simp; omega
                have C4 := hide c4
                clear c4
                go_wp2
                go_quiet (fail)
                clear f3 g3 e1 e2
                go_wp2
                obtain ⟨wo, rfl⟩ : ∃ wo : World, wo = wr := ⟨_, rfl⟩
                go_loopw [6] (fun i wr2 => ∃ k : Nat, i = .int .i64 k ∧ k ≤ p.length ∧ Hid (∀ (j : Nat) x y, j < k → p[j]? = some x → q[j]? = some y → y = -1 ∨ x = y) ∧ Hid (Below W0.heap.size W0 wr2)) (fun i _ => p.length - (intOf i).toNat)
                case atStart => exact ⟨0, rfl, Nat.zero_le _, fun j x y h => by omega, below_drewN HBr.out _⟩
                case round =>
                  obtain ⟨k, rfl, hk, HT2, HB2⟩ := hrel
                  have f3 := Fc.out wr HB2.out
                  have g3 := Gc.out wr HB2.out
                  have hbw2 : Below w.heap.size w wr := HB0.out.trans (HB2.out.mono HB0.out.size)
                  have e1 := (hbw2.cell (p := ⟨b, off + n, none⟩) HbF.out).trans E1.out
                  have e2 := (hbw2.cell (p := ⟨b2, off2 + n, none⟩) HbG.out).trans E2.out
                  by_cases hlk : k < p.length
                  · have hlk2 : k < q.length := by rw [← C4.out]; exact hlk
                    obtain ⟨b3, off3, rfl, hb3, c3x⟩ := HI.out.at_ hlk
                    obtain ⟨b4, off4, rfl, hb4, c4x⟩ := HI2.out.at_ hlk2
                    have e3 := (hbw2.cell (p := ⟨b3, off3 + k, none⟩) hb3).trans c3x
                    have e4 := (hbw2.cell (p := ⟨b4, off4 + k, none⟩) hb4).trans c4x
                    obtain ⟨x, hx⟩ : ∃ x, p[k] = x := ⟨_, rfl⟩
                    obtain ⟨y, hy⟩ : ∃ y, q[k] = y := ⟨_, rfl⟩
                    rw [hx] at e3
                    rw [hy] at e4
                    have Hx := hide (show p[k]? = some x by rw [List.getElem?_eq_getElem hlk, hx])
                    have Hy := hide (show q[k]? = some y by rw [List.getElem?_eq_getElem hlk2, hy])
                    have hlkI : (k : Int) < (p.length : Int) := by omega
                    have hlk2I : (k : Int) < (q.length : Int) := by omega
                    clear c3x c4x hb3 hb4 hx hy hbw2
                    by_cases hy1 : y = -1
                    · have dy : (y != -1) = false := by simpa using hy1
                      have Hy1 := hide hy1
                      clear hy1
                      go_wp2
                      go_quiet (fail)
                      clear f3 g3 e1 e2 e3 e4
                      go_wp2
                      go_roundw
                      case rel => exact ⟨k + 1, by go_num, by omega, row_step HT2.out Hx.out Hy.out (Or.inl Hy1.out), below_drewN HB2.out _⟩
                      case measure => simp [intOf]; omega
                    · have dy : (y != -1) = true := by simpa using hy1
                      clear hy1
                      by_cases hxy : x = y
                      · have dxy : (x != y) = false := by simpa using hxy
                        have Hxy := hide hxy
                        clear hxy
                        go_wp2
                        go_quiet (fail)
                        clear f3 g3 e1 e2 e3 e4
                        go_wp2
                        go_roundw
                        case rel => exact ⟨k + 1, by go_num, by omega, row_step HT2.out Hx.out Hy.out (Or.inr Hxy.out), below_drewN HB2.out _⟩
                        case measure => simp [intOf]; omega
                      · have dxy : (x != y) = true := by simpa using hxy
                        clear hxy
                        go_wp2
                        go_quiet (fail)
                        go_wp2
                        refine bodyPost_ret (v := .bool false) (by simp [results, Tryz.results24, go_sem]) rfl ?_
                        exact Grants.no (below_drewN (HB0.out.trans (HB2.out.mono HB0.out.size)) _)
                  · obtain rfl : k = p.length := by omega
                    clear hbw2
                    go_wp2
                    go_roundw
                    case rel =>
                      refine ⟨n + 1, by go_num, by omega, fun i p' q' hi h1 h2 => ?_, HB2.out⟩
                      rcases Nat.lt_or_ge i n with h | h
                      · exact HT.out i p' q' h h1 h2
                      · obtain rfl : i = n := by omega
                        rw [Hp.out] at h1
                        rw [Hq.out] at h2
                        injection h1 with h1
                        injection h2 with h2
                        rw [← h1, ← h2]
                        exact ⟨C4.out, fun k x y hx hy => HT2.out k x y (List.getElem?_eq_some_iff.1 hx).1 hx hy⟩
                    case measure => simp [intOf]; omega
              · have d4 : ((p.length : Int) != (q.length : Int)) = true := by simp; omega
                clear c4
                go_wp2
                go_quiet (fail)
                go_wp2
                refine bodyPost_ret (v := .bool false) (by simp [results, Tryz.results24, go_sem]) rfl ?_
                exact Grants.no (below_drewN (HB0.out.trans (HBr.out.mono HB0.out.size)) _)
            · obtain rfl : n = F.pts.length := by omega
              go_wp2
              refine bodyPost_ret (v := .bool true) (by simp [results, Tryz.results24, go_sem]) rfl ?_
              exact Grants.yes (refines_mk C1.out C2.out (HR.out (by trivial)) C3.out HT.out) (HB0.out.trans (HBr.out.mono HB0.out.size))
      · have d3 : ((F.pts.length : Int) != (G.pts.length : Int)) = true := by simp; omega
        go_enter Tryz.func24, Tryz.ntmps24
        go_wp2_with (go_at_call 42; (with_reducible refine Calls.mono HD.out ?_); rintro e w1 ⟨r, rfl, hr, hb⟩; rw [← HW.out] at hb; have HR := hide hr; have HB := hide hb; have f3 := Fc.out w1 hb; have g3 := Gc.out w1 hb; clear hr hb; cases r)
        all_goals
          refine bodyPost_ret (v := .bool false) (by simp [results, Tryz.results24, go_sem]) rfl ?_
          exact Grants.no (HB0.out.trans (HB.out.mono HB0.out.size))
    · have d2 : (F.e != G.e) = true := by simpa using c2
      go_enter Tryz.func24, Tryz.ntmps24
      go_wp2
      refine bodyPost_ret (v := .bool false) (by simp [results, Tryz.results24, go_sem]) rfl ?_
      have := HB0.out
      rw [HW.out] at this
      exact Grants.no this
  · have d1 : (F.v != G.v) = true := by simpa using c1
    go_enter Tryz.func24, Tryz.ntmps24
    go_wp2
    refine bodyPost_ret (v := .bool false) (by simp [results, Tryz.results24, go_sem]) rfl ?_
    have := HB0.out
    rw [HW.out] at this
    exact Grants.no this
end Go.Proofs.YtbojlnbdkaanmaaGreatDoor
