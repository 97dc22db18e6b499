/-
  The program's Points: the points of the nodes that ask for one, sorted, each once.
-/
import Derived.Test.YtbojlnbdkaanmaaGreatDoorPtsC
import Derived.Test.YtbojlnbdkaanmaaGreatDoorParse
set_option linter.unusedVariables false
set_option linter.unusedSimpArgs false
namespace Go.Proofs.YtbojlnbdkaanmaaGreatDoor
open Go.RowKit Go.Shelf

theorem info50 : (Tryz.prog.info? 50).map (fun i => (i.zero, i.size, i.bytes)) = some (some (.agg #[.int .i64 0, .int .i64 0]), 2, 16) := by kernel_rfl
/-- The points that nodes ask for, in their order. -/
def ptsF (nds : List Nd) : List (Int × Int) := (nds.filter fun nd => nd.k == 7).map fun nd => (nd.n, nd.m)
theorem ptsF_snoc (nds : List Nd) (x : Nd) : ptsF (nds ++ [x]) = if x.k = 7 then ptsF nds ++ [(x.n, x.m)] else ptsF nds := by
  unfold ptsF
  by_cases h : x.k = 7
  · simp [List.filter_append, h]
  · have : (x.k == 7) = false := by simpa using h
    simp [List.filter_append, h]
theorem ptsF_take (nds : List Nd) (k : Nat) (hk : k < nds.length) : ptsF (nds.take (k + 1)) = if nds[k].k = 7 then ptsF (nds.take k) ++ [(nds[k].n, nds[k].m)] else ptsF (nds.take k) := by
  rw [List.take_add_one, List.getElem?_eq_getElem hk, Option.toList_some, ptsF_snoc]
theorem ptsF_length (nds : List Nd) : (ptsF nds).length ≤ nds.length := by
  unfold ptsF
  rw [List.length_map]
  exact List.length_filter_le _ _
theorem flatP_snoc (xs : List (Int × Int)) (x : Int × Int) : flatP (xs ++ [x]) = flatP xs ++ encP x := by simp [flatP]
/-- What Points leaves. -/
def PostQ (w : World) (nds : List Nd) (e : Ending) (w' : World) : Prop :=
  Below w.heap.size w w' ∧ ∃ A c ys, e = .returned (.slice A (dedupP ys).length c) ∧ ys.Perm (ptsF nds) ∧ SortedP ys ∧ Prs w' w'.heap.size A (dedupP ys)
theorem own_forms {w : World} {base n : Nat} {v : Value} {xs : List (Int × Int)} (h : w.ownsRow base 50 2 v n (flatP xs)) : (v = .slice none 0 0 ∧ n = 0) ∨ ∃ g cap, v = .slice (some ⟨g, 0, none⟩) n cap ∧ base ≤ g := by
  rcases h.2 with ⟨e, h0⟩ | ⟨g, cap, cur, e, hb, _⟩
  · exact Or.inl ⟨e, h0⟩
  · exact Or.inr ⟨g, cap, e, hb⟩

set_option maxRecDepth 100000 in
set_option maxHeartbeats 4000000 in
theorem points_any (w : World) (A : Option Addr) (c : Nat) (nds : List Nd) (hN : Nodes w w.heap.size A nds) (hln : nds.length ≤ 1000000) (hC : CompOk (ptsF nds).length) :
    Calls Tryz.prog 19 #[.agg #[.slice A nds.length c]] w (PostQ w nds) := by
  have HN := hide hN
  unfold CompOk at hC
  have HC := hide hC
  clear hN hC
  obtain ⟨i0, hi0, hz0, hz1, hz2⟩ := info_parts info50
  obtain ⟨W0, hW0⟩ : ∃ W0, W0 = w.alloc (.cells #[.slice A nds.length c] 25) := ⟨_, rfl⟩
  have hb0 : Below w.heap.size w W0 := by rw [hW0]; exact (Below.refl _ w).alloc (Nat.le_refl _) _
  have HB0 := hide hb0
  have HW0 := hide hW0
  have hs0 : W0.heap.size = w.heap.size + 1 := by rw [hW0]; simp
  have Hs0 := hide hs0
  clear hb0 hW0 hs0
  go_enter Tryz.func19, Tryz.ntmps19
  go_wp2
  rw [← HW0.out]
  go_loopg [3, 9] (nds.length + 1) (fun g v kv wr => ∃ k : Nat, kv = .int .i64 k ∧ k ≤ nds.length ∧ nds.length < g + k ∧ Hid (wr.ownsRow W0.heap.size 50 2 v (ptsF (nds.take k)).length (flatP (ptsF (nds.take k)))) ∧ Hid (Below W0.heap.size W0 wr))
  case atStart => exact ⟨0, rfl, Nat.zero_le _, by omega, World.ownsRow_nil _ _ _ _, Below.refl _ _⟩
  case round =>
    obtain ⟨k, rfl, hk, hg, HO, HBr⟩ := hrel
    cases gk with
    | zero => omega
    | succ g =>
      have hbr := HB0.out.trans (HBr.out.mono HB0.out.size)
      by_cases hlt : k < nds.length
      · obtain ⟨b, off, Ao, co, rfl, hbl, hat, hof⟩ := HN.out.at_ hlt
        obtain ⟨nd, hnd⟩ : ∃ nd, nds[k] = nd := ⟨_, rfl⟩
        have hsn := ptsF_take nds k hlt
        rw [hnd] at hat hsn
        have hat2 := (hat.below hbr hbl).read
        have Hat := hide hat2
        have Hsn := hide hsn
        have hlI : (k : Int) < (nds.length : Int) := by omega
        clear hat hat2 hof hnd hsn hbr
        obtain ⟨o, ho⟩ : ∃ o, (Value.slice Ao nd.of.length co) = o := ⟨_, rfl⟩
        rw [ho] at Hat
        have hoc : o.oneCell' = true := by rw [← ho]; rfl
        clear ho
        obtain ⟨W, hW⟩ : ∃ W, W = wr.alloc (.cells (nd.cells o).toArray 67) := ⟨_, rfl⟩
        obtain ⟨hWb, hWk, hWs⟩ := fresh_facts hW
        have c0 : W.cell? ⟨wr.heap.size, 0, none⟩ = some (.int .i64 nd.k) := by rw [cell_of_row _ _ _ _ _ _ hWk]; rfl
        have c1 : W.cell? ⟨wr.heap.size, 1, none⟩ = some (.int .i64 nd.n) := by rw [cell_of_row _ _ _ _ _ _ hWk]; rfl
        have c2 : W.cell? ⟨wr.heap.size, 2, none⟩ = some (.int .i64 nd.m) := by rw [cell_of_row _ _ _ _ _ _ hWk]; rfl
        have HWe := hide hW
        have HWb := hide hWb
        clear hW hWb hWk hWs
        have HO2 := hide (own_below HO.out HWb.out)
        have hpl := ptsF_length (nds.take k)
        have hpk : (nds.take k).length ≤ k := List.length_take_le _ _
        have hsz : W0.heap.size ≤ W.heap.size := Nat.le_trans HBr.out.size HWb.out.size
        by_cases h7 : nd.k = 7
        · have hq : (nd.k == 7) = true := by simpa using h7
          have H7 := hide h7
          clear h7
          go_wp2_with (first
            | (with_reducible refine wpList_load_at rfl 67 (.tmp 11) rfl ⟨b, off + k * 21, none⟩ rfl _ _ Hat.out Tryz.underlying67 rfl (by kernel_rfl) ?_)
            | (with_reducible refine wpList_store_fresh rfl 67 (.tmp 5) (.tmp 12) rfl (.agg (nd.cells o).toArray) rfl rfl rfl (by kernel_rfl) (nd_one hoc) HWe.out ?_)
            | (at_builtin; refine wpList_append_lies _ rfl (.tmp 16) (.tmp 22) 36 rfl W0.heap.size 50 i0 _ 2 16 Tryz.underlying36 hi0 hz0 hz1 hz2 rfl (by decide) _ (ptsF (nds.take k)).length _ rfl (HO2.out.alloc _) ⟨_, 0, none⟩ 1 1 (encP (nd.n, nd.m)) rfl rfl (World.news_of_block (cs := (encP (nd.n, nd.m)).toArray) (t := 50) (heap_alloc_new _ _)) (by intro u hu; simp [encP] at hu; rcases hu with rfl | rfl <;> rfl) (by decide) (by unfold maxLen; omega) (by omega) (by simp; omega) _ rfl ?_; intro g1 cap1 W1 hown1 hgr1 _ _; have HX := hide hown1; have HG := hide hgr1; clear hown1 hgr1))
          go_roundg g
          case measure => omega
          case rel =>
            refine ⟨k + 1, by go_num, by omega, by omega, ?_, ?_⟩
            · rw [Hsn.out, if_pos H7.out, flatP_snoc, List.length_append]
              exact HX.out
            · exact ((HBr.out.trans (HWb.out.mono HBr.out.size)).alloc hsz _).grown HG.out (by simp; omega) (fun j hj => (HO2.out.lt j hj).1)
        · have hq : (nd.k == 7) = false := by simpa using h7
          have H7 := hide h7
          clear h7
          go_wp2_with (first
            | (with_reducible refine wpList_load_at rfl 67 (.tmp 11) rfl ⟨b, off + k * 21, none⟩ rfl _ _ Hat.out Tryz.underlying67 rfl (by kernel_rfl) ?_)
            | (with_reducible refine wpList_store_fresh rfl 67 (.tmp 5) (.tmp 12) rfl (.agg (nd.cells o).toArray) rfl rfl rfl (by kernel_rfl) (nd_one hoc) HWe.out ?_))
          go_roundg g
          case measure => omega
          case rel =>
            refine ⟨k + 1, by go_num, by omega, by omega, ?_, HBr.out.trans (HWb.out.mono HBr.out.size)⟩
            rw [Hsn.out, if_neg H7.out]
            exact HO2.out
      · obtain rfl : k = nds.length := by omega
        have hO := HO.out
        rw [List.take_length] at hO
        have Hbr := hide hbr
        clear hbr HO
        have hpl := ptsF_length nds
        rcases own_forms hO with ⟨rfl, h0⟩ | ⟨g2, cap, rfl, hg2⟩
        · have hnil : ptsF nds = [] := List.eq_nil_of_length_eq_zero h0
          have Hnil := hide hnil
          clear hnil hO h0
          go_wp2_with (first
            | (go_at_call 36; (with_reducible refine Calls.mono (sort_nil _ _) ?_); rintro e w1 ⟨rfl, rfl⟩)
            | (go_at_call 40; (with_reducible refine Calls.mono (compact_nil _) ?_); rintro e w1 ⟨rfl, rfl⟩))
          refine bodyPost_ret (v := .slice none 0 0) (by simp [results, Tryz.results19, go_sem]) rfl ?_
          exact ⟨Hbr.out, none, 0, [], rfl, by rw [Hnil.out], List.Pairwise.nil, Row.nil_ _ _ _ _⟩
        · have HOw := hide hO
          clear hO
          go_wp2_with (first
            | (go_at_call 36; (with_reducible refine Calls.mono (sort_any _ _ _ _ _ (ptsF nds) rfl (by omega) HOw.out) ?_); rintro e w1 ⟨rfl, ys, hp, hyl, hys, hown, hb1⟩; have Hp := hide hp; have Hyl := hide hyl; have Hys := hide hys; have Hown := hide hown; have HB1 := hide hb1; clear hp hyl hys hown hb1)
            | (go_at_call 40; (with_reducible refine Calls.mono (HC.out _ _ _ _ ys Hyl.out Hown.out) ?_); rintro e w2 ⟨hb2, rfl, hpr⟩; have HB2 := hide hb2; have Hpr := hide hpr; clear hb2 hpr))
          refine bodyPost_ret (v := .slice (some ⟨g2, 0, none⟩) (dedupP ys).length cap) (by simp [results, Tryz.results19, go_sem]) rfl ?_
          exact ⟨Hbr.out.trans ((HB1.out.trans HB2.out).mono HB0.out.size), _, cap, ys, rfl, Hp.out, Hys.out, Hpr.out⟩
end Go.Proofs.YtbojlnbdkaanmaaGreatDoor
