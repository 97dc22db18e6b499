/-
  The program's words: a digest written out in words.
-/
import Derived.Test.YtbojlnbdkaanmaaGreatDoorTxtB
import Derived.Lib.AppendStr
namespace Go.Proofs.YtbojlnbdkaanmaaGreatDoor
open Go.RowKit
set_option linter.unusedSimpArgs false
set_option linter.unusedVariables false

def bytV (l : List UInt8) : List Value := l.map fun b => Value.int .u8 (b.toNat : Int)
theorem info5 : (Tryz.prog.info? 5).map (fun i => (i.zero, i.size, i.bytes)) = some (some (.int .u8 0), 1, 1) := by kernel_rfl
theorem index65 (w : World) (D : Array Value) (k : Nat) (hk : k < 16) (x : Int) (hg : D[k]? = some (.int .u8 x)) : (Instr.index 65 (.agg D) (.int .i64 (k : Int))).run Tryz.prog w = .ok (.int .u8 x) w := by
  have h1 : (0 : Int) ≤ k ∧ (k : Int) < 16 := by omega
  have hz : ∀ w, (sizeOf 5).run Tryz.prog w = .ok 1 w := Tryz.sizeOf5
  have hp : ∀ w, (part 5 D (k * 1)).run Tryz.prog w = .ok (.int .u8 x) w := by
    intro w
    simp [part, isAgg, run_underlying Tryz.underlying5, hg]
  simp [Instr.index, run_underlying Tryz.underlying65, asIntOf, go_sem, hz, hp, h1]
  rw [if_pos hk, hg]
  rfl
theorem shr4 (q : Int) (h : 0 ≤ q ∧ q < 256) : q / 2 ^ 4 = q / 16 := by
  have e : (2 : Int) ^ 4 = 16 := by decide
  rw [e]
theorem and15 (q : Int) (h : 0 ≤ q ∧ q < 256) : bits .and .u8 q 15 = q % 16 := by
  have key : ∀ n : Fin 256, bits .and .u8 ((n.val : Nat) : Int) 15 = ((n.val : Nat) : Int) % 16 := by decide +kernel
  have := key ⟨q.toNat, by omega⟩
  simp only [] at this
  rw [Int.toNat_of_nonneg h.1] at this
  exact this
theorem hexIdx (o : Oper) (a : Act) (y : Operand) (ho : o.op = .index 9 (.const (.string ⟨#[48, 49, 50, 51, 52, 53, 54, 55, 56, 57, 97, 98, 99, 100, 101, 102]⟩)) y) (v : Int) (hv : 0 ≤ v ∧ v ≤ 15) (hy : a.eval y = .int .u8 v) (W : World) :
    (execOp a.eval o).run Tryz.prog W = .ok (.value (.int .u8 ((hexC v).toNat : Int))) W := by
  have h16 : v = 0 ∨ v = 1 ∨ v = 2 ∨ v = 3 ∨ v = 4 ∨ v = 5 ∨ v = 6 ∨ v = 7 ∨ v = 8 ∨ v = 9 ∨ v = 10 ∨ v = 11 ∨ v = 12 ∨ v = 13 ∨ v = 14 ∨ v = 15 := by omega
  unfold execOp
  simp only [ho, hy]
  rcases h16 with rfl | rfl | rfl | rfl | rfl | rfl | rfl | rfl | rfl | rfl | rfl | rfl | rfl | rfl | rfl | rfl <;> (simp [Act.eval, Instr.index, run_underlying Tryz.underlying9, asIntOf, go_sem]; decide)
theorem words_step (d : Nat → Int) (i : Nat) : wordsL d (i + 1) = wordsL d i ++ (if i % 4 = 0 then [32, 120] else []) ++ [hexC (d i / 16), hexC (d i % 16)] := rfl
set_option maxRecDepth 100000 in
set_option maxHeartbeats 4000000 in
theorem words_any (d : Nat → Int) (hd : ∀ i, 0 ≤ d i ∧ d i < 256) : WordsOk d := by
  intro w
  obtain ⟨i5, hi5, hz0, hz1, hz2⟩ := info_parts info5
  obtain ⟨D, hD⟩ : ∃ D, (dCells d).toArray = D := ⟨_, rfl⟩
  have hDs : D.size = 16 := by rw [← hD]; rfl
  have hDg : ∀ i, i < 16 → D[i]? = some (.int .u8 (d i)) := by
    intro i hi
    rw [← hD]
    have h16 : i = 0 ∨ i = 1 ∨ i = 2 ∨ i = 3 ∨ i = 4 ∨ i = 5 ∨ i = 6 ∨ i = 7 ∨ i = 8 ∨ i = 9 ∨ i = 10 ∨ i = 11 ∨ i = 12 ∨ i = 13 ∨ i = 14 ∨ i = 15 := by omega
    rcases h16 with rfl | rfl | rfl | rfl | rfl | rfl | rfl | rfl | rfl | rfl | rfl | rfl | rfl | rfl | rfl | rfl <;> rfl
  rw [hD]
  have HDg := hide hDg
  obtain ⟨fb, fk, fs⟩ := fresh_facts (w := w) (W := w.alloc (.cells D 65)) rfl
  have HB0 := hide fb
  have K0 := hide fk
  have Hd := hide hd
  clear fb fk fs hd hDg hD
  go_enter Tryz.func33, Tryz.ntmps33
  go_wp2_with (with_reducible refine wpList_load_row rfl 65 (.tmp 1) rfl w.heap.size rfl 65 D (0, 0) _ K0.out Tryz.underlying65 rfl (by rw [hDs]; kernel_rfl) ?_)
  obtain ⟨W0, hW0⟩ : ∃ W0, w.alloc (.cells D 65) = W0 := ⟨_, rfl⟩
  rw [hW0]
  rw [hW0] at HB0 K0
  clear hW0
  go_loopw [3, 7] (fun v kv wr => ∃ k : Nat, k ≤ 16 ∧ kv = .int .i64 k ∧ Hid (wr.ownsRow W0.heap.size 5 1 v (wordsL d k).length (bytV (wordsL d k))) ∧ Hid (Below W0.heap.size W0 wr)) (fun _ kv _ => 16 - (intOf kv).toNat)
  case atStart => exact ⟨0, by omega, rfl, World.ownsRow_nil _ _ _ _, Below.refl _ _⟩
  case round =>
    obtain ⟨k, hk, rfl, HO, HB⟩ := hrel
    by_cases hlt : k < 16
    · have hg := HDg.out k hlt
      have hwl := wordsL_length d k
      have hix := fun w => index65 w D k hlt (d k) hg
      obtain ⟨q, hq⟩ : ∃ q, d k = q := ⟨_, rfl⟩
      have hqb := Hd.out k
      rw [hq] at hix hqb
      have Hq := hide hq
      have hws := words_step d k
      have Hws := hide hws
      have hlw : W0.heap.size ≤ wr.heap.size := HB.out.size
      clear hg hq hws

      have hs2 : (⟨#[32, 120]⟩ : ByteArray).size = 2 := rfl
      by_cases h4 : k % 4 = 0
      · have hk4 : ((k : Int) % 4 == 0) = true := by simp; omega
        go_wp2_with (at_builtin; refine Lib.wpList_append_own_string _ rfl (.tmp 14) (.const (.string ⟨#[32, 120]⟩)) 99 9 rfl W0.heap.size 5 i5 Tryz.underlying99 Tryz.underlying9 hi5 hz0 hz1 hz2 _ (wordsL d k).length _ rfl HO.out ⟨#[32, 120]⟩ rfl (by rw [hs2]; unfold maxLen; omega) (by rw [hs2]; omega) (by omega) ?_; intro v1 W1 hown1 hgr1 _; have HX := hide hown1; have HGr := hide hgr1; clear hown1 hgr1)
        have HB1 := hide (HB.out.grown HGr.out hlw (fun j hj => (HO.out.lt j hj).1))
        obtain ⟨v0, hv0⟩ : ∃ v0, v1 = v0 := ⟨_, rfl⟩
        rw [hv0] at HX ⊢
        refine wp_region_held (S := fun _ => True) (by kernel_rfl) ?_
        change wpAnyH _ _ _ _ _ _ _ _ (World.drew _)
        have HS := hide (show (World.drew W1).ownsRow W0.heap.size 5 1 v0 ((wordsL d k).length + (⟨#[32, 120]⟩ : ByteArray).size) (bytV (wordsL d k) ++ Lib.strCells ⟨#[32, 120]⟩) ∧ Below W0.heap.size W0 (World.drew W1) from ⟨own_below HX.out (Below.refl _ _).drew, HB1.out.trans ((Below.refl _ _).drew)⟩)
        refine takeH (i := 0) (d := 16) (v := v0) rfl rfl (by kernel_rfl) (by kernel_rfl) (by kernel_rfl) (fun _ _ _ h => h) rfl trivial ?_ ?_
        · intro W' _; go_simp
        try simp only [Act.put, List.setIfInBounds_toArray, List.set_cons_zero, List.set_cons_succ]
        refine takeH (i := 1) (d := 17) (v := .int .u8 q) rfl rfl (by kernel_rfl) (by kernel_rfl) (by kernel_rfl) (fun _ _ _ h => h) rfl trivial ?_ ?_
        · intro W' _; go_simp
        try simp only [Act.put, List.setIfInBounds_toArray, List.set_cons_zero, List.set_cons_succ]
        refine takeH (i := 2) (d := 18) (v := .int .u8 (q / 16)) rfl rfl (by kernel_rfl) (by kernel_rfl) (by kernel_rfl) (fun _ _ _ h => h) rfl trivial ?_ ?_
        · intro W' _; rw [← shr4 q hqb]; go_simp
        try simp only [Act.put, List.setIfInBounds_toArray, List.set_cons_zero, List.set_cons_succ]
        refine takeH (i := 3) (d := 19) (v := .int .u8 ((hexC (q / 16)).toNat : Int)) rfl rfl (by kernel_rfl) (by kernel_rfl) (by kernel_rfl) (fun _ _ _ h => h) rfl trivial ?_ ?_
        · intro W' _; exact hexIdx _ _ (.tmp 18) rfl (q / 16) (by omega) rfl W'
        try simp only [Act.put, List.setIfInBounds_toArray, List.set_cons_zero, List.set_cons_succ]
        refine takeH (i := 4) (d := 20) (v := .int .u8 q) rfl rfl (by kernel_rfl) (by kernel_rfl) (by kernel_rfl) (fun _ _ _ h => h) rfl trivial ?_ ?_
        · intro W' _; go_simp
        try simp only [Act.put, List.setIfInBounds_toArray, List.set_cons_zero, List.set_cons_succ]
        refine takeH (i := 5) (d := 21) (v := .int .u8 (q % 16)) rfl rfl (by kernel_rfl) (by kernel_rfl) (by kernel_rfl) (fun _ _ _ h => h) rfl trivial ?_ ?_
        · intro W' _; rw [← and15 q hqb]; go_simp
        try simp only [Act.put, List.setIfInBounds_toArray, List.set_cons_zero, List.set_cons_succ]
        refine takeH (i := 6) (d := 22) (v := .int .u8 ((hexC (q % 16)).toNat : Int)) rfl rfl (by kernel_rfl) (by kernel_rfl) (by kernel_rfl) (fun _ _ _ h => h) rfl trivial ?_ ?_
        · intro W' _; exact hexIdx _ _ (.tmp 21) rfl (q % 16) (by omega) rfl W'
        try simp only [Act.put, List.setIfInBounds_toArray, List.set_cons_zero, List.set_cons_succ]
        refine wpAnyH_ready (rs := [7]) (by kernel_rfl) (by simp) ?_
        refine AllReadyH.cons rfl (fun K hK => ?_) AllReadyH.nil
        go_simp
        have hdz : W0.heap.size ≤ (World.drew W1).heap.size := HS.out.2.size
        refine hK.out _ _ trivial (fun _ => ?_)
        have HS2 := hide (And.intro (HS.out.1.alloc (.cells #[.int .u8 ((hexC (q / 16)).toNat : Int), .int .u8 ((hexC (q % 16)).toNat : Int)] 5)) (HS.out.2.alloc hdz (.cells #[.int .u8 ((hexC (q / 16)).toNat : Int), .int .u8 ((hexC (q % 16)).toNat : Int)] 5)))
        clear hK K
        try simp only [Act.put, List.setIfInBounds_toArray, List.set_cons_zero, List.set_cons_succ]
        refine wpAnyH_ready (rs := [8]) (by kernel_rfl) (by simp) ?_
        refine AllReadyH.cons rfl (fun K hK => ?_) AllReadyH.nil
        refine step_append_lies _ rfl (.tmp 16) (.tmp 23) 99 rfl W0.heap.size 5 i5 _ 1 1 Tryz.underlying99 hi5 hz0 hz1 hz2 rfl (by decide) v0 ((wordsL d k).length + (⟨#[32, 120]⟩ : ByteArray).size) _ (by simp [Act.eval, Act.put]) HS2.out.1 ⟨_, 0, none⟩ 2 2 [.int .u8 ((hexC (q / 16)).toNat : Int), .int .u8 ((hexC (q % 16)).toNat : Int)] (by simp [Act.eval, Act.put]) rfl (World.news_of_block (cs := #[.int .u8 ((hexC (q / 16)).toNat : Int), .int .u8 ((hexC (q % 16)).toNat : Int)]) (t := 5) (heap_alloc_new _ _)) (by intro u hu; simp at hu; rcases hu with rfl | rfl <;> rfl) (by decide) (by first | (rw [hs2]; unfold maxLen; omega) | (unfold maxLen; omega)) (by first | (rw [hs2]; omega) | omega) HS2.out.2.size _ rfl ?_
        intro g2 cap2 W2 hown2 hgr2 _ _
        have HX2 := hide hown2
        have HB2 := hide (HS2.out.2.grown hgr2 HS2.out.2.size (fun j hj => (HS2.out.1.lt j hj).1))
        clear hown2 hgr2
        refine hK.out _ _ trivial (fun _ => ?_)
        clear hK K
        try simp only [Act.put, List.setIfInBounds_toArray, List.set_cons_zero, List.set_cons_succ]
        refine takeH (i := 9) (d := 3) (v := .slice (some ⟨g2, 0, none⟩) ((wordsL d k).length + (⟨#[32, 120]⟩ : ByteArray).size + 2) cap2) rfl rfl (by kernel_rfl) (by kernel_rfl) (by kernel_rfl) (fun _ _ _ h => h) rfl trivial ?_ ?_
        · intro W' _; go_simp
        try simp only [Act.put, List.setIfInBounds_toArray, List.set_cons_zero, List.set_cons_succ]
        refine wpAnyH_done (by kernel_rfl) ?_ _
        go_wp2
        go_roundw
        case rel =>
          refine ⟨k + 1, by omega, by go_num, ?_, HB2.out⟩
          have hx := HX2.out
          have e1 : bytV (wordsL d (k + 1)) = bytV (wordsL d k) ++ Lib.strCells ⟨#[32, 120]⟩ ++ [.int .u8 ((hexC (q / 16)).toNat : Int), .int .u8 ((hexC (q % 16)).toNat : Int)] := by
            rw [Hws.out, if_pos h4, Hq.out]
            simp [bytV, Lib.strCells]
          have e2 : (wordsL d (k + 1)).length = (wordsL d k).length + (⟨#[32, 120]⟩ : ByteArray).size + 2 := by
            rw [Hws.out, if_pos h4]
            simp; rfl
          rw [e1, e2]
          exact hx
        case measure => simp [intOf]; omega
      · have hk4 : ((k : Int) % 4 == 0) = false := by simp; omega
        go_wp2
        refine wp_region_held (S := fun _ => True) (by kernel_rfl) ?_
        change wpAnyH _ _ _ _ _ _ _ _ (World.drew _)
        have HS := hide (show (World.drew wr).ownsRow W0.heap.size 5 1 u3 ((wordsL d k).length) (bytV (wordsL d k)) ∧ Below W0.heap.size W0 (World.drew wr) from ⟨own_below HO.out (Below.refl _ _).drew, HB.out.trans ((Below.refl _ _).drew)⟩)
        refine takeH (i := 0) (d := 16) (v := u3) rfl rfl (by kernel_rfl) (by kernel_rfl) (by kernel_rfl) (fun _ _ _ h => h) rfl trivial ?_ ?_
        · intro W' _; go_simp
        try simp only [Act.put, List.setIfInBounds_toArray, List.set_cons_zero, List.set_cons_succ]
        refine takeH (i := 1) (d := 17) (v := .int .u8 q) rfl rfl (by kernel_rfl) (by kernel_rfl) (by kernel_rfl) (fun _ _ _ h => h) rfl trivial ?_ ?_
        · intro W' _; go_simp
        try simp only [Act.put, List.setIfInBounds_toArray, List.set_cons_zero, List.set_cons_succ]
        refine takeH (i := 2) (d := 18) (v := .int .u8 (q / 16)) rfl rfl (by kernel_rfl) (by kernel_rfl) (by kernel_rfl) (fun _ _ _ h => h) rfl trivial ?_ ?_
        · intro W' _; rw [← shr4 q hqb]; go_simp
        try simp only [Act.put, List.setIfInBounds_toArray, List.set_cons_zero, List.set_cons_succ]
        refine takeH (i := 3) (d := 19) (v := .int .u8 ((hexC (q / 16)).toNat : Int)) rfl rfl (by kernel_rfl) (by kernel_rfl) (by kernel_rfl) (fun _ _ _ h => h) rfl trivial ?_ ?_
        · intro W' _; exact hexIdx _ _ (.tmp 18) rfl (q / 16) (by omega) rfl W'
        try simp only [Act.put, List.setIfInBounds_toArray, List.set_cons_zero, List.set_cons_succ]
        refine takeH (i := 4) (d := 20) (v := .int .u8 q) rfl rfl (by kernel_rfl) (by kernel_rfl) (by kernel_rfl) (fun _ _ _ h => h) rfl trivial ?_ ?_
        · intro W' _; go_simp
        try simp only [Act.put, List.setIfInBounds_toArray, List.set_cons_zero, List.set_cons_succ]
        refine takeH (i := 5) (d := 21) (v := .int .u8 (q % 16)) rfl rfl (by kernel_rfl) (by kernel_rfl) (by kernel_rfl) (fun _ _ _ h => h) rfl trivial ?_ ?_
        · intro W' _; rw [← and15 q hqb]; go_simp
        try simp only [Act.put, List.setIfInBounds_toArray, List.set_cons_zero, List.set_cons_succ]
        refine takeH (i := 6) (d := 22) (v := .int .u8 ((hexC (q % 16)).toNat : Int)) rfl rfl (by kernel_rfl) (by kernel_rfl) (by kernel_rfl) (fun _ _ _ h => h) rfl trivial ?_ ?_
        · intro W' _; exact hexIdx _ _ (.tmp 21) rfl (q % 16) (by omega) rfl W'
        try simp only [Act.put, List.setIfInBounds_toArray, List.set_cons_zero, List.set_cons_succ]
        refine wpAnyH_ready (rs := [7]) (by kernel_rfl) (by simp) ?_
        refine AllReadyH.cons rfl (fun K hK => ?_) AllReadyH.nil
        go_simp
        have hdz : W0.heap.size ≤ (World.drew wr).heap.size := HS.out.2.size
        refine hK.out _ _ trivial (fun _ => ?_)
        have HS2 := hide (And.intro (HS.out.1.alloc (.cells #[.int .u8 ((hexC (q / 16)).toNat : Int), .int .u8 ((hexC (q % 16)).toNat : Int)] 5)) (HS.out.2.alloc hdz (.cells #[.int .u8 ((hexC (q / 16)).toNat : Int), .int .u8 ((hexC (q % 16)).toNat : Int)] 5)))
        clear hK K
        try simp only [Act.put, List.setIfInBounds_toArray, List.set_cons_zero, List.set_cons_succ]
        refine wpAnyH_ready (rs := [8]) (by kernel_rfl) (by simp) ?_
        refine AllReadyH.cons rfl (fun K hK => ?_) AllReadyH.nil
        refine step_append_lies _ rfl (.tmp 16) (.tmp 23) 99 rfl W0.heap.size 5 i5 _ 1 1 Tryz.underlying99 hi5 hz0 hz1 hz2 rfl (by decide) u3 ((wordsL d k).length) _ (by simp [Act.eval, Act.put]) HS2.out.1 ⟨_, 0, none⟩ 2 2 [.int .u8 ((hexC (q / 16)).toNat : Int), .int .u8 ((hexC (q % 16)).toNat : Int)] (by simp [Act.eval, Act.put]) rfl (World.news_of_block (cs := #[.int .u8 ((hexC (q / 16)).toNat : Int), .int .u8 ((hexC (q % 16)).toNat : Int)]) (t := 5) (heap_alloc_new _ _)) (by intro u hu; simp at hu; rcases hu with rfl | rfl <;> rfl) (by decide) (by first | (rw [hs2]; unfold maxLen; omega) | (unfold maxLen; omega)) (by first | (rw [hs2]; omega) | omega) HS2.out.2.size _ rfl ?_
        intro g2 cap2 W2 hown2 hgr2 _ _
        have HX2 := hide hown2
        have HB2 := hide (HS2.out.2.grown hgr2 HS2.out.2.size (fun j hj => (HS2.out.1.lt j hj).1))
        clear hown2 hgr2
        refine hK.out _ _ trivial (fun _ => ?_)
        clear hK K
        try simp only [Act.put, List.setIfInBounds_toArray, List.set_cons_zero, List.set_cons_succ]
        refine takeH (i := 9) (d := 3) (v := .slice (some ⟨g2, 0, none⟩) ((wordsL d k).length + 2) cap2) rfl rfl (by kernel_rfl) (by kernel_rfl) (by kernel_rfl) (fun _ _ _ h => h) rfl trivial ?_ ?_
        · intro W' _; go_simp
        try simp only [Act.put, List.setIfInBounds_toArray, List.set_cons_zero, List.set_cons_succ]
        refine wpAnyH_done (by kernel_rfl) ?_ _
        go_wp2
        go_roundw
        case rel =>
          refine ⟨k + 1, by omega, by go_num, ?_, HB2.out⟩
          have hx := HX2.out
          have e1 : bytV (wordsL d (k + 1)) = bytV (wordsL d k) ++ [.int .u8 ((hexC (q / 16)).toNat : Int), .int .u8 ((hexC (q % 16)).toNat : Int)] := by
            rw [Hws.out, if_neg h4, Hq.out]
            simp [bytV, Lib.strCells]
          have e2 : (wordsL d (k + 1)).length = (wordsL d k).length + 2 := by
            rw [Hws.out, if_neg h4]
            simp
          rw [e1, e2]
          exact hx
        case measure => simp [intOf]; omega
    · obtain rfl : k = 16 := by omega
      have hpos : 0 < (wordsL d 16).length := by
        show 0 < (wordsL d (15 + 1)).length
        rw [words_step]
        simp
      have hW : wordsS d = ⟨(wordsL d 16).toArray⟩ := rfl
      have HW := hide hW
      obtain ⟨l, hl⟩ : ∃ l, wordsL d 16 = l := ⟨_, rfl⟩
      rw [hl] at HO hpos HW
      rcases HO.out.2 with ⟨e, h0⟩ | ⟨g, cap, cur, rfl, hb, hgg, hn, hm, hs, ht⟩
      · omega
      · have hO := HO.out
        have hcv : (convert 99 9 (.slice (some ⟨g, 0, none⟩) l.length cap)).run Tryz.prog wr = .ok (.string ⟨l.toArray⟩) wr :=
          run_convert_bytes_back wr 99 9 5 ⟨g, 0, none⟩ cap l Tryz.underlying99 Tryz.underlying5 Tryz.underlying9 (fun j hj => by
            have := hO.cellAt j (by omega)
            have e : ((⟨g, 0, none⟩ : Addr).add j) = ⟨g, j, none⟩ := by unfold Addr.add; split <;> simp_all
            rw [e, this]
            simp [bytV, List.getElem?_eq_getElem hj])
        clear hO hgg hn hm hs ht hb hl hW
        go_wp2
        refine bodyPost_ret (v := .string ⟨l.toArray⟩) (by simp [results, Tryz.results33, go_sem]) rfl ?_
        exact ⟨by rw [HW.out], HB0.out.trans (HB.out.mono HB0.out.size)⟩
end Go.Proofs.YtbojlnbdkaanmaaGreatDoor
