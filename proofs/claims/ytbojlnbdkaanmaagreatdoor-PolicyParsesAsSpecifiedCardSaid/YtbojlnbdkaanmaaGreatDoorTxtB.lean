/-
  The program's Text.
-/
import Derived.Test.YtbojlnbdkaanmaaGreatDoorTxtA
set_option linter.unusedVariables false
namespace Go.Proofs.YtbojlnbdkaanmaaGreatDoor
open Go.RowKit
set_option linter.unusedSimpArgs false

theorem itoa_S (n : Int) (h0 : 0 ≤ n) (h1 : n < 65536) (w : World) (hE : Env w) : Calls Tryz.prog 32 #[.int .i64 n] w fun e w' => e = .returned (.string (itoaS n)) ∧ Below w.heap.size w w' := itoa_any n h0 (by omega) w hE
theorem bool_S (b : Bool) (w : World) : Calls Tryz.prog 34 #[.bool b] w fun e w' => e = .returned (.string (boolS b)) ∧ w = w' := by
  refine (Tryz.strconv_FormatBool b w).mono ?_
  rintro e w' ⟨rfl, rfl⟩
  exact ⟨rfl, rfl⟩
/-- The contract of words at a digest. -/
def WordsOk (d : Nat → Int) : Prop := ∀ W : World, Calls Tryz.prog 33 #[.agg (dCells d).toArray] W fun e w' => e = .returned (.string (wordsS d)) ∧ Below W.heap.size W w'
theorem txZ_at (nds : List Nd) (k : Nat) (hk : k < nds.length) : (txZ nds k)[k]? = some ⟨#[]⟩ := by
  have hl : (textAll (nds.take k)).length = k := by rw [textAll_length, List.length_take]; omega
  rw [txZ, List.getElem?_append_right (by omega), hl, Nat.sub_self, List.getElem?_replicate, if_pos (by omega)]
/-- What holds of a world in a round: the node's own copy, the texts' row, the variables. -/
structure Rnd (w : World) (P0 g : Nat) (nds : List Nd) (k : Nat) (nd : Nd) (o : Value) (W : World) : Prop where
  blk : W.heap[g]? = some (.cells (nd.cells o).toArray 67 (0, 0))
  own : W.ownsRow P0 9 1 (.slice (some ⟨P0, 0, none⟩) nds.length nds.length) nds.length ((txZ nds k).map Value.string)
  env : Env W
  bel : Below P0 w W
  lt : g < W.heap.size
theorem Rnd.next {w : World} {P0 g : Nat} {nds : List Nd} {k : Nat} {nd : Nd} {o : Value} {W W' : World} (h : Rnd w P0 g nds k nd o W) (hb : Below W.heap.size W W') (hP : P0 ≤ W.heap.size) : Rnd w P0 g nds k nd o W' :=
  ⟨(hb.block _ h.lt).trans h.blk, own_below h.own hb, h.env.below hb, h.bel.trans (hb.mono hP), Nat.lt_of_lt_of_le h.lt hb.size⟩
theorem Rnd.facts {w : World} {P0 g : Nat} {nds : List Nd} {k : Nat} {nd : Nd} {o : Value} {W : World} (h : Rnd w P0 g nds k nd o W) (hk : k < nds.length) :
    W.cell? ⟨g, 0, none⟩ = some (.int .i64 nd.k) ∧ W.cell? ⟨g, 2, none⟩ = some (.int .i64 nd.m) ∧ W.cell? ⟨g, 3, none⟩ = some (.int .i64 nd.sd) ∧ W.cell? ⟨g, 20, none⟩ = some o ∧
    W.cell? ⟨P0, k, none⟩ = some (.string ⟨#[]⟩) ∧ W.frozen? ⟨P0, k, none⟩ = false := by
  refine ⟨?_, ?_, ?_, ?_, ?_, h.own.frozenAt k⟩
  · rw [cell_of_row _ _ _ _ _ _ h.blk]; rfl
  · rw [cell_of_row _ _ _ _ _ _ h.blk]; rfl
  · rw [cell_of_row _ _ _ _ _ _ h.blk]; rfl
  · rw [cell_of_row _ _ _ _ _ _ h.blk]; rfl
  · rw [h.own.cellAt k (by omega), List.getElem?_map, txZ_at nds k hk]; rfl
theorem Rnd.text {w : World} {P0 g : Nat} {nds : List Nd} {k : Nat} {nd : Nd} {o : Value} {W : World} (h : Rnd w P0 g nds k nd o W) (hk : k < nds.length) {a : Nat} (ha : a < k) :
    W.cell? ⟨P0, a, none⟩ = some (.string (atS (textAll (nds.take k)) (some (a : Int)))) := by
  rw [h.own.cellAt a (by omega), List.getElem?_map, txZ_get nds k (by omega) a ha]
  rfl
theorem Rnd.dig {w : World} {P0 g : Nat} {nds : List Nd} {k : Nat} {nd : Nd} {o : Value} {W : World} (h : Rnd w P0 g nds k nd o W) :
    ∀ j v, (dCells nd.d).toArray.toList[j]? = some v → W.cell? ((⟨g, 4, none⟩ : Addr).add j) = some v := by
  intro j v hj
  rw [show (⟨g, 4, none⟩ : Addr).add j = ⟨g, 4 + j, none⟩ by unfold Addr.add; split <;> simp_all]
  rw [cell_of_row _ _ _ _ _ _ h.blk]
  have hj' : (dCells nd.d)[j]? = some v := by simpa using hj
  have hlt : j < 16 := (List.getElem?_eq_some_iff.1 hj').1
  rw [← hj']
  have e : (nd.cells o).toArray[4 + j]? = (nd.cells o)[4 + j]? := by simp
  rw [e]
  have : nd.cells o = [.int .i64 nd.k, .int .i64 nd.n, .int .i64 nd.m, .int .i64 nd.sd] ++ dCells nd.d ++ [o] := rfl
  rw [this, List.append_assoc, List.getElem?_append_right (by simp), List.getElem?_append_left (by simp [dCells]; omega)]
  simp
theorem Rnd.done {w : World} {P0 g : Nat} {nds : List Nd} {k : Nat} {nd : Nd} {o : Value} {W : World} (h : Rnd w P0 g nds k nd o W) (hk : k < nds.length) (hnd : nds[k] = nd) {s : ByteArray} (hs : textStep (textAll (nds.take k)) nd = s) :
    (W.setCell ⟨P0, k, none⟩ (.string s)).ownsRow P0 9 1 (.slice (some ⟨P0, 0, none⟩) nds.length nds.length) nds.length ((txZ nds (k + 1)).map Value.string) ∧ Below P0 w (W.setCell ⟨P0, k, none⟩ (.string s)) := by
  have h1 := (h.own.stored k (.string s)).1
  have h2 := txZ_set nds k hk
  rw [hnd, hs] at h2
  rw [← List.map_set (f := Value.string), h2] at h1
  exact ⟨h1, h.bel.setCell (Nat.le_refl _) _⟩
theorem textAll_sizes {nds : List Nd} (h : ∀ s ∈ textAll nds, s.size ≤ 1000000) (k : Nat) (a : Int) : (atS (textAll (nds.take k)) (some a)).size ≤ 1000000 := by
  have hp : ∀ (l r : List Nd) (rs : List ByteArray), ∃ q, (l ++ r).foldl (fun ts nd => ts ++ [textStep ts nd]) rs = l.foldl (fun ts nd => ts ++ [textStep ts nd]) rs ++ q := by
    intro l r
    induction r generalizing l with
    | nil => intro rs; exact ⟨[], by simp⟩
    | cons x r ih =>
      intro rs
      obtain ⟨q, hq⟩ := ih (l ++ [x]) rs
      refine ⟨[textStep (l.foldl (fun ts nd => ts ++ [textStep ts nd]) rs) x] ++ q, ?_⟩
      rw [show l ++ x :: r = (l ++ [x]) ++ r by simp, hq]
      simp
  obtain ⟨q, hq⟩ := hp (nds.take k) (nds.drop k) []
  rw [List.take_append_drop] at hq
  unfold atS
  simp only [List.getD_eq_getElem?_getD]
  cases hx : (textAll (nds.take k))[a.toNat]? with
  | none => decide
  | some s =>
    refine h s ?_
    unfold textAll
    rw [hq]
    exact List.mem_append_left _ (List.mem_of_getElem? hx)

set_option maxRecDepth 100000 in
set_option maxHeartbeats 8000000 in
theorem text_any (w : World) (A : Option Addr) (c : Nat) (nds : List Nd) (hN : Nodes w w.heap.size A nds) (hok : ∀ i nd, nds[i]? = some nd → NdOk i nd) (hnum : ∀ nd ∈ nds, nd.n < 65536 ∧ nd.m < 65536) (hln : nds.length ≤ 1000000)
    (hts : ∀ s ∈ textAll nds, s.size ≤ 1000000) (hwd : ∀ nd ∈ nds, nd.k = 6 → WordsOk nd.d) (hE : Env w) :
    Calls Tryz.prog 16 #[.agg #[.slice A nds.length c]] w fun e w' => e = .returned (.string (textF nds)) ∧ Below w.heap.size w w' := by
  have HN := hide hN
  have Hok := hide hok
  have Hnum := hide hnum
  have Hts := hide hts
  have Hwd := hide hwd
  have HE := hide hE
  clear hN hok hnum hts hwd hE
  obtain ⟨i0, hi0, hz0, hz1, hz2⟩ := info_parts info9
  go_enter Tryz.func16, Tryz.ntmps16
  go_wp2_with (first
    | (with_reducible refine wpList_make_full _ rfl (.tmp 10) (.tmp 10) 52 rfl (w.heap.size + 1) 9 i0 (.string ⟨#[]⟩) 1 Tryz.underlying52 hi0 hz0 hz1 .i64 .i64 _ _ nds.length rfl rfl rfl rfl (by rw [hz2]; omega) (by unfold maxLen; omega) (by simp) ?_))
  intro w1 hown hgr
  have hz : (madeCells #[.string ⟨#[]⟩] nds.length).toList = (txZ nds 0).map Value.string := by
    rw [made_empty]
    simp [txZ, textAll]
  have hB : Below (w.heap.size + 1) (w.alloc (.cells #[.slice A nds.length c] 25)) w1 := (Below.refl _ _).grown hgr (by simp) (fun k h => by cases h)
  have hBw : Below w.heap.size w w1 := ((Below.refl _ w).alloc (Nat.le_refl _) _).trans (hB.mono (by omega))
  have c25 : w1.cell? ⟨w.heap.size, 0, none⟩ = some (.slice A nds.length c) := by
    rw [cell_of_row w1 w.heap.size 0 #[.slice A nds.length c] 25 (0, 0) ((hB.block _ (by omega)).trans (heap_alloc_new w _))]
    rfl
  rw [hz] at hown
  obtain ⟨P0, hP0⟩ : ∃ P0, P0 = w.heap.size + 1 := ⟨_, rfl⟩
  have hps : (w.alloc (.cells #[.slice A nds.length c] 25)).heap.size = P0 := by rw [hP0]; simp
  rw [← hP0] at hown hB ⊢
  have HB0 := hide (hBw)
  have HP0 := hide hP0
  have Hown := hide hown
  have HszW := hide (show P0 ≤ w1.heap.size from by have := hgr.size; rw [hps] at this; exact this)
  clear hown hgr hz hB hBw hps hP0
  go_wp2
  go_loopg [15] (nds.length + 1) (fun g kv wr => ∃ k : Nat, kv = .int .i64 k ∧ k ≤ nds.length ∧ nds.length < g + k ∧ Hid (wr.ownsRow P0 9 1 (.slice (some ⟨P0, 0, none⟩) nds.length nds.length) nds.length ((txZ nds k).map Value.string)) ∧ Hid (Below P0 w1 wr))
  case atStart => exact ⟨0, rfl, Nat.zero_le _, by omega, Hown, Below.refl _ _⟩
  case round =>
    obtain ⟨k, rfl, hk, hg, HO, HBr⟩ := hrel
    cases gk with
    | zero => omega
    | succ g =>
      by_cases hlt : k < nds.length
      · obtain ⟨b, off, Ao, co, rfl, hbl, hat, hof⟩ := HN.out.at_ hlt
        obtain ⟨nd, hnd⟩ : ∃ nd, nds[k] = nd := ⟨_, rfl⟩
        have hokk := Hok.out k nds[k] (List.getElem?_eq_getElem hlt)
        have hnm := Hnum.out nds[k] (List.getElem_mem hlt)
        have hwk := Hwd.out nds[k] (List.getElem_mem hlt)
        rw [hnd] at hat hof hokk hnm hwk
        have hbr : Below w.heap.size w wr := HB0.out.trans (HBr.out.mono (by have := HP0.out; omega))
        have hat2 := (hat.below hbr hbl).read
        have hlI : (k : Int) < (nds.length : Int) := by omega
        obtain ⟨o, ho⟩ : ∃ o, (Value.slice Ao nd.of.length co) = o := ⟨_, rfl⟩
        rw [ho] at hat2
        have hoc : o.oneCell' = true := by rw [← ho]; rfl
        have Hat := hide hat2
        have Ho := hide ho
        have hn0 := hokk.n
        have hm0 := hokk.m
        obtain ⟨hn1, hm1⟩ := hnm
        have zn := itoaS_size hn0 hn1
        have zm := itoaS_size hm0 hm1
        have zb := boolS_size (nd.sd == 1)
        have zw := wordsS_size nd.d
        obtain ⟨W, hW⟩ : ∃ W, W = wr.alloc (.cells (nd.cells o).toArray 67) := ⟨_, rfl⟩
        obtain ⟨hWb, hWk, hWs⟩ := fresh_facts hW
        have hPw : P0 ≤ wr.heap.size := Nat.le_trans HszW.out HBr.out.size
        have hbWw := hbr.trans (hWb.mono hbr.size)
        have HR : Rnd w1 P0 wr.heap.size nds k nd o W := ⟨hWk, own_below HO.out hWb, HE.out.below hbWw, HBr.out.trans (hWb.mono hPw), by omega⟩
        have HRh := hide HR
        have HPW := hide (show P0 ≤ W.heap.size by omega)
        have cN : W.cell? ⟨wr.heap.size, 1, none⟩ = some (.int .i64 nd.n) := by rw [cell_of_row _ _ _ _ _ _ hWk]; rfl
        have HWe := hide hW
        have Hnd := hide hnd
        have Hof := hide hof
        have Hokk := hide hokk
        have Hwk := hide hwk
        have Hbr := hide hbr
        have HbWw := hide hbWw
        clear hat hat2 hnd hof hokk hwk hbr ho hW hWb hWk hWs HR hbWw
        have hkind := Hokk.out.k
        have hcases : nd.k = 1 ∨ nd.k = 2 ∨ nd.k = 3 ∨ nd.k = 4 ∨ nd.k = 5 ∨ nd.k = 6 ∨ nd.k = 7 ∨ nd.k = 8 ∨ nd.k = 9 ∨ nd.k = 10 := by omega
        clear hkind
        rcases hcases with h | h | h | h | h | h | h | h | h | h
        · have HK := hide h
          clear h
          go_wp2_with (first
          | (with_reducible refine wpList_load_at rfl 67 (.tmp 18) rfl ⟨b, off + k * 21, none⟩ rfl _ _ Hat.out Tryz.underlying67 rfl (by kernel_rfl) ?_)
          | (with_reducible refine wpList_store_fresh rfl 67 (.tmp 5) (.tmp 19) rfl (.agg (nd.cells o).toArray) rfl rfl rfl (by kernel_rfl) (nd_one hoc) HWe.out ?_)
          | (go_at_call 32; (with_reducible refine Calls.mono (itoa_S _ hn0 hn1 _ HRh.out.env) ?_); rintro e w2 ⟨rfl, hb2⟩; have HR2 := hide (HRh.out.next hb2 HPW.out); have HB2 := hide hb2; clear hb2 cN; obtain ⟨d0, d2, d3, d20, dt, df⟩ := HR2.out.facts hlt; rw [HK.out] at d0))
          have HT := hide (HR2.out.done hlt Hnd.out (s := (⟨#[97, 110, 121]⟩ : ByteArray)) (by simp [textStep, HK.out]))
          go_roundg g
          case measure => omega
          case rel => exact ⟨k + 1, by go_num, by omega, by omega, HT.out.1, HT.out.2⟩
        · have HK := hide h
          clear h
          go_wp2_with (first
          | (with_reducible refine wpList_load_at rfl 67 (.tmp 18) rfl ⟨b, off + k * 21, none⟩ rfl _ _ Hat.out Tryz.underlying67 rfl (by kernel_rfl) ?_)
          | (with_reducible refine wpList_store_fresh rfl 67 (.tmp 5) (.tmp 19) rfl (.agg (nd.cells o).toArray) rfl rfl rfl (by kernel_rfl) (nd_one hoc) HWe.out ?_)
          | (go_at_call 32; (with_reducible refine Calls.mono (itoa_S _ hn0 hn1 _ HRh.out.env) ?_); rintro e w2 ⟨rfl, hb2⟩; have HR2 := hide (HRh.out.next hb2 HPW.out); have HB2 := hide hb2; clear hb2 cN; obtain ⟨d0, d2, d3, d20, dt, df⟩ := HR2.out.facts hlt; rw [HK.out] at d0))
          have HT := hide (HR2.out.done hlt Hnd.out (s := (⟨#[118, 101, 114, 115, 105, 111, 110, 32, 61, 61, 32]⟩ : ByteArray) ++ itoaS nd.n) (by simp [textStep, HK.out]))
          go_roundg g
          case measure => omega
          case rel => exact ⟨k + 1, by go_num, by omega, by omega, HT.out.1, HT.out.2⟩
        · have HK := hide h
          clear h
          go_wp2_with (first
          | (with_reducible refine wpList_load_at rfl 67 (.tmp 18) rfl ⟨b, off + k * 21, none⟩ rfl _ _ Hat.out Tryz.underlying67 rfl (by kernel_rfl) ?_)
          | (with_reducible refine wpList_store_fresh rfl 67 (.tmp 5) (.tmp 19) rfl (.agg (nd.cells o).toArray) rfl rfl rfl (by kernel_rfl) (nd_one hoc) HWe.out ?_)
          | (go_at_call 32; (with_reducible refine Calls.mono (itoa_S _ hn0 hn1 _ HRh.out.env) ?_); rintro e w2 ⟨rfl, hb2⟩; have HR2 := hide (HRh.out.next hb2 HPW.out); have HB2 := hide hb2; clear hb2 cN; obtain ⟨d0, d2, d3, d20, dt, df⟩ := HR2.out.facts hlt; rw [HK.out] at d0))
          have HT := hide (HR2.out.done hlt Hnd.out (s := (⟨#[118, 101, 114, 115, 105, 111, 110, 32, 62, 61, 32]⟩ : ByteArray) ++ itoaS nd.n) (by simp [textStep, HK.out]))
          go_roundg g
          case measure => omega
          case rel => exact ⟨k + 1, by go_num, by omega, by omega, HT.out.1, HT.out.2⟩
        · have HK := hide h
          clear h
          go_wp2_with (first
          | (with_reducible refine wpList_load_at rfl 67 (.tmp 18) rfl ⟨b, off + k * 21, none⟩ rfl _ _ Hat.out Tryz.underlying67 rfl (by kernel_rfl) ?_)
          | (with_reducible refine wpList_store_fresh rfl 67 (.tmp 5) (.tmp 19) rfl (.agg (nd.cells o).toArray) rfl rfl rfl (by kernel_rfl) (nd_one hoc) HWe.out ?_)
          | (go_at_call 32; (with_reducible refine Calls.mono (itoa_S _ hn0 hn1 _ HRh.out.env) ?_); rintro e w2 ⟨rfl, hb2⟩; have HR2 := hide (HRh.out.next hb2 HPW.out); have HB2 := hide hb2; clear hb2 cN; obtain ⟨d0, d2, d3, d20, dt, df⟩ := HR2.out.facts hlt; rw [HK.out] at d0))
          have HT := hide (HR2.out.done hlt Hnd.out (s := (⟨#[101, 112, 111, 99, 104, 32, 61, 61, 32]⟩ : ByteArray) ++ itoaS nd.n) (by simp [textStep, HK.out]))
          go_roundg g
          case measure => omega
          case rel => exact ⟨k + 1, by go_num, by omega, by omega, HT.out.1, HT.out.2⟩
        · have HK := hide h
          clear h
          go_wp2_with (first
          | (with_reducible refine wpList_load_at rfl 67 (.tmp 18) rfl ⟨b, off + k * 21, none⟩ rfl _ _ Hat.out Tryz.underlying67 rfl (by kernel_rfl) ?_)
          | (with_reducible refine wpList_store_fresh rfl 67 (.tmp 5) (.tmp 19) rfl (.agg (nd.cells o).toArray) rfl rfl rfl (by kernel_rfl) (nd_one hoc) HWe.out ?_)
          | (go_at_call 32; (with_reducible refine Calls.mono (itoa_S _ hn0 hn1 _ HRh.out.env) ?_); rintro e w2 ⟨rfl, hb2⟩; have HR2 := hide (HRh.out.next hb2 HPW.out); have HB2 := hide hb2; clear hb2 cN; obtain ⟨d0, d2, d3, d20, dt, df⟩ := HR2.out.facts hlt; rw [HK.out] at d0))
          have HT := hide (HR2.out.done hlt Hnd.out (s := (⟨#[101, 112, 111, 99, 104, 32, 62, 61, 32]⟩ : ByteArray) ++ itoaS nd.n) (by simp [textStep, HK.out]))
          go_roundg g
          case measure => omega
          case rel => exact ⟨k + 1, by go_num, by omega, by omega, HT.out.1, HT.out.2⟩
        · have HK := hide h
          clear h
          have hwd := Hwk.out HK.out
          unfold WordsOk at hwd
          have HWD := hide hwd
          clear hwd
          go_wp2_with (first
          | (with_reducible refine wpList_load_at rfl 67 (.tmp 18) rfl ⟨b, off + k * 21, none⟩ rfl _ _ Hat.out Tryz.underlying67 rfl (by kernel_rfl) ?_)
          | (with_reducible refine wpList_store_fresh rfl 67 (.tmp 5) (.tmp 19) rfl (.agg (nd.cells o).toArray) rfl rfl rfl (by kernel_rfl) (nd_one hoc) HWe.out ?_)
          | (go_at_call 32; (with_reducible refine Calls.mono (itoa_S _ hn0 hn1 _ HRh.out.env) ?_); rintro e w2 ⟨rfl, hb2⟩; have HR2 := hide (HRh.out.next hb2 HPW.out); have HB2 := hide hb2; have HP2 := hide (Nat.le_trans HPW.out hb2.size); clear hb2 cN; obtain ⟨d0, d2, d3, d20, dt, df⟩ := HR2.out.facts hlt; rw [HK.out] at d0; have DD := hide HR2.out.dig)
          | (with_reducible refine wpList_load_at rfl 65 (.tmp 48) rfl ⟨wr.heap.size, 4, none⟩ rfl _ _ DD.out Tryz.underlying65 rfl (by kernel_rfl) ?_)
          | (go_at_call 33; (with_reducible refine Calls.mono (HWD.out _) ?_); rintro e w3 ⟨rfl, hb3⟩; have HR3 := hide (HR2.out.next hb3 HP2.out); clear hb3 d0 d2 d3 d20 dt df; obtain ⟨d0, d2, d3, d20, dt, df⟩ := HR3.out.facts hlt))
          have HT := hide (HR3.out.done hlt Hnd.out (s := (⟨#[115, 116, 97, 103, 101, 32]⟩ : ByteArray) ++ itoaS nd.n ++ (⟨#[32, 105, 115]⟩ : ByteArray) ++ wordsS nd.d) (by simp [textStep, HK.out]))
          go_roundg g
          case measure => omega
          case rel => exact ⟨k + 1, by go_num, by omega, by omega, HT.out.1, HT.out.2⟩
        · have HK := hide h
          clear h
          go_wp2_with (first
          | (with_reducible refine wpList_load_at rfl 67 (.tmp 18) rfl ⟨b, off + k * 21, none⟩ rfl _ _ Hat.out Tryz.underlying67 rfl (by kernel_rfl) ?_)
          | (with_reducible refine wpList_store_fresh rfl 67 (.tmp 5) (.tmp 19) rfl (.agg (nd.cells o).toArray) rfl rfl rfl (by kernel_rfl) (nd_one hoc) HWe.out ?_)
          | (go_at_call 32; (with_reducible refine Calls.mono (itoa_S _ hn0 hn1 _ HRh.out.env) ?_); rintro e w2 ⟨rfl, hb2⟩; have HR2 := hide (HRh.out.next hb2 HPW.out); have HB2 := hide hb2; have HP2 := hide (Nat.le_trans HPW.out hb2.size); clear hb2 cN; obtain ⟨d0, d2, d3, d20, dt, df⟩ := HR2.out.facts hlt; rw [HK.out] at d0))
          have HDr := hide (Below.refl w2.heap.size w2).drew
          refine wp_region_held (S := fun W' => W'.heap[wr.heap.size]? = some (.cells (nd.cells o).toArray 67 (0, 0))) (by kernel_rfl) ?_
          change wpAnyH _ _ _ _ _ _ _ _ (World.drew _)
          have HS := hide (show w2.drew.heap[wr.heap.size]? = some (.cells (nd.cells o).toArray 67 (0, 0)) from HR2.out.blk)
          clear d0 d2 d3 d20 dt df
          refine takeH (i := 0) (d := 54) (v := .string (itoaS nd.n)) rfl rfl (by kernel_rfl) (by kernel_rfl) (by kernel_rfl) (fun _ _ _ h => h) rfl HS.out ?_ ?_
          · intro W' _; go_simp; try omega
          try simp only [Act.put, List.setIfInBounds_toArray, List.set_cons_zero, List.set_cons_succ]
          refine takeH (i := 1) (d := 55) (v := .string ((⟨#[112, 111, 105, 110, 116, 32]⟩ : ByteArray) ++ itoaS nd.n)) rfl rfl (by kernel_rfl) (by kernel_rfl) (by kernel_rfl) (fun _ _ _ h => h) rfl HS.out ?_ ?_
          · intro W' _; go_simp; try omega
          try simp only [Act.put, List.setIfInBounds_toArray, List.set_cons_zero, List.set_cons_succ]
          refine takeH (i := 2) (d := 56) (v := .string ((⟨#[112, 111, 105, 110, 116, 32]⟩ : ByteArray) ++ itoaS nd.n ++ (⟨#[32]⟩ : ByteArray))) rfl rfl (by kernel_rfl) (by kernel_rfl) (by kernel_rfl) (fun _ _ _ h => h) rfl HS.out ?_ ?_
          · intro W' _; go_simp; try omega
          try simp only [Act.put, List.setIfInBounds_toArray, List.set_cons_zero, List.set_cons_succ]
          refine takeH (i := 3) (d := 57) (v := .pointer (some ⟨wr.heap.size, 2, none⟩)) rfl rfl (by kernel_rfl) (by kernel_rfl) (by kernel_rfl) (fun _ _ _ h => h) rfl HS.out ?_ ?_
          · intro W' _; go_simp; try omega
          try simp only [Act.put, List.setIfInBounds_toArray, List.set_cons_zero, List.set_cons_succ]
          refine takeH (i := 4) (d := 58) (v := .int .i64 nd.m) rfl rfl (by kernel_rfl) (by kernel_rfl) (by kernel_rfl) (fun _ _ _ h => h) rfl HS.out ?_ ?_
          · intro W' hS; have c1 : W'.cell? ⟨wr.heap.size, 2, none⟩ = some (.int .i64 nd.m) := by rw [cell_of_row _ _ _ _ _ _ hS]; rfl
            clear hS; go_simp
          try simp only [Act.put, List.setIfInBounds_toArray, List.set_cons_zero, List.set_cons_succ]
          refine takeH (i := 8) (d := 62) (v := .pointer (some ⟨wr.heap.size, 3, none⟩)) rfl rfl (by kernel_rfl) (by kernel_rfl) (by kernel_rfl) (fun _ _ _ h => h) rfl HS.out ?_ ?_
          · intro W' _; go_simp; try omega
          try simp only [Act.put, List.setIfInBounds_toArray, List.set_cons_zero, List.set_cons_succ]
          refine takeH (i := 9) (d := 63) (v := .int .i64 nd.sd) rfl rfl (by kernel_rfl) (by kernel_rfl) (by kernel_rfl) (fun _ _ _ h => h) rfl HS.out ?_ ?_
          · intro W' hS; have c1 : W'.cell? ⟨wr.heap.size, 3, none⟩ = some (.int .i64 nd.sd) := by rw [cell_of_row _ _ _ _ _ _ hS]; rfl
            clear hS; go_simp
          try simp only [Act.put, List.setIfInBounds_toArray, List.set_cons_zero, List.set_cons_succ]
          refine takeH (i := 10) (d := 64) (v := .bool (nd.sd == 1)) rfl rfl (by kernel_rfl) (by kernel_rfl) (by kernel_rfl) (fun _ _ _ h => h) rfl HS.out ?_ ?_
          · intro W' _; go_simp; try omega
          try simp only [Act.put, List.setIfInBounds_toArray, List.set_cons_zero, List.set_cons_succ]
          refine wpAnyH_ready (rs := [5]) (by kernel_rfl) (by simp) ?_
          refine AllReadyH.cons rfl (fun K hK => ?_) AllReadyH.nil
          go_simp
          refine Calls.mono (itoa_S _ hm0 hm1 _ (HR2.out.env.below HDr.out)) ?_
          rintro e w3 ⟨rfl, hb3⟩
          have hb3' : Below w2.heap.size w2 w3 := HDr.out.trans hb3
          have HR3 := hide (HR2.out.next hb3' HP2.out)
          clear hb3 hb3'
          refine hK.out _ _ HR3.out.blk (fun hS3 => ?_)
          have HS3 := hide hS3
          clear hK K hS3
          try simp only [Act.put, List.setIfInBounds_toArray, List.set_cons_zero, List.set_cons_succ]
          refine takeH (i := 6) (d := 60) (v := .string ((⟨#[112, 111, 105, 110, 116, 32]⟩ : ByteArray) ++ itoaS nd.n ++ (⟨#[32]⟩ : ByteArray) ++ itoaS nd.m)) rfl rfl (by kernel_rfl) (by kernel_rfl) (by kernel_rfl) (fun _ _ _ h => h) rfl HS3.out ?_ ?_
          · intro W' _; go_simp; try omega
          try simp only [Act.put, List.setIfInBounds_toArray, List.set_cons_zero, List.set_cons_succ]
          refine takeH (i := 7) (d := 61) (v := .string ((⟨#[112, 111, 105, 110, 116, 32]⟩ : ByteArray) ++ itoaS nd.n ++ (⟨#[32]⟩ : ByteArray) ++ itoaS nd.m ++ (⟨#[32, 116, 111, 111, 107, 32]⟩ : ByteArray))) rfl rfl (by kernel_rfl) (by kernel_rfl) (by kernel_rfl) (fun _ _ _ h => h) rfl HS3.out ?_ ?_
          · intro W' _; go_simp; try omega
          try simp only [Act.put, List.setIfInBounds_toArray, List.set_cons_zero, List.set_cons_succ]
          refine wpAnyH_ready (rs := [11]) (by kernel_rfl) (by simp) ?_
          refine AllReadyH.cons rfl (fun K hK => ?_) AllReadyH.nil
          go_simp
          refine Calls.mono (bool_S _ _) ?_
          rintro e w4 ⟨rfl, rfl⟩
          refine hK.out _ _ HS3.out (fun _ => ?_)
          clear hK K
          try simp only [Act.put, List.setIfInBounds_toArray, List.set_cons_zero, List.set_cons_succ]
          refine takeH (i := 12) (d := 66) (v := .string ((⟨#[112, 111, 105, 110, 116, 32]⟩ : ByteArray) ++ itoaS nd.n ++ (⟨#[32]⟩ : ByteArray) ++ itoaS nd.m ++ (⟨#[32, 116, 111, 111, 107, 32]⟩ : ByteArray) ++ boolS (nd.sd == 1))) rfl rfl (by kernel_rfl) (by kernel_rfl) (by kernel_rfl) (fun _ _ _ h => h) rfl HS3.out ?_ ?_
          · intro W' _; go_simp; try omega
          try simp only [Act.put, List.setIfInBounds_toArray, List.set_cons_zero, List.set_cons_succ]
          refine takeH (i := 13) (d := 7) (v := .string ((⟨#[112, 111, 105, 110, 116, 32]⟩ : ByteArray) ++ itoaS nd.n ++ (⟨#[32]⟩ : ByteArray) ++ itoaS nd.m ++ (⟨#[32, 116, 111, 111, 107, 32]⟩ : ByteArray) ++ boolS (nd.sd == 1))) rfl rfl (by kernel_rfl) (by kernel_rfl) (by kernel_rfl) (fun _ _ _ h => h) rfl HS3.out ?_ ?_
          · intro W' _; go_simp; try omega
          try simp only [Act.put, List.setIfInBounds_toArray, List.set_cons_zero, List.set_cons_succ]
          refine wpAnyH_done (by kernel_rfl) ?_ _
          obtain ⟨d0, d2, d3, d20, dt, df⟩ := HR3.out.facts hlt
          go_wp2
          have HT := hide (HR3.out.done hlt Hnd.out (s := (⟨#[112, 111, 105, 110, 116, 32]⟩ : ByteArray) ++ itoaS nd.n ++ (⟨#[32]⟩ : ByteArray) ++ itoaS nd.m ++ (⟨#[32, 116, 111, 111, 107, 32]⟩ : ByteArray) ++ boolS (nd.sd == 1)) (by simp [textStep, HK.out]))
          go_roundg g
          case measure => omega
          case rel => exact ⟨k + 1, by go_num, by omega, by omega, HT.out.1, HT.out.2⟩
        · have HK := hide h
          clear h
          obtain ⟨a, hofa, ha⟩ := Hokk.out.one HK.out
          obtain ⟨b1, o1, rfl, hb1, c1⟩ := Hof.out.at_ (k := 0) (by rw [hofa]; simp)
          have e1 : nd.of[0]'(by rw [hofa]; simp) = (a : Int) := by simp [hofa]
          rw [e1, Nat.add_zero] at c1
          have ho2 : Value.slice (some ⟨b1, o1, none⟩) 1 co = o := by rw [← Ho.out, hofa]; rfl
          have Ho2 := hide ho2
          have C1 := hide c1
          have Hofa := hide hofa
          have za := textAll_sizes Hts.out k (a : Int)
          have haI : (a : Int) < (nds.length : Int) := by omega
          clear hofa c1 e1 ho2
          go_wp2_with (first
          | (with_reducible refine wpList_load_at rfl 67 (.tmp 18) rfl ⟨b, off + k * 21, none⟩ rfl _ _ Hat.out Tryz.underlying67 rfl (by kernel_rfl) ?_)
          | (with_reducible refine wpList_store_fresh rfl 67 (.tmp 5) (.tmp 19) rfl (.agg (nd.cells o).toArray) rfl rfl rfl (by kernel_rfl) (nd_one hoc) HWe.out ?_)
          | (go_at_call 32; (with_reducible refine Calls.mono (itoa_S _ hn0 hn1 _ HRh.out.env) ?_); rintro e w2 ⟨rfl, hb2⟩; have HR2 := hide (HRh.out.next hb2 HPW.out); have HB2 := hide hb2; clear hb2 cN; obtain ⟨d0, d2, d3, d20, dt, df⟩ := HR2.out.facts hlt; rw [HK.out] at d0; rw [← Ho2.out] at d20; have da := HR2.out.text hlt ha; have dc := (HB2.out.cell (p := ⟨b1, o1, none⟩) (Nat.lt_of_lt_of_le hb1 HbWw.out.size)).trans ((HbWw.out.cell (p := ⟨b1, o1, none⟩) hb1).trans C1.out)))
          have HT := hide (HR2.out.done hlt Hnd.out (s := (⟨#[33]⟩ : ByteArray) ++ atS (textAll (nds.take k)) (some (a : Int))) (by simp [textStep, HK.out, Hofa.out]))
          go_roundg g
          case measure => omega
          case rel => exact ⟨k + 1, by go_num, by omega, by omega, HT.out.1, HT.out.2⟩
        · have HK := hide h
          clear h
          obtain ⟨a, a2, hofa, ha, ha2⟩ := Hokk.out.two (Or.inl HK.out)
          obtain ⟨b1, o1, rfl, hb1, c1⟩ := Hof.out.at_ (k := 0) (by rw [hofa]; simp)
          obtain ⟨b1', o1', he, _, c1'⟩ := Hof.out.at_ (k := 1) (by rw [hofa]; simp)
          cases he
          have e1 : nd.of[0]'(by rw [hofa]; simp) = (a : Int) := by simp [hofa]
          have e2 : nd.of[1]'(by rw [hofa]; simp) = (a2 : Int) := by simp [hofa]
          rw [e1, Nat.add_zero] at c1
          rw [e2] at c1'
          have ho2 : Value.slice (some ⟨b1, o1, none⟩) 2 co = o := by rw [← Ho.out, hofa]; rfl
          have Ho2 := hide ho2
          have C1 := hide c1
          have C1' := hide c1'
          have Hofa := hide hofa
          have za := textAll_sizes Hts.out k (a : Int)
          have za2 := textAll_sizes Hts.out k (a2 : Int)
          have haI : (a : Int) < (nds.length : Int) := by omega
          have haI2 : (a2 : Int) < (nds.length : Int) := by omega
          clear hofa c1 c1' e1 e2 ho2
          go_wp2_with (first
          | (with_reducible refine wpList_load_at rfl 67 (.tmp 18) rfl ⟨b, off + k * 21, none⟩ rfl _ _ Hat.out Tryz.underlying67 rfl (by kernel_rfl) ?_)
          | (with_reducible refine wpList_store_fresh rfl 67 (.tmp 5) (.tmp 19) rfl (.agg (nd.cells o).toArray) rfl rfl rfl (by kernel_rfl) (nd_one hoc) HWe.out ?_)
          | (go_at_call 32; (with_reducible refine Calls.mono (itoa_S _ hn0 hn1 _ HRh.out.env) ?_); rintro e w2 ⟨rfl, hb2⟩; have HR2 := hide (HRh.out.next hb2 HPW.out); have HB2 := hide hb2; have HP2 := hide (Nat.le_trans HPW.out hb2.size); clear hb2 cN; obtain ⟨d0, d2, d3, d20, dt, df⟩ := HR2.out.facts hlt; rw [HK.out] at d0; rw [← Ho2.out] at d20; have da := HR2.out.text hlt ha; have da2 := HR2.out.text hlt ha2; have dc := (HB2.out.cell (p := ⟨b1, o1, none⟩) (Nat.lt_of_lt_of_le hb1 HbWw.out.size)).trans ((HbWw.out.cell (p := ⟨b1, o1, none⟩) hb1).trans C1.out); have dc2 := (HB2.out.cell (p := ⟨b1, o1 + 1, none⟩) (Nat.lt_of_lt_of_le hb1 HbWw.out.size)).trans ((HbWw.out.cell (p := ⟨b1, o1 + 1, none⟩) hb1).trans C1'.out)))
          go_quiet (fail)
          go_wp2
          have HT := hide (fun n => (HR2.out.next (below_drawn n) HP2.out).done hlt Hnd.out (s := (⟨#[40]⟩ : ByteArray) ++ atS (textAll (nds.take k)) (some (a : Int)) ++ (⟨#[32, 38, 38, 32]⟩ : ByteArray) ++ atS (textAll (nds.take k)) (some (a2 : Int)) ++ (⟨#[41]⟩ : ByteArray)) (by simp [textStep, HK.out, Hofa.out]))
          go_roundg g
          case measure => omega
          case rel => exact ⟨k + 1, by go_num, by omega, by omega, (HT.out _).1, (HT.out _).2⟩
        · have HK := hide h
          clear h
          obtain ⟨a, a2, hofa, ha, ha2⟩ := Hokk.out.two (Or.inr HK.out)
          obtain ⟨b1, o1, rfl, hb1, c1⟩ := Hof.out.at_ (k := 0) (by rw [hofa]; simp)
          obtain ⟨b1', o1', he, _, c1'⟩ := Hof.out.at_ (k := 1) (by rw [hofa]; simp)
          cases he
          have e1 : nd.of[0]'(by rw [hofa]; simp) = (a : Int) := by simp [hofa]
          have e2 : nd.of[1]'(by rw [hofa]; simp) = (a2 : Int) := by simp [hofa]
          rw [e1, Nat.add_zero] at c1
          rw [e2] at c1'
          have ho2 : Value.slice (some ⟨b1, o1, none⟩) 2 co = o := by rw [← Ho.out, hofa]; rfl
          have Ho2 := hide ho2
          have C1 := hide c1
          have C1' := hide c1'
          have Hofa := hide hofa
          have za := textAll_sizes Hts.out k (a : Int)
          have za2 := textAll_sizes Hts.out k (a2 : Int)
          have haI : (a : Int) < (nds.length : Int) := by omega
          have haI2 : (a2 : Int) < (nds.length : Int) := by omega
          clear hofa c1 c1' e1 e2 ho2
          go_wp2_with (first
          | (with_reducible refine wpList_load_at rfl 67 (.tmp 18) rfl ⟨b, off + k * 21, none⟩ rfl _ _ Hat.out Tryz.underlying67 rfl (by kernel_rfl) ?_)
          | (with_reducible refine wpList_store_fresh rfl 67 (.tmp 5) (.tmp 19) rfl (.agg (nd.cells o).toArray) rfl rfl rfl (by kernel_rfl) (nd_one hoc) HWe.out ?_)
          | (go_at_call 32; (with_reducible refine Calls.mono (itoa_S _ hn0 hn1 _ HRh.out.env) ?_); rintro e w2 ⟨rfl, hb2⟩; have HR2 := hide (HRh.out.next hb2 HPW.out); have HB2 := hide hb2; have HP2 := hide (Nat.le_trans HPW.out hb2.size); clear hb2 cN; obtain ⟨d0, d2, d3, d20, dt, df⟩ := HR2.out.facts hlt; rw [HK.out] at d0; rw [← Ho2.out] at d20; have da := HR2.out.text hlt ha; have da2 := HR2.out.text hlt ha2; have dc := (HB2.out.cell (p := ⟨b1, o1, none⟩) (Nat.lt_of_lt_of_le hb1 HbWw.out.size)).trans ((HbWw.out.cell (p := ⟨b1, o1, none⟩) hb1).trans C1.out); have dc2 := (HB2.out.cell (p := ⟨b1, o1 + 1, none⟩) (Nat.lt_of_lt_of_le hb1 HbWw.out.size)).trans ((HbWw.out.cell (p := ⟨b1, o1 + 1, none⟩) hb1).trans C1'.out)))
          go_quiet (fail)
          go_wp2
          have HT := hide (fun n => (HR2.out.next (below_drawn n) HP2.out).done hlt Hnd.out (s := (⟨#[40]⟩ : ByteArray) ++ atS (textAll (nds.take k)) (some (a : Int)) ++ (⟨#[32, 124, 124, 32]⟩ : ByteArray) ++ atS (textAll (nds.take k)) (some (a2 : Int)) ++ (⟨#[41]⟩ : ByteArray)) (by simp [textStep, HK.out, Hofa.out]))
          go_roundg g
          case measure => omega
          case rel => exact ⟨k + 1, by go_num, by omega, by omega, (HT.out _).1, (HT.out _).2⟩
      · obtain rfl : k = nds.length := by omega
        have hres : txZ nds nds.length = textAll nds := by simp [txZ]
        have hlen := textAll_length nds
        have hbf : Below w.heap.size w wr := HB0.out.trans (HBr.out.mono (by have := HP0.out; omega))
        have Hbf := hide hbf
        clear hbf
        by_cases h0 : nds.length = 0
        · have hz0 : nds = [] := List.eq_nil_of_length_eq_zero h0
          go_wp2
          go_ret
          refine ⟨?_, Hbf.out⟩
          rw [hz0]
          rfl
        · have hcell : wr.cell? ⟨P0, nds.length - 1, none⟩ = some (.string (textF nds)) := by
            rw [HO.out.cellAt (nds.length - 1) (by omega), hres, List.getElem?_map, textF_get h0]
            rfl
          have hidx : ((nds.length : Int) - 1) = ((nds.length - 1 : Nat) : Int) := by omega
          go_wp2
          go_ret
          exact ⟨rfl, Hbf.out⟩
end Go.Proofs.YtbojlnbdkaanmaaGreatDoor
