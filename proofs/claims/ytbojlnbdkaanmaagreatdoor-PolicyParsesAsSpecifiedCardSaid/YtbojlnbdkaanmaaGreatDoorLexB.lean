/-
  The program's lexer, part B: number.
-/
import Derived.Test.YtbojlnbdkaanmaaGreatDoorLexP
import Derived.Test.YtbojlnbdkaanmaaGreatDoorShelf
set_option linter.unusedVariables false
set_option linter.unusedSimpArgs false
namespace Go.Proofs.YtbojlnbdkaanmaaGreatDoor
open Go.RowKit

/-- What the program reads of the variables of packages. -/
structure Env (w : World) : Prop where
  pow : Lib.TabIs Tryz.prog w "internal/strconv.uint64pow10" .u64 Lib.pow10Tab
  rng : ∃ tp p, w.var? Tryz.prog "strconv.ErrRange" = some #[.iface tp p]
theorem glob_of {n : String} (h : (Tryz.prog.globalNamed n).isSome = true) : ∃ g, Tryz.prog.globalNamed n = some g := Option.isSome_iff_exists.1 h
theorem glob_pow : ∃ g, Tryz.prog.globalNamed "internal/strconv.uint64pow10" = some g := glob_of (by kernel_rfl)
theorem glob_rng : ∃ g, Tryz.prog.globalNamed "strconv.ErrRange" = some g := glob_of (by kernel_rfl)
theorem var_keep {n : String} {g : Nat} {w w' : World} {cs : Array Value} (hg : Tryz.prog.globalNamed n = some g) (h : w.var? Tryz.prog n = some cs) (hb : Below w.heap.size w w') : w'.var? Tryz.prog n = some cs := by
  unfold World.var? at h ⊢
  rw [hg] at h ⊢
  simp only [Option.bind_some] at h ⊢
  have hlt : g < w.heap.size := by
    rcases Nat.lt_or_ge g w.heap.size with h' | h'
    · exact h'
    · rw [Array.getElem?_eq_none h'] at h; cases h
  rw [hb.block g hlt]
  exact h
theorem Env.below {w w' : World} (h : Env w) (hb : Below w.heap.size w w') : Env w' := by
  obtain ⟨g, hg⟩ := glob_pow
  obtain ⟨g', hg'⟩ := glob_rng
  obtain ⟨tp, p, hr⟩ := h.rng
  exact ⟨var_keep hg h.pow hb, tp, p, var_keep hg' hr hb⟩
theorem below_grown (w : World) (k : Nat) (os : Array Obj) : Below w.heap.size w (Sort.grow (w.drewN k) os) := by
  refine ⟨rfl, rfl, rfl, by simp [Sort.grow, World.drewN], fun i hi => ?_⟩
  simp [Sort.grow, World.drewN, Array.getElem?_append, hi]
theorem toList_data (s : ByteArray) : s.data.toList = s.toList := by rw [ByteArray.toList_eq]
theorem itoa_any (n : Int) (h0 : 0 ≤ n) (h1 : n ≤ 9223372036854775807) (w : World) (hE : Env w) :
    Calls Tryz.prog 32 #[.int .i64 n] w fun e w' => e = .returned (.string ⟨(Lib.itoa n).toArray⟩) ∧ Below w.heap.size w w' := by
  refine (Tryz.strconv_Itoa n (by omega) h1 w hE.pow).mono ?_
  rintro e w' ⟨rfl, k, os, rfl⟩
  exact ⟨rfl, below_grown w k os⟩
/-- Atoi of a list of digits: its value and no error, or an error. -/
theorem atoi_dig (s : ByteArray) (w : World) (hE : Env w) (hne : s.toList ≠ []) (hd : ∀ c ∈ s.toList, isDig c.toNat = true) (hs : s.size ≤ 1000000) :
    Calls Tryz.prog 69 #[.string s] w fun e w' => ((e = .returned (.tuple #[.int .i64 (decV s.toList), .nilIface])) ∨ (¬ s.toList.length ≤ 5 ∧ ∃ n t p, e = .returned (.tuple #[.int .i64 n, .iface t p]))) ∧ Below w.heap.size w w' := by
  rcases atoiAll_dig hne hd with h | ⟨h, h5⟩
  · refine (Tryz.strconv_Atoi_ok s (by omega) _ (by rw [toList_data]; exact h) w).mono ?_
    rintro e w' ⟨rfl, rfl | ⟨t, rfl⟩⟩
    · exact ⟨Or.inl rfl, Below.refl _ _⟩
    · exact ⟨Or.inl rfl, Lib.bytesWorld_below _ _ _⟩
  · obtain ⟨tp, p, hr⟩ := hE.rng
    refine (Tryz.strconv_Atoi_range_var s (by omega) (by rw [toList_data]; exact h) tp p w hr).mono ?_
    rintro e w' ⟨N, rfl, _, _, hb⟩
    exact ⟨Or.inr ⟨h5, _, _, _, rfl⟩, hb⟩
theorem toList_extract (s : ByteArray) (i j : Nat) : (s.extract i j).toList = (s.toList.take j).drop i := by
  rw [ByteArray.toList_eq, ByteArray.toList_eq]
  rw [ByteArray.data_extract, Array.toList_extract, List.extract_eq_take_drop, List.drop_take]
theorem toList_mk (l : List UInt8) : (⟨l.toArray⟩ : ByteArray).toList = l := by rw [ByteArray.toList_eq]
theorem mk_toList (s : ByteArray) : (⟨s.toList.toArray⟩ : ByteArray) = s := by rw [ByteArray.toList_eq]
theorem extract_take (s : ByteArray) (k : Nat) : s.extract 0 k = ⟨(s.toList.take k).toArray⟩ := by
  rw [← mk_toList (s.extract 0 k), toList_extract, List.drop_zero]
theorem extract_drop (s : ByteArray) (k : Nat) : s.extract k s.size = ⟨(s.toList.drop k).toArray⟩ := by
  rw [← mk_toList (s.extract k s.size), toList_extract, List.take_of_length_le (by rw [toList_len]; exact Nat.le_refl _)]

/-- A result struct in a cell and a plain result beside it. -/
theorem results_row_tmp {fn : Func} {p u : Tmp} {ty : TypeId} (h : fn.results = #[.cell p ty, .tmp u]) (tmps : Array Value) (w : World) (g : Nat) (cs : Array Value)
    (hp : tmps.getD p undef = .pointer (some ⟨g, 0, none⟩)) (hl : (loadVar ty ⟨g, 0, none⟩).run Tryz.prog w = .ok (.agg cs) w) :
    (results fn tmps).run Tryz.prog w = .ok (.tuple #[.agg cs, tmps.getD u undef]) w := by
  rw [results_cell_tmp h, hp]
  simp [asAddr, hl, Result.andThen]
theorem load62 (w : World) (g : Nat) (cs : Array Value) (t : TypeId) (hg : w.heap[g]? = some (.cells cs t (0, 0))) (hs : cs.size = 4) : (loadVar 62 ⟨g, 0, none⟩).run Tryz.prog w = .ok (.agg cs) w :=
  run_loadVar_row w g t 62 cs (0, 0) _ hg Tryz.underlying62 rfl (by rw [hs]; kernel_rfl)
theorem blk_keep {w w' : World} {o : Obj} (h : Below (w.alloc o).heap.size (w.alloc o) w') : w'.heap[w.heap.size]? = some o :=
  (h.block _ (by simp)).trans (heap_alloc_new w o)

theorem num_end (s : ByteArray) (k : Nat) (N : Int) (X : Bool) (Y : Bool) (d : Int) (hx : s.extract 0 k = ⟨(s.toList.take k).toArray⟩) (hX : X = Y) (hN : Y = true → N = d) :
    ∃ n, Ending.returned (.tuple #[.agg #[.int .i64 2, .string (s.extract 0 k), .int .i64 N, .int .i64 0], .bool X]) = .returned (.tuple #[.agg #[.int .i64 2, .string ⟨(s.toList.take k).toArray⟩, .int .i64 n, .int .i64 0], .bool Y]) ∧ (Y = true → n = d) :=
  ⟨N, by rw [hx, hX], hN⟩
theorem follows_at (s : ByteArray) (k : Nat) (h : k < s.size) : follows (s.toList.drop k) = isWit (s[k]'h).toNat := by
  have hl : k < s.toList.length := by rw [toList_len]; exact h
  have := get_toList s k h
  rw [List.getElem?_eq_getElem hl] at this
  rw [List.drop_eq_getElem_cons hl, follows]
  injection this with this
  rw [this]
theorem follows_end (s : ByteArray) (k : Nat) (h : ¬ k < s.size) : follows (s.toList.drop k) = false := by
  rw [List.drop_of_length_le (by rw [toList_len]; omega)]
  rfl
set_option maxRecDepth 100000 in
set_option maxHeartbeats 2000000 in
theorem number_any (w : World) (s : ByteArray) (hE : Env w) (hs : s.size ≤ 1000000) (c : UInt8) (r : List UInt8) (hl : s.toList = c :: r) (hc : isDig c.toNat = true) (k : Nat) (hk : pre isDig s.toList = k)
    (d : Int) (hd : d = (decV (s.toList.take k) : Nat)) (ok : Bool) (hok : ok = (numOk (s.toList.take k) && !follows (s.toList.drop k))) :
    Calls Tryz.prog 49 #[.string s] w fun e w' => Below w.heap.size w w' ∧
      ∃ n, e = .returned (.tuple #[.agg #[.int .i64 2, .string ⟨(s.toList.take k).toArray⟩, .int .i64 n, .int .i64 0],
          .bool ok]) ∧ (ok = true → n = d) := by
  have hk0 : 0 < k := by rw [← hk, hl]; exact pre_pos hc
  have hk1 : k ≤ s.size := by rw [← hk, ← toList_len]; exact pre_le _ _
  have hpre := fun W => prefix_dig W s hs
  simp only [hk] at hpre
  have hall : ∀ c ∈ s.toList.take k, isDig c.toNat = true := by rw [← hk]; exact takeWhile_all _ _
  have hlen : (s.toList.take k).length = k := by rw [List.length_take, toList_len]; omega
  have hne : s.toList.take k ≠ [] := by intro e; rw [e] at hlen; simp at hlen; omega
  have hx := extract_take s k
  have hT : (s.extract 0 k).toList = s.toList.take k := by rw [toList_extract, List.drop_zero]
  have hat := fun W (hW : Env W) => atoi_dig (s.extract 0 k) W hW (by rw [hT]; exact hne) (by rw [hT]; exact hall) (by rw [← toList_len, hT, hlen]; omega)
  simp only [hT, hlen] at hat
  have hd5 : k ≤ 5 → 0 ≤ d ∧ d < 100000 := fun h => by have := decV_lt hall (by rw [hlen]; exact h); omega
  have hnum : numOk (s.toList.take k) = (decide (k ≤ 5) && (decide (d < 65536) && (Lib.itoa d == s.toList.take k))) := by
    by_cases h5 : k ≤ 5
    · have hq : decide (decV (s.toList.take k) < 65536) = decide (d < 65536) := by rw [decide_eq_decide]; omega
      rw [numOk_eq hne hall (by omega), decide_eq_true h5, Bool.true_and, hq, hd]
    · have : ¬ (s.toList.take k).length ≤ 5 := by omega
      rw [numOk, decide_eq_false this, decide_eq_false h5]
      rfl
  simp only [← hd] at hat
  have hE0 : Env (w.alloc (.cells #[.int .i64 0, .string ⟨#[]⟩, .int .i64 0, .int .i64 0] 62)) := hE.below ((Below.refl _ w).alloc (Nat.le_refl _) _)
  have HE := hide hE0
  have Hok := hide hok
  have Hd5 := hide hd5
  have Hnum := hide hnum
  have hby : ∀ (h : k < s.size), wrap32 ((s[k]'h).toNat : Int) = ((s[k]'h).toNat : Int) := fun h => by have := (s[k]'h).toNat_lt; unfold wrap32; omega
  have HX := hide hx
  have HL := hide hl
  have Hall := hide hall
  have HP := hide hpre
  have HA := hide hat
  have HT := hide hT
  have Hlen := hide hlen
  have Hk := hide hk
  have Hne := hide hne
  clear hok hd hd5 hnum hE0 hx hl hall hpre hat hE hT hlen hk hne
  go_enter Tryz.func49, Tryz.ntmps49
  go_wp2_with (first
    | (go_at_call 46; (with_reducible refine Calls.mono (HP.out _) ?_); rintro e w1 ⟨rfl, hb1⟩; have HB := hide hb1; clear hb1)
    | (go_at_call 69; (with_reducible refine Calls.mono (HA.out _ (HE.out.below HB.out)) ?_); rintro e w2 ⟨rfl | ⟨h5, n, t, p, rfl⟩, hb2⟩ <;> (have HC := hide (HB.out.trans (hb2.mono HB.out.size)); clear hb2))
    | (go_at_call 47; (with_reducible refine Calls.mono (within_any _ _) ?_); rintro e w3 ⟨rfl, rfl⟩)
    | (go_at_call 32; (with_reducible refine Calls.mono (itoa_any _ (Hd5.out (by omega)).1 (by have := (Hd5.out (by omega)).2; omega) _ (HE.out.below HC.out)) ?_); rintro e w4 ⟨rfl, hb4⟩; have HD := hide (HC.out.trans (hb4.mono HC.out.size)); clear hb4)
    | (with_reducible refine wpList_store_row rfl 62 (.tmp 2) (.tmp 32) rfl w.heap.size rfl _ rfl _ _ (blk_keep HD.out) rfl (by kernel_rfl) (by kernel_rfl) ?_)
    | (with_reducible refine wpList_store_row rfl 62 (.tmp 2) (.tmp 32) rfl w.heap.size rfl _ rfl _ _ (blk_keep HC.out) rfl (by kernel_rfl) (by kernel_rfl) ?_))
  all_goals (refine bodyPost_ret (results_row_tmp Tryz.results49 _ _ w.heap.size _ rfl (load62 _ _ _ 62 (by first | exact setRow_heap _ _ _ _ 62 (0, 0) (blk_keep HD.out) | exact setRow_heap _ _ _ _ 62 (0, 0) (blk_keep HC.out)) rfl)) rfl ?_)
  all_goals (refine ⟨below_setRow' (by first | exact ((Below.refl _ w).alloc (Nat.le_refl _) _).trans (HD.out.mono (by simp)) | exact ((Below.refl _ w).alloc (Nat.le_refl _) _).trans (HC.out.mono (by simp))) (Nat.le_refl _) _, ?_⟩)
  all_goals (refine num_end s k _ _ _ _ HX.out ?_ ?_)
  all_goals (try (rw [Hok.out, Hnum.out]))
  all_goals first
    | (intro _; rfl)
    | (have h5 : ¬ k ≤ 5 := by omega
       rw [decide_eq_false h5]
       first | rfl | (intro h; simp at h))
    | (have h5 : k ≤ 5 := by omega
       have h6 : ¬ d < 65536 := by omega
       simp only [decide_eq_true h5, decide_eq_false h6, Bool.false_and, Bool.and_false])
    | (have h5 : k ≤ 5 := by omega
       have h6 : d < 65536 := by omega
       simp only [decide_eq_true h5, decide_eq_true h6, Bool.true_and, ← HT.out]
       first
         | (have hf := follows_end s k (by assumption); rw [hf]; simp_all)
         | (have hf := follows_at s k (by assumption); rw [hf]; simp_all))
end Go.Proofs.YtbojlnbdkaanmaaGreatDoor
