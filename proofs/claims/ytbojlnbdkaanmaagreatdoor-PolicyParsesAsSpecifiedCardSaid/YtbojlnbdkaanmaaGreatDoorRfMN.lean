/-
  The reference's parser: atom. The reference's parser: chain and not.
-/
import Derived.Test.YtbojlnbdkaanmaaGreatDoorRfHL
namespace Go.Proofs.YtbojlnbdkaanmaaGreatDoor
open Go.RowKit
set_option linter.unusedSimpArgs false
set_option linter.unusedVariables false

theorem ris_r (w : World) (L : Option Addr) (cl : Nat) (ts : List Tok) (K : Int) (A : Option Addr) (m ca : Nat) (kd : Int) (tx : ByteArray) (hl : ts.length ≤ 1000000) (hK : -1 ≤ K ∧ K ≤ ts.length) (h : Toks w w.heap.size L ts) :
    Calls Tryz.prog 55 #[.agg #[.slice L ts.length cl, .int .i64 K, .slice A m ca], .int .i64 kd, .string tx] w fun e w' => e = .returned (.bool (isR ts K kd tx)) ∧ Below w.heap.size w w' := ris_any w L cl ts K A m ca kd tx hl hK h
/-- What atom leaves. -/
def PostT (w : World) (L : Option Addr) (cl : Nat) (ts : List Tok) (A : Option Addr) (m ca : Nat) (o : Option (Nd × List Tok)) (e : Ending) (w' : World) : Prop :=
  Below w.heap.size w w' ∧ ∃ (x : Nd) (K' : Int), x.of = [] ∧ e = .returned (.tuple #[.agg (x.cells (.slice none 0 0)).toArray, .agg #[.slice L ts.length cl, .int .i64 K', .slice A m ca]]) ∧ PairOk ts x K' o
theorem nd_set {W : World} {g i : Nat} {x y : Nd} {o v : Value} (h : W.heap[g]? = some (.cells (x.cells o).toArray 67 (0, 0))) (hy : (x.cells o).toArray.setIfInBounds i v = (y.cells o).toArray) :
    (W.setCell ⟨g, i, none⟩ v).heap[g]? = some (.cells (y.cells o).toArray 67 (0, 0)) := by
  rw [setCell_eq_setRow W g i _ _ _ _ h, hy]
  exact setRow_heap _ _ _ _ _ _ h
theorem rs_set {W : World} {g : Nat} {a b c v : Value} (h : W.heap[g]? = some (.cells #[a, b, c] 57 (0, 0))) : (W.setCell ⟨g, 1, none⟩ v).heap[g]? = some (.cells #[a, v, c] 57 (0, 0)) := by
  rw [setCell_eq_setRow W g 1 _ _ _ _ h]
  exact setRow_heap _ _ _ _ _ _ h
theorem blk_cell {W : World} {g i : Nat} {cs : Array Value} {t : TypeId} {v : Value} (h : W.heap[g]? = some (.cells cs t (0, 0))) (hv : cs[i]? = some v) : W.cell? ⟨g, i, none⟩ = some v := by rw [cell_of_row _ _ _ _ _ _ h]; exact hv
theorem blk_froz {W : World} {g i : Nat} {cs : Array Value} {t : TypeId} (h : W.heap[g]? = some (.cells cs t (0, 0))) : W.frozen? ⟨g, i, none⟩ = false := frozen_of_row _ _ _ _ _ h
/-- The digest of a node, stored. -/
theorem wpList_store_dig {ops : Array Oper} {rest : List Oper} {o : Oper} {a : Act} {W : World} {Q : Exit → Act → World → Prop} (hgd : o.guard = none) (x y : Operand) (ho : o.op = .store 65 x y)
    (g : Nat) (hx : a.eval x = .pointer (some ⟨g, 4, none⟩)) (d : Nat → Int) (hy : a.eval y = .agg (digArr d)) (nd : Nd) (oc : Value) (hg : W.heap[g]? = some (.cells (nd.cells oc).toArray 67 (0, 0)))
    (h : wpList Tryz.prog ops Q rest (a.put o.dst undef) (W.setRow g ((⟨nd.k, nd.n, nd.m, nd.sd, d, nd.of⟩ : Nd).cells oc).toArray)) : wpList Tryz.prog ops Q (o :: rest) a W :=
  wpList_plain hgd fun _ hK => by
    have hz : (Tryz.prog.info? 65).map (·.size) = some 16 := by kernel_rfl
    have hst := run_storeCells_at Tryz.prog g 4 67 (digArr d).toList 0 (nd.cells oc).toArray W (by simpa using hg) (by simp [digArr, Nd.cells]) (by simp [digArr, Value.oneCell'])
    unfold Oper.wp execOp
    cases hq : Tryz.prog.info? 65 with
    | none => rw [hq] at hz; cases hz
    | some i =>
      have hs : i.size = 16 := by rw [hq] at hz; simpa using hz
      simp only [ho, hx, hy]
      have e : (List.take (4 + 0) (nd.cells oc).toArray.toList ++ (digArr d).toList ++ List.drop (4 + 0 + (digArr d).toList.length) (nd.cells oc).toArray.toList).toArray = ((⟨nd.k, nd.n, nd.m, nd.sd, d, nd.of⟩ : Nd).cells oc).toArray := rfl
      rw [e] at hst
      simp [Instr.storeAt, Instr.sureAddr, storeVar, sizeOf, typeInfo, hq, hs, Value.cells, digArr]
      change Oper.upon _ _ _ _ _ ((Sem.run Tryz.prog (storeCells ⟨g, 4, none⟩ (digArr d).toList) W).andThen _)
      rw [hst]
      exact hK _ _ h
theorem ret2_world' {w W : World} {c1 c2 : Array Value} (hb : Below w.heap.size w W) (h1 : W.heap[w.heap.size + 1]? = some (.cells c1 67 (0, 0))) (h2 : W.heap[w.heap.size + 2]? = some (.cells c2 57 (0, 0))) (cs1 cs2 : Array Value) :
    ((W.drew.setRow (w.heap.size + 1) cs1).setRow (w.heap.size + 2) cs2).heap[w.heap.size + 1]? = some (.cells cs1 67 (0, 0)) ∧ ((W.drew.setRow (w.heap.size + 1) cs1).setRow (w.heap.size + 2) cs2).heap[w.heap.size + 2]? = some (.cells cs2 57 (0, 0)) ∧
    Below w.heap.size w ((W.drew.setRow (w.heap.size + 1) cs1).setRow (w.heap.size + 2) cs2) :=
  ⟨(setRow_other _ _ _ _ (by omega)).trans (setRow_heap _ _ _ _ _ _ (show W.drew.heap[w.heap.size + 1]? = _ from h1)), setRow_heap _ _ _ _ 57 (0, 0) ((setRow_other _ _ _ _ (by omega)).trans (show W.drew.heap[w.heap.size + 2]? = _ from h2)), below_setRow' (below_setRow' hb.drew (by omega) _) (by omega) _⟩
theorem dig_one' (d : Nat → Int) : ((Value.agg (digArr d)).cells.all (·.oneCell')) = true := dig_one d
theorem dig_size (d : Nat → Int) : (#[(.int .u8 0 : Value), .int .u8 0, .int .u8 0, .int .u8 0, .int .u8 0, .int .u8 0, .int .u8 0, .int .u8 0, .int .u8 0, .int .u8 0, .int .u8 0, .int .u8 0, .int .u8 0, .int .u8 0, .int .u8 0, .int .u8 0] : Array Value).size = (Value.agg (digArr d)).cells.size := rfl
theorem z67_one : ((Value.agg #[.int .i64 0, .int .i64 0, .int .i64 0, .int .i64 0, .int .u8 0, .int .u8 0, .int .u8 0, .int .u8 0, .int .u8 0, .int .u8 0, .int .u8 0, .int .u8 0, .int .u8 0, .int .u8 0, .int .u8 0, .int .u8 0, .int .u8 0, .int .u8 0, .int .u8 0, .int .u8 0, .slice none 0 0]).cells.all (·.oneCell')) = true := nd_one (x := mkN 0 0 0 0) (o := .slice none 0 0) rfl
theorem blk_two {w Y : World} {a b : Obj} (hY : Y = (w.alloc a).alloc b) {g : Nat} {o : Obj} (h : w.heap[g]? = some o) : Y.heap[g]? = some o := by
  have hl := World.lt_of_blk h
  rw [hY]
  exact (heap_alloc_old _ _ (by simp; omega)).trans ((heap_alloc_old _ _ hl).trans h)
theorem blk_two1 {w Y : World} {a b : Obj} (hY : Y = (w.alloc a).alloc b) : Y.heap[w.heap.size]? = some a := by rw [hY]; exact (heap_alloc_old _ _ (by simp)).trans (heap_alloc_new w _)
theorem blk_two2 {w Y : World} {a b : Obj} (hY : Y = (w.alloc a).alloc b) : Y.heap[w.heap.size + 1]? = some b := by rw [hY]; exact heap_alloc2_new w _ _
theorem bel_two {w Y : World} {a b : Obj} (hY : Y = (w.alloc a).alloc b) : Below w.heap.size w Y := by rw [hY]; exact ((Below.refl _ w).alloc (Nat.le_refl _) _).alloc (by simp) _
theorem size_two {w Y : World} {a b : Obj} (hY : Y = (w.alloc a).alloc b) : Y.heap.size = w.heap.size + 2 := by rw [hY]; simp
theorem blk_thr {w Y : World} {a b c : Obj} (hY : Y = ((w.alloc a).alloc b).alloc c) {g : Nat} {o : Obj} (h : w.heap[g]? = some o) : Y.heap[g]? = some o := by
  have hl := World.lt_of_blk h
  rw [hY]
  exact (heap_alloc_old _ _ (by simp; omega)).trans ((heap_alloc_old _ _ (by simp; omega)).trans ((heap_alloc_old _ _ hl).trans h))
theorem blk_thr1 {w Y : World} {a b c : Obj} (hY : Y = ((w.alloc a).alloc b).alloc c) : Y.heap[w.heap.size]? = some a := by rw [hY]; exact (heap_alloc_old _ _ (by simp <;> omega)).trans ((heap_alloc_old _ _ (by simp)).trans (heap_alloc_new w _))
theorem blk_thr2 {w Y : World} {a b c : Obj} (hY : Y = ((w.alloc a).alloc b).alloc c) : Y.heap[w.heap.size + 1]? = some b := by rw [hY]; exact (heap_alloc_old _ _ (by simp)).trans (heap_alloc2_new w _ _)
theorem blk_thr3 {w Y : World} {a b c : Obj} (hY : Y = ((w.alloc a).alloc b).alloc c) : Y.heap[w.heap.size + 1 + 1]? = some c := by rw [hY]; exact heap_third w _ _ _
theorem bel_thr {w Y : World} {a b c : Obj} (hY : Y = ((w.alloc a).alloc b).alloc c) : Below w.heap.size w Y := by rw [hY]; exact (((Below.refl _ w).alloc (Nat.le_refl _) _).alloc (by simp) _).alloc (by simp <;> omega) _
theorem size_thr {w Y : World} {a b c : Obj} (hY : Y = ((w.alloc a).alloc b).alloc c) : Y.heap.size = w.heap.size + 3 := by rw [hY]; simp
theorem set_other {W Y : World} {g i : Nat} {v : Value} (hY : Y = W.setCell ⟨g, i, none⟩ v) {k : Nat} {o : Obj} (h : W.heap[k]? = some o) (hne : k ≠ g) : Y.heap[k]? = some o := by rw [hY]; exact (Below.heap_setCell W ⟨g, i, none⟩ v k (by simpa using hne)).trans h
theorem set_size {W Y : World} {p : Addr} {v : Value} (hY : Y = W.setCell p v) : Y.heap.size = W.heap.size := by rw [hY]; simp [World.setCell]
theorem set_bel {w W Y : World} {g i : Nat} {v : Value} (hY : Y = W.setCell ⟨g, i, none⟩ v) (h : Below w.heap.size w W) (hg : w.heap.size ≤ g) : Below w.heap.size w Y := by rw [hY]; exact h.setCell (p := ⟨g, i, none⟩) hg v
theorem set_nd {W Y : World} {g i : Nat} {x y : Nd} {o v : Value} (hY : Y = W.setCell ⟨g, i, none⟩ v) (h : W.heap[g]? = some (.cells (x.cells o).toArray 67 (0, 0))) (hy : (x.cells o).toArray.setIfInBounds i v = (y.cells o).toArray) : Y.heap[g]? = some (.cells (y.cells o).toArray 67 (0, 0)) := by rw [hY]; exact nd_set h hy
theorem set_rs {W Y : World} {g : Nat} {a b c v : Value} (hY : Y = W.setCell ⟨g, 1, none⟩ v) (h : W.heap[g]? = some (.cells #[a, b, c] 57 (0, 0))) : Y.heap[g]? = some (.cells #[a, v, c] 57 (0, 0)) := by rw [hY]; exact rs_set h
theorem row_other {W Y : World} {g : Nat} {cs : Array Value} (hY : Y = W.setRow g cs) {k : Nat} {o : Obj} (h : W.heap[k]? = some o) (hne : k ≠ g) : Y.heap[k]? = some o := by rw [hY]; exact (setRow_other _ _ _ _ hne).trans h
theorem row_at {W Y : World} {g : Nat} {cs old : Array Value} {t : TypeId} (hY : Y = W.setRow g cs) (h : W.heap[g]? = some (.cells old t (0, 0))) : Y.heap[g]? = some (.cells cs t (0, 0)) := by rw [hY]; exact setRow_heap _ _ _ _ _ _ h
theorem row_size {W Y : World} {g : Nat} {cs : Array Value} (hY : Y = W.setRow g cs) : Y.heap.size = W.heap.size := by rw [hY]; simp
theorem row_bel {w W Y : World} {g : Nat} {cs : Array Value} (hY : Y = W.setRow g cs) (h : Below w.heap.size w W) (hg : w.heap.size ≤ g) : Below w.heap.size w Y := by rw [hY]; exact below_setRow' h hg _
theorem isR_range {ts : List Tok} {K kd : Int} {tx : ByteArray} (hi : isR ts K kd tx = true) : 0 ≤ K ∧ K < ts.length := by
  unfold isR at hi
  split at hi
  · cases hi
  · rename_i h0
    obtain ⟨t, r, ht⟩ := isB_cons hi
    have := congrArg List.length ht
    rw [List.length_drop] at this
    simp at this
    omega
theorem Live.uniq {ts : List Tok} {K : Int} {o o' : Option (List Tok)} (h : Live ts K o) (h' : Live ts K o') : o = o' := by
  cases o with
  | none =>
    cases o' with
    | none => rfl
    | some r' => obtain ⟨k, hk, _⟩ := h'; have : K = -1 := h; omega
  | some r =>
    obtain ⟨k, hk, _, hd⟩ := h
    cases o' with
    | none => have : K = -1 := h'; omega
    | some r' =>
      obtain ⟨k', hk', _, hd'⟩ := h'
      have : k = k' := by omega
      subst this
      rw [← hd, hd']
set_option maxRecDepth 100000 in
set_option maxHeartbeats 16000000 in
theorem ratom_p_any (w : World) (L : Option Addr) (cl : Nat) (ts : List Tok) (K : Int) (A : Option Addr) (m ca : Nat) (l : List Tok) (hl : ts.length ≤ 1000000) (hK : Live ts K (some l)) (h : Toks w w.heap.size L ts) (qany : ((mustR ts K 1 { data := #[] }).1.s.toList == [97, 110, 121]) = true) :
    Calls Tryz.prog 75 #[.agg #[.slice L ts.length cl, .int .i64 K, .slice A m ca]] w (PostT w L cl ts A m ca (atomF l)) := by
  have HT := hide h
  have hKr := hK.range
  obtain ⟨W0, hW0⟩ : ∃ W0, W0 = ((w.alloc (.cells #[.slice L ts.length cl, .int .i64 K, .slice A m ca] 57)).alloc (.cells #[.int .i64 0, .int .i64 0, .int .i64 0, .int .i64 0, .int .u8 0, .int .u8 0, .int .u8 0, .int .u8 0, .int .u8 0, .int .u8 0, .int .u8 0, .int .u8 0, .int .u8 0, .int .u8 0, .int .u8 0, .int .u8 0, .int .u8 0, .int .u8 0, .int .u8 0, .int .u8 0, .slice none 0 0] 67)).alloc (.cells #[.slice none 0 0, .int .i64 0, .slice none 0 0] 57) := ⟨_, rfl⟩
  have Ha := hide (show W0.heap[w.heap.size + 1]? = some (.cells #[.int .i64 0, .int .i64 0, .int .i64 0, .int .i64 0, .int .u8 0, .int .u8 0, .int .u8 0, .int .u8 0, .int .u8 0, .int .u8 0, .int .u8 0, .int .u8 0, .int .u8 0, .int .u8 0, .int .u8 0, .int .u8 0, .int .u8 0, .int .u8 0, .int .u8 0, .int .u8 0, .slice none 0 0] 67 (0, 0)) from blk_thr2 hW0)
  have Hc := hide (show W0.heap[w.heap.size + 2]? = some (.cells #[.slice none 0 0, .int .i64 0, .slice none 0 0] 57 (0, 0)) from blk_thr3 hW0)
  have szW0 := size_thr hW0
  have Hbel := hide (bel_thr hW0)
  have HW0 := hide hW0
  clear hW0
  have HK := hide hK
  clear h hK
  go_enter Tryz.func75, Tryz.ntmps75
  go_wp2_with fail
  rw [← HW0.out]
  refine Calls.mono (rmust_r W0 L cl ts K A m ca 1 _ hl hKr ((HT.out.below Hbel.out (Nat.le_refl _)).more Hbel.out.size)) ?_
  rintro e w1 ⟨t1, K1, rfl, hmt1, hb⟩
  have hK1 := mustR_range hKr 1 _ hmt1
  have Hmt1 := hide hmt1
  clear hmt1
  have lew1 := hb.size
  replace Ha := hide (show w1.heap[w.heap.size + 1]? = some (.cells #[.int .i64 0, .int .i64 0, .int .i64 0, .int .i64 0, .int .u8 0, .int .u8 0, .int .u8 0, .int .u8 0, .int .u8 0, .int .u8 0, .int .u8 0, .int .u8 0, .int .u8 0, .int .u8 0, .int .u8 0, .int .u8 0, .int .u8 0, .int .u8 0, .int .u8 0, .int .u8 0, .slice none 0 0] 67 (0, 0)) from (hb.block _ (World.lt_of_blk Ha.out)).trans Ha.out)
  replace Hc := hide (show w1.heap[w.heap.size + 2]? = some (.cells #[.slice none 0 0, .int .i64 0, .slice none 0 0] 57 (0, 0)) from (hb.block _ (World.lt_of_blk Hc.out)).trans Hc.out)
  replace Hbel := hide (Hbel.out.trans (hb.mono Hbel.out.size))
  clear hb
  rw [Hmt1.out] at qany
  have hat := atom_ok HK.out (by simp) Hmt1.out
  have h1z : w.heap.size + 3 ≤ w1.heap.size := by omega
  have hres : ∃ r, Live ts K1 (some r) ∧ atomF l = some (mkN 1 0 0 0, r) := by
    rcases hat with ⟨_, _, hs⟩ | ⟨r, hr, ha⟩
    · exfalso; simp [hs] at qany
    · refine ⟨r, hr, ?_⟩; rw [ha]; simp [tAny, tVersion, tEpoch, tStage, tPoint, *]
  obtain ⟨r, hL1, hres⟩ := hres
  have HL1 := hide hL1
  have Hres := hide hres
  clear hL1 hres hat
  obtain ⟨Z, hZ⟩ : ∃ Z, Z = ((w1.alloc (.cells #[.int .i64 t1.k, .string t1.s, .int .i64 t1.n, .int .i64 t1.p] 62)).alloc (.cells #[.slice L ts.length cl, .int .i64 K1, .slice A m ca] 57)).alloc (.cells #[.int .i64 0, .int .i64 0, .int .i64 0, .int .i64 0, .int .u8 0, .int .u8 0, .int .u8 0, .int .u8 0, .int .u8 0, .int .u8 0, .int .u8 0, .int .u8 0, .int .u8 0, .int .u8 0, .int .u8 0, .int .u8 0, .int .u8 0, .int .u8 0, .int .u8 0, .int .u8 0, .slice none 0 0] 67) := ⟨_, rfl⟩
  replace Ha := hide (show Z.heap[w.heap.size + 1]? = some (.cells #[.int .i64 0, .int .i64 0, .int .i64 0, .int .i64 0, .int .u8 0, .int .u8 0, .int .u8 0, .int .u8 0, .int .u8 0, .int .u8 0, .int .u8 0, .int .u8 0, .int .u8 0, .int .u8 0, .int .u8 0, .int .u8 0, .int .u8 0, .int .u8 0, .int .u8 0, .int .u8 0, .slice none 0 0] 67 (0, 0)) from blk_thr hZ Ha.out)
  replace Hc := hide (show Z.heap[w.heap.size + 2]? = some (.cells #[.slice none 0 0, .int .i64 0, .slice none 0 0] 57 (0, 0)) from blk_thr hZ Hc.out)
  have Ht1b := hide (show Z.heap[w1.heap.size]? = some (.cells #[.int .i64 t1.k, .string t1.s, .int .i64 t1.n, .int .i64 t1.p] 62 (0, 0)) from blk_thr1 hZ)
  have Hs := hide (show Z.heap[w1.heap.size + 1]? = some (.cells #[.slice L ts.length cl, .int .i64 K1, .slice A m ca] 57 (0, 0)) from blk_thr2 hZ)
  have Hn := hide (show Z.heap[w1.heap.size + 1 + 1]? = some (.cells (Nd.cells (mkN 0 0 0 0) (.slice none 0 0)).toArray 67 (0, 0)) from blk_thr3 hZ)
  have szZ := size_thr hZ
  replace Hbel := hide (Hbel.out.trans ((bel_thr hZ).mono Hbel.out.size))
  have HZ := hide hZ
  clear hZ
  have HX := hide (show (((w1.alloc (.cells #[.int .i64 t1.k, .string t1.s, .int .i64 t1.n, .int .i64 t1.p] 62)).alloc (.cells #[.slice L ts.length cl, .int .i64 K1, .slice A m ca] 57)).alloc (.cells #[.int .i64 0, .int .i64 0, .int .i64 0, .int .i64 0, .int .u8 0, .int .u8 0, .int .u8 0, .int .u8 0, .int .u8 0, .int .u8 0, .int .u8 0, .int .u8 0, .int .u8 0, .int .u8 0, .int .u8 0, .int .u8 0, .int .u8 0, .int .u8 0, .int .u8 0, .int .u8 0, .slice none 0 0] 67)).heap[w1.heap.size + 1 + 1]? = some (.cells #[.int .i64 0, .int .i64 0, .int .i64 0, .int .i64 0, .int .u8 0, .int .u8 0, .int .u8 0, .int .u8 0, .int .u8 0, .int .u8 0, .int .u8 0, .int .u8 0, .int .u8 0, .int .u8 0, .int .u8 0, .int .u8 0, .int .u8 0, .int .u8 0, .int .u8 0, .int .u8 0, .slice none 0 0] 67 (0, 0)) from blk_thr3 rfl)
  have HZr := hide (show Z = (((w1.alloc (.cells #[.int .i64 t1.k, .string t1.s, .int .i64 t1.n, .int .i64 t1.p] 62)).alloc (.cells #[.slice L ts.length cl, .int .i64 K1, .slice A m ca] 57)).alloc (.cells #[.int .i64 0, .int .i64 0, .int .i64 0, .int .i64 0, .int .u8 0, .int .u8 0, .int .u8 0, .int .u8 0, .int .u8 0, .int .u8 0, .int .u8 0, .int .u8 0, .int .u8 0, .int .u8 0, .int .u8 0, .int .u8 0, .int .u8 0, .int .u8 0, .int .u8 0, .int .u8 0, .slice none 0 0] 67)).setRow (w1.heap.size + 1 + 1) (Value.agg #[.int .i64 0, .int .i64 0, .int .i64 0, .int .i64 0, .int .u8 0, .int .u8 0, .int .u8 0, .int .u8 0, .int .u8 0, .int .u8 0, .int .u8 0, .int .u8 0, .int .u8 0, .int .u8 0, .int .u8 0, .int .u8 0, .int .u8 0, .int .u8 0, .int .u8 0, .int .u8 0, .slice none 0 0]).cells from HZ.out.trans (setRow_self _ _ _ _ _ HX.out).symm)
  have cs0 : Z.cell? ⟨w1.heap.size + 1, 0, none⟩ = some (.slice L ts.length cl) := blk_cell Hs.out rfl
  have cs1 : Z.cell? ⟨w1.heap.size + 1, 1, none⟩ = some (.int .i64 K1) := blk_cell Hs.out rfl
  have cs2 : Z.cell? ⟨w1.heap.size + 1, 2, none⟩ = some (.slice A m ca) := blk_cell Hs.out rfl
  have ct0 := blk_cell (i := 1) (v := .string t1.s) Ht1b.out rfl
  have cz : Z.cell? ⟨w1.heap.size + 1 + 1, 0, none⟩ = some (.int .i64 0) := blk_cell Hn.out rfl
  have fcz : Z.frozen? ⟨w1.heap.size + 1 + 1, 0, none⟩ = false := blk_froz Hn.out
  obtain ⟨Zk, hZk⟩ : ∃ Zk, Zk = Z.setCell ⟨w1.heap.size + 1 + 1, 0, none⟩ (.int .i64 1) := ⟨_, rfl⟩
  replace Ha := hide (show Zk.heap[w.heap.size + 1]? = some (.cells #[.int .i64 0, .int .i64 0, .int .i64 0, .int .i64 0, .int .u8 0, .int .u8 0, .int .u8 0, .int .u8 0, .int .u8 0, .int .u8 0, .int .u8 0, .int .u8 0, .int .u8 0, .int .u8 0, .int .u8 0, .int .u8 0, .int .u8 0, .int .u8 0, .int .u8 0, .int .u8 0, .slice none 0 0] 67 (0, 0)) from set_other hZk Ha.out (by omega))
  replace Hc := hide (show Zk.heap[w.heap.size + 2]? = some (.cells #[.slice none 0 0, .int .i64 0, .slice none 0 0] 57 (0, 0)) from set_other hZk Hc.out (by omega))
  replace Ht1b := hide (show Zk.heap[w1.heap.size]? = some (.cells #[.int .i64 t1.k, .string t1.s, .int .i64 t1.n, .int .i64 t1.p] 62 (0, 0)) from set_other hZk Ht1b.out (by omega))
  replace Hs := hide (show Zk.heap[w1.heap.size + 1]? = some (.cells #[.slice L ts.length cl, .int .i64 K1, .slice A m ca] 57 (0, 0)) from set_other hZk Hs.out (by omega))
  replace Hn := hide (show Zk.heap[w1.heap.size + 1 + 1]? = some (.cells (Nd.cells (mkN 1 0 0 0) (.slice none 0 0)).toArray 67 (0, 0)) from set_nd hZk Hn.out rfl)
  have szZk := set_size hZk
  replace Hbel := hide (set_bel hZk Hbel.out (by omega))
  have HZk := hide hZk
  clear hZk
  go_wp2_with ((with_reducible refine wpList_store_row rfl 67 (.tmp 6) (.tmp 32) rfl (w1.heap.size + 1 + 1) rfl (.agg #[.int .i64 0, .int .i64 0, .int .i64 0, .int .i64 0, .int .u8 0, .int .u8 0, .int .u8 0, .int .u8 0, .int .u8 0, .int .u8 0, .int .u8 0, .int .u8 0, .int .u8 0, .int .u8 0, .int .u8 0, .int .u8 0, .int .u8 0, .int .u8 0, .int .u8 0, .int .u8 0, .slice none 0 0]) rfl _ _ HX.out rfl (by kernel_rfl) z67_one ?_); rw [← HZr.out])
  rw [← HZk.out]
  clear cz fcz cs0 cs1 cs2 ct0
  have lt_n := World.lt_of_blk Hn.out
  have lt_r := World.lt_of_blk Hs.out
  refine wp_two_chain (by kernel_rfl) rfl (by kernel_rfl) (by kernel_rfl) (by kernel_rfl) (by kernel_rfl) (by kernel_rfl) (by kernel_rfl) (by kernel_rfl) (by kernel_rfl) (fun _ _ d _ _ h => by cases d <;> exact h) rfl rfl rfl rfl rfl rfl (w.heap.size + 1) (w.heap.size + 2) (by omega) (.agg (Nd.cells (mkN 1 0 0 0) (.slice none 0 0)).toArray) (.agg #[.slice L ts.length cl, .int .i64 K1, .slice A m ca]) (fun W hW => y_load 67 (.tmp 6) rfl (w1.heap.size + 1 + 1) (by omega) (by omega) rfl 67 _ (0, 0) _ Hn.out Tryz.underlying67 rfl (by kernel_rfl) hW) (fun W hW => y_load 57 (.tmp 5) rfl (w1.heap.size + 1) (by omega) (by omega) rfl 57 _ (0, 0) _ Hs.out Tryz.underlying57 rfl (by kernel_rfl) hW) 67 (.tmp 2) (.tmp 38) rfl rfl (.agg (Nd.cells (mkN 1 0 0 0) (.slice none 0 0)).toArray) rfl 57 (.tmp 3) (.tmp 39) rfl rfl (.agg #[.slice L ts.length cl, .int .i64 K1, .slice A m ca]) rfl _ _ Ha.out rfl (by kernel_rfl) (nd_one rfl) _ _ Hc.out rfl (by kernel_rfl) (by simp [Value.cells, Value.oneCell']) ?_
  obtain ⟨q1, q2, q3⟩ := ret2_world' Hbel.out Ha.out Hc.out (Nd.cells (mkN 1 0 0 0) (.slice none 0 0)).toArray #[.slice L ts.length cl, .int .i64 K1, .slice A m ca]
  go_wp2
  refine bodyPost_ret (results_two_rows Tryz.results75 _ _ (w.heap.size + 1) (w.heap.size + 2) (Nd.cells (mkN 1 0 0 0) (.slice none 0 0)).toArray #[.slice L ts.length cl, .int .i64 K1, .slice A m ca] rfl rfl (run_loadVar_row _ _ 67 67 _ (0, 0) _ q1 Tryz.underlying67 rfl (by kernel_rfl)) (run_loadVar_row _ _ 57 57 _ (0, 0) _ q2 Tryz.underlying57 rfl (by kernel_rfl))) rfl ?_
  exact ⟨q3, (mkN 1 0 0 0), K1, rfl, rfl, PairOk.yes Hres.out HL1.out⟩
set_option maxRecDepth 100000 in
set_option maxHeartbeats 16000000 in
theorem ratom_p_ver (w : World) (L : Option Addr) (cl : Nat) (ts : List Tok) (K : Int) (A : Option Addr) (m ca : Nat) (l : List Tok) (hl : ts.length ≤ 1000000) (hK : Live ts K (some l)) (h : Toks w w.heap.size L ts) (qany : ((mustR ts K 1 { data := #[] }).1.s.toList == [97, 110, 121]) = false) (qver : ((mustR ts K 1 { data := #[] }).1.s.toList == [118, 101, 114, 115, 105, 111, 110]) = true) :
    Calls Tryz.prog 75 #[.agg #[.slice L ts.length cl, .int .i64 K, .slice A m ca]] w (PostT w L cl ts A m ca (atomF l)) := by
  have HT := hide h
  have hKr := hK.range
  obtain ⟨W0, hW0⟩ : ∃ W0, W0 = ((w.alloc (.cells #[.slice L ts.length cl, .int .i64 K, .slice A m ca] 57)).alloc (.cells #[.int .i64 0, .int .i64 0, .int .i64 0, .int .i64 0, .int .u8 0, .int .u8 0, .int .u8 0, .int .u8 0, .int .u8 0, .int .u8 0, .int .u8 0, .int .u8 0, .int .u8 0, .int .u8 0, .int .u8 0, .int .u8 0, .int .u8 0, .int .u8 0, .int .u8 0, .int .u8 0, .slice none 0 0] 67)).alloc (.cells #[.slice none 0 0, .int .i64 0, .slice none 0 0] 57) := ⟨_, rfl⟩
  have Ha := hide (show W0.heap[w.heap.size + 1]? = some (.cells #[.int .i64 0, .int .i64 0, .int .i64 0, .int .i64 0, .int .u8 0, .int .u8 0, .int .u8 0, .int .u8 0, .int .u8 0, .int .u8 0, .int .u8 0, .int .u8 0, .int .u8 0, .int .u8 0, .int .u8 0, .int .u8 0, .int .u8 0, .int .u8 0, .int .u8 0, .int .u8 0, .slice none 0 0] 67 (0, 0)) from blk_thr2 hW0)
  have Hc := hide (show W0.heap[w.heap.size + 2]? = some (.cells #[.slice none 0 0, .int .i64 0, .slice none 0 0] 57 (0, 0)) from blk_thr3 hW0)
  have szW0 := size_thr hW0
  have Hbel := hide (bel_thr hW0)
  have HW0 := hide hW0
  clear hW0
  have HK := hide hK
  clear h hK
  go_enter Tryz.func75, Tryz.ntmps75
  go_wp2_with fail
  rw [← HW0.out]
  refine Calls.mono (rmust_r W0 L cl ts K A m ca 1 _ hl hKr ((HT.out.below Hbel.out (Nat.le_refl _)).more Hbel.out.size)) ?_
  rintro e w1 ⟨t1, K1, rfl, hmt1, hb⟩
  have hK1 := mustR_range hKr 1 _ hmt1
  have Hmt1 := hide hmt1
  clear hmt1
  have lew1 := hb.size
  replace Ha := hide (show w1.heap[w.heap.size + 1]? = some (.cells #[.int .i64 0, .int .i64 0, .int .i64 0, .int .i64 0, .int .u8 0, .int .u8 0, .int .u8 0, .int .u8 0, .int .u8 0, .int .u8 0, .int .u8 0, .int .u8 0, .int .u8 0, .int .u8 0, .int .u8 0, .int .u8 0, .int .u8 0, .int .u8 0, .int .u8 0, .int .u8 0, .slice none 0 0] 67 (0, 0)) from (hb.block _ (World.lt_of_blk Ha.out)).trans Ha.out)
  replace Hc := hide (show w1.heap[w.heap.size + 2]? = some (.cells #[.slice none 0 0, .int .i64 0, .slice none 0 0] 57 (0, 0)) from (hb.block _ (World.lt_of_blk Hc.out)).trans Hc.out)
  replace Hbel := hide (Hbel.out.trans (hb.mono Hbel.out.size))
  clear hb
  rw [Hmt1.out] at qany qver
  have hat := atom_ok HK.out (by simp) Hmt1.out
  have h1z : w.heap.size + 3 ≤ w1.heap.size := by omega
  have hres : ∃ r, Live ts K1 (some r) ∧ atomF l = compareF 2 3 r := by
    rcases hat with ⟨_, _, hs⟩ | ⟨r, hr, ha⟩
    · exfalso; simp [hs] at qver
    · refine ⟨r, hr, ?_⟩; rw [ha]; simp [tAny, tVersion, tEpoch, tStage, tPoint, *]
  obtain ⟨r, hL1, hres⟩ := hres
  have HL1 := hide hL1
  have Hres := hide hres
  clear hL1 hres hat
  have qepo : (t1.s.toList == [101, 112, 111, 99, 104]) = false := by rw [eq_of_beq qver]; rfl
  obtain ⟨Z, hZ⟩ : ∃ Z, Z = ((w1.alloc (.cells #[.int .i64 t1.k, .string t1.s, .int .i64 t1.n, .int .i64 t1.p] 62)).alloc (.cells #[.slice L ts.length cl, .int .i64 K1, .slice A m ca] 57)).alloc (.cells #[.int .i64 0, .int .i64 0, .int .i64 0, .int .i64 0, .int .u8 0, .int .u8 0, .int .u8 0, .int .u8 0, .int .u8 0, .int .u8 0, .int .u8 0, .int .u8 0, .int .u8 0, .int .u8 0, .int .u8 0, .int .u8 0, .int .u8 0, .int .u8 0, .int .u8 0, .int .u8 0, .slice none 0 0] 67) := ⟨_, rfl⟩
  replace Ha := hide (show Z.heap[w.heap.size + 1]? = some (.cells #[.int .i64 0, .int .i64 0, .int .i64 0, .int .i64 0, .int .u8 0, .int .u8 0, .int .u8 0, .int .u8 0, .int .u8 0, .int .u8 0, .int .u8 0, .int .u8 0, .int .u8 0, .int .u8 0, .int .u8 0, .int .u8 0, .int .u8 0, .int .u8 0, .int .u8 0, .int .u8 0, .slice none 0 0] 67 (0, 0)) from blk_thr hZ Ha.out)
  replace Hc := hide (show Z.heap[w.heap.size + 2]? = some (.cells #[.slice none 0 0, .int .i64 0, .slice none 0 0] 57 (0, 0)) from blk_thr hZ Hc.out)
  have Ht1b := hide (show Z.heap[w1.heap.size]? = some (.cells #[.int .i64 t1.k, .string t1.s, .int .i64 t1.n, .int .i64 t1.p] 62 (0, 0)) from blk_thr1 hZ)
  have Hs := hide (show Z.heap[w1.heap.size + 1]? = some (.cells #[.slice L ts.length cl, .int .i64 K1, .slice A m ca] 57 (0, 0)) from blk_thr2 hZ)
  have Hn := hide (show Z.heap[w1.heap.size + 1 + 1]? = some (.cells (Nd.cells (mkN 0 0 0 0) (.slice none 0 0)).toArray 67 (0, 0)) from blk_thr3 hZ)
  have szZ := size_thr hZ
  replace Hbel := hide (Hbel.out.trans ((bel_thr hZ).mono Hbel.out.size))
  have HZ := hide hZ
  clear hZ
  have HX := hide (show (((w1.alloc (.cells #[.int .i64 t1.k, .string t1.s, .int .i64 t1.n, .int .i64 t1.p] 62)).alloc (.cells #[.slice L ts.length cl, .int .i64 K1, .slice A m ca] 57)).alloc (.cells #[.int .i64 0, .int .i64 0, .int .i64 0, .int .i64 0, .int .u8 0, .int .u8 0, .int .u8 0, .int .u8 0, .int .u8 0, .int .u8 0, .int .u8 0, .int .u8 0, .int .u8 0, .int .u8 0, .int .u8 0, .int .u8 0, .int .u8 0, .int .u8 0, .int .u8 0, .int .u8 0, .slice none 0 0] 67)).heap[w1.heap.size + 1 + 1]? = some (.cells #[.int .i64 0, .int .i64 0, .int .i64 0, .int .i64 0, .int .u8 0, .int .u8 0, .int .u8 0, .int .u8 0, .int .u8 0, .int .u8 0, .int .u8 0, .int .u8 0, .int .u8 0, .int .u8 0, .int .u8 0, .int .u8 0, .int .u8 0, .int .u8 0, .int .u8 0, .int .u8 0, .slice none 0 0] 67 (0, 0)) from blk_thr3 rfl)
  have HZr := hide (show Z = (((w1.alloc (.cells #[.int .i64 t1.k, .string t1.s, .int .i64 t1.n, .int .i64 t1.p] 62)).alloc (.cells #[.slice L ts.length cl, .int .i64 K1, .slice A m ca] 57)).alloc (.cells #[.int .i64 0, .int .i64 0, .int .i64 0, .int .i64 0, .int .u8 0, .int .u8 0, .int .u8 0, .int .u8 0, .int .u8 0, .int .u8 0, .int .u8 0, .int .u8 0, .int .u8 0, .int .u8 0, .int .u8 0, .int .u8 0, .int .u8 0, .int .u8 0, .int .u8 0, .int .u8 0, .slice none 0 0] 67)).setRow (w1.heap.size + 1 + 1) (Value.agg #[.int .i64 0, .int .i64 0, .int .i64 0, .int .i64 0, .int .u8 0, .int .u8 0, .int .u8 0, .int .u8 0, .int .u8 0, .int .u8 0, .int .u8 0, .int .u8 0, .int .u8 0, .int .u8 0, .int .u8 0, .int .u8 0, .int .u8 0, .int .u8 0, .int .u8 0, .int .u8 0, .slice none 0 0]).cells from HZ.out.trans (setRow_self _ _ _ _ _ HX.out).symm)
  have cs0 : Z.cell? ⟨w1.heap.size + 1, 0, none⟩ = some (.slice L ts.length cl) := blk_cell Hs.out rfl
  have cs1 : Z.cell? ⟨w1.heap.size + 1, 1, none⟩ = some (.int .i64 K1) := blk_cell Hs.out rfl
  have cs2 : Z.cell? ⟨w1.heap.size + 1, 2, none⟩ = some (.slice A m ca) := blk_cell Hs.out rfl
  have ct0 := blk_cell (i := 1) (v := .string t1.s) Ht1b.out rfl
  have cz : Z.cell? ⟨w1.heap.size + 1 + 1, 0, none⟩ = some (.int .i64 0) := blk_cell Hn.out rfl
  have fcz : Z.frozen? ⟨w1.heap.size + 1 + 1, 0, none⟩ = false := blk_froz Hn.out
  obtain ⟨Zk, hZk⟩ : ∃ Zk, Zk = Z.setCell ⟨w1.heap.size + 1 + 1, 0, none⟩ (.int .i64 2) := ⟨_, rfl⟩
  replace Ha := hide (show Zk.heap[w.heap.size + 1]? = some (.cells #[.int .i64 0, .int .i64 0, .int .i64 0, .int .i64 0, .int .u8 0, .int .u8 0, .int .u8 0, .int .u8 0, .int .u8 0, .int .u8 0, .int .u8 0, .int .u8 0, .int .u8 0, .int .u8 0, .int .u8 0, .int .u8 0, .int .u8 0, .int .u8 0, .int .u8 0, .int .u8 0, .slice none 0 0] 67 (0, 0)) from set_other hZk Ha.out (by omega))
  replace Hc := hide (show Zk.heap[w.heap.size + 2]? = some (.cells #[.slice none 0 0, .int .i64 0, .slice none 0 0] 57 (0, 0)) from set_other hZk Hc.out (by omega))
  replace Ht1b := hide (show Zk.heap[w1.heap.size]? = some (.cells #[.int .i64 t1.k, .string t1.s, .int .i64 t1.n, .int .i64 t1.p] 62 (0, 0)) from set_other hZk Ht1b.out (by omega))
  replace Hs := hide (show Zk.heap[w1.heap.size + 1]? = some (.cells #[.slice L ts.length cl, .int .i64 K1, .slice A m ca] 57 (0, 0)) from set_other hZk Hs.out (by omega))
  replace Hn := hide (show Zk.heap[w1.heap.size + 1 + 1]? = some (.cells (Nd.cells (mkN 2 0 0 0) (.slice none 0 0)).toArray 67 (0, 0)) from set_nd hZk Hn.out rfl)
  have szZk := set_size hZk
  replace Hbel := hide (set_bel hZk Hbel.out (by omega))
  have HZk := hide hZk
  clear hZk
  go_wp2_with ((with_reducible refine wpList_store_row rfl 67 (.tmp 6) (.tmp 32) rfl (w1.heap.size + 1 + 1) rfl (.agg #[.int .i64 0, .int .i64 0, .int .i64 0, .int .i64 0, .int .u8 0, .int .u8 0, .int .u8 0, .int .u8 0, .int .u8 0, .int .u8 0, .int .u8 0, .int .u8 0, .int .u8 0, .int .u8 0, .int .u8 0, .int .u8 0, .int .u8 0, .int .u8 0, .int .u8 0, .int .u8 0, .slice none 0 0]) rfl _ _ HX.out rfl (by kernel_rfl) z67_one ?_); rw [← HZr.out])
  rw [← HZk.out]
  clear cz fcz cs0 cs1 cs2 ct0
  refine Calls.mono (ris_r Zk L cl ts K1 A m ca 3 _ hl hK1 ((HT.out.below Hbel.out (Nat.le_refl _)).more Hbel.out.size)) ?_
  rintro e w2 ⟨rfl, hb⟩
  have lew2 := hb.size
  replace Ha := hide (show w2.heap[w.heap.size + 1]? = some (.cells #[.int .i64 0, .int .i64 0, .int .i64 0, .int .i64 0, .int .u8 0, .int .u8 0, .int .u8 0, .int .u8 0, .int .u8 0, .int .u8 0, .int .u8 0, .int .u8 0, .int .u8 0, .int .u8 0, .int .u8 0, .int .u8 0, .int .u8 0, .int .u8 0, .int .u8 0, .int .u8 0, .slice none 0 0] 67 (0, 0)) from (hb.block _ (World.lt_of_blk Ha.out)).trans Ha.out)
  replace Hc := hide (show w2.heap[w.heap.size + 2]? = some (.cells #[.slice none 0 0, .int .i64 0, .slice none 0 0] 57 (0, 0)) from (hb.block _ (World.lt_of_blk Hc.out)).trans Hc.out)
  replace Ht1b := hide (show w2.heap[w1.heap.size]? = some (.cells #[.int .i64 t1.k, .string t1.s, .int .i64 t1.n, .int .i64 t1.p] 62 (0, 0)) from (hb.block _ (World.lt_of_blk Ht1b.out)).trans Ht1b.out)
  replace Hs := hide (show w2.heap[w1.heap.size + 1]? = some (.cells #[.slice L ts.length cl, .int .i64 K1, .slice A m ca] 57 (0, 0)) from (hb.block _ (World.lt_of_blk Hs.out)).trans Hs.out)
  replace Hn := hide (show w2.heap[w1.heap.size + 1 + 1]? = some (.cells (Nd.cells (mkN 2 0 0 0) (.slice none 0 0)).toArray 67 (0, 0)) from (hb.block _ (World.lt_of_blk Hn.out)).trans Hn.out)
  replace Hbel := hide (Hbel.out.trans (hb.mono Hbel.out.size))
  clear hb
  cases hi : isR ts K1 3 { data := #[61, 61] } with
  | true =>
    have hir := isR_range hi
    have hK1' : -1 ≤ K1 + 1 ∧ K1 + 1 ≤ ts.length := by omega
    have Hi := hide hi
    clear hi
    have c0 : w2.cell? ⟨w1.heap.size + 1, 0, none⟩ = some (.slice L ts.length cl) := blk_cell Hs.out rfl
    have c1 : w2.cell? ⟨w1.heap.size + 1, 1, none⟩ = some (.int .i64 K1) := blk_cell Hs.out rfl
    have fc1 : w2.frozen? ⟨w1.heap.size + 1, 1, none⟩ = false := blk_froz Hs.out
    have c2 : w2.cell? ⟨w1.heap.size + 1, 2, none⟩ = some (.slice A m ca) := blk_cell Hs.out rfl
    obtain ⟨Z2, hZ2⟩ : ∃ Z2, Z2 = w2.setCell ⟨w1.heap.size + 1, 1, none⟩ (.int .i64 (K1 + 1)) := ⟨_, rfl⟩
    replace Ha := hide (show Z2.heap[w.heap.size + 1]? = some (.cells #[.int .i64 0, .int .i64 0, .int .i64 0, .int .i64 0, .int .u8 0, .int .u8 0, .int .u8 0, .int .u8 0, .int .u8 0, .int .u8 0, .int .u8 0, .int .u8 0, .int .u8 0, .int .u8 0, .int .u8 0, .int .u8 0, .int .u8 0, .int .u8 0, .int .u8 0, .int .u8 0, .slice none 0 0] 67 (0, 0)) from set_other hZ2 Ha.out (by omega))
    replace Hc := hide (show Z2.heap[w.heap.size + 2]? = some (.cells #[.slice none 0 0, .int .i64 0, .slice none 0 0] 57 (0, 0)) from set_other hZ2 Hc.out (by omega))
    replace Ht1b := hide (show Z2.heap[w1.heap.size]? = some (.cells #[.int .i64 t1.k, .string t1.s, .int .i64 t1.n, .int .i64 t1.p] 62 (0, 0)) from set_other hZ2 Ht1b.out (by omega))
    replace Hs := hide (show Z2.heap[w1.heap.size + 1]? = some (.cells #[.slice L ts.length cl, .int .i64 (K1 + 1), .slice A m ca] 57 (0, 0)) from set_rs hZ2 Hs.out)
    replace Hn := hide (show Z2.heap[w1.heap.size + 1 + 1]? = some (.cells (Nd.cells (mkN 2 0 0 0) (.slice none 0 0)).toArray 67 (0, 0)) from set_other hZ2 Hn.out (by omega))
    have szZ2 := set_size hZ2
    replace Hbel := hide (set_bel hZ2 Hbel.out (by omega))
    have HZ2 := hide hZ2
    clear hZ2
    go_wp2_with fail
    rw [← HZ2.out]
    clear c0 c1 fc1 c2
    refine Calls.mono (rmust_r Z2 L cl ts (K1 + 1) A m ca 2 _ hl hK1' ((HT.out.below Hbel.out (Nat.le_refl _)).more Hbel.out.size)) ?_
    rintro e w3 ⟨t3, K3, rfl, hmt3, hb⟩
    have hK3 := mustR_range hK1' 2 _ hmt3
    have Hmt3 := hide hmt3
    clear hmt3
    have lew3 := hb.size
    replace Ha := hide (show w3.heap[w.heap.size + 1]? = some (.cells #[.int .i64 0, .int .i64 0, .int .i64 0, .int .i64 0, .int .u8 0, .int .u8 0, .int .u8 0, .int .u8 0, .int .u8 0, .int .u8 0, .int .u8 0, .int .u8 0, .int .u8 0, .int .u8 0, .int .u8 0, .int .u8 0, .int .u8 0, .int .u8 0, .int .u8 0, .int .u8 0, .slice none 0 0] 67 (0, 0)) from (hb.block _ (World.lt_of_blk Ha.out)).trans Ha.out)
    replace Hc := hide (show w3.heap[w.heap.size + 2]? = some (.cells #[.slice none 0 0, .int .i64 0, .slice none 0 0] 57 (0, 0)) from (hb.block _ (World.lt_of_blk Hc.out)).trans Hc.out)
    replace Ht1b := hide (show w3.heap[w1.heap.size]? = some (.cells #[.int .i64 t1.k, .string t1.s, .int .i64 t1.n, .int .i64 t1.p] 62 (0, 0)) from (hb.block _ (World.lt_of_blk Ht1b.out)).trans Ht1b.out)
    replace Hs := hide (show w3.heap[w1.heap.size + 1]? = some (.cells #[.slice L ts.length cl, .int .i64 (K1 + 1), .slice A m ca] 57 (0, 0)) from (hb.block _ (World.lt_of_blk Hs.out)).trans Hs.out)
    replace Hn := hide (show w3.heap[w1.heap.size + 1 + 1]? = some (.cells (Nd.cells (mkN 2 0 0 0) (.slice none 0 0)).toArray 67 (0, 0)) from (hb.block _ (World.lt_of_blk Hn.out)).trans Hn.out)
    replace Hbel := hide (Hbel.out.trans (hb.mono Hbel.out.size))
    clear hb
    have c0 : w3.cell? ⟨w1.heap.size + 1 + 1, 1, none⟩ = some (.int .i64 0) := blk_cell Hn.out rfl
    have fc0 : w3.frozen? ⟨w1.heap.size + 1 + 1, 1, none⟩ = false := blk_froz Hn.out
    have ltn : w1.heap.size + 1 + 1 < w3.heap.size := World.lt_of_blk Hn.out
    have ltn' : w1.heap.size + 1 + 1 < w3.heap.size + 1 := by omega
    obtain ⟨Z3, hZ3⟩ : ∃ Z3, Z3 = w3.setCell ⟨w1.heap.size + 1 + 1, 1, none⟩ (.int .i64 t3.n) := ⟨_, rfl⟩
    replace Ha := hide (show Z3.heap[w.heap.size + 1]? = some (.cells #[.int .i64 0, .int .i64 0, .int .i64 0, .int .i64 0, .int .u8 0, .int .u8 0, .int .u8 0, .int .u8 0, .int .u8 0, .int .u8 0, .int .u8 0, .int .u8 0, .int .u8 0, .int .u8 0, .int .u8 0, .int .u8 0, .int .u8 0, .int .u8 0, .int .u8 0, .int .u8 0, .slice none 0 0] 67 (0, 0)) from set_other hZ3 Ha.out (by omega))
    replace Hc := hide (show Z3.heap[w.heap.size + 2]? = some (.cells #[.slice none 0 0, .int .i64 0, .slice none 0 0] 57 (0, 0)) from set_other hZ3 Hc.out (by omega))
    replace Ht1b := hide (show Z3.heap[w1.heap.size]? = some (.cells #[.int .i64 t1.k, .string t1.s, .int .i64 t1.n, .int .i64 t1.p] 62 (0, 0)) from set_other hZ3 Ht1b.out (by omega))
    replace Hs := hide (show Z3.heap[w1.heap.size + 1]? = some (.cells #[.slice L ts.length cl, .int .i64 (K1 + 1), .slice A m ca] 57 (0, 0)) from set_other hZ3 Hs.out (by omega))
    replace Hn := hide (show Z3.heap[w1.heap.size + 1 + 1]? = some (.cells (Nd.cells (mkN 2 t3.n 0 0) (.slice none 0 0)).toArray 67 (0, 0)) from set_nd hZ3 Hn.out rfl)
    have szZ3 := set_size hZ3
    replace Hbel := hide (set_bel hZ3 Hbel.out (by omega))
    have HZ3 := hide hZ3
    clear hZ3
    obtain ⟨Y3, hY3⟩ : ∃ Y3, Y3 = (Z3.alloc (.cells #[.int .i64 t3.k, .string t3.s, .int .i64 t3.n, .int .i64 t3.p] 62)).alloc (.cells #[.slice L ts.length cl, .int .i64 K3, .slice A m ca] 57) := ⟨_, rfl⟩
    replace Ha := hide (show Y3.heap[w.heap.size + 1]? = some (.cells #[.int .i64 0, .int .i64 0, .int .i64 0, .int .i64 0, .int .u8 0, .int .u8 0, .int .u8 0, .int .u8 0, .int .u8 0, .int .u8 0, .int .u8 0, .int .u8 0, .int .u8 0, .int .u8 0, .int .u8 0, .int .u8 0, .int .u8 0, .int .u8 0, .int .u8 0, .int .u8 0, .slice none 0 0] 67 (0, 0)) from blk_two hY3 Ha.out)
    replace Hc := hide (show Y3.heap[w.heap.size + 2]? = some (.cells #[.slice none 0 0, .int .i64 0, .slice none 0 0] 57 (0, 0)) from blk_two hY3 Hc.out)
    replace Ht1b := hide (show Y3.heap[w1.heap.size]? = some (.cells #[.int .i64 t1.k, .string t1.s, .int .i64 t1.n, .int .i64 t1.p] 62 (0, 0)) from blk_two hY3 Ht1b.out)
    replace Hs := hide (show Y3.heap[w1.heap.size + 1]? = some (.cells #[.slice L ts.length cl, .int .i64 (K1 + 1), .slice A m ca] 57 (0, 0)) from blk_two hY3 Hs.out)
    replace Hn := hide (show Y3.heap[w1.heap.size + 1 + 1]? = some (.cells (Nd.cells (mkN 2 t3.n 0 0) (.slice none 0 0)).toArray 67 (0, 0)) from blk_two hY3 Hn.out)
    have Hr := hide (show Y3.heap[w3.heap.size + 1]? = some (.cells #[.slice L ts.length cl, .int .i64 K3, .slice A m ca] 57 (0, 0)) from (by rw [← szZ3]; exact blk_two2 hY3))
    have szY3 : Y3.heap.size = w3.heap.size + 2 := (by rw [← szZ3]; exact size_two hY3)
    replace Hbel := hide (Hbel.out.trans ((bel_two hY3).mono Hbel.out.size))
    have HY3 := hide hY3
    clear hY3
    go_wp2_with fail
    rw [← HZ3.out]
    rw [← HY3.out]
    clear c0 fc0
    have lt_n := World.lt_of_blk Hn.out
    have lt_r := World.lt_of_blk Hr.out
    refine wp_two_chain (by kernel_rfl) rfl (by kernel_rfl) (by kernel_rfl) (by kernel_rfl) (by kernel_rfl) (by kernel_rfl) (by kernel_rfl) (by kernel_rfl) (by kernel_rfl) (fun _ _ d _ _ h => by cases d <;> exact h) rfl rfl rfl rfl rfl rfl (w.heap.size + 1) (w.heap.size + 2) (by omega) (.agg (Nd.cells (mkN 2 t3.n 0 0) (.slice none 0 0)).toArray) (.agg #[.slice L ts.length cl, .int .i64 K3, .slice A m ca]) (fun W hW => y_load 67 (.tmp 6) rfl (w1.heap.size + 1 + 1) (by omega) (by omega) rfl 67 _ (0, 0) _ Hn.out Tryz.underlying67 rfl (by kernel_rfl) hW) (fun W hW => y_load 57 (.tmp 11) rfl (w3.heap.size + 1) (by omega) (by omega) rfl 57 _ (0, 0) _ Hr.out Tryz.underlying57 rfl (by kernel_rfl) hW) 67 (.tmp 2) (.tmp 73) rfl rfl (.agg (Nd.cells (mkN 2 t3.n 0 0) (.slice none 0 0)).toArray) rfl 57 (.tmp 3) (.tmp 74) rfl rfl (.agg #[.slice L ts.length cl, .int .i64 K3, .slice A m ca]) rfl _ _ Ha.out rfl (by kernel_rfl) (nd_one rfl) _ _ Hc.out rfl (by kernel_rfl) (by simp [Value.cells, Value.oneCell']) ?_
    obtain ⟨q1, q2, q3⟩ := ret2_world' Hbel.out Ha.out Hc.out (Nd.cells (mkN 2 t3.n 0 0) (.slice none 0 0)).toArray #[.slice L ts.length cl, .int .i64 K3, .slice A m ca]
    go_wp2
    refine bodyPost_ret (results_two_rows Tryz.results75 _ _ (w.heap.size + 1) (w.heap.size + 2) (Nd.cells (mkN 2 t3.n 0 0) (.slice none 0 0)).toArray #[.slice L ts.length cl, .int .i64 K3, .slice A m ca] rfl rfl (run_loadVar_row _ _ 67 67 _ (0, 0) _ q1 Tryz.underlying67 rfl (by kernel_rfl)) (run_loadVar_row _ _ 57 57 _ (0, 0) _ q2 Tryz.underlying57 rfl (by kernel_rfl))) rfl ?_
    exact ⟨q3, (mkN 2 t3.n 0 0), K3, rfl, rfl, (by rw [Hres.out]; exact cmp_eq HL1.out (by simp) (by simp) Hi.out Hmt3.out 2 3)⟩
  | false =>
    have Hi := hide hi
    clear hi
    have c0 : w2.cell? ⟨w1.heap.size + 1, 0, none⟩ = some (.slice L ts.length cl) := blk_cell Hs.out rfl
    have c1 : w2.cell? ⟨w1.heap.size + 1, 1, none⟩ = some (.int .i64 K1) := blk_cell Hs.out rfl
    have c2 : w2.cell? ⟨w1.heap.size + 1, 2, none⟩ = some (.slice A m ca) := blk_cell Hs.out rfl
    go_wp2_with fail
    clear c0 c1 c2
    refine Calls.mono (rmust_r w2 L cl ts K1 A m ca 3 _ hl hK1 ((HT.out.below Hbel.out (Nat.le_refl _)).more Hbel.out.size)) ?_
    rintro e w3 ⟨t3, K3, rfl, hmt3, hb⟩
    have hK3 := mustR_range hK1 3 _ hmt3
    have Hmt3 := hide hmt3
    clear hmt3
    have lew3 := hb.size
    replace Ha := hide (show w3.heap[w.heap.size + 1]? = some (.cells #[.int .i64 0, .int .i64 0, .int .i64 0, .int .i64 0, .int .u8 0, .int .u8 0, .int .u8 0, .int .u8 0, .int .u8 0, .int .u8 0, .int .u8 0, .int .u8 0, .int .u8 0, .int .u8 0, .int .u8 0, .int .u8 0, .int .u8 0, .int .u8 0, .int .u8 0, .int .u8 0, .slice none 0 0] 67 (0, 0)) from (hb.block _ (World.lt_of_blk Ha.out)).trans Ha.out)
    replace Hc := hide (show w3.heap[w.heap.size + 2]? = some (.cells #[.slice none 0 0, .int .i64 0, .slice none 0 0] 57 (0, 0)) from (hb.block _ (World.lt_of_blk Hc.out)).trans Hc.out)
    replace Ht1b := hide (show w3.heap[w1.heap.size]? = some (.cells #[.int .i64 t1.k, .string t1.s, .int .i64 t1.n, .int .i64 t1.p] 62 (0, 0)) from (hb.block _ (World.lt_of_blk Ht1b.out)).trans Ht1b.out)
    replace Hs := hide (show w3.heap[w1.heap.size + 1]? = some (.cells #[.slice L ts.length cl, .int .i64 K1, .slice A m ca] 57 (0, 0)) from (hb.block _ (World.lt_of_blk Hs.out)).trans Hs.out)
    replace Hn := hide (show w3.heap[w1.heap.size + 1 + 1]? = some (.cells (Nd.cells (mkN 2 0 0 0) (.slice none 0 0)).toArray 67 (0, 0)) from (hb.block _ (World.lt_of_blk Hn.out)).trans Hn.out)
    replace Hbel := hide (Hbel.out.trans (hb.mono Hbel.out.size))
    clear hb
    obtain ⟨Y3, hY3⟩ : ∃ Y3, Y3 = (w3.alloc (.cells #[.int .i64 t3.k, .string t3.s, .int .i64 t3.n, .int .i64 t3.p] 62)).alloc (.cells #[.slice L ts.length cl, .int .i64 K3, .slice A m ca] 57) := ⟨_, rfl⟩
    replace Ha := hide (show Y3.heap[w.heap.size + 1]? = some (.cells #[.int .i64 0, .int .i64 0, .int .i64 0, .int .i64 0, .int .u8 0, .int .u8 0, .int .u8 0, .int .u8 0, .int .u8 0, .int .u8 0, .int .u8 0, .int .u8 0, .int .u8 0, .int .u8 0, .int .u8 0, .int .u8 0, .int .u8 0, .int .u8 0, .int .u8 0, .int .u8 0, .slice none 0 0] 67 (0, 0)) from blk_two hY3 Ha.out)
    replace Hc := hide (show Y3.heap[w.heap.size + 2]? = some (.cells #[.slice none 0 0, .int .i64 0, .slice none 0 0] 57 (0, 0)) from blk_two hY3 Hc.out)
    replace Ht1b := hide (show Y3.heap[w1.heap.size]? = some (.cells #[.int .i64 t1.k, .string t1.s, .int .i64 t1.n, .int .i64 t1.p] 62 (0, 0)) from blk_two hY3 Ht1b.out)
    replace Hs := hide (show Y3.heap[w1.heap.size + 1]? = some (.cells #[.slice L ts.length cl, .int .i64 K1, .slice A m ca] 57 (0, 0)) from blk_two hY3 Hs.out)
    replace Hn := hide (show Y3.heap[w1.heap.size + 1 + 1]? = some (.cells (Nd.cells (mkN 2 0 0 0) (.slice none 0 0)).toArray 67 (0, 0)) from blk_two hY3 Hn.out)
    have Hr := hide (show Y3.heap[w3.heap.size + 1]? = some (.cells #[.slice L ts.length cl, .int .i64 K3, .slice A m ca] 57 (0, 0)) from blk_two2 hY3)
    have szY3 : Y3.heap.size = w3.heap.size + 2 := size_two hY3
    replace Hbel := hide (Hbel.out.trans ((bel_two hY3).mono Hbel.out.size))
    have HY3 := hide hY3
    clear hY3
    have HX := hide Hs.out
    rw [HY3.out] at HX
    obtain ⟨Z3, hZ3⟩ : ∃ Z3, Z3 = Y3.setRow (w1.heap.size + 1) (Value.agg #[.slice L ts.length cl, .int .i64 K3, .slice A m ca]).cells := ⟨_, rfl⟩
    replace Ha := hide (show Z3.heap[w.heap.size + 1]? = some (.cells #[.int .i64 0, .int .i64 0, .int .i64 0, .int .i64 0, .int .u8 0, .int .u8 0, .int .u8 0, .int .u8 0, .int .u8 0, .int .u8 0, .int .u8 0, .int .u8 0, .int .u8 0, .int .u8 0, .int .u8 0, .int .u8 0, .int .u8 0, .int .u8 0, .int .u8 0, .int .u8 0, .slice none 0 0] 67 (0, 0)) from row_other hZ3 Ha.out (by omega))
    replace Hc := hide (show Z3.heap[w.heap.size + 2]? = some (.cells #[.slice none 0 0, .int .i64 0, .slice none 0 0] 57 (0, 0)) from row_other hZ3 Hc.out (by omega))
    replace Ht1b := hide (show Z3.heap[w1.heap.size]? = some (.cells #[.int .i64 t1.k, .string t1.s, .int .i64 t1.n, .int .i64 t1.p] 62 (0, 0)) from row_other hZ3 Ht1b.out (by omega))
    replace Hs := hide (show Z3.heap[w1.heap.size + 1]? = some (.cells #[.slice L ts.length cl, .int .i64 K3, .slice A m ca] 57 (0, 0)) from row_at hZ3 Hs.out)
    replace Hn := hide (show Z3.heap[w1.heap.size + 1 + 1]? = some (.cells (Nd.cells (mkN 2 0 0 0) (.slice none 0 0)).toArray 67 (0, 0)) from row_other hZ3 Hn.out (by omega))
    replace Hr := hide (show Z3.heap[w3.heap.size + 1]? = some (.cells #[.slice L ts.length cl, .int .i64 K3, .slice A m ca] 57 (0, 0)) from row_other hZ3 Hr.out (by omega))
    have szZ3 := row_size hZ3
    replace Hbel := hide (row_bel hZ3 Hbel.out (by omega))
    have HZ3 := hide hZ3
    clear hZ3
    have c0 : Z3.cell? ⟨w1.heap.size + 1 + 1, 0, none⟩ = some (.int .i64 2) := blk_cell Hn.out rfl
    have fc0 : Z3.frozen? ⟨w1.heap.size + 1 + 1, 0, none⟩ = false := blk_froz Hn.out
    have c3 : Z3.cell? ⟨w1.heap.size + 1, 0, none⟩ = some (.slice L ts.length cl) := blk_cell Hs.out rfl
    have c1 : Z3.cell? ⟨w1.heap.size + 1, 1, none⟩ = some (.int .i64 K3) := blk_cell Hs.out rfl
    have c2 : Z3.cell? ⟨w1.heap.size + 1, 2, none⟩ = some (.slice A m ca) := blk_cell Hs.out rfl
    obtain ⟨Z4, hZ4⟩ : ∃ Z4, Z4 = Z3.setCell ⟨w1.heap.size + 1 + 1, 0, none⟩ (.int .i64 3) := ⟨_, rfl⟩
    replace Ha := hide (show Z4.heap[w.heap.size + 1]? = some (.cells #[.int .i64 0, .int .i64 0, .int .i64 0, .int .i64 0, .int .u8 0, .int .u8 0, .int .u8 0, .int .u8 0, .int .u8 0, .int .u8 0, .int .u8 0, .int .u8 0, .int .u8 0, .int .u8 0, .int .u8 0, .int .u8 0, .int .u8 0, .int .u8 0, .int .u8 0, .int .u8 0, .slice none 0 0] 67 (0, 0)) from set_other hZ4 Ha.out (by omega))
    replace Hc := hide (show Z4.heap[w.heap.size + 2]? = some (.cells #[.slice none 0 0, .int .i64 0, .slice none 0 0] 57 (0, 0)) from set_other hZ4 Hc.out (by omega))
    replace Ht1b := hide (show Z4.heap[w1.heap.size]? = some (.cells #[.int .i64 t1.k, .string t1.s, .int .i64 t1.n, .int .i64 t1.p] 62 (0, 0)) from set_other hZ4 Ht1b.out (by omega))
    replace Hs := hide (show Z4.heap[w1.heap.size + 1]? = some (.cells #[.slice L ts.length cl, .int .i64 K3, .slice A m ca] 57 (0, 0)) from set_other hZ4 Hs.out (by omega))
    replace Hn := hide (show Z4.heap[w1.heap.size + 1 + 1]? = some (.cells (Nd.cells (mkN 3 0 0 0) (.slice none 0 0)).toArray 67 (0, 0)) from set_nd hZ4 Hn.out rfl)
    replace Hr := hide (show Z4.heap[w3.heap.size + 1]? = some (.cells #[.slice L ts.length cl, .int .i64 K3, .slice A m ca] 57 (0, 0)) from set_other hZ4 Hr.out (by omega))
    have szZ4 := set_size hZ4
    replace Hbel := hide (set_bel hZ4 Hbel.out (by omega))
    have HZ4 := hide hZ4
    clear hZ4
    go_wp2_with (first
      | (with_reducible refine wpList_store_row rfl 57 (.tmp 5) (.tmp 60) rfl (w1.heap.size + 1) rfl (.agg #[.slice L ts.length cl, .int .i64 K3, .slice A m ca]) rfl _ _ HX.out rfl (by kernel_rfl) (by simp [Value.cells, Value.oneCell']) ?_; rw [← HY3.out, ← HZ3.out]))
    rw [← HZ4.out]
    clear c0 fc0 c1 c2 c3
    refine Calls.mono (rmust_r Z4 L cl ts K3 A m ca 2 _ hl hK3 ((HT.out.below Hbel.out (Nat.le_refl _)).more Hbel.out.size)) ?_
    rintro e w5 ⟨t5, K5, rfl, hmt5, hb⟩
    have hK5 := mustR_range hK3 2 _ hmt5
    have Hmt5 := hide hmt5
    clear hmt5
    have lew5 := hb.size
    replace Ha := hide (show w5.heap[w.heap.size + 1]? = some (.cells #[.int .i64 0, .int .i64 0, .int .i64 0, .int .i64 0, .int .u8 0, .int .u8 0, .int .u8 0, .int .u8 0, .int .u8 0, .int .u8 0, .int .u8 0, .int .u8 0, .int .u8 0, .int .u8 0, .int .u8 0, .int .u8 0, .int .u8 0, .int .u8 0, .int .u8 0, .int .u8 0, .slice none 0 0] 67 (0, 0)) from (hb.block _ (World.lt_of_blk Ha.out)).trans Ha.out)
    replace Hc := hide (show w5.heap[w.heap.size + 2]? = some (.cells #[.slice none 0 0, .int .i64 0, .slice none 0 0] 57 (0, 0)) from (hb.block _ (World.lt_of_blk Hc.out)).trans Hc.out)
    replace Ht1b := hide (show w5.heap[w1.heap.size]? = some (.cells #[.int .i64 t1.k, .string t1.s, .int .i64 t1.n, .int .i64 t1.p] 62 (0, 0)) from (hb.block _ (World.lt_of_blk Ht1b.out)).trans Ht1b.out)
    replace Hs := hide (show w5.heap[w1.heap.size + 1]? = some (.cells #[.slice L ts.length cl, .int .i64 K3, .slice A m ca] 57 (0, 0)) from (hb.block _ (World.lt_of_blk Hs.out)).trans Hs.out)
    replace Hn := hide (show w5.heap[w1.heap.size + 1 + 1]? = some (.cells (Nd.cells (mkN 3 0 0 0) (.slice none 0 0)).toArray 67 (0, 0)) from (hb.block _ (World.lt_of_blk Hn.out)).trans Hn.out)
    replace Hr := hide (show w5.heap[w3.heap.size + 1]? = some (.cells #[.slice L ts.length cl, .int .i64 K3, .slice A m ca] 57 (0, 0)) from (hb.block _ (World.lt_of_blk Hr.out)).trans Hr.out)
    replace Hbel := hide (Hbel.out.trans (hb.mono Hbel.out.size))
    clear hb
    have c0 : w5.cell? ⟨w1.heap.size + 1 + 1, 1, none⟩ = some (.int .i64 0) := blk_cell Hn.out rfl
    have fc0 : w5.frozen? ⟨w1.heap.size + 1 + 1, 1, none⟩ = false := blk_froz Hn.out
    have ltn : w1.heap.size + 1 + 1 < w5.heap.size := World.lt_of_blk Hn.out
    have ltn' : w1.heap.size + 1 + 1 < w5.heap.size + 1 := by omega
    obtain ⟨Z5, hZ5⟩ : ∃ Z5, Z5 = w5.setCell ⟨w1.heap.size + 1 + 1, 1, none⟩ (.int .i64 t5.n) := ⟨_, rfl⟩
    replace Ha := hide (show Z5.heap[w.heap.size + 1]? = some (.cells #[.int .i64 0, .int .i64 0, .int .i64 0, .int .i64 0, .int .u8 0, .int .u8 0, .int .u8 0, .int .u8 0, .int .u8 0, .int .u8 0, .int .u8 0, .int .u8 0, .int .u8 0, .int .u8 0, .int .u8 0, .int .u8 0, .int .u8 0, .int .u8 0, .int .u8 0, .int .u8 0, .slice none 0 0] 67 (0, 0)) from set_other hZ5 Ha.out (by omega))
    replace Hc := hide (show Z5.heap[w.heap.size + 2]? = some (.cells #[.slice none 0 0, .int .i64 0, .slice none 0 0] 57 (0, 0)) from set_other hZ5 Hc.out (by omega))
    replace Ht1b := hide (show Z5.heap[w1.heap.size]? = some (.cells #[.int .i64 t1.k, .string t1.s, .int .i64 t1.n, .int .i64 t1.p] 62 (0, 0)) from set_other hZ5 Ht1b.out (by omega))
    replace Hs := hide (show Z5.heap[w1.heap.size + 1]? = some (.cells #[.slice L ts.length cl, .int .i64 K3, .slice A m ca] 57 (0, 0)) from set_other hZ5 Hs.out (by omega))
    replace Hn := hide (show Z5.heap[w1.heap.size + 1 + 1]? = some (.cells (Nd.cells (mkN 3 t5.n 0 0) (.slice none 0 0)).toArray 67 (0, 0)) from set_nd hZ5 Hn.out rfl)
    replace Hr := hide (show Z5.heap[w3.heap.size + 1]? = some (.cells #[.slice L ts.length cl, .int .i64 K3, .slice A m ca] 57 (0, 0)) from set_other hZ5 Hr.out (by omega))
    have szZ5 := set_size hZ5
    replace Hbel := hide (set_bel hZ5 Hbel.out (by omega))
    have HZ5 := hide hZ5
    clear hZ5
    obtain ⟨Y5, hY5⟩ : ∃ Y5, Y5 = (Z5.alloc (.cells #[.int .i64 t5.k, .string t5.s, .int .i64 t5.n, .int .i64 t5.p] 62)).alloc (.cells #[.slice L ts.length cl, .int .i64 K5, .slice A m ca] 57) := ⟨_, rfl⟩
    replace Ha := hide (show Y5.heap[w.heap.size + 1]? = some (.cells #[.int .i64 0, .int .i64 0, .int .i64 0, .int .i64 0, .int .u8 0, .int .u8 0, .int .u8 0, .int .u8 0, .int .u8 0, .int .u8 0, .int .u8 0, .int .u8 0, .int .u8 0, .int .u8 0, .int .u8 0, .int .u8 0, .int .u8 0, .int .u8 0, .int .u8 0, .int .u8 0, .slice none 0 0] 67 (0, 0)) from blk_two hY5 Ha.out)
    replace Hc := hide (show Y5.heap[w.heap.size + 2]? = some (.cells #[.slice none 0 0, .int .i64 0, .slice none 0 0] 57 (0, 0)) from blk_two hY5 Hc.out)
    replace Ht1b := hide (show Y5.heap[w1.heap.size]? = some (.cells #[.int .i64 t1.k, .string t1.s, .int .i64 t1.n, .int .i64 t1.p] 62 (0, 0)) from blk_two hY5 Ht1b.out)
    replace Hs := hide (show Y5.heap[w1.heap.size + 1]? = some (.cells #[.slice L ts.length cl, .int .i64 K3, .slice A m ca] 57 (0, 0)) from blk_two hY5 Hs.out)
    replace Hn := hide (show Y5.heap[w1.heap.size + 1 + 1]? = some (.cells (Nd.cells (mkN 3 t5.n 0 0) (.slice none 0 0)).toArray 67 (0, 0)) from blk_two hY5 Hn.out)
    replace Hr := hide (show Y5.heap[w3.heap.size + 1]? = some (.cells #[.slice L ts.length cl, .int .i64 K3, .slice A m ca] 57 (0, 0)) from blk_two hY5 Hr.out)
    replace Hr := hide (show Y5.heap[w5.heap.size + 1]? = some (.cells #[.slice L ts.length cl, .int .i64 K5, .slice A m ca] 57 (0, 0)) from (by rw [← szZ5]; exact blk_two2 hY5))
    have szY5 : Y5.heap.size = w5.heap.size + 2 := (by rw [← szZ5]; exact size_two hY5)
    replace Hbel := hide (Hbel.out.trans ((bel_two hY5).mono Hbel.out.size))
    have HY5 := hide hY5
    clear hY5
    go_wp2_with fail
    rw [← HZ5.out]
    rw [← HY5.out]
    clear c0 fc0
    have lt_n := World.lt_of_blk Hn.out
    have lt_r := World.lt_of_blk Hr.out
    refine wp_two_chain (by kernel_rfl) rfl (by kernel_rfl) (by kernel_rfl) (by kernel_rfl) (by kernel_rfl) (by kernel_rfl) (by kernel_rfl) (by kernel_rfl) (by kernel_rfl) (fun _ _ d _ _ h => by cases d <;> exact h) rfl rfl rfl rfl rfl rfl (w.heap.size + 1) (w.heap.size + 2) (by omega) (.agg (Nd.cells (mkN 3 t5.n 0 0) (.slice none 0 0)).toArray) (.agg #[.slice L ts.length cl, .int .i64 K5, .slice A m ca]) (fun W hW => y_load 67 (.tmp 6) rfl (w1.heap.size + 1 + 1) (by omega) (by omega) rfl 67 _ (0, 0) _ Hn.out Tryz.underlying67 rfl (by kernel_rfl) hW) (fun W hW => y_load 57 (.tmp 11) rfl (w5.heap.size + 1) (by omega) (by omega) rfl 57 _ (0, 0) _ Hr.out Tryz.underlying57 rfl (by kernel_rfl) hW) 67 (.tmp 2) (.tmp 73) rfl rfl (.agg (Nd.cells (mkN 3 t5.n 0 0) (.slice none 0 0)).toArray) rfl 57 (.tmp 3) (.tmp 74) rfl rfl (.agg #[.slice L ts.length cl, .int .i64 K5, .slice A m ca]) rfl _ _ Ha.out rfl (by kernel_rfl) (nd_one rfl) _ _ Hc.out rfl (by kernel_rfl) (by simp [Value.cells, Value.oneCell']) ?_
    obtain ⟨q1, q2, q3⟩ := ret2_world' Hbel.out Ha.out Hc.out (Nd.cells (mkN 3 t5.n 0 0) (.slice none 0 0)).toArray #[.slice L ts.length cl, .int .i64 K5, .slice A m ca]
    go_wp2
    refine bodyPost_ret (results_two_rows Tryz.results75 _ _ (w.heap.size + 1) (w.heap.size + 2) (Nd.cells (mkN 3 t5.n 0 0) (.slice none 0 0)).toArray #[.slice L ts.length cl, .int .i64 K5, .slice A m ca] rfl rfl (run_loadVar_row _ _ 67 67 _ (0, 0) _ q1 Tryz.underlying67 rfl (by kernel_rfl)) (run_loadVar_row _ _ 57 57 _ (0, 0) _ q2 Tryz.underlying57 rfl (by kernel_rfl))) rfl ?_
    exact ⟨q3, (mkN 3 t5.n 0 0), K5, rfl, rfl, (by rw [Hres.out]; exact cmp_ge HL1.out (by simp) (by simp) (by simp) Hi.out Hmt3.out Hmt5.out 2 3)⟩
set_option maxRecDepth 100000 in
set_option maxHeartbeats 16000000 in
theorem ratom_p_epo (w : World) (L : Option Addr) (cl : Nat) (ts : List Tok) (K : Int) (A : Option Addr) (m ca : Nat) (l : List Tok) (hl : ts.length ≤ 1000000) (hK : Live ts K (some l)) (h : Toks w w.heap.size L ts) (qany : ((mustR ts K 1 { data := #[] }).1.s.toList == [97, 110, 121]) = false) (qver : ((mustR ts K 1 { data := #[] }).1.s.toList == [118, 101, 114, 115, 105, 111, 110]) = false) (qepo : ((mustR ts K 1 { data := #[] }).1.s.toList == [101, 112, 111, 99, 104]) = true) :
    Calls Tryz.prog 75 #[.agg #[.slice L ts.length cl, .int .i64 K, .slice A m ca]] w (PostT w L cl ts A m ca (atomF l)) := by
  have HT := hide h
  have hKr := hK.range
  obtain ⟨W0, hW0⟩ : ∃ W0, W0 = ((w.alloc (.cells #[.slice L ts.length cl, .int .i64 K, .slice A m ca] 57)).alloc (.cells #[.int .i64 0, .int .i64 0, .int .i64 0, .int .i64 0, .int .u8 0, .int .u8 0, .int .u8 0, .int .u8 0, .int .u8 0, .int .u8 0, .int .u8 0, .int .u8 0, .int .u8 0, .int .u8 0, .int .u8 0, .int .u8 0, .int .u8 0, .int .u8 0, .int .u8 0, .int .u8 0, .slice none 0 0] 67)).alloc (.cells #[.slice none 0 0, .int .i64 0, .slice none 0 0] 57) := ⟨_, rfl⟩
  have Ha := hide (show W0.heap[w.heap.size + 1]? = some (.cells #[.int .i64 0, .int .i64 0, .int .i64 0, .int .i64 0, .int .u8 0, .int .u8 0, .int .u8 0, .int .u8 0, .int .u8 0, .int .u8 0, .int .u8 0, .int .u8 0, .int .u8 0, .int .u8 0, .int .u8 0, .int .u8 0, .int .u8 0, .int .u8 0, .int .u8 0, .int .u8 0, .slice none 0 0] 67 (0, 0)) from blk_thr2 hW0)
  have Hc := hide (show W0.heap[w.heap.size + 2]? = some (.cells #[.slice none 0 0, .int .i64 0, .slice none 0 0] 57 (0, 0)) from blk_thr3 hW0)
  have szW0 := size_thr hW0
  have Hbel := hide (bel_thr hW0)
  have HW0 := hide hW0
  clear hW0
  have HK := hide hK
  clear h hK
  go_enter Tryz.func75, Tryz.ntmps75
  go_wp2_with fail
  rw [← HW0.out]
  refine Calls.mono (rmust_r W0 L cl ts K A m ca 1 _ hl hKr ((HT.out.below Hbel.out (Nat.le_refl _)).more Hbel.out.size)) ?_
  rintro e w1 ⟨t1, K1, rfl, hmt1, hb⟩
  have hK1 := mustR_range hKr 1 _ hmt1
  have Hmt1 := hide hmt1
  clear hmt1
  have lew1 := hb.size
  replace Ha := hide (show w1.heap[w.heap.size + 1]? = some (.cells #[.int .i64 0, .int .i64 0, .int .i64 0, .int .i64 0, .int .u8 0, .int .u8 0, .int .u8 0, .int .u8 0, .int .u8 0, .int .u8 0, .int .u8 0, .int .u8 0, .int .u8 0, .int .u8 0, .int .u8 0, .int .u8 0, .int .u8 0, .int .u8 0, .int .u8 0, .int .u8 0, .slice none 0 0] 67 (0, 0)) from (hb.block _ (World.lt_of_blk Ha.out)).trans Ha.out)
  replace Hc := hide (show w1.heap[w.heap.size + 2]? = some (.cells #[.slice none 0 0, .int .i64 0, .slice none 0 0] 57 (0, 0)) from (hb.block _ (World.lt_of_blk Hc.out)).trans Hc.out)
  replace Hbel := hide (Hbel.out.trans (hb.mono Hbel.out.size))
  clear hb
  rw [Hmt1.out] at qany qver qepo
  have hat := atom_ok HK.out (by simp) Hmt1.out
  have h1z : w.heap.size + 3 ≤ w1.heap.size := by omega
  have hres : ∃ r, Live ts K1 (some r) ∧ atomF l = compareF 4 5 r := by
    rcases hat with ⟨_, _, hs⟩ | ⟨r, hr, ha⟩
    · exfalso; simp [hs] at qepo
    · refine ⟨r, hr, ?_⟩; rw [ha]; simp [tAny, tVersion, tEpoch, tStage, tPoint, *]
  obtain ⟨r, hL1, hres⟩ := hres
  have HL1 := hide hL1
  have Hres := hide hres
  clear hL1 hres hat
  obtain ⟨Z, hZ⟩ : ∃ Z, Z = ((w1.alloc (.cells #[.int .i64 t1.k, .string t1.s, .int .i64 t1.n, .int .i64 t1.p] 62)).alloc (.cells #[.slice L ts.length cl, .int .i64 K1, .slice A m ca] 57)).alloc (.cells #[.int .i64 0, .int .i64 0, .int .i64 0, .int .i64 0, .int .u8 0, .int .u8 0, .int .u8 0, .int .u8 0, .int .u8 0, .int .u8 0, .int .u8 0, .int .u8 0, .int .u8 0, .int .u8 0, .int .u8 0, .int .u8 0, .int .u8 0, .int .u8 0, .int .u8 0, .int .u8 0, .slice none 0 0] 67) := ⟨_, rfl⟩
  replace Ha := hide (show Z.heap[w.heap.size + 1]? = some (.cells #[.int .i64 0, .int .i64 0, .int .i64 0, .int .i64 0, .int .u8 0, .int .u8 0, .int .u8 0, .int .u8 0, .int .u8 0, .int .u8 0, .int .u8 0, .int .u8 0, .int .u8 0, .int .u8 0, .int .u8 0, .int .u8 0, .int .u8 0, .int .u8 0, .int .u8 0, .int .u8 0, .slice none 0 0] 67 (0, 0)) from blk_thr hZ Ha.out)
  replace Hc := hide (show Z.heap[w.heap.size + 2]? = some (.cells #[.slice none 0 0, .int .i64 0, .slice none 0 0] 57 (0, 0)) from blk_thr hZ Hc.out)
  have Ht1b := hide (show Z.heap[w1.heap.size]? = some (.cells #[.int .i64 t1.k, .string t1.s, .int .i64 t1.n, .int .i64 t1.p] 62 (0, 0)) from blk_thr1 hZ)
  have Hs := hide (show Z.heap[w1.heap.size + 1]? = some (.cells #[.slice L ts.length cl, .int .i64 K1, .slice A m ca] 57 (0, 0)) from blk_thr2 hZ)
  have Hn := hide (show Z.heap[w1.heap.size + 1 + 1]? = some (.cells (Nd.cells (mkN 0 0 0 0) (.slice none 0 0)).toArray 67 (0, 0)) from blk_thr3 hZ)
  have szZ := size_thr hZ
  replace Hbel := hide (Hbel.out.trans ((bel_thr hZ).mono Hbel.out.size))
  have HZ := hide hZ
  clear hZ
  have HX := hide (show (((w1.alloc (.cells #[.int .i64 t1.k, .string t1.s, .int .i64 t1.n, .int .i64 t1.p] 62)).alloc (.cells #[.slice L ts.length cl, .int .i64 K1, .slice A m ca] 57)).alloc (.cells #[.int .i64 0, .int .i64 0, .int .i64 0, .int .i64 0, .int .u8 0, .int .u8 0, .int .u8 0, .int .u8 0, .int .u8 0, .int .u8 0, .int .u8 0, .int .u8 0, .int .u8 0, .int .u8 0, .int .u8 0, .int .u8 0, .int .u8 0, .int .u8 0, .int .u8 0, .int .u8 0, .slice none 0 0] 67)).heap[w1.heap.size + 1 + 1]? = some (.cells #[.int .i64 0, .int .i64 0, .int .i64 0, .int .i64 0, .int .u8 0, .int .u8 0, .int .u8 0, .int .u8 0, .int .u8 0, .int .u8 0, .int .u8 0, .int .u8 0, .int .u8 0, .int .u8 0, .int .u8 0, .int .u8 0, .int .u8 0, .int .u8 0, .int .u8 0, .int .u8 0, .slice none 0 0] 67 (0, 0)) from blk_thr3 rfl)
  have HZr := hide (show Z = (((w1.alloc (.cells #[.int .i64 t1.k, .string t1.s, .int .i64 t1.n, .int .i64 t1.p] 62)).alloc (.cells #[.slice L ts.length cl, .int .i64 K1, .slice A m ca] 57)).alloc (.cells #[.int .i64 0, .int .i64 0, .int .i64 0, .int .i64 0, .int .u8 0, .int .u8 0, .int .u8 0, .int .u8 0, .int .u8 0, .int .u8 0, .int .u8 0, .int .u8 0, .int .u8 0, .int .u8 0, .int .u8 0, .int .u8 0, .int .u8 0, .int .u8 0, .int .u8 0, .int .u8 0, .slice none 0 0] 67)).setRow (w1.heap.size + 1 + 1) (Value.agg #[.int .i64 0, .int .i64 0, .int .i64 0, .int .i64 0, .int .u8 0, .int .u8 0, .int .u8 0, .int .u8 0, .int .u8 0, .int .u8 0, .int .u8 0, .int .u8 0, .int .u8 0, .int .u8 0, .int .u8 0, .int .u8 0, .int .u8 0, .int .u8 0, .int .u8 0, .int .u8 0, .slice none 0 0]).cells from HZ.out.trans (setRow_self _ _ _ _ _ HX.out).symm)
  have cs0 : Z.cell? ⟨w1.heap.size + 1, 0, none⟩ = some (.slice L ts.length cl) := blk_cell Hs.out rfl
  have cs1 : Z.cell? ⟨w1.heap.size + 1, 1, none⟩ = some (.int .i64 K1) := blk_cell Hs.out rfl
  have cs2 : Z.cell? ⟨w1.heap.size + 1, 2, none⟩ = some (.slice A m ca) := blk_cell Hs.out rfl
  have ct0 := blk_cell (i := 1) (v := .string t1.s) Ht1b.out rfl
  have cz : Z.cell? ⟨w1.heap.size + 1 + 1, 0, none⟩ = some (.int .i64 0) := blk_cell Hn.out rfl
  have fcz : Z.frozen? ⟨w1.heap.size + 1 + 1, 0, none⟩ = false := blk_froz Hn.out
  obtain ⟨Zk2, hZk2⟩ : ∃ Zk2, Zk2 = Z.setCell ⟨w1.heap.size + 1 + 1, 0, none⟩ (.int .i64 2) := ⟨_, rfl⟩
  replace Ha := hide (show Zk2.heap[w.heap.size + 1]? = some (.cells #[.int .i64 0, .int .i64 0, .int .i64 0, .int .i64 0, .int .u8 0, .int .u8 0, .int .u8 0, .int .u8 0, .int .u8 0, .int .u8 0, .int .u8 0, .int .u8 0, .int .u8 0, .int .u8 0, .int .u8 0, .int .u8 0, .int .u8 0, .int .u8 0, .int .u8 0, .int .u8 0, .slice none 0 0] 67 (0, 0)) from set_other hZk2 Ha.out (by omega))
  replace Hc := hide (show Zk2.heap[w.heap.size + 2]? = some (.cells #[.slice none 0 0, .int .i64 0, .slice none 0 0] 57 (0, 0)) from set_other hZk2 Hc.out (by omega))
  replace Ht1b := hide (show Zk2.heap[w1.heap.size]? = some (.cells #[.int .i64 t1.k, .string t1.s, .int .i64 t1.n, .int .i64 t1.p] 62 (0, 0)) from set_other hZk2 Ht1b.out (by omega))
  replace Hs := hide (show Zk2.heap[w1.heap.size + 1]? = some (.cells #[.slice L ts.length cl, .int .i64 K1, .slice A m ca] 57 (0, 0)) from set_other hZk2 Hs.out (by omega))
  replace Hn := hide (show Zk2.heap[w1.heap.size + 1 + 1]? = some (.cells (Nd.cells (mkN 2 0 0 0) (.slice none 0 0)).toArray 67 (0, 0)) from set_nd hZk2 Hn.out rfl)
  have szZk2 := set_size hZk2
  replace Hbel := hide (set_bel hZk2 Hbel.out (by omega))
  have HZk2 := hide hZk2
  clear hZk2
  obtain ⟨Zk, hZk⟩ : ∃ Zk, Zk = Zk2.setCell ⟨w1.heap.size + 1 + 1, 0, none⟩ (.int .i64 4) := ⟨_, rfl⟩
  replace Ha := hide (show Zk.heap[w.heap.size + 1]? = some (.cells #[.int .i64 0, .int .i64 0, .int .i64 0, .int .i64 0, .int .u8 0, .int .u8 0, .int .u8 0, .int .u8 0, .int .u8 0, .int .u8 0, .int .u8 0, .int .u8 0, .int .u8 0, .int .u8 0, .int .u8 0, .int .u8 0, .int .u8 0, .int .u8 0, .int .u8 0, .int .u8 0, .slice none 0 0] 67 (0, 0)) from set_other hZk Ha.out (by omega))
  replace Hc := hide (show Zk.heap[w.heap.size + 2]? = some (.cells #[.slice none 0 0, .int .i64 0, .slice none 0 0] 57 (0, 0)) from set_other hZk Hc.out (by omega))
  replace Ht1b := hide (show Zk.heap[w1.heap.size]? = some (.cells #[.int .i64 t1.k, .string t1.s, .int .i64 t1.n, .int .i64 t1.p] 62 (0, 0)) from set_other hZk Ht1b.out (by omega))
  replace Hs := hide (show Zk.heap[w1.heap.size + 1]? = some (.cells #[.slice L ts.length cl, .int .i64 K1, .slice A m ca] 57 (0, 0)) from set_other hZk Hs.out (by omega))
  replace Hn := hide (show Zk.heap[w1.heap.size + 1 + 1]? = some (.cells (Nd.cells (mkN 4 0 0 0) (.slice none 0 0)).toArray 67 (0, 0)) from set_nd hZk Hn.out rfl)
  have szZk := set_size hZk
  replace Hbel := hide (set_bel hZk Hbel.out (by omega))
  have HZk := hide hZk
  clear hZk
  go_wp2_with ((with_reducible refine wpList_store_row rfl 67 (.tmp 6) (.tmp 32) rfl (w1.heap.size + 1 + 1) rfl (.agg #[.int .i64 0, .int .i64 0, .int .i64 0, .int .i64 0, .int .u8 0, .int .u8 0, .int .u8 0, .int .u8 0, .int .u8 0, .int .u8 0, .int .u8 0, .int .u8 0, .int .u8 0, .int .u8 0, .int .u8 0, .int .u8 0, .int .u8 0, .int .u8 0, .int .u8 0, .int .u8 0, .slice none 0 0]) rfl _ _ HX.out rfl (by kernel_rfl) z67_one ?_); rw [← HZr.out])
  rw [← HZk2.out]
  rw [← HZk.out]
  clear cz fcz cs0 cs1 cs2 ct0
  refine Calls.mono (ris_r Zk L cl ts K1 A m ca 3 _ hl hK1 ((HT.out.below Hbel.out (Nat.le_refl _)).more Hbel.out.size)) ?_
  rintro e w2 ⟨rfl, hb⟩
  have lew2 := hb.size
  replace Ha := hide (show w2.heap[w.heap.size + 1]? = some (.cells #[.int .i64 0, .int .i64 0, .int .i64 0, .int .i64 0, .int .u8 0, .int .u8 0, .int .u8 0, .int .u8 0, .int .u8 0, .int .u8 0, .int .u8 0, .int .u8 0, .int .u8 0, .int .u8 0, .int .u8 0, .int .u8 0, .int .u8 0, .int .u8 0, .int .u8 0, .int .u8 0, .slice none 0 0] 67 (0, 0)) from (hb.block _ (World.lt_of_blk Ha.out)).trans Ha.out)
  replace Hc := hide (show w2.heap[w.heap.size + 2]? = some (.cells #[.slice none 0 0, .int .i64 0, .slice none 0 0] 57 (0, 0)) from (hb.block _ (World.lt_of_blk Hc.out)).trans Hc.out)
  replace Ht1b := hide (show w2.heap[w1.heap.size]? = some (.cells #[.int .i64 t1.k, .string t1.s, .int .i64 t1.n, .int .i64 t1.p] 62 (0, 0)) from (hb.block _ (World.lt_of_blk Ht1b.out)).trans Ht1b.out)
  replace Hs := hide (show w2.heap[w1.heap.size + 1]? = some (.cells #[.slice L ts.length cl, .int .i64 K1, .slice A m ca] 57 (0, 0)) from (hb.block _ (World.lt_of_blk Hs.out)).trans Hs.out)
  replace Hn := hide (show w2.heap[w1.heap.size + 1 + 1]? = some (.cells (Nd.cells (mkN 4 0 0 0) (.slice none 0 0)).toArray 67 (0, 0)) from (hb.block _ (World.lt_of_blk Hn.out)).trans Hn.out)
  replace Hbel := hide (Hbel.out.trans (hb.mono Hbel.out.size))
  clear hb
  cases hi : isR ts K1 3 { data := #[61, 61] } with
  | true =>
    have hir := isR_range hi
    have hK1' : -1 ≤ K1 + 1 ∧ K1 + 1 ≤ ts.length := by omega
    have Hi := hide hi
    clear hi
    have c0 : w2.cell? ⟨w1.heap.size + 1, 0, none⟩ = some (.slice L ts.length cl) := blk_cell Hs.out rfl
    have c1 : w2.cell? ⟨w1.heap.size + 1, 1, none⟩ = some (.int .i64 K1) := blk_cell Hs.out rfl
    have fc1 : w2.frozen? ⟨w1.heap.size + 1, 1, none⟩ = false := blk_froz Hs.out
    have c2 : w2.cell? ⟨w1.heap.size + 1, 2, none⟩ = some (.slice A m ca) := blk_cell Hs.out rfl
    obtain ⟨Z2, hZ2⟩ : ∃ Z2, Z2 = w2.setCell ⟨w1.heap.size + 1, 1, none⟩ (.int .i64 (K1 + 1)) := ⟨_, rfl⟩
    replace Ha := hide (show Z2.heap[w.heap.size + 1]? = some (.cells #[.int .i64 0, .int .i64 0, .int .i64 0, .int .i64 0, .int .u8 0, .int .u8 0, .int .u8 0, .int .u8 0, .int .u8 0, .int .u8 0, .int .u8 0, .int .u8 0, .int .u8 0, .int .u8 0, .int .u8 0, .int .u8 0, .int .u8 0, .int .u8 0, .int .u8 0, .int .u8 0, .slice none 0 0] 67 (0, 0)) from set_other hZ2 Ha.out (by omega))
    replace Hc := hide (show Z2.heap[w.heap.size + 2]? = some (.cells #[.slice none 0 0, .int .i64 0, .slice none 0 0] 57 (0, 0)) from set_other hZ2 Hc.out (by omega))
    replace Ht1b := hide (show Z2.heap[w1.heap.size]? = some (.cells #[.int .i64 t1.k, .string t1.s, .int .i64 t1.n, .int .i64 t1.p] 62 (0, 0)) from set_other hZ2 Ht1b.out (by omega))
    replace Hs := hide (show Z2.heap[w1.heap.size + 1]? = some (.cells #[.slice L ts.length cl, .int .i64 (K1 + 1), .slice A m ca] 57 (0, 0)) from set_rs hZ2 Hs.out)
    replace Hn := hide (show Z2.heap[w1.heap.size + 1 + 1]? = some (.cells (Nd.cells (mkN 4 0 0 0) (.slice none 0 0)).toArray 67 (0, 0)) from set_other hZ2 Hn.out (by omega))
    have szZ2 := set_size hZ2
    replace Hbel := hide (set_bel hZ2 Hbel.out (by omega))
    have HZ2 := hide hZ2
    clear hZ2
    go_wp2_with fail
    rw [← HZ2.out]
    clear c0 c1 fc1 c2
    refine Calls.mono (rmust_r Z2 L cl ts (K1 + 1) A m ca 2 _ hl hK1' ((HT.out.below Hbel.out (Nat.le_refl _)).more Hbel.out.size)) ?_
    rintro e w3 ⟨t3, K3, rfl, hmt3, hb⟩
    have hK3 := mustR_range hK1' 2 _ hmt3
    have Hmt3 := hide hmt3
    clear hmt3
    have lew3 := hb.size
    replace Ha := hide (show w3.heap[w.heap.size + 1]? = some (.cells #[.int .i64 0, .int .i64 0, .int .i64 0, .int .i64 0, .int .u8 0, .int .u8 0, .int .u8 0, .int .u8 0, .int .u8 0, .int .u8 0, .int .u8 0, .int .u8 0, .int .u8 0, .int .u8 0, .int .u8 0, .int .u8 0, .int .u8 0, .int .u8 0, .int .u8 0, .int .u8 0, .slice none 0 0] 67 (0, 0)) from (hb.block _ (World.lt_of_blk Ha.out)).trans Ha.out)
    replace Hc := hide (show w3.heap[w.heap.size + 2]? = some (.cells #[.slice none 0 0, .int .i64 0, .slice none 0 0] 57 (0, 0)) from (hb.block _ (World.lt_of_blk Hc.out)).trans Hc.out)
    replace Ht1b := hide (show w3.heap[w1.heap.size]? = some (.cells #[.int .i64 t1.k, .string t1.s, .int .i64 t1.n, .int .i64 t1.p] 62 (0, 0)) from (hb.block _ (World.lt_of_blk Ht1b.out)).trans Ht1b.out)
    replace Hs := hide (show w3.heap[w1.heap.size + 1]? = some (.cells #[.slice L ts.length cl, .int .i64 (K1 + 1), .slice A m ca] 57 (0, 0)) from (hb.block _ (World.lt_of_blk Hs.out)).trans Hs.out)
    replace Hn := hide (show w3.heap[w1.heap.size + 1 + 1]? = some (.cells (Nd.cells (mkN 4 0 0 0) (.slice none 0 0)).toArray 67 (0, 0)) from (hb.block _ (World.lt_of_blk Hn.out)).trans Hn.out)
    replace Hbel := hide (Hbel.out.trans (hb.mono Hbel.out.size))
    clear hb
    have c0 : w3.cell? ⟨w1.heap.size + 1 + 1, 1, none⟩ = some (.int .i64 0) := blk_cell Hn.out rfl
    have fc0 : w3.frozen? ⟨w1.heap.size + 1 + 1, 1, none⟩ = false := blk_froz Hn.out
    have ltn : w1.heap.size + 1 + 1 < w3.heap.size := World.lt_of_blk Hn.out
    have ltn' : w1.heap.size + 1 + 1 < w3.heap.size + 1 := by omega
    obtain ⟨Z3, hZ3⟩ : ∃ Z3, Z3 = w3.setCell ⟨w1.heap.size + 1 + 1, 1, none⟩ (.int .i64 t3.n) := ⟨_, rfl⟩
    replace Ha := hide (show Z3.heap[w.heap.size + 1]? = some (.cells #[.int .i64 0, .int .i64 0, .int .i64 0, .int .i64 0, .int .u8 0, .int .u8 0, .int .u8 0, .int .u8 0, .int .u8 0, .int .u8 0, .int .u8 0, .int .u8 0, .int .u8 0, .int .u8 0, .int .u8 0, .int .u8 0, .int .u8 0, .int .u8 0, .int .u8 0, .int .u8 0, .slice none 0 0] 67 (0, 0)) from set_other hZ3 Ha.out (by omega))
    replace Hc := hide (show Z3.heap[w.heap.size + 2]? = some (.cells #[.slice none 0 0, .int .i64 0, .slice none 0 0] 57 (0, 0)) from set_other hZ3 Hc.out (by omega))
    replace Ht1b := hide (show Z3.heap[w1.heap.size]? = some (.cells #[.int .i64 t1.k, .string t1.s, .int .i64 t1.n, .int .i64 t1.p] 62 (0, 0)) from set_other hZ3 Ht1b.out (by omega))
    replace Hs := hide (show Z3.heap[w1.heap.size + 1]? = some (.cells #[.slice L ts.length cl, .int .i64 (K1 + 1), .slice A m ca] 57 (0, 0)) from set_other hZ3 Hs.out (by omega))
    replace Hn := hide (show Z3.heap[w1.heap.size + 1 + 1]? = some (.cells (Nd.cells (mkN 4 t3.n 0 0) (.slice none 0 0)).toArray 67 (0, 0)) from set_nd hZ3 Hn.out rfl)
    have szZ3 := set_size hZ3
    replace Hbel := hide (set_bel hZ3 Hbel.out (by omega))
    have HZ3 := hide hZ3
    clear hZ3
    obtain ⟨Y3, hY3⟩ : ∃ Y3, Y3 = (Z3.alloc (.cells #[.int .i64 t3.k, .string t3.s, .int .i64 t3.n, .int .i64 t3.p] 62)).alloc (.cells #[.slice L ts.length cl, .int .i64 K3, .slice A m ca] 57) := ⟨_, rfl⟩
    replace Ha := hide (show Y3.heap[w.heap.size + 1]? = some (.cells #[.int .i64 0, .int .i64 0, .int .i64 0, .int .i64 0, .int .u8 0, .int .u8 0, .int .u8 0, .int .u8 0, .int .u8 0, .int .u8 0, .int .u8 0, .int .u8 0, .int .u8 0, .int .u8 0, .int .u8 0, .int .u8 0, .int .u8 0, .int .u8 0, .int .u8 0, .int .u8 0, .slice none 0 0] 67 (0, 0)) from blk_two hY3 Ha.out)
    replace Hc := hide (show Y3.heap[w.heap.size + 2]? = some (.cells #[.slice none 0 0, .int .i64 0, .slice none 0 0] 57 (0, 0)) from blk_two hY3 Hc.out)
    replace Ht1b := hide (show Y3.heap[w1.heap.size]? = some (.cells #[.int .i64 t1.k, .string t1.s, .int .i64 t1.n, .int .i64 t1.p] 62 (0, 0)) from blk_two hY3 Ht1b.out)
    replace Hs := hide (show Y3.heap[w1.heap.size + 1]? = some (.cells #[.slice L ts.length cl, .int .i64 (K1 + 1), .slice A m ca] 57 (0, 0)) from blk_two hY3 Hs.out)
    replace Hn := hide (show Y3.heap[w1.heap.size + 1 + 1]? = some (.cells (Nd.cells (mkN 4 t3.n 0 0) (.slice none 0 0)).toArray 67 (0, 0)) from blk_two hY3 Hn.out)
    have Hr := hide (show Y3.heap[w3.heap.size + 1]? = some (.cells #[.slice L ts.length cl, .int .i64 K3, .slice A m ca] 57 (0, 0)) from (by rw [← szZ3]; exact blk_two2 hY3))
    have szY3 : Y3.heap.size = w3.heap.size + 2 := (by rw [← szZ3]; exact size_two hY3)
    replace Hbel := hide (Hbel.out.trans ((bel_two hY3).mono Hbel.out.size))
    have HY3 := hide hY3
    clear hY3
    go_wp2_with fail
    rw [← HZ3.out]
    rw [← HY3.out]
    clear c0 fc0
    have lt_n := World.lt_of_blk Hn.out
    have lt_r := World.lt_of_blk Hr.out
    refine wp_two_chain (by kernel_rfl) rfl (by kernel_rfl) (by kernel_rfl) (by kernel_rfl) (by kernel_rfl) (by kernel_rfl) (by kernel_rfl) (by kernel_rfl) (by kernel_rfl) (fun _ _ d _ _ h => by cases d <;> exact h) rfl rfl rfl rfl rfl rfl (w.heap.size + 1) (w.heap.size + 2) (by omega) (.agg (Nd.cells (mkN 4 t3.n 0 0) (.slice none 0 0)).toArray) (.agg #[.slice L ts.length cl, .int .i64 K3, .slice A m ca]) (fun W hW => y_load 67 (.tmp 6) rfl (w1.heap.size + 1 + 1) (by omega) (by omega) rfl 67 _ (0, 0) _ Hn.out Tryz.underlying67 rfl (by kernel_rfl) hW) (fun W hW => y_load 57 (.tmp 11) rfl (w3.heap.size + 1) (by omega) (by omega) rfl 57 _ (0, 0) _ Hr.out Tryz.underlying57 rfl (by kernel_rfl) hW) 67 (.tmp 2) (.tmp 73) rfl rfl (.agg (Nd.cells (mkN 4 t3.n 0 0) (.slice none 0 0)).toArray) rfl 57 (.tmp 3) (.tmp 74) rfl rfl (.agg #[.slice L ts.length cl, .int .i64 K3, .slice A m ca]) rfl _ _ Ha.out rfl (by kernel_rfl) (nd_one rfl) _ _ Hc.out rfl (by kernel_rfl) (by simp [Value.cells, Value.oneCell']) ?_
    obtain ⟨q1, q2, q3⟩ := ret2_world' Hbel.out Ha.out Hc.out (Nd.cells (mkN 4 t3.n 0 0) (.slice none 0 0)).toArray #[.slice L ts.length cl, .int .i64 K3, .slice A m ca]
    go_wp2
    refine bodyPost_ret (results_two_rows Tryz.results75 _ _ (w.heap.size + 1) (w.heap.size + 2) (Nd.cells (mkN 4 t3.n 0 0) (.slice none 0 0)).toArray #[.slice L ts.length cl, .int .i64 K3, .slice A m ca] rfl rfl (run_loadVar_row _ _ 67 67 _ (0, 0) _ q1 Tryz.underlying67 rfl (by kernel_rfl)) (run_loadVar_row _ _ 57 57 _ (0, 0) _ q2 Tryz.underlying57 rfl (by kernel_rfl))) rfl ?_
    exact ⟨q3, (mkN 4 t3.n 0 0), K3, rfl, rfl, (by rw [Hres.out]; exact cmp_eq HL1.out (by simp) (by simp) Hi.out Hmt3.out 4 5)⟩
  | false =>
    have Hi := hide hi
    clear hi
    have c0 : w2.cell? ⟨w1.heap.size + 1, 0, none⟩ = some (.slice L ts.length cl) := blk_cell Hs.out rfl
    have c1 : w2.cell? ⟨w1.heap.size + 1, 1, none⟩ = some (.int .i64 K1) := blk_cell Hs.out rfl
    have c2 : w2.cell? ⟨w1.heap.size + 1, 2, none⟩ = some (.slice A m ca) := blk_cell Hs.out rfl
    go_wp2_with fail
    clear c0 c1 c2
    refine Calls.mono (rmust_r w2 L cl ts K1 A m ca 3 _ hl hK1 ((HT.out.below Hbel.out (Nat.le_refl _)).more Hbel.out.size)) ?_
    rintro e w3 ⟨t3, K3, rfl, hmt3, hb⟩
    have hK3 := mustR_range hK1 3 _ hmt3
    have Hmt3 := hide hmt3
    clear hmt3
    have lew3 := hb.size
    replace Ha := hide (show w3.heap[w.heap.size + 1]? = some (.cells #[.int .i64 0, .int .i64 0, .int .i64 0, .int .i64 0, .int .u8 0, .int .u8 0, .int .u8 0, .int .u8 0, .int .u8 0, .int .u8 0, .int .u8 0, .int .u8 0, .int .u8 0, .int .u8 0, .int .u8 0, .int .u8 0, .int .u8 0, .int .u8 0, .int .u8 0, .int .u8 0, .slice none 0 0] 67 (0, 0)) from (hb.block _ (World.lt_of_blk Ha.out)).trans Ha.out)
    replace Hc := hide (show w3.heap[w.heap.size + 2]? = some (.cells #[.slice none 0 0, .int .i64 0, .slice none 0 0] 57 (0, 0)) from (hb.block _ (World.lt_of_blk Hc.out)).trans Hc.out)
    replace Ht1b := hide (show w3.heap[w1.heap.size]? = some (.cells #[.int .i64 t1.k, .string t1.s, .int .i64 t1.n, .int .i64 t1.p] 62 (0, 0)) from (hb.block _ (World.lt_of_blk Ht1b.out)).trans Ht1b.out)
    replace Hs := hide (show w3.heap[w1.heap.size + 1]? = some (.cells #[.slice L ts.length cl, .int .i64 K1, .slice A m ca] 57 (0, 0)) from (hb.block _ (World.lt_of_blk Hs.out)).trans Hs.out)
    replace Hn := hide (show w3.heap[w1.heap.size + 1 + 1]? = some (.cells (Nd.cells (mkN 4 0 0 0) (.slice none 0 0)).toArray 67 (0, 0)) from (hb.block _ (World.lt_of_blk Hn.out)).trans Hn.out)
    replace Hbel := hide (Hbel.out.trans (hb.mono Hbel.out.size))
    clear hb
    obtain ⟨Y3, hY3⟩ : ∃ Y3, Y3 = (w3.alloc (.cells #[.int .i64 t3.k, .string t3.s, .int .i64 t3.n, .int .i64 t3.p] 62)).alloc (.cells #[.slice L ts.length cl, .int .i64 K3, .slice A m ca] 57) := ⟨_, rfl⟩
    replace Ha := hide (show Y3.heap[w.heap.size + 1]? = some (.cells #[.int .i64 0, .int .i64 0, .int .i64 0, .int .i64 0, .int .u8 0, .int .u8 0, .int .u8 0, .int .u8 0, .int .u8 0, .int .u8 0, .int .u8 0, .int .u8 0, .int .u8 0, .int .u8 0, .int .u8 0, .int .u8 0, .int .u8 0, .int .u8 0, .int .u8 0, .int .u8 0, .slice none 0 0] 67 (0, 0)) from blk_two hY3 Ha.out)
    replace Hc := hide (show Y3.heap[w.heap.size + 2]? = some (.cells #[.slice none 0 0, .int .i64 0, .slice none 0 0] 57 (0, 0)) from blk_two hY3 Hc.out)
    replace Ht1b := hide (show Y3.heap[w1.heap.size]? = some (.cells #[.int .i64 t1.k, .string t1.s, .int .i64 t1.n, .int .i64 t1.p] 62 (0, 0)) from blk_two hY3 Ht1b.out)
    replace Hs := hide (show Y3.heap[w1.heap.size + 1]? = some (.cells #[.slice L ts.length cl, .int .i64 K1, .slice A m ca] 57 (0, 0)) from blk_two hY3 Hs.out)
    replace Hn := hide (show Y3.heap[w1.heap.size + 1 + 1]? = some (.cells (Nd.cells (mkN 4 0 0 0) (.slice none 0 0)).toArray 67 (0, 0)) from blk_two hY3 Hn.out)
    have Hr := hide (show Y3.heap[w3.heap.size + 1]? = some (.cells #[.slice L ts.length cl, .int .i64 K3, .slice A m ca] 57 (0, 0)) from blk_two2 hY3)
    have szY3 : Y3.heap.size = w3.heap.size + 2 := size_two hY3
    replace Hbel := hide (Hbel.out.trans ((bel_two hY3).mono Hbel.out.size))
    have HY3 := hide hY3
    clear hY3
    have HX := hide Hs.out
    rw [HY3.out] at HX
    obtain ⟨Z3, hZ3⟩ : ∃ Z3, Z3 = Y3.setRow (w1.heap.size + 1) (Value.agg #[.slice L ts.length cl, .int .i64 K3, .slice A m ca]).cells := ⟨_, rfl⟩
    replace Ha := hide (show Z3.heap[w.heap.size + 1]? = some (.cells #[.int .i64 0, .int .i64 0, .int .i64 0, .int .i64 0, .int .u8 0, .int .u8 0, .int .u8 0, .int .u8 0, .int .u8 0, .int .u8 0, .int .u8 0, .int .u8 0, .int .u8 0, .int .u8 0, .int .u8 0, .int .u8 0, .int .u8 0, .int .u8 0, .int .u8 0, .int .u8 0, .slice none 0 0] 67 (0, 0)) from row_other hZ3 Ha.out (by omega))
    replace Hc := hide (show Z3.heap[w.heap.size + 2]? = some (.cells #[.slice none 0 0, .int .i64 0, .slice none 0 0] 57 (0, 0)) from row_other hZ3 Hc.out (by omega))
    replace Ht1b := hide (show Z3.heap[w1.heap.size]? = some (.cells #[.int .i64 t1.k, .string t1.s, .int .i64 t1.n, .int .i64 t1.p] 62 (0, 0)) from row_other hZ3 Ht1b.out (by omega))
    replace Hs := hide (show Z3.heap[w1.heap.size + 1]? = some (.cells #[.slice L ts.length cl, .int .i64 K3, .slice A m ca] 57 (0, 0)) from row_at hZ3 Hs.out)
    replace Hn := hide (show Z3.heap[w1.heap.size + 1 + 1]? = some (.cells (Nd.cells (mkN 4 0 0 0) (.slice none 0 0)).toArray 67 (0, 0)) from row_other hZ3 Hn.out (by omega))
    replace Hr := hide (show Z3.heap[w3.heap.size + 1]? = some (.cells #[.slice L ts.length cl, .int .i64 K3, .slice A m ca] 57 (0, 0)) from row_other hZ3 Hr.out (by omega))
    have szZ3 := row_size hZ3
    replace Hbel := hide (row_bel hZ3 Hbel.out (by omega))
    have HZ3 := hide hZ3
    clear hZ3
    have c0 : Z3.cell? ⟨w1.heap.size + 1 + 1, 0, none⟩ = some (.int .i64 4) := blk_cell Hn.out rfl
    have fc0 : Z3.frozen? ⟨w1.heap.size + 1 + 1, 0, none⟩ = false := blk_froz Hn.out
    have c3 : Z3.cell? ⟨w1.heap.size + 1, 0, none⟩ = some (.slice L ts.length cl) := blk_cell Hs.out rfl
    have c1 : Z3.cell? ⟨w1.heap.size + 1, 1, none⟩ = some (.int .i64 K3) := blk_cell Hs.out rfl
    have c2 : Z3.cell? ⟨w1.heap.size + 1, 2, none⟩ = some (.slice A m ca) := blk_cell Hs.out rfl
    obtain ⟨Z4, hZ4⟩ : ∃ Z4, Z4 = Z3.setCell ⟨w1.heap.size + 1 + 1, 0, none⟩ (.int .i64 5) := ⟨_, rfl⟩
    replace Ha := hide (show Z4.heap[w.heap.size + 1]? = some (.cells #[.int .i64 0, .int .i64 0, .int .i64 0, .int .i64 0, .int .u8 0, .int .u8 0, .int .u8 0, .int .u8 0, .int .u8 0, .int .u8 0, .int .u8 0, .int .u8 0, .int .u8 0, .int .u8 0, .int .u8 0, .int .u8 0, .int .u8 0, .int .u8 0, .int .u8 0, .int .u8 0, .slice none 0 0] 67 (0, 0)) from set_other hZ4 Ha.out (by omega))
    replace Hc := hide (show Z4.heap[w.heap.size + 2]? = some (.cells #[.slice none 0 0, .int .i64 0, .slice none 0 0] 57 (0, 0)) from set_other hZ4 Hc.out (by omega))
    replace Ht1b := hide (show Z4.heap[w1.heap.size]? = some (.cells #[.int .i64 t1.k, .string t1.s, .int .i64 t1.n, .int .i64 t1.p] 62 (0, 0)) from set_other hZ4 Ht1b.out (by omega))
    replace Hs := hide (show Z4.heap[w1.heap.size + 1]? = some (.cells #[.slice L ts.length cl, .int .i64 K3, .slice A m ca] 57 (0, 0)) from set_other hZ4 Hs.out (by omega))
    replace Hn := hide (show Z4.heap[w1.heap.size + 1 + 1]? = some (.cells (Nd.cells (mkN 5 0 0 0) (.slice none 0 0)).toArray 67 (0, 0)) from set_nd hZ4 Hn.out rfl)
    replace Hr := hide (show Z4.heap[w3.heap.size + 1]? = some (.cells #[.slice L ts.length cl, .int .i64 K3, .slice A m ca] 57 (0, 0)) from set_other hZ4 Hr.out (by omega))
    have szZ4 := set_size hZ4
    replace Hbel := hide (set_bel hZ4 Hbel.out (by omega))
    have HZ4 := hide hZ4
    clear hZ4
    go_wp2_with (first
      | (with_reducible refine wpList_store_row rfl 57 (.tmp 5) (.tmp 60) rfl (w1.heap.size + 1) rfl (.agg #[.slice L ts.length cl, .int .i64 K3, .slice A m ca]) rfl _ _ HX.out rfl (by kernel_rfl) (by simp [Value.cells, Value.oneCell']) ?_; rw [← HY3.out, ← HZ3.out]))
    rw [← HZ4.out]
    clear c0 fc0 c1 c2 c3
    refine Calls.mono (rmust_r Z4 L cl ts K3 A m ca 2 _ hl hK3 ((HT.out.below Hbel.out (Nat.le_refl _)).more Hbel.out.size)) ?_
    rintro e w5 ⟨t5, K5, rfl, hmt5, hb⟩
    have hK5 := mustR_range hK3 2 _ hmt5
    have Hmt5 := hide hmt5
    clear hmt5
    have lew5 := hb.size
    replace Ha := hide (show w5.heap[w.heap.size + 1]? = some (.cells #[.int .i64 0, .int .i64 0, .int .i64 0, .int .i64 0, .int .u8 0, .int .u8 0, .int .u8 0, .int .u8 0, .int .u8 0, .int .u8 0, .int .u8 0, .int .u8 0, .int .u8 0, .int .u8 0, .int .u8 0, .int .u8 0, .int .u8 0, .int .u8 0, .int .u8 0, .int .u8 0, .slice none 0 0] 67 (0, 0)) from (hb.block _ (World.lt_of_blk Ha.out)).trans Ha.out)
    replace Hc := hide (show w5.heap[w.heap.size + 2]? = some (.cells #[.slice none 0 0, .int .i64 0, .slice none 0 0] 57 (0, 0)) from (hb.block _ (World.lt_of_blk Hc.out)).trans Hc.out)
    replace Ht1b := hide (show w5.heap[w1.heap.size]? = some (.cells #[.int .i64 t1.k, .string t1.s, .int .i64 t1.n, .int .i64 t1.p] 62 (0, 0)) from (hb.block _ (World.lt_of_blk Ht1b.out)).trans Ht1b.out)
    replace Hs := hide (show w5.heap[w1.heap.size + 1]? = some (.cells #[.slice L ts.length cl, .int .i64 K3, .slice A m ca] 57 (0, 0)) from (hb.block _ (World.lt_of_blk Hs.out)).trans Hs.out)
    replace Hn := hide (show w5.heap[w1.heap.size + 1 + 1]? = some (.cells (Nd.cells (mkN 5 0 0 0) (.slice none 0 0)).toArray 67 (0, 0)) from (hb.block _ (World.lt_of_blk Hn.out)).trans Hn.out)
    replace Hr := hide (show w5.heap[w3.heap.size + 1]? = some (.cells #[.slice L ts.length cl, .int .i64 K3, .slice A m ca] 57 (0, 0)) from (hb.block _ (World.lt_of_blk Hr.out)).trans Hr.out)
    replace Hbel := hide (Hbel.out.trans (hb.mono Hbel.out.size))
    clear hb
    have c0 : w5.cell? ⟨w1.heap.size + 1 + 1, 1, none⟩ = some (.int .i64 0) := blk_cell Hn.out rfl
    have fc0 : w5.frozen? ⟨w1.heap.size + 1 + 1, 1, none⟩ = false := blk_froz Hn.out
    have ltn : w1.heap.size + 1 + 1 < w5.heap.size := World.lt_of_blk Hn.out
    have ltn' : w1.heap.size + 1 + 1 < w5.heap.size + 1 := by omega
    obtain ⟨Z5, hZ5⟩ : ∃ Z5, Z5 = w5.setCell ⟨w1.heap.size + 1 + 1, 1, none⟩ (.int .i64 t5.n) := ⟨_, rfl⟩
    replace Ha := hide (show Z5.heap[w.heap.size + 1]? = some (.cells #[.int .i64 0, .int .i64 0, .int .i64 0, .int .i64 0, .int .u8 0, .int .u8 0, .int .u8 0, .int .u8 0, .int .u8 0, .int .u8 0, .int .u8 0, .int .u8 0, .int .u8 0, .int .u8 0, .int .u8 0, .int .u8 0, .int .u8 0, .int .u8 0, .int .u8 0, .int .u8 0, .slice none 0 0] 67 (0, 0)) from set_other hZ5 Ha.out (by omega))
    replace Hc := hide (show Z5.heap[w.heap.size + 2]? = some (.cells #[.slice none 0 0, .int .i64 0, .slice none 0 0] 57 (0, 0)) from set_other hZ5 Hc.out (by omega))
    replace Ht1b := hide (show Z5.heap[w1.heap.size]? = some (.cells #[.int .i64 t1.k, .string t1.s, .int .i64 t1.n, .int .i64 t1.p] 62 (0, 0)) from set_other hZ5 Ht1b.out (by omega))
    replace Hs := hide (show Z5.heap[w1.heap.size + 1]? = some (.cells #[.slice L ts.length cl, .int .i64 K3, .slice A m ca] 57 (0, 0)) from set_other hZ5 Hs.out (by omega))
    replace Hn := hide (show Z5.heap[w1.heap.size + 1 + 1]? = some (.cells (Nd.cells (mkN 5 t5.n 0 0) (.slice none 0 0)).toArray 67 (0, 0)) from set_nd hZ5 Hn.out rfl)
    replace Hr := hide (show Z5.heap[w3.heap.size + 1]? = some (.cells #[.slice L ts.length cl, .int .i64 K3, .slice A m ca] 57 (0, 0)) from set_other hZ5 Hr.out (by omega))
    have szZ5 := set_size hZ5
    replace Hbel := hide (set_bel hZ5 Hbel.out (by omega))
    have HZ5 := hide hZ5
    clear hZ5
    obtain ⟨Y5, hY5⟩ : ∃ Y5, Y5 = (Z5.alloc (.cells #[.int .i64 t5.k, .string t5.s, .int .i64 t5.n, .int .i64 t5.p] 62)).alloc (.cells #[.slice L ts.length cl, .int .i64 K5, .slice A m ca] 57) := ⟨_, rfl⟩
    replace Ha := hide (show Y5.heap[w.heap.size + 1]? = some (.cells #[.int .i64 0, .int .i64 0, .int .i64 0, .int .i64 0, .int .u8 0, .int .u8 0, .int .u8 0, .int .u8 0, .int .u8 0, .int .u8 0, .int .u8 0, .int .u8 0, .int .u8 0, .int .u8 0, .int .u8 0, .int .u8 0, .int .u8 0, .int .u8 0, .int .u8 0, .int .u8 0, .slice none 0 0] 67 (0, 0)) from blk_two hY5 Ha.out)
    replace Hc := hide (show Y5.heap[w.heap.size + 2]? = some (.cells #[.slice none 0 0, .int .i64 0, .slice none 0 0] 57 (0, 0)) from blk_two hY5 Hc.out)
    replace Ht1b := hide (show Y5.heap[w1.heap.size]? = some (.cells #[.int .i64 t1.k, .string t1.s, .int .i64 t1.n, .int .i64 t1.p] 62 (0, 0)) from blk_two hY5 Ht1b.out)
    replace Hs := hide (show Y5.heap[w1.heap.size + 1]? = some (.cells #[.slice L ts.length cl, .int .i64 K3, .slice A m ca] 57 (0, 0)) from blk_two hY5 Hs.out)
    replace Hn := hide (show Y5.heap[w1.heap.size + 1 + 1]? = some (.cells (Nd.cells (mkN 5 t5.n 0 0) (.slice none 0 0)).toArray 67 (0, 0)) from blk_two hY5 Hn.out)
    replace Hr := hide (show Y5.heap[w3.heap.size + 1]? = some (.cells #[.slice L ts.length cl, .int .i64 K3, .slice A m ca] 57 (0, 0)) from blk_two hY5 Hr.out)
    replace Hr := hide (show Y5.heap[w5.heap.size + 1]? = some (.cells #[.slice L ts.length cl, .int .i64 K5, .slice A m ca] 57 (0, 0)) from (by rw [← szZ5]; exact blk_two2 hY5))
    have szY5 : Y5.heap.size = w5.heap.size + 2 := (by rw [← szZ5]; exact size_two hY5)
    replace Hbel := hide (Hbel.out.trans ((bel_two hY5).mono Hbel.out.size))
    have HY5 := hide hY5
    clear hY5
    go_wp2_with fail
    rw [← HZ5.out]
    rw [← HY5.out]
    clear c0 fc0
    have lt_n := World.lt_of_blk Hn.out
    have lt_r := World.lt_of_blk Hr.out
    refine wp_two_chain (by kernel_rfl) rfl (by kernel_rfl) (by kernel_rfl) (by kernel_rfl) (by kernel_rfl) (by kernel_rfl) (by kernel_rfl) (by kernel_rfl) (by kernel_rfl) (fun _ _ d _ _ h => by cases d <;> exact h) rfl rfl rfl rfl rfl rfl (w.heap.size + 1) (w.heap.size + 2) (by omega) (.agg (Nd.cells (mkN 5 t5.n 0 0) (.slice none 0 0)).toArray) (.agg #[.slice L ts.length cl, .int .i64 K5, .slice A m ca]) (fun W hW => y_load 67 (.tmp 6) rfl (w1.heap.size + 1 + 1) (by omega) (by omega) rfl 67 _ (0, 0) _ Hn.out Tryz.underlying67 rfl (by kernel_rfl) hW) (fun W hW => y_load 57 (.tmp 11) rfl (w5.heap.size + 1) (by omega) (by omega) rfl 57 _ (0, 0) _ Hr.out Tryz.underlying57 rfl (by kernel_rfl) hW) 67 (.tmp 2) (.tmp 73) rfl rfl (.agg (Nd.cells (mkN 5 t5.n 0 0) (.slice none 0 0)).toArray) rfl 57 (.tmp 3) (.tmp 74) rfl rfl (.agg #[.slice L ts.length cl, .int .i64 K5, .slice A m ca]) rfl _ _ Ha.out rfl (by kernel_rfl) (nd_one rfl) _ _ Hc.out rfl (by kernel_rfl) (by simp [Value.cells, Value.oneCell']) ?_
    obtain ⟨q1, q2, q3⟩ := ret2_world' Hbel.out Ha.out Hc.out (Nd.cells (mkN 5 t5.n 0 0) (.slice none 0 0)).toArray #[.slice L ts.length cl, .int .i64 K5, .slice A m ca]
    go_wp2
    refine bodyPost_ret (results_two_rows Tryz.results75 _ _ (w.heap.size + 1) (w.heap.size + 2) (Nd.cells (mkN 5 t5.n 0 0) (.slice none 0 0)).toArray #[.slice L ts.length cl, .int .i64 K5, .slice A m ca] rfl rfl (run_loadVar_row _ _ 67 67 _ (0, 0) _ q1 Tryz.underlying67 rfl (by kernel_rfl)) (run_loadVar_row _ _ 57 57 _ (0, 0) _ q2 Tryz.underlying57 rfl (by kernel_rfl))) rfl ?_
    exact ⟨q3, (mkN 5 t5.n 0 0), K5, rfl, rfl, (by rw [Hres.out]; exact cmp_ge HL1.out (by simp) (by simp) (by simp) Hi.out Hmt3.out Hmt5.out 4 5)⟩
set_option maxRecDepth 100000 in
set_option maxHeartbeats 16000000 in
theorem ratom_p_sta (w : World) (L : Option Addr) (cl : Nat) (ts : List Tok) (K : Int) (A : Option Addr) (m ca : Nat) (l : List Tok) (hl : ts.length ≤ 1000000) (hK : Live ts K (some l)) (h : Toks w w.heap.size L ts) (qany : ((mustR ts K 1 { data := #[] }).1.s.toList == [97, 110, 121]) = false) (qver : ((mustR ts K 1 { data := #[] }).1.s.toList == [118, 101, 114, 115, 105, 111, 110]) = false) (qepo : ((mustR ts K 1 { data := #[] }).1.s.toList == [101, 112, 111, 99, 104]) = false) (qsta : ((mustR ts K 1 { data := #[] }).1.s.toList == [115, 116, 97, 103, 101]) = true) :
    Calls Tryz.prog 75 #[.agg #[.slice L ts.length cl, .int .i64 K, .slice A m ca]] w (PostT w L cl ts A m ca (atomF l)) := by
  have HT := hide h
  have hKr := hK.range
  obtain ⟨W0, hW0⟩ : ∃ W0, W0 = ((w.alloc (.cells #[.slice L ts.length cl, .int .i64 K, .slice A m ca] 57)).alloc (.cells #[.int .i64 0, .int .i64 0, .int .i64 0, .int .i64 0, .int .u8 0, .int .u8 0, .int .u8 0, .int .u8 0, .int .u8 0, .int .u8 0, .int .u8 0, .int .u8 0, .int .u8 0, .int .u8 0, .int .u8 0, .int .u8 0, .int .u8 0, .int .u8 0, .int .u8 0, .int .u8 0, .slice none 0 0] 67)).alloc (.cells #[.slice none 0 0, .int .i64 0, .slice none 0 0] 57) := ⟨_, rfl⟩
  have Ha := hide (show W0.heap[w.heap.size + 1]? = some (.cells #[.int .i64 0, .int .i64 0, .int .i64 0, .int .i64 0, .int .u8 0, .int .u8 0, .int .u8 0, .int .u8 0, .int .u8 0, .int .u8 0, .int .u8 0, .int .u8 0, .int .u8 0, .int .u8 0, .int .u8 0, .int .u8 0, .int .u8 0, .int .u8 0, .int .u8 0, .int .u8 0, .slice none 0 0] 67 (0, 0)) from blk_thr2 hW0)
  have Hc := hide (show W0.heap[w.heap.size + 2]? = some (.cells #[.slice none 0 0, .int .i64 0, .slice none 0 0] 57 (0, 0)) from blk_thr3 hW0)
  have szW0 := size_thr hW0
  have Hbel := hide (bel_thr hW0)
  have HW0 := hide hW0
  clear hW0
  have HK := hide hK
  clear h hK
  go_enter Tryz.func75, Tryz.ntmps75
  go_wp2_with fail
  rw [← HW0.out]
  refine Calls.mono (rmust_r W0 L cl ts K A m ca 1 _ hl hKr ((HT.out.below Hbel.out (Nat.le_refl _)).more Hbel.out.size)) ?_
  rintro e w1 ⟨t1, K1, rfl, hmt1, hb⟩
  have hK1 := mustR_range hKr 1 _ hmt1
  have Hmt1 := hide hmt1
  clear hmt1
  have lew1 := hb.size
  replace Ha := hide (show w1.heap[w.heap.size + 1]? = some (.cells #[.int .i64 0, .int .i64 0, .int .i64 0, .int .i64 0, .int .u8 0, .int .u8 0, .int .u8 0, .int .u8 0, .int .u8 0, .int .u8 0, .int .u8 0, .int .u8 0, .int .u8 0, .int .u8 0, .int .u8 0, .int .u8 0, .int .u8 0, .int .u8 0, .int .u8 0, .int .u8 0, .slice none 0 0] 67 (0, 0)) from (hb.block _ (World.lt_of_blk Ha.out)).trans Ha.out)
  replace Hc := hide (show w1.heap[w.heap.size + 2]? = some (.cells #[.slice none 0 0, .int .i64 0, .slice none 0 0] 57 (0, 0)) from (hb.block _ (World.lt_of_blk Hc.out)).trans Hc.out)
  replace Hbel := hide (Hbel.out.trans (hb.mono Hbel.out.size))
  clear hb
  rw [Hmt1.out] at qany qver qepo qsta
  have hat := atom_ok HK.out (by simp) Hmt1.out
  have h1z : w.heap.size + 3 ≤ w1.heap.size := by omega
  have hres : ∃ r, Live ts K1 (some r) ∧ atomF l = stageF r := by
    rcases hat with ⟨_, _, hs⟩ | ⟨r, hr, ha⟩
    · exfalso; simp [hs] at qsta
    · refine ⟨r, hr, ?_⟩; rw [ha]; simp [tAny, tVersion, tEpoch, tStage, tPoint, *]
  obtain ⟨r, hL1, hres⟩ := hres
  have HL1 := hide hL1
  have Hres := hide hres
  clear hL1 hres hat
  obtain ⟨Z, hZ⟩ : ∃ Z, Z = ((w1.alloc (.cells #[.int .i64 t1.k, .string t1.s, .int .i64 t1.n, .int .i64 t1.p] 62)).alloc (.cells #[.slice L ts.length cl, .int .i64 K1, .slice A m ca] 57)).alloc (.cells #[.int .i64 0, .int .i64 0, .int .i64 0, .int .i64 0, .int .u8 0, .int .u8 0, .int .u8 0, .int .u8 0, .int .u8 0, .int .u8 0, .int .u8 0, .int .u8 0, .int .u8 0, .int .u8 0, .int .u8 0, .int .u8 0, .int .u8 0, .int .u8 0, .int .u8 0, .int .u8 0, .slice none 0 0] 67) := ⟨_, rfl⟩
  replace Ha := hide (show Z.heap[w.heap.size + 1]? = some (.cells #[.int .i64 0, .int .i64 0, .int .i64 0, .int .i64 0, .int .u8 0, .int .u8 0, .int .u8 0, .int .u8 0, .int .u8 0, .int .u8 0, .int .u8 0, .int .u8 0, .int .u8 0, .int .u8 0, .int .u8 0, .int .u8 0, .int .u8 0, .int .u8 0, .int .u8 0, .int .u8 0, .slice none 0 0] 67 (0, 0)) from blk_thr hZ Ha.out)
  replace Hc := hide (show Z.heap[w.heap.size + 2]? = some (.cells #[.slice none 0 0, .int .i64 0, .slice none 0 0] 57 (0, 0)) from blk_thr hZ Hc.out)
  have Ht1b := hide (show Z.heap[w1.heap.size]? = some (.cells #[.int .i64 t1.k, .string t1.s, .int .i64 t1.n, .int .i64 t1.p] 62 (0, 0)) from blk_thr1 hZ)
  have Hs := hide (show Z.heap[w1.heap.size + 1]? = some (.cells #[.slice L ts.length cl, .int .i64 K1, .slice A m ca] 57 (0, 0)) from blk_thr2 hZ)
  have Hn := hide (show Z.heap[w1.heap.size + 1 + 1]? = some (.cells (Nd.cells (mkN 0 0 0 0) (.slice none 0 0)).toArray 67 (0, 0)) from blk_thr3 hZ)
  have szZ := size_thr hZ
  replace Hbel := hide (Hbel.out.trans ((bel_thr hZ).mono Hbel.out.size))
  have HZ := hide hZ
  clear hZ
  have HX := hide (show (((w1.alloc (.cells #[.int .i64 t1.k, .string t1.s, .int .i64 t1.n, .int .i64 t1.p] 62)).alloc (.cells #[.slice L ts.length cl, .int .i64 K1, .slice A m ca] 57)).alloc (.cells #[.int .i64 0, .int .i64 0, .int .i64 0, .int .i64 0, .int .u8 0, .int .u8 0, .int .u8 0, .int .u8 0, .int .u8 0, .int .u8 0, .int .u8 0, .int .u8 0, .int .u8 0, .int .u8 0, .int .u8 0, .int .u8 0, .int .u8 0, .int .u8 0, .int .u8 0, .int .u8 0, .slice none 0 0] 67)).heap[w1.heap.size + 1 + 1]? = some (.cells #[.int .i64 0, .int .i64 0, .int .i64 0, .int .i64 0, .int .u8 0, .int .u8 0, .int .u8 0, .int .u8 0, .int .u8 0, .int .u8 0, .int .u8 0, .int .u8 0, .int .u8 0, .int .u8 0, .int .u8 0, .int .u8 0, .int .u8 0, .int .u8 0, .int .u8 0, .int .u8 0, .slice none 0 0] 67 (0, 0)) from blk_thr3 rfl)
  have HZr := hide (show Z = (((w1.alloc (.cells #[.int .i64 t1.k, .string t1.s, .int .i64 t1.n, .int .i64 t1.p] 62)).alloc (.cells #[.slice L ts.length cl, .int .i64 K1, .slice A m ca] 57)).alloc (.cells #[.int .i64 0, .int .i64 0, .int .i64 0, .int .i64 0, .int .u8 0, .int .u8 0, .int .u8 0, .int .u8 0, .int .u8 0, .int .u8 0, .int .u8 0, .int .u8 0, .int .u8 0, .int .u8 0, .int .u8 0, .int .u8 0, .int .u8 0, .int .u8 0, .int .u8 0, .int .u8 0, .slice none 0 0] 67)).setRow (w1.heap.size + 1 + 1) (Value.agg #[.int .i64 0, .int .i64 0, .int .i64 0, .int .i64 0, .int .u8 0, .int .u8 0, .int .u8 0, .int .u8 0, .int .u8 0, .int .u8 0, .int .u8 0, .int .u8 0, .int .u8 0, .int .u8 0, .int .u8 0, .int .u8 0, .int .u8 0, .int .u8 0, .int .u8 0, .int .u8 0, .slice none 0 0]).cells from HZ.out.trans (setRow_self _ _ _ _ _ HX.out).symm)
  have cs0 : Z.cell? ⟨w1.heap.size + 1, 0, none⟩ = some (.slice L ts.length cl) := blk_cell Hs.out rfl
  have cs1 : Z.cell? ⟨w1.heap.size + 1, 1, none⟩ = some (.int .i64 K1) := blk_cell Hs.out rfl
  have cs2 : Z.cell? ⟨w1.heap.size + 1, 2, none⟩ = some (.slice A m ca) := blk_cell Hs.out rfl
  have ct0 := blk_cell (i := 1) (v := .string t1.s) Ht1b.out rfl
  have cz : Z.cell? ⟨w1.heap.size + 1 + 1, 0, none⟩ = some (.int .i64 0) := blk_cell Hn.out rfl
  have fcz : Z.frozen? ⟨w1.heap.size + 1 + 1, 0, none⟩ = false := blk_froz Hn.out
  obtain ⟨Zk, hZk⟩ : ∃ Zk, Zk = Z.setCell ⟨w1.heap.size + 1 + 1, 0, none⟩ (.int .i64 6) := ⟨_, rfl⟩
  replace Ha := hide (show Zk.heap[w.heap.size + 1]? = some (.cells #[.int .i64 0, .int .i64 0, .int .i64 0, .int .i64 0, .int .u8 0, .int .u8 0, .int .u8 0, .int .u8 0, .int .u8 0, .int .u8 0, .int .u8 0, .int .u8 0, .int .u8 0, .int .u8 0, .int .u8 0, .int .u8 0, .int .u8 0, .int .u8 0, .int .u8 0, .int .u8 0, .slice none 0 0] 67 (0, 0)) from set_other hZk Ha.out (by omega))
  replace Hc := hide (show Zk.heap[w.heap.size + 2]? = some (.cells #[.slice none 0 0, .int .i64 0, .slice none 0 0] 57 (0, 0)) from set_other hZk Hc.out (by omega))
  replace Ht1b := hide (show Zk.heap[w1.heap.size]? = some (.cells #[.int .i64 t1.k, .string t1.s, .int .i64 t1.n, .int .i64 t1.p] 62 (0, 0)) from set_other hZk Ht1b.out (by omega))
  replace Hs := hide (show Zk.heap[w1.heap.size + 1]? = some (.cells #[.slice L ts.length cl, .int .i64 K1, .slice A m ca] 57 (0, 0)) from set_other hZk Hs.out (by omega))
  replace Hn := hide (show Zk.heap[w1.heap.size + 1 + 1]? = some (.cells (Nd.cells (mkN 6 0 0 0) (.slice none 0 0)).toArray 67 (0, 0)) from set_nd hZk Hn.out rfl)
  have szZk := set_size hZk
  replace Hbel := hide (set_bel hZk Hbel.out (by omega))
  have HZk := hide hZk
  clear hZk
  go_wp2_with ((with_reducible refine wpList_store_row rfl 67 (.tmp 6) (.tmp 32) rfl (w1.heap.size + 1 + 1) rfl (.agg #[.int .i64 0, .int .i64 0, .int .i64 0, .int .i64 0, .int .u8 0, .int .u8 0, .int .u8 0, .int .u8 0, .int .u8 0, .int .u8 0, .int .u8 0, .int .u8 0, .int .u8 0, .int .u8 0, .int .u8 0, .int .u8 0, .int .u8 0, .int .u8 0, .int .u8 0, .int .u8 0, .slice none 0 0]) rfl _ _ HX.out rfl (by kernel_rfl) z67_one ?_); rw [← HZr.out])
  rw [← HZk.out]
  clear cz fcz cs0 cs1 cs2 ct0
  refine Calls.mono (rmust_r Zk L cl ts K1 A m ca 2 _ hl hK1 ((HT.out.below Hbel.out (Nat.le_refl _)).more Hbel.out.size)) ?_
  rintro e w2 ⟨t2, K2, rfl, hmt2, hb⟩
  have hK2 := mustR_range hK1 2 _ hmt2
  have Hmt2 := hide hmt2
  clear hmt2
  have lew2 := hb.size
  replace Ha := hide (show w2.heap[w.heap.size + 1]? = some (.cells #[.int .i64 0, .int .i64 0, .int .i64 0, .int .i64 0, .int .u8 0, .int .u8 0, .int .u8 0, .int .u8 0, .int .u8 0, .int .u8 0, .int .u8 0, .int .u8 0, .int .u8 0, .int .u8 0, .int .u8 0, .int .u8 0, .int .u8 0, .int .u8 0, .int .u8 0, .int .u8 0, .slice none 0 0] 67 (0, 0)) from (hb.block _ (World.lt_of_blk Ha.out)).trans Ha.out)
  replace Hc := hide (show w2.heap[w.heap.size + 2]? = some (.cells #[.slice none 0 0, .int .i64 0, .slice none 0 0] 57 (0, 0)) from (hb.block _ (World.lt_of_blk Hc.out)).trans Hc.out)
  replace Ht1b := hide (show w2.heap[w1.heap.size]? = some (.cells #[.int .i64 t1.k, .string t1.s, .int .i64 t1.n, .int .i64 t1.p] 62 (0, 0)) from (hb.block _ (World.lt_of_blk Ht1b.out)).trans Ht1b.out)
  replace Hs := hide (show w2.heap[w1.heap.size + 1]? = some (.cells #[.slice L ts.length cl, .int .i64 K1, .slice A m ca] 57 (0, 0)) from (hb.block _ (World.lt_of_blk Hs.out)).trans Hs.out)
  replace Hn := hide (show w2.heap[w1.heap.size + 1 + 1]? = some (.cells (Nd.cells (mkN 6 0 0 0) (.slice none 0 0)).toArray 67 (0, 0)) from (hb.block _ (World.lt_of_blk Hn.out)).trans Hn.out)
  replace Hbel := hide (Hbel.out.trans (hb.mono Hbel.out.size))
  clear hb
  have c0 : w2.cell? ⟨w1.heap.size + 1 + 1, 1, none⟩ = some (.int .i64 0) := blk_cell Hn.out rfl
  have fc0 : w2.frozen? ⟨w1.heap.size + 1 + 1, 1, none⟩ = false := blk_froz Hn.out
  have ltn : w1.heap.size + 1 + 1 < w2.heap.size := World.lt_of_blk Hn.out
  have ltn' : w1.heap.size + 1 + 1 < w2.heap.size + 1 := by omega
  obtain ⟨Z2, hZ2⟩ : ∃ Z2, Z2 = w2.setCell ⟨w1.heap.size + 1 + 1, 1, none⟩ (.int .i64 t2.n) := ⟨_, rfl⟩
  replace Ha := hide (show Z2.heap[w.heap.size + 1]? = some (.cells #[.int .i64 0, .int .i64 0, .int .i64 0, .int .i64 0, .int .u8 0, .int .u8 0, .int .u8 0, .int .u8 0, .int .u8 0, .int .u8 0, .int .u8 0, .int .u8 0, .int .u8 0, .int .u8 0, .int .u8 0, .int .u8 0, .int .u8 0, .int .u8 0, .int .u8 0, .int .u8 0, .slice none 0 0] 67 (0, 0)) from set_other hZ2 Ha.out (by omega))
  replace Hc := hide (show Z2.heap[w.heap.size + 2]? = some (.cells #[.slice none 0 0, .int .i64 0, .slice none 0 0] 57 (0, 0)) from set_other hZ2 Hc.out (by omega))
  replace Ht1b := hide (show Z2.heap[w1.heap.size]? = some (.cells #[.int .i64 t1.k, .string t1.s, .int .i64 t1.n, .int .i64 t1.p] 62 (0, 0)) from set_other hZ2 Ht1b.out (by omega))
  replace Hs := hide (show Z2.heap[w1.heap.size + 1]? = some (.cells #[.slice L ts.length cl, .int .i64 K1, .slice A m ca] 57 (0, 0)) from set_other hZ2 Hs.out (by omega))
  replace Hn := hide (show Z2.heap[w1.heap.size + 1 + 1]? = some (.cells (Nd.cells (mkN 6 t2.n 0 0) (.slice none 0 0)).toArray 67 (0, 0)) from set_nd hZ2 Hn.out rfl)
  have szZ2 := set_size hZ2
  replace Hbel := hide (set_bel hZ2 Hbel.out (by omega))
  have HZ2 := hide hZ2
  clear hZ2
  obtain ⟨Y2, hY2⟩ : ∃ Y2, Y2 = (Z2.alloc (.cells #[.int .i64 t2.k, .string t2.s, .int .i64 t2.n, .int .i64 t2.p] 62)).alloc (.cells #[.slice L ts.length cl, .int .i64 K2, .slice A m ca] 57) := ⟨_, rfl⟩
  replace Ha := hide (show Y2.heap[w.heap.size + 1]? = some (.cells #[.int .i64 0, .int .i64 0, .int .i64 0, .int .i64 0, .int .u8 0, .int .u8 0, .int .u8 0, .int .u8 0, .int .u8 0, .int .u8 0, .int .u8 0, .int .u8 0, .int .u8 0, .int .u8 0, .int .u8 0, .int .u8 0, .int .u8 0, .int .u8 0, .int .u8 0, .int .u8 0, .slice none 0 0] 67 (0, 0)) from blk_two hY2 Ha.out)
  replace Hc := hide (show Y2.heap[w.heap.size + 2]? = some (.cells #[.slice none 0 0, .int .i64 0, .slice none 0 0] 57 (0, 0)) from blk_two hY2 Hc.out)
  replace Ht1b := hide (show Y2.heap[w1.heap.size]? = some (.cells #[.int .i64 t1.k, .string t1.s, .int .i64 t1.n, .int .i64 t1.p] 62 (0, 0)) from blk_two hY2 Ht1b.out)
  replace Hs := hide (show Y2.heap[w1.heap.size + 1]? = some (.cells #[.slice L ts.length cl, .int .i64 K1, .slice A m ca] 57 (0, 0)) from blk_two hY2 Hs.out)
  replace Hn := hide (show Y2.heap[w1.heap.size + 1 + 1]? = some (.cells (Nd.cells (mkN 6 t2.n 0 0) (.slice none 0 0)).toArray 67 (0, 0)) from blk_two hY2 Hn.out)
  have Hr := hide (show Y2.heap[w2.heap.size + 1]? = some (.cells #[.slice L ts.length cl, .int .i64 K2, .slice A m ca] 57 (0, 0)) from (by rw [← szZ2]; exact blk_two2 hY2))
  have szY2 : Y2.heap.size = w2.heap.size + 2 := (by rw [← szZ2]; exact size_two hY2)
  replace Hbel := hide (Hbel.out.trans ((bel_two hY2).mono Hbel.out.size))
  have HY2 := hide hY2
  clear hY2
  go_wp2_with fail
  rw [← HZ2.out]
  rw [← HY2.out]
  clear c0 fc0 ltn ltn'
  refine Calls.mono (rmust_r Y2 L cl ts K2 A m ca 1 _ hl hK2 ((HT.out.below Hbel.out (Nat.le_refl _)).more Hbel.out.size)) ?_
  rintro e w3 ⟨t3, K3, rfl, hmt3, hb⟩
  have hK3 := mustR_range hK2 1 _ hmt3
  have Hmt3 := hide hmt3
  clear hmt3
  have lew3 := hb.size
  replace Ha := hide (show w3.heap[w.heap.size + 1]? = some (.cells #[.int .i64 0, .int .i64 0, .int .i64 0, .int .i64 0, .int .u8 0, .int .u8 0, .int .u8 0, .int .u8 0, .int .u8 0, .int .u8 0, .int .u8 0, .int .u8 0, .int .u8 0, .int .u8 0, .int .u8 0, .int .u8 0, .int .u8 0, .int .u8 0, .int .u8 0, .int .u8 0, .slice none 0 0] 67 (0, 0)) from (hb.block _ (World.lt_of_blk Ha.out)).trans Ha.out)
  replace Hc := hide (show w3.heap[w.heap.size + 2]? = some (.cells #[.slice none 0 0, .int .i64 0, .slice none 0 0] 57 (0, 0)) from (hb.block _ (World.lt_of_blk Hc.out)).trans Hc.out)
  replace Ht1b := hide (show w3.heap[w1.heap.size]? = some (.cells #[.int .i64 t1.k, .string t1.s, .int .i64 t1.n, .int .i64 t1.p] 62 (0, 0)) from (hb.block _ (World.lt_of_blk Ht1b.out)).trans Ht1b.out)
  replace Hs := hide (show w3.heap[w1.heap.size + 1]? = some (.cells #[.slice L ts.length cl, .int .i64 K1, .slice A m ca] 57 (0, 0)) from (hb.block _ (World.lt_of_blk Hs.out)).trans Hs.out)
  replace Hn := hide (show w3.heap[w1.heap.size + 1 + 1]? = some (.cells (Nd.cells (mkN 6 t2.n 0 0) (.slice none 0 0)).toArray 67 (0, 0)) from (hb.block _ (World.lt_of_blk Hn.out)).trans Hn.out)
  replace Hr := hide (show w3.heap[w2.heap.size + 1]? = some (.cells #[.slice L ts.length cl, .int .i64 K2, .slice A m ca] 57 (0, 0)) from (hb.block _ (World.lt_of_blk Hr.out)).trans Hr.out)
  replace Hbel := hide (Hbel.out.trans (hb.mono Hbel.out.size))
  clear hb
  obtain ⟨Y3, hY3⟩ : ∃ Y3, Y3 = (w3.alloc (.cells #[.int .i64 t3.k, .string t3.s, .int .i64 t3.n, .int .i64 t3.p] 62)).alloc (.cells #[.slice L ts.length cl, .int .i64 K3, .slice A m ca] 57) := ⟨_, rfl⟩
  replace Ha := hide (show Y3.heap[w.heap.size + 1]? = some (.cells #[.int .i64 0, .int .i64 0, .int .i64 0, .int .i64 0, .int .u8 0, .int .u8 0, .int .u8 0, .int .u8 0, .int .u8 0, .int .u8 0, .int .u8 0, .int .u8 0, .int .u8 0, .int .u8 0, .int .u8 0, .int .u8 0, .int .u8 0, .int .u8 0, .int .u8 0, .int .u8 0, .slice none 0 0] 67 (0, 0)) from blk_two hY3 Ha.out)
  replace Hc := hide (show Y3.heap[w.heap.size + 2]? = some (.cells #[.slice none 0 0, .int .i64 0, .slice none 0 0] 57 (0, 0)) from blk_two hY3 Hc.out)
  replace Ht1b := hide (show Y3.heap[w1.heap.size]? = some (.cells #[.int .i64 t1.k, .string t1.s, .int .i64 t1.n, .int .i64 t1.p] 62 (0, 0)) from blk_two hY3 Ht1b.out)
  replace Hs := hide (show Y3.heap[w1.heap.size + 1]? = some (.cells #[.slice L ts.length cl, .int .i64 K1, .slice A m ca] 57 (0, 0)) from blk_two hY3 Hs.out)
  replace Hn := hide (show Y3.heap[w1.heap.size + 1 + 1]? = some (.cells (Nd.cells (mkN 6 t2.n 0 0) (.slice none 0 0)).toArray 67 (0, 0)) from blk_two hY3 Hn.out)
  replace Hr := hide (show Y3.heap[w2.heap.size + 1]? = some (.cells #[.slice L ts.length cl, .int .i64 K2, .slice A m ca] 57 (0, 0)) from blk_two hY3 Hr.out)
  replace Hr := hide (show Y3.heap[w3.heap.size + 1]? = some (.cells #[.slice L ts.length cl, .int .i64 K3, .slice A m ca] 57 (0, 0)) from blk_two2 hY3)
  have szY3 : Y3.heap.size = w3.heap.size + 2 := size_two hY3
  replace Hbel := hide (Hbel.out.trans ((bel_two hY3).mono Hbel.out.size))
  have HY3 := hide hY3
  clear hY3
  have hLd := (mustR_any (mustR_any HL1.out 2 _ Hmt2.out).1 1 _ Hmt3.out).1
  have HLd := hide hLd
  clear hLd
  go_wp2_with fail
  rw [← HY3.out]
  refine Calls.mono (rdigest_any Y3 L cl ts K3 A m ca _ hl HLd.out ((HT.out.below Hbel.out (Nat.le_refl _)).more Hbel.out.size)) ?_
  rintro e w4 ⟨hb, d, K4, rfl, hdg⟩
  have Hdg := hide hdg
  clear hdg
  have lew4 := hb.size
  replace Ha := hide (show w4.heap[w.heap.size + 1]? = some (.cells #[.int .i64 0, .int .i64 0, .int .i64 0, .int .i64 0, .int .u8 0, .int .u8 0, .int .u8 0, .int .u8 0, .int .u8 0, .int .u8 0, .int .u8 0, .int .u8 0, .int .u8 0, .int .u8 0, .int .u8 0, .int .u8 0, .int .u8 0, .int .u8 0, .int .u8 0, .int .u8 0, .slice none 0 0] 67 (0, 0)) from (hb.block _ (World.lt_of_blk Ha.out)).trans Ha.out)
  replace Hc := hide (show w4.heap[w.heap.size + 2]? = some (.cells #[.slice none 0 0, .int .i64 0, .slice none 0 0] 57 (0, 0)) from (hb.block _ (World.lt_of_blk Hc.out)).trans Hc.out)
  replace Ht1b := hide (show w4.heap[w1.heap.size]? = some (.cells #[.int .i64 t1.k, .string t1.s, .int .i64 t1.n, .int .i64 t1.p] 62 (0, 0)) from (hb.block _ (World.lt_of_blk Ht1b.out)).trans Ht1b.out)
  replace Hs := hide (show w4.heap[w1.heap.size + 1]? = some (.cells #[.slice L ts.length cl, .int .i64 K1, .slice A m ca] 57 (0, 0)) from (hb.block _ (World.lt_of_blk Hs.out)).trans Hs.out)
  replace Hn := hide (show w4.heap[w1.heap.size + 1 + 1]? = some (.cells (Nd.cells (mkN 6 t2.n 0 0) (.slice none 0 0)).toArray 67 (0, 0)) from (hb.block _ (World.lt_of_blk Hn.out)).trans Hn.out)
  replace Hr := hide (show w4.heap[w3.heap.size + 1]? = some (.cells #[.slice L ts.length cl, .int .i64 K3, .slice A m ca] 57 (0, 0)) from (hb.block _ (World.lt_of_blk Hr.out)).trans Hr.out)
  replace Hbel := hide (Hbel.out.trans (hb.mono Hbel.out.size))
  clear hb
  obtain ⟨Y4, hY4⟩ : ∃ Y4, Y4 = (w4.alloc (.cells #[.int .u8 0, .int .u8 0, .int .u8 0, .int .u8 0, .int .u8 0, .int .u8 0, .int .u8 0, .int .u8 0, .int .u8 0, .int .u8 0, .int .u8 0, .int .u8 0, .int .u8 0, .int .u8 0, .int .u8 0, .int .u8 0] 65)).alloc (.cells #[.slice none 0 0, .int .i64 0, .slice none 0 0] 57) := ⟨_, rfl⟩
  replace Ha := hide (show Y4.heap[w.heap.size + 1]? = some (.cells #[.int .i64 0, .int .i64 0, .int .i64 0, .int .i64 0, .int .u8 0, .int .u8 0, .int .u8 0, .int .u8 0, .int .u8 0, .int .u8 0, .int .u8 0, .int .u8 0, .int .u8 0, .int .u8 0, .int .u8 0, .int .u8 0, .int .u8 0, .int .u8 0, .int .u8 0, .int .u8 0, .slice none 0 0] 67 (0, 0)) from blk_two hY4 Ha.out)
  replace Hc := hide (show Y4.heap[w.heap.size + 2]? = some (.cells #[.slice none 0 0, .int .i64 0, .slice none 0 0] 57 (0, 0)) from blk_two hY4 Hc.out)
  replace Ht1b := hide (show Y4.heap[w1.heap.size]? = some (.cells #[.int .i64 t1.k, .string t1.s, .int .i64 t1.n, .int .i64 t1.p] 62 (0, 0)) from blk_two hY4 Ht1b.out)
  replace Hs := hide (show Y4.heap[w1.heap.size + 1]? = some (.cells #[.slice L ts.length cl, .int .i64 K1, .slice A m ca] 57 (0, 0)) from blk_two hY4 Hs.out)
  replace Hn := hide (show Y4.heap[w1.heap.size + 1 + 1]? = some (.cells (Nd.cells (mkN 6 t2.n 0 0) (.slice none 0 0)).toArray 67 (0, 0)) from blk_two hY4 Hn.out)
  replace Hr := hide (show Y4.heap[w3.heap.size + 1]? = some (.cells #[.slice L ts.length cl, .int .i64 K3, .slice A m ca] 57 (0, 0)) from blk_two hY4 Hr.out)
  have Hd := hide (show Y4.heap[w4.heap.size]? = some (.cells #[.int .u8 0, .int .u8 0, .int .u8 0, .int .u8 0, .int .u8 0, .int .u8 0, .int .u8 0, .int .u8 0, .int .u8 0, .int .u8 0, .int .u8 0, .int .u8 0, .int .u8 0, .int .u8 0, .int .u8 0, .int .u8 0] 65 (0, 0)) from blk_two1 hY4)
  replace Hr := hide (show Y4.heap[w4.heap.size + 1]? = some (.cells #[.slice none 0 0, .int .i64 0, .slice none 0 0] 57 (0, 0)) from blk_two2 hY4)
  have szY4 := size_two hY4
  replace Hbel := hide (Hbel.out.trans ((bel_two hY4).mono Hbel.out.size))
  have HY4 := hide hY4
  clear hY4
  have HX1 := hide Hd.out
  rw [HY4.out] at HX1
  obtain ⟨V4, hV4⟩ : ∃ V4, V4 = Y4.setRow (w4.heap.size) (Value.agg (digArr d)).cells := ⟨_, rfl⟩
  replace Ha := hide (show V4.heap[w.heap.size + 1]? = some (.cells #[.int .i64 0, .int .i64 0, .int .i64 0, .int .i64 0, .int .u8 0, .int .u8 0, .int .u8 0, .int .u8 0, .int .u8 0, .int .u8 0, .int .u8 0, .int .u8 0, .int .u8 0, .int .u8 0, .int .u8 0, .int .u8 0, .int .u8 0, .int .u8 0, .int .u8 0, .int .u8 0, .slice none 0 0] 67 (0, 0)) from row_other hV4 Ha.out (by omega))
  replace Hc := hide (show V4.heap[w.heap.size + 2]? = some (.cells #[.slice none 0 0, .int .i64 0, .slice none 0 0] 57 (0, 0)) from row_other hV4 Hc.out (by omega))
  replace Ht1b := hide (show V4.heap[w1.heap.size]? = some (.cells #[.int .i64 t1.k, .string t1.s, .int .i64 t1.n, .int .i64 t1.p] 62 (0, 0)) from row_other hV4 Ht1b.out (by omega))
  replace Hs := hide (show V4.heap[w1.heap.size + 1]? = some (.cells #[.slice L ts.length cl, .int .i64 K1, .slice A m ca] 57 (0, 0)) from row_other hV4 Hs.out (by omega))
  replace Hn := hide (show V4.heap[w1.heap.size + 1 + 1]? = some (.cells (Nd.cells (mkN 6 t2.n 0 0) (.slice none 0 0)).toArray 67 (0, 0)) from row_other hV4 Hn.out (by omega))
  replace Hr := hide (show V4.heap[w4.heap.size + 1]? = some (.cells #[.slice none 0 0, .int .i64 0, .slice none 0 0] 57 (0, 0)) from row_other hV4 Hr.out (by omega))
  replace Hd := hide (show V4.heap[w4.heap.size]? = some (.cells (digArr d) 65 (0, 0)) from row_at hV4 Hd.out)
  have szV4 := row_size hV4
  replace Hbel := hide (row_bel hV4 Hbel.out (by omega))
  have HV4 := hide hV4
  clear hV4
  have HX2 := Hr
  obtain ⟨Z4, hZ4⟩ : ∃ Z4, Z4 = V4.setRow (w4.heap.size + 1) (Value.agg #[.slice L ts.length cl, .int .i64 K4, .slice A m ca]).cells := ⟨_, rfl⟩
  replace Ha := hide (show Z4.heap[w.heap.size + 1]? = some (.cells #[.int .i64 0, .int .i64 0, .int .i64 0, .int .i64 0, .int .u8 0, .int .u8 0, .int .u8 0, .int .u8 0, .int .u8 0, .int .u8 0, .int .u8 0, .int .u8 0, .int .u8 0, .int .u8 0, .int .u8 0, .int .u8 0, .int .u8 0, .int .u8 0, .int .u8 0, .int .u8 0, .slice none 0 0] 67 (0, 0)) from row_other hZ4 Ha.out (by omega))
  replace Hc := hide (show Z4.heap[w.heap.size + 2]? = some (.cells #[.slice none 0 0, .int .i64 0, .slice none 0 0] 57 (0, 0)) from row_other hZ4 Hc.out (by omega))
  replace Ht1b := hide (show Z4.heap[w1.heap.size]? = some (.cells #[.int .i64 t1.k, .string t1.s, .int .i64 t1.n, .int .i64 t1.p] 62 (0, 0)) from row_other hZ4 Ht1b.out (by omega))
  replace Hs := hide (show Z4.heap[w1.heap.size + 1]? = some (.cells #[.slice L ts.length cl, .int .i64 K1, .slice A m ca] 57 (0, 0)) from row_other hZ4 Hs.out (by omega))
  replace Hn := hide (show Z4.heap[w1.heap.size + 1 + 1]? = some (.cells (Nd.cells (mkN 6 t2.n 0 0) (.slice none 0 0)).toArray 67 (0, 0)) from row_other hZ4 Hn.out (by omega))
  replace Hr := hide (show Z4.heap[w4.heap.size + 1]? = some (.cells #[.slice L ts.length cl, .int .i64 K4, .slice A m ca] 57 (0, 0)) from row_at hZ4 Hr.out)
  replace Hd := hide (show Z4.heap[w4.heap.size]? = some (.cells (digArr d) 65 (0, 0)) from row_other hZ4 Hd.out (by omega))
  have szZ4 := row_size hZ4
  replace Hbel := hide (row_bel hZ4 Hbel.out (by omega))
  have HZ4 := hide hZ4
  clear hZ4
  have HX3 := Hd
  have HX4 := Hn
  obtain ⟨Z5, hZ5⟩ : ∃ Z5, Z5 = Z4.setRow (w1.heap.size + 1 + 1) (Nd.cells ⟨(mkN 6 t2.n 0 0).k, (mkN 6 t2.n 0 0).n, (mkN 6 t2.n 0 0).m, (mkN 6 t2.n 0 0).sd, d, (mkN 6 t2.n 0 0).of⟩ (.slice none 0 0)).toArray := ⟨_, rfl⟩
  replace Ha := hide (show Z5.heap[w.heap.size + 1]? = some (.cells #[.int .i64 0, .int .i64 0, .int .i64 0, .int .i64 0, .int .u8 0, .int .u8 0, .int .u8 0, .int .u8 0, .int .u8 0, .int .u8 0, .int .u8 0, .int .u8 0, .int .u8 0, .int .u8 0, .int .u8 0, .int .u8 0, .int .u8 0, .int .u8 0, .int .u8 0, .int .u8 0, .slice none 0 0] 67 (0, 0)) from row_other hZ5 Ha.out (by omega))
  replace Hc := hide (show Z5.heap[w.heap.size + 2]? = some (.cells #[.slice none 0 0, .int .i64 0, .slice none 0 0] 57 (0, 0)) from row_other hZ5 Hc.out (by omega))
  replace Ht1b := hide (show Z5.heap[w1.heap.size]? = some (.cells #[.int .i64 t1.k, .string t1.s, .int .i64 t1.n, .int .i64 t1.p] 62 (0, 0)) from row_other hZ5 Ht1b.out (by omega))
  replace Hs := hide (show Z5.heap[w1.heap.size + 1]? = some (.cells #[.slice L ts.length cl, .int .i64 K1, .slice A m ca] 57 (0, 0)) from row_other hZ5 Hs.out (by omega))
  replace Hn := hide (show Z5.heap[w1.heap.size + 1 + 1]? = some (.cells (Nd.cells ⟨6, t2.n, 0, 0, d, []⟩ (.slice none 0 0)).toArray 67 (0, 0)) from row_at hZ5 Hn.out)
  replace Hr := hide (show Z5.heap[w4.heap.size + 1]? = some (.cells #[.slice L ts.length cl, .int .i64 K4, .slice A m ca] 57 (0, 0)) from row_other hZ5 Hr.out (by omega))
  replace Hd := hide (show Z5.heap[w4.heap.size]? = some (.cells (digArr d) 65 (0, 0)) from row_other hZ5 Hd.out (by omega))
  have szZ5 := row_size hZ5
  replace Hbel := hide (row_bel hZ5 Hbel.out (by omega))
  have HZ5 := hide hZ5
  clear hZ5
  go_wp2_with (first
    | (with_reducible refine wpList_store_row rfl 65 (.tmp 16) (.tmp 94) rfl w4.heap.size rfl (.agg (digArr d)) rfl _ _ HX1.out (dig_size d) (by kernel_rfl) (dig_one' d) ?_; rw [← HY4.out, ← HV4.out])
    | (with_reducible refine wpList_store_row rfl 57 (.tmp 17) (.tmp 95) rfl (w4.heap.size + 1) rfl (.agg #[.slice L ts.length cl, .int .i64 K4, .slice A m ca]) rfl _ _ HX2.out rfl (by kernel_rfl) (by simp [Value.cells, Value.oneCell']) ?_; rw [← HZ4.out])
    | (with_reducible refine wpList_load_row rfl 65 (.tmp 16) rfl w4.heap.size rfl 65 _ (0, 0) _ HX3.out Tryz.underlying65 rfl (by kernel_rfl) ?_)
    | (with_reducible refine wpList_store_dig rfl (.tmp 97) (.tmp 96) rfl (w1.heap.size + 1 + 1) rfl d rfl (mkN 6 t2.n 0 0) (.slice none 0 0) HX4.out ?_; rw [← HZ5.out]))
  have lt_n := World.lt_of_blk Hn.out
  have lt_r := World.lt_of_blk Hr.out
  refine wp_two_chain (by kernel_rfl) rfl (by kernel_rfl) (by kernel_rfl) (by kernel_rfl) (by kernel_rfl) (by kernel_rfl) (by kernel_rfl) (by kernel_rfl) (by kernel_rfl) (fun _ _ d _ _ h => by cases d <;> exact h) rfl rfl rfl rfl rfl rfl (w.heap.size + 1) (w.heap.size + 2) (by omega) (.agg (Nd.cells ⟨6, t2.n, 0, 0, d, []⟩ (.slice none 0 0)).toArray) (.agg #[.slice L ts.length cl, .int .i64 K4, .slice A m ca]) (fun W hW => y_load 67 (.tmp 6) rfl (w1.heap.size + 1 + 1) (by omega) (by omega) rfl 67 _ (0, 0) _ Hn.out Tryz.underlying67 rfl (by kernel_rfl) hW) (fun W hW => y_load 57 (.tmp 17) rfl (w4.heap.size + 1) (by omega) (by omega) rfl 57 _ (0, 0) _ Hr.out Tryz.underlying57 rfl (by kernel_rfl) hW) 67 (.tmp 2) (.tmp 98) rfl rfl (.agg (Nd.cells ⟨6, t2.n, 0, 0, d, []⟩ (.slice none 0 0)).toArray) rfl 57 (.tmp 3) (.tmp 99) rfl rfl (.agg #[.slice L ts.length cl, .int .i64 K4, .slice A m ca]) rfl _ _ Ha.out rfl (by kernel_rfl) (nd_one rfl) _ _ Hc.out rfl (by kernel_rfl) (by simp [Value.cells, Value.oneCell']) ?_
  obtain ⟨q1, q2, q3⟩ := ret2_world' Hbel.out Ha.out Hc.out (Nd.cells ⟨6, t2.n, 0, 0, d, []⟩ (.slice none 0 0)).toArray #[.slice L ts.length cl, .int .i64 K4, .slice A m ca]
  go_wp2
  refine bodyPost_ret (results_two_rows Tryz.results75 _ _ (w.heap.size + 1) (w.heap.size + 2) (Nd.cells ⟨6, t2.n, 0, 0, d, []⟩ (.slice none 0 0)).toArray #[.slice L ts.length cl, .int .i64 K4, .slice A m ca] rfl rfl (run_loadVar_row _ _ 67 67 _ (0, 0) _ q1 Tryz.underlying67 rfl (by kernel_rfl)) (run_loadVar_row _ _ 57 57 _ (0, 0) _ q2 Tryz.underlying57 rfl (by kernel_rfl))) rfl ?_
  exact ⟨q3, ⟨6, t2.n, 0, 0, d, []⟩, K4, rfl, rfl, (by rw [Hres.out]; exact stage_ok HL1.out (by simp) (by simp [tIs]) Hmt2.out Hmt3.out (fun o ho => by rw [Live.uniq ho HLd.out]; exact Hdg.out))⟩
set_option maxRecDepth 100000 in
set_option maxHeartbeats 16000000 in
theorem ratom_p_poi (w : World) (L : Option Addr) (cl : Nat) (ts : List Tok) (K : Int) (A : Option Addr) (m ca : Nat) (l : List Tok) (hl : ts.length ≤ 1000000) (hK : Live ts K (some l)) (h : Toks w w.heap.size L ts) (qany : ((mustR ts K 1 { data := #[] }).1.s.toList == [97, 110, 121]) = false) (qver : ((mustR ts K 1 { data := #[] }).1.s.toList == [118, 101, 114, 115, 105, 111, 110]) = false) (qepo : ((mustR ts K 1 { data := #[] }).1.s.toList == [101, 112, 111, 99, 104]) = false) (qsta : ((mustR ts K 1 { data := #[] }).1.s.toList == [115, 116, 97, 103, 101]) = false) (qpoi : ((mustR ts K 1 { data := #[] }).1.s.toList == [112, 111, 105, 110, 116]) = true) :
    Calls Tryz.prog 75 #[.agg #[.slice L ts.length cl, .int .i64 K, .slice A m ca]] w (PostT w L cl ts A m ca (atomF l)) := by
  have HT := hide h
  have hKr := hK.range
  obtain ⟨W0, hW0⟩ : ∃ W0, W0 = ((w.alloc (.cells #[.slice L ts.length cl, .int .i64 K, .slice A m ca] 57)).alloc (.cells #[.int .i64 0, .int .i64 0, .int .i64 0, .int .i64 0, .int .u8 0, .int .u8 0, .int .u8 0, .int .u8 0, .int .u8 0, .int .u8 0, .int .u8 0, .int .u8 0, .int .u8 0, .int .u8 0, .int .u8 0, .int .u8 0, .int .u8 0, .int .u8 0, .int .u8 0, .int .u8 0, .slice none 0 0] 67)).alloc (.cells #[.slice none 0 0, .int .i64 0, .slice none 0 0] 57) := ⟨_, rfl⟩
  have Ha := hide (show W0.heap[w.heap.size + 1]? = some (.cells #[.int .i64 0, .int .i64 0, .int .i64 0, .int .i64 0, .int .u8 0, .int .u8 0, .int .u8 0, .int .u8 0, .int .u8 0, .int .u8 0, .int .u8 0, .int .u8 0, .int .u8 0, .int .u8 0, .int .u8 0, .int .u8 0, .int .u8 0, .int .u8 0, .int .u8 0, .int .u8 0, .slice none 0 0] 67 (0, 0)) from blk_thr2 hW0)
  have Hc := hide (show W0.heap[w.heap.size + 2]? = some (.cells #[.slice none 0 0, .int .i64 0, .slice none 0 0] 57 (0, 0)) from blk_thr3 hW0)
  have szW0 := size_thr hW0
  have Hbel := hide (bel_thr hW0)
  have HW0 := hide hW0
  clear hW0
  have HK := hide hK
  clear h hK
  go_enter Tryz.func75, Tryz.ntmps75
  go_wp2_with fail
  rw [← HW0.out]
  refine Calls.mono (rmust_r W0 L cl ts K A m ca 1 _ hl hKr ((HT.out.below Hbel.out (Nat.le_refl _)).more Hbel.out.size)) ?_
  rintro e w1 ⟨t1, K1, rfl, hmt1, hb⟩
  have hK1 := mustR_range hKr 1 _ hmt1
  have Hmt1 := hide hmt1
  clear hmt1
  have lew1 := hb.size
  replace Ha := hide (show w1.heap[w.heap.size + 1]? = some (.cells #[.int .i64 0, .int .i64 0, .int .i64 0, .int .i64 0, .int .u8 0, .int .u8 0, .int .u8 0, .int .u8 0, .int .u8 0, .int .u8 0, .int .u8 0, .int .u8 0, .int .u8 0, .int .u8 0, .int .u8 0, .int .u8 0, .int .u8 0, .int .u8 0, .int .u8 0, .int .u8 0, .slice none 0 0] 67 (0, 0)) from (hb.block _ (World.lt_of_blk Ha.out)).trans Ha.out)
  replace Hc := hide (show w1.heap[w.heap.size + 2]? = some (.cells #[.slice none 0 0, .int .i64 0, .slice none 0 0] 57 (0, 0)) from (hb.block _ (World.lt_of_blk Hc.out)).trans Hc.out)
  replace Hbel := hide (Hbel.out.trans (hb.mono Hbel.out.size))
  clear hb
  rw [Hmt1.out] at qany qver qepo qsta qpoi
  have hat := atom_ok HK.out (by simp) Hmt1.out
  have h1z : w.heap.size + 3 ≤ w1.heap.size := by omega
  have hres : ∃ r, Live ts K1 (some r) ∧ atomF l = pointF r := by
    rcases hat with ⟨_, _, hs⟩ | ⟨r, hr, ha⟩
    · exfalso; simp [hs] at qpoi
    · refine ⟨r, hr, ?_⟩; rw [ha]; simp [tAny, tVersion, tEpoch, tStage, tPoint, *]
  obtain ⟨r, hL1, hres⟩ := hres
  have HL1 := hide hL1
  have Hres := hide hres
  clear hL1 hres hat
  obtain ⟨Z, hZ⟩ : ∃ Z, Z = ((w1.alloc (.cells #[.int .i64 t1.k, .string t1.s, .int .i64 t1.n, .int .i64 t1.p] 62)).alloc (.cells #[.slice L ts.length cl, .int .i64 K1, .slice A m ca] 57)).alloc (.cells #[.int .i64 0, .int .i64 0, .int .i64 0, .int .i64 0, .int .u8 0, .int .u8 0, .int .u8 0, .int .u8 0, .int .u8 0, .int .u8 0, .int .u8 0, .int .u8 0, .int .u8 0, .int .u8 0, .int .u8 0, .int .u8 0, .int .u8 0, .int .u8 0, .int .u8 0, .int .u8 0, .slice none 0 0] 67) := ⟨_, rfl⟩
  replace Ha := hide (show Z.heap[w.heap.size + 1]? = some (.cells #[.int .i64 0, .int .i64 0, .int .i64 0, .int .i64 0, .int .u8 0, .int .u8 0, .int .u8 0, .int .u8 0, .int .u8 0, .int .u8 0, .int .u8 0, .int .u8 0, .int .u8 0, .int .u8 0, .int .u8 0, .int .u8 0, .int .u8 0, .int .u8 0, .int .u8 0, .int .u8 0, .slice none 0 0] 67 (0, 0)) from blk_thr hZ Ha.out)
  replace Hc := hide (show Z.heap[w.heap.size + 2]? = some (.cells #[.slice none 0 0, .int .i64 0, .slice none 0 0] 57 (0, 0)) from blk_thr hZ Hc.out)
  have Ht1b := hide (show Z.heap[w1.heap.size]? = some (.cells #[.int .i64 t1.k, .string t1.s, .int .i64 t1.n, .int .i64 t1.p] 62 (0, 0)) from blk_thr1 hZ)
  have Hs := hide (show Z.heap[w1.heap.size + 1]? = some (.cells #[.slice L ts.length cl, .int .i64 K1, .slice A m ca] 57 (0, 0)) from blk_thr2 hZ)
  have Hn := hide (show Z.heap[w1.heap.size + 1 + 1]? = some (.cells (Nd.cells (mkN 0 0 0 0) (.slice none 0 0)).toArray 67 (0, 0)) from blk_thr3 hZ)
  have szZ := size_thr hZ
  replace Hbel := hide (Hbel.out.trans ((bel_thr hZ).mono Hbel.out.size))
  have HZ := hide hZ
  clear hZ
  have HX := hide (show (((w1.alloc (.cells #[.int .i64 t1.k, .string t1.s, .int .i64 t1.n, .int .i64 t1.p] 62)).alloc (.cells #[.slice L ts.length cl, .int .i64 K1, .slice A m ca] 57)).alloc (.cells #[.int .i64 0, .int .i64 0, .int .i64 0, .int .i64 0, .int .u8 0, .int .u8 0, .int .u8 0, .int .u8 0, .int .u8 0, .int .u8 0, .int .u8 0, .int .u8 0, .int .u8 0, .int .u8 0, .int .u8 0, .int .u8 0, .int .u8 0, .int .u8 0, .int .u8 0, .int .u8 0, .slice none 0 0] 67)).heap[w1.heap.size + 1 + 1]? = some (.cells #[.int .i64 0, .int .i64 0, .int .i64 0, .int .i64 0, .int .u8 0, .int .u8 0, .int .u8 0, .int .u8 0, .int .u8 0, .int .u8 0, .int .u8 0, .int .u8 0, .int .u8 0, .int .u8 0, .int .u8 0, .int .u8 0, .int .u8 0, .int .u8 0, .int .u8 0, .int .u8 0, .slice none 0 0] 67 (0, 0)) from blk_thr3 rfl)
  have HZr := hide (show Z = (((w1.alloc (.cells #[.int .i64 t1.k, .string t1.s, .int .i64 t1.n, .int .i64 t1.p] 62)).alloc (.cells #[.slice L ts.length cl, .int .i64 K1, .slice A m ca] 57)).alloc (.cells #[.int .i64 0, .int .i64 0, .int .i64 0, .int .i64 0, .int .u8 0, .int .u8 0, .int .u8 0, .int .u8 0, .int .u8 0, .int .u8 0, .int .u8 0, .int .u8 0, .int .u8 0, .int .u8 0, .int .u8 0, .int .u8 0, .int .u8 0, .int .u8 0, .int .u8 0, .int .u8 0, .slice none 0 0] 67)).setRow (w1.heap.size + 1 + 1) (Value.agg #[.int .i64 0, .int .i64 0, .int .i64 0, .int .i64 0, .int .u8 0, .int .u8 0, .int .u8 0, .int .u8 0, .int .u8 0, .int .u8 0, .int .u8 0, .int .u8 0, .int .u8 0, .int .u8 0, .int .u8 0, .int .u8 0, .int .u8 0, .int .u8 0, .int .u8 0, .int .u8 0, .slice none 0 0]).cells from HZ.out.trans (setRow_self _ _ _ _ _ HX.out).symm)
  have cs0 : Z.cell? ⟨w1.heap.size + 1, 0, none⟩ = some (.slice L ts.length cl) := blk_cell Hs.out rfl
  have cs1 : Z.cell? ⟨w1.heap.size + 1, 1, none⟩ = some (.int .i64 K1) := blk_cell Hs.out rfl
  have cs2 : Z.cell? ⟨w1.heap.size + 1, 2, none⟩ = some (.slice A m ca) := blk_cell Hs.out rfl
  have ct0 := blk_cell (i := 1) (v := .string t1.s) Ht1b.out rfl
  have cz : Z.cell? ⟨w1.heap.size + 1 + 1, 0, none⟩ = some (.int .i64 0) := blk_cell Hn.out rfl
  have fcz : Z.frozen? ⟨w1.heap.size + 1 + 1, 0, none⟩ = false := blk_froz Hn.out
  obtain ⟨Zk, hZk⟩ : ∃ Zk, Zk = Z.setCell ⟨w1.heap.size + 1 + 1, 0, none⟩ (.int .i64 7) := ⟨_, rfl⟩
  replace Ha := hide (show Zk.heap[w.heap.size + 1]? = some (.cells #[.int .i64 0, .int .i64 0, .int .i64 0, .int .i64 0, .int .u8 0, .int .u8 0, .int .u8 0, .int .u8 0, .int .u8 0, .int .u8 0, .int .u8 0, .int .u8 0, .int .u8 0, .int .u8 0, .int .u8 0, .int .u8 0, .int .u8 0, .int .u8 0, .int .u8 0, .int .u8 0, .slice none 0 0] 67 (0, 0)) from set_other hZk Ha.out (by omega))
  replace Hc := hide (show Zk.heap[w.heap.size + 2]? = some (.cells #[.slice none 0 0, .int .i64 0, .slice none 0 0] 57 (0, 0)) from set_other hZk Hc.out (by omega))
  replace Ht1b := hide (show Zk.heap[w1.heap.size]? = some (.cells #[.int .i64 t1.k, .string t1.s, .int .i64 t1.n, .int .i64 t1.p] 62 (0, 0)) from set_other hZk Ht1b.out (by omega))
  replace Hs := hide (show Zk.heap[w1.heap.size + 1]? = some (.cells #[.slice L ts.length cl, .int .i64 K1, .slice A m ca] 57 (0, 0)) from set_other hZk Hs.out (by omega))
  replace Hn := hide (show Zk.heap[w1.heap.size + 1 + 1]? = some (.cells (Nd.cells (mkN 7 0 0 0) (.slice none 0 0)).toArray 67 (0, 0)) from set_nd hZk Hn.out rfl)
  have szZk := set_size hZk
  replace Hbel := hide (set_bel hZk Hbel.out (by omega))
  have HZk := hide hZk
  clear hZk
  go_wp2_with ((with_reducible refine wpList_store_row rfl 67 (.tmp 6) (.tmp 32) rfl (w1.heap.size + 1 + 1) rfl (.agg #[.int .i64 0, .int .i64 0, .int .i64 0, .int .i64 0, .int .u8 0, .int .u8 0, .int .u8 0, .int .u8 0, .int .u8 0, .int .u8 0, .int .u8 0, .int .u8 0, .int .u8 0, .int .u8 0, .int .u8 0, .int .u8 0, .int .u8 0, .int .u8 0, .int .u8 0, .int .u8 0, .slice none 0 0]) rfl _ _ HX.out rfl (by kernel_rfl) z67_one ?_); rw [← HZr.out])
  rw [← HZk.out]
  clear cz fcz cs0 cs1 cs2 ct0
  refine Calls.mono (rmust_r Zk L cl ts K1 A m ca 2 _ hl hK1 ((HT.out.below Hbel.out (Nat.le_refl _)).more Hbel.out.size)) ?_
  rintro e w2 ⟨t2, K2, rfl, hmt2, hb⟩
  have hK2 := mustR_range hK1 2 _ hmt2
  have Hmt2 := hide hmt2
  clear hmt2
  have lew2 := hb.size
  replace Ha := hide (show w2.heap[w.heap.size + 1]? = some (.cells #[.int .i64 0, .int .i64 0, .int .i64 0, .int .i64 0, .int .u8 0, .int .u8 0, .int .u8 0, .int .u8 0, .int .u8 0, .int .u8 0, .int .u8 0, .int .u8 0, .int .u8 0, .int .u8 0, .int .u8 0, .int .u8 0, .int .u8 0, .int .u8 0, .int .u8 0, .int .u8 0, .slice none 0 0] 67 (0, 0)) from (hb.block _ (World.lt_of_blk Ha.out)).trans Ha.out)
  replace Hc := hide (show w2.heap[w.heap.size + 2]? = some (.cells #[.slice none 0 0, .int .i64 0, .slice none 0 0] 57 (0, 0)) from (hb.block _ (World.lt_of_blk Hc.out)).trans Hc.out)
  replace Ht1b := hide (show w2.heap[w1.heap.size]? = some (.cells #[.int .i64 t1.k, .string t1.s, .int .i64 t1.n, .int .i64 t1.p] 62 (0, 0)) from (hb.block _ (World.lt_of_blk Ht1b.out)).trans Ht1b.out)
  replace Hs := hide (show w2.heap[w1.heap.size + 1]? = some (.cells #[.slice L ts.length cl, .int .i64 K1, .slice A m ca] 57 (0, 0)) from (hb.block _ (World.lt_of_blk Hs.out)).trans Hs.out)
  replace Hn := hide (show w2.heap[w1.heap.size + 1 + 1]? = some (.cells (Nd.cells (mkN 7 0 0 0) (.slice none 0 0)).toArray 67 (0, 0)) from (hb.block _ (World.lt_of_blk Hn.out)).trans Hn.out)
  replace Hbel := hide (Hbel.out.trans (hb.mono Hbel.out.size))
  clear hb
  obtain ⟨Y2, hY2⟩ : ∃ Y2, Y2 = (w2.alloc (.cells #[.int .i64 t2.k, .string t2.s, .int .i64 t2.n, .int .i64 t2.p] 62)).alloc (.cells #[.slice L ts.length cl, .int .i64 K2, .slice A m ca] 57) := ⟨_, rfl⟩
  replace Ha := hide (show Y2.heap[w.heap.size + 1]? = some (.cells #[.int .i64 0, .int .i64 0, .int .i64 0, .int .i64 0, .int .u8 0, .int .u8 0, .int .u8 0, .int .u8 0, .int .u8 0, .int .u8 0, .int .u8 0, .int .u8 0, .int .u8 0, .int .u8 0, .int .u8 0, .int .u8 0, .int .u8 0, .int .u8 0, .int .u8 0, .int .u8 0, .slice none 0 0] 67 (0, 0)) from blk_two hY2 Ha.out)
  replace Hc := hide (show Y2.heap[w.heap.size + 2]? = some (.cells #[.slice none 0 0, .int .i64 0, .slice none 0 0] 57 (0, 0)) from blk_two hY2 Hc.out)
  replace Ht1b := hide (show Y2.heap[w1.heap.size]? = some (.cells #[.int .i64 t1.k, .string t1.s, .int .i64 t1.n, .int .i64 t1.p] 62 (0, 0)) from blk_two hY2 Ht1b.out)
  replace Hs := hide (show Y2.heap[w1.heap.size + 1]? = some (.cells #[.slice L ts.length cl, .int .i64 K1, .slice A m ca] 57 (0, 0)) from blk_two hY2 Hs.out)
  replace Hn := hide (show Y2.heap[w1.heap.size + 1 + 1]? = some (.cells (Nd.cells (mkN 7 0 0 0) (.slice none 0 0)).toArray 67 (0, 0)) from blk_two hY2 Hn.out)
  have Ht := hide (show Y2.heap[w2.heap.size]? = some (.cells #[.int .i64 t2.k, .string t2.s, .int .i64 t2.n, .int .i64 t2.p] 62 (0, 0)) from blk_two1 hY2)
  have Hr := hide (show Y2.heap[w2.heap.size + 1]? = some (.cells #[.slice L ts.length cl, .int .i64 K2, .slice A m ca] 57 (0, 0)) from blk_two2 hY2)
  have szY2 : Y2.heap.size = w2.heap.size + 2 := size_two hY2
  replace Hbel := hide (Hbel.out.trans ((bel_two hY2).mono Hbel.out.size))
  have HY2 := hide hY2
  clear hY2
  go_wp2_with fail
  rw [← HY2.out]
  refine Calls.mono (rmust_r Y2 L cl ts K2 A m ca 2 _ hl hK2 ((HT.out.below Hbel.out (Nat.le_refl _)).more Hbel.out.size)) ?_
  rintro e w3 ⟨t3, K3, rfl, hmt3, hb⟩
  have hK3 := mustR_range hK2 2 _ hmt3
  have Hmt3 := hide hmt3
  clear hmt3
  have lew3 := hb.size
  replace Ha := hide (show w3.heap[w.heap.size + 1]? = some (.cells #[.int .i64 0, .int .i64 0, .int .i64 0, .int .i64 0, .int .u8 0, .int .u8 0, .int .u8 0, .int .u8 0, .int .u8 0, .int .u8 0, .int .u8 0, .int .u8 0, .int .u8 0, .int .u8 0, .int .u8 0, .int .u8 0, .int .u8 0, .int .u8 0, .int .u8 0, .int .u8 0, .slice none 0 0] 67 (0, 0)) from (hb.block _ (World.lt_of_blk Ha.out)).trans Ha.out)
  replace Hc := hide (show w3.heap[w.heap.size + 2]? = some (.cells #[.slice none 0 0, .int .i64 0, .slice none 0 0] 57 (0, 0)) from (hb.block _ (World.lt_of_blk Hc.out)).trans Hc.out)
  replace Ht1b := hide (show w3.heap[w1.heap.size]? = some (.cells #[.int .i64 t1.k, .string t1.s, .int .i64 t1.n, .int .i64 t1.p] 62 (0, 0)) from (hb.block _ (World.lt_of_blk Ht1b.out)).trans Ht1b.out)
  replace Hs := hide (show w3.heap[w1.heap.size + 1]? = some (.cells #[.slice L ts.length cl, .int .i64 K1, .slice A m ca] 57 (0, 0)) from (hb.block _ (World.lt_of_blk Hs.out)).trans Hs.out)
  replace Hn := hide (show w3.heap[w1.heap.size + 1 + 1]? = some (.cells (Nd.cells (mkN 7 0 0 0) (.slice none 0 0)).toArray 67 (0, 0)) from (hb.block _ (World.lt_of_blk Hn.out)).trans Hn.out)
  replace Ht := hide (show w3.heap[w2.heap.size]? = some (.cells #[.int .i64 t2.k, .string t2.s, .int .i64 t2.n, .int .i64 t2.p] 62 (0, 0)) from (hb.block _ (World.lt_of_blk Ht.out)).trans Ht.out)
  replace Hr := hide (show w3.heap[w2.heap.size + 1]? = some (.cells #[.slice L ts.length cl, .int .i64 K2, .slice A m ca] 57 (0, 0)) from (hb.block _ (World.lt_of_blk Hr.out)).trans Hr.out)
  replace Hbel := hide (Hbel.out.trans (hb.mono Hbel.out.size))
  clear hb
  have c0 : w3.cell? ⟨w1.heap.size + 1 + 1, 1, none⟩ = some (.int .i64 0) := blk_cell Hn.out rfl
  have fc0 : w3.frozen? ⟨w1.heap.size + 1 + 1, 1, none⟩ = false := blk_froz Hn.out
  have c1 : w3.cell? ⟨w1.heap.size + 1 + 1, 2, none⟩ = some (.int .i64 0) := blk_cell Hn.out rfl
  have fc1 : w3.frozen? ⟨w1.heap.size + 1 + 1, 2, none⟩ = false := blk_froz Hn.out
  have ltn : w1.heap.size + 1 + 1 < w3.heap.size := World.lt_of_blk Hn.out
  have ltn' : w1.heap.size + 1 + 1 < w3.heap.size + 1 := by omega
  have c2 : w3.cell? ⟨w2.heap.size, 2, none⟩ = some (.int .i64 t2.n) := blk_cell Ht.out rfl
  have ltt : w2.heap.size < w3.heap.size := World.lt_of_blk Ht.out
  have ltt' : w2.heap.size < w3.heap.size + 1 := by omega
  obtain ⟨X3, hX3⟩ : ∃ X3, X3 = w3.setCell ⟨w1.heap.size + 1 + 1, 1, none⟩ (.int .i64 t2.n) := ⟨_, rfl⟩
  replace Ha := hide (show X3.heap[w.heap.size + 1]? = some (.cells #[.int .i64 0, .int .i64 0, .int .i64 0, .int .i64 0, .int .u8 0, .int .u8 0, .int .u8 0, .int .u8 0, .int .u8 0, .int .u8 0, .int .u8 0, .int .u8 0, .int .u8 0, .int .u8 0, .int .u8 0, .int .u8 0, .int .u8 0, .int .u8 0, .int .u8 0, .int .u8 0, .slice none 0 0] 67 (0, 0)) from set_other hX3 Ha.out (by omega))
  replace Hc := hide (show X3.heap[w.heap.size + 2]? = some (.cells #[.slice none 0 0, .int .i64 0, .slice none 0 0] 57 (0, 0)) from set_other hX3 Hc.out (by omega))
  replace Ht1b := hide (show X3.heap[w1.heap.size]? = some (.cells #[.int .i64 t1.k, .string t1.s, .int .i64 t1.n, .int .i64 t1.p] 62 (0, 0)) from set_other hX3 Ht1b.out (by omega))
  replace Hs := hide (show X3.heap[w1.heap.size + 1]? = some (.cells #[.slice L ts.length cl, .int .i64 K1, .slice A m ca] 57 (0, 0)) from set_other hX3 Hs.out (by omega))
  replace Hn := hide (show X3.heap[w1.heap.size + 1 + 1]? = some (.cells (Nd.cells (mkN 7 t2.n 0 0) (.slice none 0 0)).toArray 67 (0, 0)) from set_nd hX3 Hn.out rfl)
  replace Ht := hide (show X3.heap[w2.heap.size]? = some (.cells #[.int .i64 t2.k, .string t2.s, .int .i64 t2.n, .int .i64 t2.p] 62 (0, 0)) from set_other hX3 Ht.out (by omega))
  replace Hr := hide (show X3.heap[w2.heap.size + 1]? = some (.cells #[.slice L ts.length cl, .int .i64 K2, .slice A m ca] 57 (0, 0)) from set_other hX3 Hr.out (by omega))
  have szX3 := set_size hX3
  replace Hbel := hide (set_bel hX3 Hbel.out (by omega))
  have HX3 := hide hX3
  clear hX3
  obtain ⟨Z3, hZ3⟩ : ∃ Z3, Z3 = X3.setCell ⟨w1.heap.size + 1 + 1, 2, none⟩ (.int .i64 t3.n) := ⟨_, rfl⟩
  replace Ha := hide (show Z3.heap[w.heap.size + 1]? = some (.cells #[.int .i64 0, .int .i64 0, .int .i64 0, .int .i64 0, .int .u8 0, .int .u8 0, .int .u8 0, .int .u8 0, .int .u8 0, .int .u8 0, .int .u8 0, .int .u8 0, .int .u8 0, .int .u8 0, .int .u8 0, .int .u8 0, .int .u8 0, .int .u8 0, .int .u8 0, .int .u8 0, .slice none 0 0] 67 (0, 0)) from set_other hZ3 Ha.out (by omega))
  replace Hc := hide (show Z3.heap[w.heap.size + 2]? = some (.cells #[.slice none 0 0, .int .i64 0, .slice none 0 0] 57 (0, 0)) from set_other hZ3 Hc.out (by omega))
  replace Ht1b := hide (show Z3.heap[w1.heap.size]? = some (.cells #[.int .i64 t1.k, .string t1.s, .int .i64 t1.n, .int .i64 t1.p] 62 (0, 0)) from set_other hZ3 Ht1b.out (by omega))
  replace Hs := hide (show Z3.heap[w1.heap.size + 1]? = some (.cells #[.slice L ts.length cl, .int .i64 K1, .slice A m ca] 57 (0, 0)) from set_other hZ3 Hs.out (by omega))
  replace Hn := hide (show Z3.heap[w1.heap.size + 1 + 1]? = some (.cells (Nd.cells (mkN 7 t2.n t3.n 0) (.slice none 0 0)).toArray 67 (0, 0)) from set_nd hZ3 Hn.out rfl)
  replace Ht := hide (show Z3.heap[w2.heap.size]? = some (.cells #[.int .i64 t2.k, .string t2.s, .int .i64 t2.n, .int .i64 t2.p] 62 (0, 0)) from set_other hZ3 Ht.out (by omega))
  replace Hr := hide (show Z3.heap[w2.heap.size + 1]? = some (.cells #[.slice L ts.length cl, .int .i64 K2, .slice A m ca] 57 (0, 0)) from set_other hZ3 Hr.out (by omega))
  have szZ3 := (set_size hZ3).trans szX3
  replace Hbel := hide (set_bel hZ3 Hbel.out (by omega))
  have HZ3 := hide hZ3
  clear hZ3
  obtain ⟨Y3, hY3⟩ : ∃ Y3, Y3 = (Z3.alloc (.cells #[.int .i64 t3.k, .string t3.s, .int .i64 t3.n, .int .i64 t3.p] 62)).alloc (.cells #[.slice L ts.length cl, .int .i64 K3, .slice A m ca] 57) := ⟨_, rfl⟩
  replace Ha := hide (show Y3.heap[w.heap.size + 1]? = some (.cells #[.int .i64 0, .int .i64 0, .int .i64 0, .int .i64 0, .int .u8 0, .int .u8 0, .int .u8 0, .int .u8 0, .int .u8 0, .int .u8 0, .int .u8 0, .int .u8 0, .int .u8 0, .int .u8 0, .int .u8 0, .int .u8 0, .int .u8 0, .int .u8 0, .int .u8 0, .int .u8 0, .slice none 0 0] 67 (0, 0)) from blk_two hY3 Ha.out)
  replace Hc := hide (show Y3.heap[w.heap.size + 2]? = some (.cells #[.slice none 0 0, .int .i64 0, .slice none 0 0] 57 (0, 0)) from blk_two hY3 Hc.out)
  replace Ht1b := hide (show Y3.heap[w1.heap.size]? = some (.cells #[.int .i64 t1.k, .string t1.s, .int .i64 t1.n, .int .i64 t1.p] 62 (0, 0)) from blk_two hY3 Ht1b.out)
  replace Hs := hide (show Y3.heap[w1.heap.size + 1]? = some (.cells #[.slice L ts.length cl, .int .i64 K1, .slice A m ca] 57 (0, 0)) from blk_two hY3 Hs.out)
  replace Hn := hide (show Y3.heap[w1.heap.size + 1 + 1]? = some (.cells (Nd.cells (mkN 7 t2.n t3.n 0) (.slice none 0 0)).toArray 67 (0, 0)) from blk_two hY3 Hn.out)
  replace Ht := hide (show Y3.heap[w2.heap.size]? = some (.cells #[.int .i64 t2.k, .string t2.s, .int .i64 t2.n, .int .i64 t2.p] 62 (0, 0)) from blk_two hY3 Ht.out)
  replace Hr := hide (show Y3.heap[w2.heap.size + 1]? = some (.cells #[.slice L ts.length cl, .int .i64 K2, .slice A m ca] 57 (0, 0)) from blk_two hY3 Hr.out)
  replace Hr := hide (show Y3.heap[w3.heap.size + 1]? = some (.cells #[.slice L ts.length cl, .int .i64 K3, .slice A m ca] 57 (0, 0)) from (by rw [← szZ3]; exact blk_two2 hY3))
  have szY3 : Y3.heap.size = w3.heap.size + 2 := (by rw [← szZ3]; exact size_two hY3)
  replace Hbel := hide (Hbel.out.trans ((bel_two hY3).mono Hbel.out.size))
  have HY3 := hide hY3
  clear hY3
  go_wp2_with fail
  rw [← HX3.out]
  rw [← HZ3.out]
  rw [← HY3.out]
  clear c0 fc0 c1 fc1 c2 ltn ltt ltn' ltt'
  refine Calls.mono (rmust_r Y3 L cl ts K3 A m ca 1 _ hl hK3 ((HT.out.below Hbel.out (Nat.le_refl _)).more Hbel.out.size)) ?_
  rintro e w4 ⟨t4, K4, rfl, hmt4, hb⟩
  have hK4 := mustR_range hK3 1 _ hmt4
  have Hmt4 := hide hmt4
  clear hmt4
  have lew4 := hb.size
  replace Ha := hide (show w4.heap[w.heap.size + 1]? = some (.cells #[.int .i64 0, .int .i64 0, .int .i64 0, .int .i64 0, .int .u8 0, .int .u8 0, .int .u8 0, .int .u8 0, .int .u8 0, .int .u8 0, .int .u8 0, .int .u8 0, .int .u8 0, .int .u8 0, .int .u8 0, .int .u8 0, .int .u8 0, .int .u8 0, .int .u8 0, .int .u8 0, .slice none 0 0] 67 (0, 0)) from (hb.block _ (World.lt_of_blk Ha.out)).trans Ha.out)
  replace Hc := hide (show w4.heap[w.heap.size + 2]? = some (.cells #[.slice none 0 0, .int .i64 0, .slice none 0 0] 57 (0, 0)) from (hb.block _ (World.lt_of_blk Hc.out)).trans Hc.out)
  replace Ht1b := hide (show w4.heap[w1.heap.size]? = some (.cells #[.int .i64 t1.k, .string t1.s, .int .i64 t1.n, .int .i64 t1.p] 62 (0, 0)) from (hb.block _ (World.lt_of_blk Ht1b.out)).trans Ht1b.out)
  replace Hs := hide (show w4.heap[w1.heap.size + 1]? = some (.cells #[.slice L ts.length cl, .int .i64 K1, .slice A m ca] 57 (0, 0)) from (hb.block _ (World.lt_of_blk Hs.out)).trans Hs.out)
  replace Hn := hide (show w4.heap[w1.heap.size + 1 + 1]? = some (.cells (Nd.cells (mkN 7 t2.n t3.n 0) (.slice none 0 0)).toArray 67 (0, 0)) from (hb.block _ (World.lt_of_blk Hn.out)).trans Hn.out)
  replace Ht := hide (show w4.heap[w2.heap.size]? = some (.cells #[.int .i64 t2.k, .string t2.s, .int .i64 t2.n, .int .i64 t2.p] 62 (0, 0)) from (hb.block _ (World.lt_of_blk Ht.out)).trans Ht.out)
  replace Hr := hide (show w4.heap[w3.heap.size + 1]? = some (.cells #[.slice L ts.length cl, .int .i64 K3, .slice A m ca] 57 (0, 0)) from (hb.block _ (World.lt_of_blk Hr.out)).trans Hr.out)
  replace Hbel := hide (Hbel.out.trans (hb.mono Hbel.out.size))
  clear hb
  obtain ⟨Y4, hY4⟩ : ∃ Y4, Y4 = (w4.alloc (.cells #[.int .i64 t4.k, .string t4.s, .int .i64 t4.n, .int .i64 t4.p] 62)).alloc (.cells #[.slice L ts.length cl, .int .i64 K4, .slice A m ca] 57) := ⟨_, rfl⟩
  replace Ha := hide (show Y4.heap[w.heap.size + 1]? = some (.cells #[.int .i64 0, .int .i64 0, .int .i64 0, .int .i64 0, .int .u8 0, .int .u8 0, .int .u8 0, .int .u8 0, .int .u8 0, .int .u8 0, .int .u8 0, .int .u8 0, .int .u8 0, .int .u8 0, .int .u8 0, .int .u8 0, .int .u8 0, .int .u8 0, .int .u8 0, .int .u8 0, .slice none 0 0] 67 (0, 0)) from blk_two hY4 Ha.out)
  replace Hc := hide (show Y4.heap[w.heap.size + 2]? = some (.cells #[.slice none 0 0, .int .i64 0, .slice none 0 0] 57 (0, 0)) from blk_two hY4 Hc.out)
  replace Ht1b := hide (show Y4.heap[w1.heap.size]? = some (.cells #[.int .i64 t1.k, .string t1.s, .int .i64 t1.n, .int .i64 t1.p] 62 (0, 0)) from blk_two hY4 Ht1b.out)
  replace Hs := hide (show Y4.heap[w1.heap.size + 1]? = some (.cells #[.slice L ts.length cl, .int .i64 K1, .slice A m ca] 57 (0, 0)) from blk_two hY4 Hs.out)
  replace Hn := hide (show Y4.heap[w1.heap.size + 1 + 1]? = some (.cells (Nd.cells (mkN 7 t2.n t3.n 0) (.slice none 0 0)).toArray 67 (0, 0)) from blk_two hY4 Hn.out)
  replace Ht := hide (show Y4.heap[w2.heap.size]? = some (.cells #[.int .i64 t2.k, .string t2.s, .int .i64 t2.n, .int .i64 t2.p] 62 (0, 0)) from blk_two hY4 Ht.out)
  replace Hr := hide (show Y4.heap[w3.heap.size + 1]? = some (.cells #[.slice L ts.length cl, .int .i64 K3, .slice A m ca] 57 (0, 0)) from blk_two hY4 Hr.out)
  replace Hr := hide (show Y4.heap[w4.heap.size + 1]? = some (.cells #[.slice L ts.length cl, .int .i64 K4, .slice A m ca] 57 (0, 0)) from blk_two2 hY4)
  have szY4 : Y4.heap.size = w4.heap.size + 2 := size_two hY4
  replace Hbel := hide (Hbel.out.trans ((bel_two hY4).mono Hbel.out.size))
  have HY4 := hide hY4
  clear hY4
  go_wp2_with fail
  rw [← HY4.out]
  refine Calls.mono (ris_r Y4 L cl ts K4 A m ca 1 _ hl hK4 ((HT.out.below Hbel.out (Nat.le_refl _)).more Hbel.out.size)) ?_
  rintro e w5 ⟨rfl, hb⟩
  have lew5 := hb.size
  replace Ha := hide (show w5.heap[w.heap.size + 1]? = some (.cells #[.int .i64 0, .int .i64 0, .int .i64 0, .int .i64 0, .int .u8 0, .int .u8 0, .int .u8 0, .int .u8 0, .int .u8 0, .int .u8 0, .int .u8 0, .int .u8 0, .int .u8 0, .int .u8 0, .int .u8 0, .int .u8 0, .int .u8 0, .int .u8 0, .int .u8 0, .int .u8 0, .slice none 0 0] 67 (0, 0)) from (hb.block _ (World.lt_of_blk Ha.out)).trans Ha.out)
  replace Hc := hide (show w5.heap[w.heap.size + 2]? = some (.cells #[.slice none 0 0, .int .i64 0, .slice none 0 0] 57 (0, 0)) from (hb.block _ (World.lt_of_blk Hc.out)).trans Hc.out)
  replace Ht1b := hide (show w5.heap[w1.heap.size]? = some (.cells #[.int .i64 t1.k, .string t1.s, .int .i64 t1.n, .int .i64 t1.p] 62 (0, 0)) from (hb.block _ (World.lt_of_blk Ht1b.out)).trans Ht1b.out)
  replace Hs := hide (show w5.heap[w1.heap.size + 1]? = some (.cells #[.slice L ts.length cl, .int .i64 K1, .slice A m ca] 57 (0, 0)) from (hb.block _ (World.lt_of_blk Hs.out)).trans Hs.out)
  replace Hn := hide (show w5.heap[w1.heap.size + 1 + 1]? = some (.cells (Nd.cells (mkN 7 t2.n t3.n 0) (.slice none 0 0)).toArray 67 (0, 0)) from (hb.block _ (World.lt_of_blk Hn.out)).trans Hn.out)
  replace Ht := hide (show w5.heap[w2.heap.size]? = some (.cells #[.int .i64 t2.k, .string t2.s, .int .i64 t2.n, .int .i64 t2.p] 62 (0, 0)) from (hb.block _ (World.lt_of_blk Ht.out)).trans Ht.out)
  replace Hr := hide (show w5.heap[w4.heap.size + 1]? = some (.cells #[.slice L ts.length cl, .int .i64 K4, .slice A m ca] 57 (0, 0)) from (hb.block _ (World.lt_of_blk Hr.out)).trans Hr.out)
  replace Hbel := hide (Hbel.out.trans (hb.mono Hbel.out.size))
  clear hb
  cases hi : isR ts K4 1 { data := #[116, 114, 117, 101] } with
  | true =>
    have hir := isR_range hi
    have Hi := hide hi
    clear hi
    have c0 : w5.cell? ⟨w1.heap.size + 1 + 1, 3, none⟩ = some (.int .i64 0) := blk_cell Hn.out rfl
    have fc0 : w5.frozen? ⟨w1.heap.size + 1 + 1, 3, none⟩ = false := blk_froz Hn.out
    have c1 : w5.cell? ⟨w4.heap.size + 1, 1, none⟩ = some (.int .i64 K4) := blk_cell Hr.out rfl
    have fc1 : w5.frozen? ⟨w4.heap.size + 1, 1, none⟩ = false := blk_froz Hr.out
    obtain ⟨X6, hX6⟩ : ∃ X6, X6 = w5.setCell ⟨w1.heap.size + 1 + 1, 3, none⟩ (.int .i64 1) := ⟨_, rfl⟩
    replace Ha := hide (show X6.heap[w.heap.size + 1]? = some (.cells #[.int .i64 0, .int .i64 0, .int .i64 0, .int .i64 0, .int .u8 0, .int .u8 0, .int .u8 0, .int .u8 0, .int .u8 0, .int .u8 0, .int .u8 0, .int .u8 0, .int .u8 0, .int .u8 0, .int .u8 0, .int .u8 0, .int .u8 0, .int .u8 0, .int .u8 0, .int .u8 0, .slice none 0 0] 67 (0, 0)) from set_other hX6 Ha.out (by omega))
    replace Hc := hide (show X6.heap[w.heap.size + 2]? = some (.cells #[.slice none 0 0, .int .i64 0, .slice none 0 0] 57 (0, 0)) from set_other hX6 Hc.out (by omega))
    replace Ht1b := hide (show X6.heap[w1.heap.size]? = some (.cells #[.int .i64 t1.k, .string t1.s, .int .i64 t1.n, .int .i64 t1.p] 62 (0, 0)) from set_other hX6 Ht1b.out (by omega))
    replace Hs := hide (show X6.heap[w1.heap.size + 1]? = some (.cells #[.slice L ts.length cl, .int .i64 K1, .slice A m ca] 57 (0, 0)) from set_other hX6 Hs.out (by omega))
    replace Hn := hide (show X6.heap[w1.heap.size + 1 + 1]? = some (.cells (Nd.cells (mkN 7 t2.n t3.n 1) (.slice none 0 0)).toArray 67 (0, 0)) from set_nd hX6 Hn.out rfl)
    replace Ht := hide (show X6.heap[w2.heap.size]? = some (.cells #[.int .i64 t2.k, .string t2.s, .int .i64 t2.n, .int .i64 t2.p] 62 (0, 0)) from set_other hX6 Ht.out (by omega))
    replace Hr := hide (show X6.heap[w4.heap.size + 1]? = some (.cells #[.slice L ts.length cl, .int .i64 K4, .slice A m ca] 57 (0, 0)) from set_other hX6 Hr.out (by omega))
    have szX6 := set_size hX6
    replace Hbel := hide (set_bel hX6 Hbel.out (by omega))
    have HX6 := hide hX6
    clear hX6
    obtain ⟨Z6, hZ6⟩ : ∃ Z6, Z6 = X6.setCell ⟨w4.heap.size + 1, 1, none⟩ (.int .i64 (K4 + 1)) := ⟨_, rfl⟩
    replace Ha := hide (show Z6.heap[w.heap.size + 1]? = some (.cells #[.int .i64 0, .int .i64 0, .int .i64 0, .int .i64 0, .int .u8 0, .int .u8 0, .int .u8 0, .int .u8 0, .int .u8 0, .int .u8 0, .int .u8 0, .int .u8 0, .int .u8 0, .int .u8 0, .int .u8 0, .int .u8 0, .int .u8 0, .int .u8 0, .int .u8 0, .int .u8 0, .slice none 0 0] 67 (0, 0)) from set_other hZ6 Ha.out (by omega))
    replace Hc := hide (show Z6.heap[w.heap.size + 2]? = some (.cells #[.slice none 0 0, .int .i64 0, .slice none 0 0] 57 (0, 0)) from set_other hZ6 Hc.out (by omega))
    replace Ht1b := hide (show Z6.heap[w1.heap.size]? = some (.cells #[.int .i64 t1.k, .string t1.s, .int .i64 t1.n, .int .i64 t1.p] 62 (0, 0)) from set_other hZ6 Ht1b.out (by omega))
    replace Hs := hide (show Z6.heap[w1.heap.size + 1]? = some (.cells #[.slice L ts.length cl, .int .i64 K1, .slice A m ca] 57 (0, 0)) from set_other hZ6 Hs.out (by omega))
    replace Hn := hide (show Z6.heap[w1.heap.size + 1 + 1]? = some (.cells (Nd.cells (mkN 7 t2.n t3.n 1) (.slice none 0 0)).toArray 67 (0, 0)) from set_other hZ6 Hn.out (by omega))
    replace Ht := hide (show Z6.heap[w2.heap.size]? = some (.cells #[.int .i64 t2.k, .string t2.s, .int .i64 t2.n, .int .i64 t2.p] 62 (0, 0)) from set_other hZ6 Ht.out (by omega))
    replace Hr := hide (show Z6.heap[w4.heap.size + 1]? = some (.cells #[.slice L ts.length cl, .int .i64 (K4 + 1), .slice A m ca] 57 (0, 0)) from set_rs hZ6 Hr.out)
    have szZ6 := (set_size hZ6).trans szX6
    replace Hbel := hide (set_bel hZ6 Hbel.out (by omega))
    have HZ6 := hide hZ6
    clear hZ6
    go_wp2_with fail
    rw [← HX6.out]
    rw [← HZ6.out]
    clear c0 fc0 c1 fc1
    have lt_n := World.lt_of_blk Hn.out
    have lt_r := World.lt_of_blk Hr.out
    refine wp_two_chain (by kernel_rfl) rfl (by kernel_rfl) (by kernel_rfl) (by kernel_rfl) (by kernel_rfl) (by kernel_rfl) (by kernel_rfl) (by kernel_rfl) (by kernel_rfl) (fun _ _ d _ _ h => by cases d <;> exact h) rfl rfl rfl rfl rfl rfl (w.heap.size + 1) (w.heap.size + 2) (by omega) (.agg (Nd.cells (mkN 7 t2.n t3.n 1) (.slice none 0 0)).toArray) (.agg #[.slice L ts.length cl, .int .i64 (K4 + 1), .slice A m ca]) (fun W hW => y_load 67 (.tmp 6) rfl (w1.heap.size + 1 + 1) (by omega) (by omega) rfl 67 _ (0, 0) _ Hn.out Tryz.underlying67 rfl (by kernel_rfl) hW) (fun W hW => y_load 57 (.tmp 23) rfl (w4.heap.size + 1) (by omega) (by omega) rfl 57 _ (0, 0) _ Hr.out Tryz.underlying57 rfl (by kernel_rfl) hW) 67 (.tmp 2) (.tmp 132) rfl rfl (.agg (Nd.cells (mkN 7 t2.n t3.n 1) (.slice none 0 0)).toArray) rfl 57 (.tmp 3) (.tmp 133) rfl rfl (.agg #[.slice L ts.length cl, .int .i64 (K4 + 1), .slice A m ca]) rfl _ _ Ha.out rfl (by kernel_rfl) (nd_one rfl) _ _ Hc.out rfl (by kernel_rfl) (by simp [Value.cells, Value.oneCell']) ?_
    obtain ⟨q1, q2, q3⟩ := ret2_world' Hbel.out Ha.out Hc.out (Nd.cells (mkN 7 t2.n t3.n 1) (.slice none 0 0)).toArray #[.slice L ts.length cl, .int .i64 (K4 + 1), .slice A m ca]
    go_wp2
    refine bodyPost_ret (results_two_rows Tryz.results75 _ _ (w.heap.size + 1) (w.heap.size + 2) (Nd.cells (mkN 7 t2.n t3.n 1) (.slice none 0 0)).toArray #[.slice L ts.length cl, .int .i64 (K4 + 1), .slice A m ca] rfl rfl (run_loadVar_row _ _ 67 67 _ (0, 0) _ q1 Tryz.underlying67 rfl (by kernel_rfl)) (run_loadVar_row _ _ 57 57 _ (0, 0) _ q2 Tryz.underlying57 rfl (by kernel_rfl))) rfl ?_
    exact ⟨q3, (mkN 7 t2.n t3.n 1), (K4 + 1), rfl, rfl, (by rw [Hres.out]; exact point_true HL1.out (by simp) (by simp [tTook]) (by simp [tTrue]) Hmt2.out Hmt3.out Hmt4.out Hi.out)⟩
  | false =>
    have Hi := hide hi
    clear hi
    have c0 : w5.cell? ⟨w1.heap.size + 1 + 1, 3, none⟩ = some (.int .i64 0) := blk_cell Hn.out rfl
    have fc0 : w5.frozen? ⟨w1.heap.size + 1 + 1, 3, none⟩ = false := blk_froz Hn.out
    have c3 : w5.cell? ⟨w4.heap.size + 1, 0, none⟩ = some (.slice L ts.length cl) := blk_cell Hr.out rfl
    have c1 : w5.cell? ⟨w4.heap.size + 1, 1, none⟩ = some (.int .i64 K4) := blk_cell Hr.out rfl
    have c2 : w5.cell? ⟨w4.heap.size + 1, 2, none⟩ = some (.slice A m ca) := blk_cell Hr.out rfl
    obtain ⟨Z6, hZ6⟩ : ∃ Z6, Z6 = w5.setCell ⟨w1.heap.size + 1 + 1, 3, none⟩ (.int .i64 2) := ⟨_, rfl⟩
    replace Ha := hide (show Z6.heap[w.heap.size + 1]? = some (.cells #[.int .i64 0, .int .i64 0, .int .i64 0, .int .i64 0, .int .u8 0, .int .u8 0, .int .u8 0, .int .u8 0, .int .u8 0, .int .u8 0, .int .u8 0, .int .u8 0, .int .u8 0, .int .u8 0, .int .u8 0, .int .u8 0, .int .u8 0, .int .u8 0, .int .u8 0, .int .u8 0, .slice none 0 0] 67 (0, 0)) from set_other hZ6 Ha.out (by omega))
    replace Hc := hide (show Z6.heap[w.heap.size + 2]? = some (.cells #[.slice none 0 0, .int .i64 0, .slice none 0 0] 57 (0, 0)) from set_other hZ6 Hc.out (by omega))
    replace Ht1b := hide (show Z6.heap[w1.heap.size]? = some (.cells #[.int .i64 t1.k, .string t1.s, .int .i64 t1.n, .int .i64 t1.p] 62 (0, 0)) from set_other hZ6 Ht1b.out (by omega))
    replace Hs := hide (show Z6.heap[w1.heap.size + 1]? = some (.cells #[.slice L ts.length cl, .int .i64 K1, .slice A m ca] 57 (0, 0)) from set_other hZ6 Hs.out (by omega))
    replace Hn := hide (show Z6.heap[w1.heap.size + 1 + 1]? = some (.cells (Nd.cells (mkN 7 t2.n t3.n 2) (.slice none 0 0)).toArray 67 (0, 0)) from set_nd hZ6 Hn.out rfl)
    replace Ht := hide (show Z6.heap[w2.heap.size]? = some (.cells #[.int .i64 t2.k, .string t2.s, .int .i64 t2.n, .int .i64 t2.p] 62 (0, 0)) from set_other hZ6 Ht.out (by omega))
    replace Hr := hide (show Z6.heap[w4.heap.size + 1]? = some (.cells #[.slice L ts.length cl, .int .i64 K4, .slice A m ca] 57 (0, 0)) from set_other hZ6 Hr.out (by omega))
    have szZ6 := set_size hZ6
    replace Hbel := hide (set_bel hZ6 Hbel.out (by omega))
    have HZ6 := hide hZ6
    clear hZ6
    go_wp2_with fail
    rw [← HZ6.out]
    clear c0 fc0 c1 c2 c3
    refine Calls.mono (rmust_r Z6 L cl ts K4 A m ca 1 _ hl hK4 ((HT.out.below Hbel.out (Nat.le_refl _)).more Hbel.out.size)) ?_
    rintro e w7 ⟨t7, K7, rfl, hmt7, hb⟩
    have hK7 := mustR_range hK4 1 _ hmt7
    have Hmt7 := hide hmt7
    clear hmt7
    have lew7 := hb.size
    replace Ha := hide (show w7.heap[w.heap.size + 1]? = some (.cells #[.int .i64 0, .int .i64 0, .int .i64 0, .int .i64 0, .int .u8 0, .int .u8 0, .int .u8 0, .int .u8 0, .int .u8 0, .int .u8 0, .int .u8 0, .int .u8 0, .int .u8 0, .int .u8 0, .int .u8 0, .int .u8 0, .int .u8 0, .int .u8 0, .int .u8 0, .int .u8 0, .slice none 0 0] 67 (0, 0)) from (hb.block _ (World.lt_of_blk Ha.out)).trans Ha.out)
    replace Hc := hide (show w7.heap[w.heap.size + 2]? = some (.cells #[.slice none 0 0, .int .i64 0, .slice none 0 0] 57 (0, 0)) from (hb.block _ (World.lt_of_blk Hc.out)).trans Hc.out)
    replace Ht1b := hide (show w7.heap[w1.heap.size]? = some (.cells #[.int .i64 t1.k, .string t1.s, .int .i64 t1.n, .int .i64 t1.p] 62 (0, 0)) from (hb.block _ (World.lt_of_blk Ht1b.out)).trans Ht1b.out)
    replace Hs := hide (show w7.heap[w1.heap.size + 1]? = some (.cells #[.slice L ts.length cl, .int .i64 K1, .slice A m ca] 57 (0, 0)) from (hb.block _ (World.lt_of_blk Hs.out)).trans Hs.out)
    replace Hn := hide (show w7.heap[w1.heap.size + 1 + 1]? = some (.cells (Nd.cells (mkN 7 t2.n t3.n 2) (.slice none 0 0)).toArray 67 (0, 0)) from (hb.block _ (World.lt_of_blk Hn.out)).trans Hn.out)
    replace Ht := hide (show w7.heap[w2.heap.size]? = some (.cells #[.int .i64 t2.k, .string t2.s, .int .i64 t2.n, .int .i64 t2.p] 62 (0, 0)) from (hb.block _ (World.lt_of_blk Ht.out)).trans Ht.out)
    replace Hr := hide (show w7.heap[w4.heap.size + 1]? = some (.cells #[.slice L ts.length cl, .int .i64 K4, .slice A m ca] 57 (0, 0)) from (hb.block _ (World.lt_of_blk Hr.out)).trans Hr.out)
    replace Hbel := hide (Hbel.out.trans (hb.mono Hbel.out.size))
    clear hb
    obtain ⟨Y7, hY7⟩ : ∃ Y7, Y7 = (w7.alloc (.cells #[.int .i64 t7.k, .string t7.s, .int .i64 t7.n, .int .i64 t7.p] 62)).alloc (.cells #[.slice L ts.length cl, .int .i64 K7, .slice A m ca] 57) := ⟨_, rfl⟩
    replace Ha := hide (show Y7.heap[w.heap.size + 1]? = some (.cells #[.int .i64 0, .int .i64 0, .int .i64 0, .int .i64 0, .int .u8 0, .int .u8 0, .int .u8 0, .int .u8 0, .int .u8 0, .int .u8 0, .int .u8 0, .int .u8 0, .int .u8 0, .int .u8 0, .int .u8 0, .int .u8 0, .int .u8 0, .int .u8 0, .int .u8 0, .int .u8 0, .slice none 0 0] 67 (0, 0)) from blk_two hY7 Ha.out)
    replace Hc := hide (show Y7.heap[w.heap.size + 2]? = some (.cells #[.slice none 0 0, .int .i64 0, .slice none 0 0] 57 (0, 0)) from blk_two hY7 Hc.out)
    replace Ht1b := hide (show Y7.heap[w1.heap.size]? = some (.cells #[.int .i64 t1.k, .string t1.s, .int .i64 t1.n, .int .i64 t1.p] 62 (0, 0)) from blk_two hY7 Ht1b.out)
    replace Hs := hide (show Y7.heap[w1.heap.size + 1]? = some (.cells #[.slice L ts.length cl, .int .i64 K1, .slice A m ca] 57 (0, 0)) from blk_two hY7 Hs.out)
    replace Hn := hide (show Y7.heap[w1.heap.size + 1 + 1]? = some (.cells (Nd.cells (mkN 7 t2.n t3.n 2) (.slice none 0 0)).toArray 67 (0, 0)) from blk_two hY7 Hn.out)
    replace Ht := hide (show Y7.heap[w2.heap.size]? = some (.cells #[.int .i64 t2.k, .string t2.s, .int .i64 t2.n, .int .i64 t2.p] 62 (0, 0)) from blk_two hY7 Ht.out)
    replace Hr := hide (show Y7.heap[w4.heap.size + 1]? = some (.cells #[.slice L ts.length cl, .int .i64 K4, .slice A m ca] 57 (0, 0)) from blk_two hY7 Hr.out)
    replace Hr := hide (show Y7.heap[w7.heap.size + 1]? = some (.cells #[.slice L ts.length cl, .int .i64 K7, .slice A m ca] 57 (0, 0)) from blk_two2 hY7)
    have szY7 : Y7.heap.size = w7.heap.size + 2 := size_two hY7
    replace Hbel := hide (Hbel.out.trans ((bel_two hY7).mono Hbel.out.size))
    have HY7 := hide hY7
    clear hY7
    go_wp2_with fail
    rw [← HY7.out]
    have lt_n := World.lt_of_blk Hn.out
    have lt_r := World.lt_of_blk Hr.out
    refine wp_two_chain (by kernel_rfl) rfl (by kernel_rfl) (by kernel_rfl) (by kernel_rfl) (by kernel_rfl) (by kernel_rfl) (by kernel_rfl) (by kernel_rfl) (by kernel_rfl) (fun _ _ d _ _ h => by cases d <;> exact h) rfl rfl rfl rfl rfl rfl (w.heap.size + 1) (w.heap.size + 2) (by omega) (.agg (Nd.cells (mkN 7 t2.n t3.n 2) (.slice none 0 0)).toArray) (.agg #[.slice L ts.length cl, .int .i64 K7, .slice A m ca]) (fun W hW => y_load 67 (.tmp 6) rfl (w1.heap.size + 1 + 1) (by omega) (by omega) rfl 67 _ (0, 0) _ Hn.out Tryz.underlying67 rfl (by kernel_rfl) hW) (fun W hW => y_load 57 (.tmp 26) rfl (w7.heap.size + 1) (by omega) (by omega) rfl 57 _ (0, 0) _ Hr.out Tryz.underlying57 rfl (by kernel_rfl) hW) 67 (.tmp 2) (.tmp 140) rfl rfl (.agg (Nd.cells (mkN 7 t2.n t3.n 2) (.slice none 0 0)).toArray) rfl 57 (.tmp 3) (.tmp 141) rfl rfl (.agg #[.slice L ts.length cl, .int .i64 K7, .slice A m ca]) rfl _ _ Ha.out rfl (by kernel_rfl) (nd_one rfl) _ _ Hc.out rfl (by kernel_rfl) (by simp [Value.cells, Value.oneCell']) ?_
    obtain ⟨q1, q2, q3⟩ := ret2_world' Hbel.out Ha.out Hc.out (Nd.cells (mkN 7 t2.n t3.n 2) (.slice none 0 0)).toArray #[.slice L ts.length cl, .int .i64 K7, .slice A m ca]
    go_wp2
    refine bodyPost_ret (results_two_rows Tryz.results75 _ _ (w.heap.size + 1) (w.heap.size + 2) (Nd.cells (mkN 7 t2.n t3.n 2) (.slice none 0 0)).toArray #[.slice L ts.length cl, .int .i64 K7, .slice A m ca] rfl rfl (run_loadVar_row _ _ 67 67 _ (0, 0) _ q1 Tryz.underlying67 rfl (by kernel_rfl)) (run_loadVar_row _ _ 57 57 _ (0, 0) _ q2 Tryz.underlying57 rfl (by kernel_rfl))) rfl ?_
    exact ⟨q3, (mkN 7 t2.n t3.n 2), K7, rfl, rfl, (by rw [Hres.out]; exact point_false HL1.out (by simp) (by simp [tTook]) (by simp [tTrue]) (by simp [tFalse]) Hmt2.out Hmt3.out Hmt4.out Hi.out Hmt7.out)⟩
set_option maxRecDepth 100000 in
set_option maxHeartbeats 16000000 in
theorem ratom_p_else (w : World) (L : Option Addr) (cl : Nat) (ts : List Tok) (K : Int) (A : Option Addr) (m ca : Nat) (l : List Tok) (hl : ts.length ≤ 1000000) (hK : Live ts K (some l)) (h : Toks w w.heap.size L ts) (qany : ((mustR ts K 1 { data := #[] }).1.s.toList == [97, 110, 121]) = false) (qver : ((mustR ts K 1 { data := #[] }).1.s.toList == [118, 101, 114, 115, 105, 111, 110]) = false) (qepo : ((mustR ts K 1 { data := #[] }).1.s.toList == [101, 112, 111, 99, 104]) = false) (qsta : ((mustR ts K 1 { data := #[] }).1.s.toList == [115, 116, 97, 103, 101]) = false) (qpoi : ((mustR ts K 1 { data := #[] }).1.s.toList == [112, 111, 105, 110, 116]) = false) :
    Calls Tryz.prog 75 #[.agg #[.slice L ts.length cl, .int .i64 K, .slice A m ca]] w (PostT w L cl ts A m ca (atomF l)) := by
  have HT := hide h
  have hKr := hK.range
  obtain ⟨W0, hW0⟩ : ∃ W0, W0 = ((w.alloc (.cells #[.slice L ts.length cl, .int .i64 K, .slice A m ca] 57)).alloc (.cells #[.int .i64 0, .int .i64 0, .int .i64 0, .int .i64 0, .int .u8 0, .int .u8 0, .int .u8 0, .int .u8 0, .int .u8 0, .int .u8 0, .int .u8 0, .int .u8 0, .int .u8 0, .int .u8 0, .int .u8 0, .int .u8 0, .int .u8 0, .int .u8 0, .int .u8 0, .int .u8 0, .slice none 0 0] 67)).alloc (.cells #[.slice none 0 0, .int .i64 0, .slice none 0 0] 57) := ⟨_, rfl⟩
  have Ha := hide (show W0.heap[w.heap.size + 1]? = some (.cells #[.int .i64 0, .int .i64 0, .int .i64 0, .int .i64 0, .int .u8 0, .int .u8 0, .int .u8 0, .int .u8 0, .int .u8 0, .int .u8 0, .int .u8 0, .int .u8 0, .int .u8 0, .int .u8 0, .int .u8 0, .int .u8 0, .int .u8 0, .int .u8 0, .int .u8 0, .int .u8 0, .slice none 0 0] 67 (0, 0)) from blk_thr2 hW0)
  have Hc := hide (show W0.heap[w.heap.size + 2]? = some (.cells #[.slice none 0 0, .int .i64 0, .slice none 0 0] 57 (0, 0)) from blk_thr3 hW0)
  have szW0 := size_thr hW0
  have Hbel := hide (bel_thr hW0)
  have HW0 := hide hW0
  clear hW0
  have HK := hide hK
  clear h hK
  go_enter Tryz.func75, Tryz.ntmps75
  go_wp2_with fail
  rw [← HW0.out]
  refine Calls.mono (rmust_r W0 L cl ts K A m ca 1 _ hl hKr ((HT.out.below Hbel.out (Nat.le_refl _)).more Hbel.out.size)) ?_
  rintro e w1 ⟨t1, K1, rfl, hmt1, hb⟩
  have hK1 := mustR_range hKr 1 _ hmt1
  have Hmt1 := hide hmt1
  clear hmt1
  have lew1 := hb.size
  replace Ha := hide (show w1.heap[w.heap.size + 1]? = some (.cells #[.int .i64 0, .int .i64 0, .int .i64 0, .int .i64 0, .int .u8 0, .int .u8 0, .int .u8 0, .int .u8 0, .int .u8 0, .int .u8 0, .int .u8 0, .int .u8 0, .int .u8 0, .int .u8 0, .int .u8 0, .int .u8 0, .int .u8 0, .int .u8 0, .int .u8 0, .int .u8 0, .slice none 0 0] 67 (0, 0)) from (hb.block _ (World.lt_of_blk Ha.out)).trans Ha.out)
  replace Hc := hide (show w1.heap[w.heap.size + 2]? = some (.cells #[.slice none 0 0, .int .i64 0, .slice none 0 0] 57 (0, 0)) from (hb.block _ (World.lt_of_blk Hc.out)).trans Hc.out)
  replace Hbel := hide (Hbel.out.trans (hb.mono Hbel.out.size))
  clear hb
  rw [Hmt1.out] at qany qver qepo qsta qpoi
  have hat := atom_ok HK.out (by simp) Hmt1.out
  have h1z : w.heap.size + 3 ≤ w1.heap.size := by omega
  have hres : atomF l = none := by
    rcases hat with ⟨ha, _, _⟩ | ⟨r, hr, ha⟩
    · exact ha
    · rw [ha]; simp [tAny, tVersion, tEpoch, tStage, tPoint, *]
  have Hres := hide hres
  clear hres hat
  obtain ⟨Z, hZ⟩ : ∃ Z, Z = ((w1.alloc (.cells #[.int .i64 t1.k, .string t1.s, .int .i64 t1.n, .int .i64 t1.p] 62)).alloc (.cells #[.slice L ts.length cl, .int .i64 K1, .slice A m ca] 57)).alloc (.cells #[.int .i64 0, .int .i64 0, .int .i64 0, .int .i64 0, .int .u8 0, .int .u8 0, .int .u8 0, .int .u8 0, .int .u8 0, .int .u8 0, .int .u8 0, .int .u8 0, .int .u8 0, .int .u8 0, .int .u8 0, .int .u8 0, .int .u8 0, .int .u8 0, .int .u8 0, .int .u8 0, .slice none 0 0] 67) := ⟨_, rfl⟩
  replace Ha := hide (show Z.heap[w.heap.size + 1]? = some (.cells #[.int .i64 0, .int .i64 0, .int .i64 0, .int .i64 0, .int .u8 0, .int .u8 0, .int .u8 0, .int .u8 0, .int .u8 0, .int .u8 0, .int .u8 0, .int .u8 0, .int .u8 0, .int .u8 0, .int .u8 0, .int .u8 0, .int .u8 0, .int .u8 0, .int .u8 0, .int .u8 0, .slice none 0 0] 67 (0, 0)) from blk_thr hZ Ha.out)
  replace Hc := hide (show Z.heap[w.heap.size + 2]? = some (.cells #[.slice none 0 0, .int .i64 0, .slice none 0 0] 57 (0, 0)) from blk_thr hZ Hc.out)
  have Ht1b := hide (show Z.heap[w1.heap.size]? = some (.cells #[.int .i64 t1.k, .string t1.s, .int .i64 t1.n, .int .i64 t1.p] 62 (0, 0)) from blk_thr1 hZ)
  have Hs := hide (show Z.heap[w1.heap.size + 1]? = some (.cells #[.slice L ts.length cl, .int .i64 K1, .slice A m ca] 57 (0, 0)) from blk_thr2 hZ)
  have Hn := hide (show Z.heap[w1.heap.size + 1 + 1]? = some (.cells (Nd.cells (mkN 0 0 0 0) (.slice none 0 0)).toArray 67 (0, 0)) from blk_thr3 hZ)
  have szZ := size_thr hZ
  replace Hbel := hide (Hbel.out.trans ((bel_thr hZ).mono Hbel.out.size))
  have HZ := hide hZ
  clear hZ
  have HX := hide (show (((w1.alloc (.cells #[.int .i64 t1.k, .string t1.s, .int .i64 t1.n, .int .i64 t1.p] 62)).alloc (.cells #[.slice L ts.length cl, .int .i64 K1, .slice A m ca] 57)).alloc (.cells #[.int .i64 0, .int .i64 0, .int .i64 0, .int .i64 0, .int .u8 0, .int .u8 0, .int .u8 0, .int .u8 0, .int .u8 0, .int .u8 0, .int .u8 0, .int .u8 0, .int .u8 0, .int .u8 0, .int .u8 0, .int .u8 0, .int .u8 0, .int .u8 0, .int .u8 0, .int .u8 0, .slice none 0 0] 67)).heap[w1.heap.size + 1 + 1]? = some (.cells #[.int .i64 0, .int .i64 0, .int .i64 0, .int .i64 0, .int .u8 0, .int .u8 0, .int .u8 0, .int .u8 0, .int .u8 0, .int .u8 0, .int .u8 0, .int .u8 0, .int .u8 0, .int .u8 0, .int .u8 0, .int .u8 0, .int .u8 0, .int .u8 0, .int .u8 0, .int .u8 0, .slice none 0 0] 67 (0, 0)) from blk_thr3 rfl)
  have HZr := hide (show Z = (((w1.alloc (.cells #[.int .i64 t1.k, .string t1.s, .int .i64 t1.n, .int .i64 t1.p] 62)).alloc (.cells #[.slice L ts.length cl, .int .i64 K1, .slice A m ca] 57)).alloc (.cells #[.int .i64 0, .int .i64 0, .int .i64 0, .int .i64 0, .int .u8 0, .int .u8 0, .int .u8 0, .int .u8 0, .int .u8 0, .int .u8 0, .int .u8 0, .int .u8 0, .int .u8 0, .int .u8 0, .int .u8 0, .int .u8 0, .int .u8 0, .int .u8 0, .int .u8 0, .int .u8 0, .slice none 0 0] 67)).setRow (w1.heap.size + 1 + 1) (Value.agg #[.int .i64 0, .int .i64 0, .int .i64 0, .int .i64 0, .int .u8 0, .int .u8 0, .int .u8 0, .int .u8 0, .int .u8 0, .int .u8 0, .int .u8 0, .int .u8 0, .int .u8 0, .int .u8 0, .int .u8 0, .int .u8 0, .int .u8 0, .int .u8 0, .int .u8 0, .int .u8 0, .slice none 0 0]).cells from HZ.out.trans (setRow_self _ _ _ _ _ HX.out).symm)
  have cs0 : Z.cell? ⟨w1.heap.size + 1, 0, none⟩ = some (.slice L ts.length cl) := blk_cell Hs.out rfl
  have cs1 : Z.cell? ⟨w1.heap.size + 1, 1, none⟩ = some (.int .i64 K1) := blk_cell Hs.out rfl
  have cs2 : Z.cell? ⟨w1.heap.size + 1, 2, none⟩ = some (.slice A m ca) := blk_cell Hs.out rfl
  have ct0 := blk_cell (i := 1) (v := .string t1.s) Ht1b.out rfl
  have cz : Z.cell? ⟨w1.heap.size + 1, 1, none⟩ = some (.int .i64 K1) := blk_cell Hs.out rfl
  have fcz : Z.frozen? ⟨w1.heap.size + 1, 1, none⟩ = false := blk_froz Hs.out
  obtain ⟨Zk, hZk⟩ : ∃ Zk, Zk = Z.setCell ⟨w1.heap.size + 1, 1, none⟩ (.int .i64 (-1)) := ⟨_, rfl⟩
  replace Ha := hide (show Zk.heap[w.heap.size + 1]? = some (.cells #[.int .i64 0, .int .i64 0, .int .i64 0, .int .i64 0, .int .u8 0, .int .u8 0, .int .u8 0, .int .u8 0, .int .u8 0, .int .u8 0, .int .u8 0, .int .u8 0, .int .u8 0, .int .u8 0, .int .u8 0, .int .u8 0, .int .u8 0, .int .u8 0, .int .u8 0, .int .u8 0, .slice none 0 0] 67 (0, 0)) from set_other hZk Ha.out (by omega))
  replace Hc := hide (show Zk.heap[w.heap.size + 2]? = some (.cells #[.slice none 0 0, .int .i64 0, .slice none 0 0] 57 (0, 0)) from set_other hZk Hc.out (by omega))
  replace Ht1b := hide (show Zk.heap[w1.heap.size]? = some (.cells #[.int .i64 t1.k, .string t1.s, .int .i64 t1.n, .int .i64 t1.p] 62 (0, 0)) from set_other hZk Ht1b.out (by omega))
  replace Hs := hide (show Zk.heap[w1.heap.size + 1]? = some (.cells #[.slice L ts.length cl, .int .i64 (-1), .slice A m ca] 57 (0, 0)) from set_rs hZk Hs.out)
  replace Hn := hide (show Zk.heap[w1.heap.size + 1 + 1]? = some (.cells (Nd.cells (mkN 0 0 0 0) (.slice none 0 0)).toArray 67 (0, 0)) from set_other hZk Hn.out (by omega))
  have szZk := set_size hZk
  replace Hbel := hide (set_bel hZk Hbel.out (by omega))
  have HZk := hide hZk
  clear hZk
  go_wp2_with ((with_reducible refine wpList_store_row rfl 67 (.tmp 6) (.tmp 32) rfl (w1.heap.size + 1 + 1) rfl (.agg #[.int .i64 0, .int .i64 0, .int .i64 0, .int .i64 0, .int .u8 0, .int .u8 0, .int .u8 0, .int .u8 0, .int .u8 0, .int .u8 0, .int .u8 0, .int .u8 0, .int .u8 0, .int .u8 0, .int .u8 0, .int .u8 0, .int .u8 0, .int .u8 0, .int .u8 0, .int .u8 0, .slice none 0 0]) rfl _ _ HX.out rfl (by kernel_rfl) z67_one ?_); rw [← HZr.out])
  rw [← HZk.out]
  clear cz fcz cs0 cs1 cs2 ct0
  have lt_n := World.lt_of_blk Hn.out
  have lt_r := World.lt_of_blk Hs.out
  refine wp_two_chain (by kernel_rfl) rfl (by kernel_rfl) (by kernel_rfl) (by kernel_rfl) (by kernel_rfl) (by kernel_rfl) (by kernel_rfl) (by kernel_rfl) (by kernel_rfl) (fun _ _ d _ _ h => by cases d <;> exact h) rfl rfl rfl rfl rfl rfl (w.heap.size + 1) (w.heap.size + 2) (by omega) (.agg (Nd.cells (mkN 0 0 0 0) (.slice none 0 0)).toArray) (.agg #[.slice L ts.length cl, .int .i64 (-1), .slice A m ca]) (fun W hW => y_load 67 (.tmp 6) rfl (w1.heap.size + 1 + 1) (by omega) (by omega) rfl 67 _ (0, 0) _ Hn.out Tryz.underlying67 rfl (by kernel_rfl) hW) (fun W hW => y_load 57 (.tmp 5) rfl (w1.heap.size + 1) (by omega) (by omega) rfl 57 _ (0, 0) _ Hs.out Tryz.underlying57 rfl (by kernel_rfl) hW) 67 (.tmp 2) (.tmp 143) rfl rfl (.agg (Nd.cells (mkN 0 0 0 0) (.slice none 0 0)).toArray) rfl 57 (.tmp 3) (.tmp 144) rfl rfl (.agg #[.slice L ts.length cl, .int .i64 (-1), .slice A m ca]) rfl _ _ Ha.out rfl (by kernel_rfl) (nd_one rfl) _ _ Hc.out rfl (by kernel_rfl) (by simp [Value.cells, Value.oneCell']) ?_
  obtain ⟨q1, q2, q3⟩ := ret2_world' Hbel.out Ha.out Hc.out (Nd.cells (mkN 0 0 0 0) (.slice none 0 0)).toArray #[.slice L ts.length cl, .int .i64 (-1), .slice A m ca]
  go_wp2
  refine bodyPost_ret (results_two_rows Tryz.results75 _ _ (w.heap.size + 1) (w.heap.size + 2) (Nd.cells (mkN 0 0 0 0) (.slice none 0 0)).toArray #[.slice L ts.length cl, .int .i64 (-1), .slice A m ca] rfl rfl (run_loadVar_row _ _ 67 67 _ (0, 0) _ q1 Tryz.underlying67 rfl (by kernel_rfl)) (run_loadVar_row _ _ 57 57 _ (0, 0) _ q2 Tryz.underlying57 rfl (by kernel_rfl))) rfl ?_
  exact ⟨q3, (mkN 0 0 0 0), (-1), rfl, rfl, PairOk.no Hres.out rfl⟩
theorem ratom_any (w : World) (L : Option Addr) (cl : Nat) (ts : List Tok) (K : Int) (A : Option Addr) (m ca : Nat) (l : List Tok) (hl : ts.length ≤ 1000000) (hK : Live ts K (some l)) (h : Toks w w.heap.size L ts) :
    Calls Tryz.prog 75 #[.agg #[.slice L ts.length cl, .int .i64 K, .slice A m ca]] w (PostT w L cl ts A m ca (atomF l)) := by
  cases qany : ((mustR ts K 1 { data := #[] }).1.s.toList == [97, 110, 121]) with
  | true => exact ratom_p_any w L cl ts K A m ca l hl hK h qany
  | false =>
    cases qver : ((mustR ts K 1 { data := #[] }).1.s.toList == [118, 101, 114, 115, 105, 111, 110]) with
    | true => exact ratom_p_ver w L cl ts K A m ca l hl hK h qany qver
    | false =>
      cases qepo : ((mustR ts K 1 { data := #[] }).1.s.toList == [101, 112, 111, 99, 104]) with
      | true => exact ratom_p_epo w L cl ts K A m ca l hl hK h qany qver qepo
      | false =>
        cases qsta : ((mustR ts K 1 { data := #[] }).1.s.toList == [115, 116, 97, 103, 101]) with
        | true => exact ratom_p_sta w L cl ts K A m ca l hl hK h qany qver qepo qsta
        | false =>
          cases qpoi : ((mustR ts K 1 { data := #[] }).1.s.toList == [112, 111, 105, 110, 116]) with
          | true => exact ratom_p_poi w L cl ts K A m ca l hl hK h qany qver qepo qsta qpoi
          | false =>
            exact ratom_p_else w L cl ts K A m ca l hl hK h qany qver qepo qsta qpoi
end Go.Proofs.YtbojlnbdkaanmaaGreatDoor
namespace Go.Proofs.YtbojlnbdkaanmaaGreatDoor
open Go.RowKit
set_option linter.unusedSimpArgs false
set_option linter.unusedVariables false

/-- What a part of the parser leaves. -/
def PostX (w : World) (P : Nat → Prop) (L : Option Addr) (cl : Nat) (ts : List Tok) (n0 : Nat) (l : List Tok) (r : PRes) (e : Ending) (w' : World) : Prop :=
  Below w.heap.size w w' ∧ ∃ (K' : Int) (A' : Option Addr) (ca' : Nat) (nds' : List Nd), e = .returned (.agg #[.slice L ts.length cl, .int .i64 K', .slice A' nds'.length ca']) ∧
    NodesP w' (fun b => P b ∨ (w.heap.size ≤ b ∧ b < w'.heap.size)) A' nds' ∧ nds'.length ≤ ca' ∧ ca' ≤ 9223372036854775807 ∧
    ((r = none ∧ K' = -1 ∧ nds'.length ≤ n0 + l.length + 1) ∨
     ∃ q, r = some ((nds'.length : Int) - 1, q, nds') ∧ Live ts K' (some q) ∧ q.length < l.length ∧ nds'.length + q.length ≤ n0 + l.length)
def NotOk (n : Nat) : Prop := ∀ (w : World) (P : Nat → Prop) (L : Option Addr) (cl : Nat) (ts : List Tok) (K : Int) (A : Option Addr) (ca : Nat) (nds : List Nd) (l : List Tok), ts.length ≤ 1000000 → Live ts K (some l) → l.length < n → nds.length + l.length ≤ 999990 →
  (∀ b, P b → b < w.heap.size) → NodesP w P A nds → nds.length ≤ ca → ca ≤ 9223372036854775807 → Toks w w.heap.size L ts → Calls Tryz.prog 54 #[.agg #[.slice L ts.length cl, .int .i64 K, .slice A nds.length ca]] w (PostX w P L cl ts nds.length l (notF n l nds))
def ChOk (lv : Int) (n : Nat) (f : List Tok → List Nd → PRes) : Prop := ∀ (w : World) (P : Nat → Prop) (L : Option Addr) (cl : Nat) (ts : List Tok) (K : Int) (A : Option Addr) (ca : Nat) (nds : List Nd) (l : List Tok), ts.length ≤ 1000000 → Live ts K (some l) → l.length < n → nds.length + l.length ≤ 999990 →
  (∀ b, P b → b < w.heap.size) → NodesP w P A nds → nds.length ≤ ca → ca ≤ 9223372036854775807 → Toks w w.heap.size L ts → Calls Tryz.prog 27 #[.agg #[.slice L ts.length cl, .int .i64 K, .slice A nds.length ca], .int .i64 lv] w (PostX w P L cl ts nds.length l (f l nds))
/-- The frame of a call of c blocks: the state in the first, the result in the second. -/
structure FS (c : Nat) (w W : World) (P : Nat → Prop) (L : Option Addr) (n cl : Nat) (K : Int) (A : Option Addr) (ca : Nat) (nds : List Nd) : Prop where
  bel : Below w.heap.size w W
  k0 : W.heap[w.heap.size]? = some (.cells #[.slice L n cl, .int .i64 K, .slice A nds.length ca] 57 (0, 0))
  k1 : W.heap[w.heap.size + 1]? = some (.cells #[.slice none 0 0, .int .i64 0, .slice none 0 0] 57 (0, 0))
  two : 2 ≤ c
  lt : w.heap.size + c ≤ W.heap.size
  old : ∀ b, P b → b < w.heap.size
  nod : NodesP W (fun b => P b ∨ (w.heap.size + c ≤ b ∧ b < W.heap.size)) A nds
  cap : nds.length ≤ ca ∧ ca ≤ 9223372036854775807
section
variable {c : Nat} {w W W' : World} {P : Nat → Prop} {L : Option Addr} {n cl : Nat} {K : Int} {A : Option Addr} {ca : Nat} {nds : List Nd}
theorem FS.inn (h : FS c w W P L n cl K A ca nds) : ∀ b, (P b ∨ (w.heap.size + c ≤ b ∧ b < W.heap.size)) → b < W.heap.size := by
  intro b hb
  have := h.lt
  rcases hb with hb | hb
  · have := h.old b hb; omega
  · exact hb.2
theorem FS.next (h : FS c w W P L n cl K A ca nds) (hb : Below W.heap.size W W') : FS c w W' P L n cl K A ca nds := by
  have hl := h.lt
  have ht := h.two
  have hz := hb.size
  exact ⟨h.bel.trans (hb.mono h.bel.size), (hb.block _ (by omega)).trans h.k0, (hb.block _ (by omega)).trans h.k1, ht, by omega, h.old, h.nod.keep (fun b hb' => hb.block b (h.inn b hb')) (fun b hb' => by
    rcases hb' with q | q
    · exact .inl q
    · exact .inr ⟨q.1, by omega⟩), h.cap⟩
/-- Behind a call that hands back a state, put in its place. -/
theorem FS.put (h : FS c w W P L n cl K A ca nds) (hb : Below W.heap.size W W') {K' : Int} {A' : Option Addr} {ca' : Nat} {nds' : List Nd}
    (hn : NodesP W' (fun b => (P b ∨ (w.heap.size + c ≤ b ∧ b < W.heap.size)) ∨ (W.heap.size ≤ b ∧ b < W'.heap.size)) A' nds') (hc : nds'.length ≤ ca' ∧ ca' ≤ 9223372036854775807) :
    FS c w (W'.setRow w.heap.size #[.slice L n cl, .int .i64 K', .slice A' nds'.length ca']) P L n cl K' A' ca' nds' := by
  have hl := h.lt
  have ht := h.two
  have hz := hb.size
  have h' := h.next hb
  refine ⟨below_setRow' h'.bel (Nat.le_refl _) _, setRow_heap _ _ _ _ _ _ h'.k0, (setRow_other _ _ _ _ (by omega)).trans h'.k1, ht, by simpa using h'.lt, h.old, hn.keep (fun b hb' => setRow_other _ _ _ _ ?_) (fun b hb' => ?_), hc⟩
  · rcases hb' with (q | q) | q
    · have := h.old b q; omega
    · omega
    · omega
  · rcases hb' with (q | q) | q
    · exact .inl q
    · exact .inr ⟨q.1, by simp; omega⟩
    · exact .inr ⟨by omega, by simpa using q.2⟩
theorem FS.pos (h : FS c w W P L n cl K A ca nds) (K' : Int) : FS c w (W.setCell ⟨w.heap.size, 1, none⟩ (.int .i64 K')) P L n cl K' A ca nds := by
  have hl := h.lt
  have ht := h.two
  rw [setCell_eq_setRow W w.heap.size 1 _ _ _ _ h.k0]
  refine ⟨below_setRow' h.bel (Nat.le_refl _) _, setRow_heap _ _ _ _ _ _ h.k0, (setRow_other _ _ _ _ (by omega)).trans h.k1, ht, by simpa using hl, h.old, h.nod.keep (fun b hb' => setRow_other _ _ _ _ ?_) (fun b hb' => ?_), h.cap⟩
  · rcases hb' with q | q
    · have := h.old b q; omega
    · omega
  · rcases hb' with q | q
    · exact .inl q
    · exact .inr ⟨q.1, by simpa using q.2⟩
/-- The end: the result is stored, and handed back. -/
theorem FS.out (h : FS c w W P L n cl K A ca nds) (hb : Below W.heap.size W W') {A' : Option Addr} {nds' : List Nd} (cs : Array Value)
    (hn : NodesP W' (fun b => (P b ∨ (w.heap.size + c ≤ b ∧ b < W.heap.size)) ∨ (W.heap.size ≤ b ∧ b < W'.heap.size)) A' nds') :
    Below w.heap.size w (W'.setRow (w.heap.size + 1) cs) ∧ NodesP (W'.setRow (w.heap.size + 1) cs) (fun b => P b ∨ (w.heap.size ≤ b ∧ b < (W'.setRow (w.heap.size + 1) cs).heap.size)) A' nds' := by
  have hl := h.lt
  have ht := h.two
  have hz := hb.size
  refine ⟨below_setRow' (h.next hb).bel (by omega) _, hn.keep (fun b hb' => setRow_other _ _ _ _ ?_) (fun b hb' => ?_)⟩
  · rcases hb' with (q | q) | q
    · have := h.old b q; omega
    · omega
    · omega
  · rcases hb' with (q | q) | q
    · exact .inl q
    · exact .inr ⟨by omega, by simp; omega⟩
    · exact .inr ⟨by omega, by simpa using q.2⟩
theorem FS.same (h : FS c w W P L n cl K A ca nds) : NodesP W (fun b => (P b ∨ (w.heap.size + c ≤ b ∧ b < W.heap.size)) ∨ (W.heap.size ≤ b ∧ b < W.heap.size)) A nds := h.nod.keep (fun _ _ => rfl) (fun b q => .inl q)
theorem FS.cells (h : FS c w W P L n cl K A ca nds) : W.cell? ⟨w.heap.size, 0, none⟩ = some (.slice L n cl) ∧ W.cell? ⟨w.heap.size, 1, none⟩ = some (.int .i64 K) ∧ W.cell? ⟨w.heap.size, 2, none⟩ = some (.slice A nds.length ca) ∧ W.frozen? ⟨w.heap.size, 1, none⟩ = false :=
  ⟨blk_cell h.k0 rfl, blk_cell h.k0 rfl, blk_cell h.k0 rfl, blk_froz h.k0⟩
end
/-- chain's relation. -/
def ChR (ts l : List Tok) (n0 : Nat) (res : PRes) (f : List Tok → List Nd → PRes) (sg : List UInt8) (kd : Int) (g : Nat) (K : Int) (nds : List Nd) : Prop :=
  (K = -1 ∧ res = none ∧ nds.length ≤ n0 + l.length + 1) ∨
  ∃ q, Live ts K (some q) ∧ q.length < l.length ∧ q.length < g ∧ nds.length + q.length ≤ n0 + l.length ∧ chainGo f sg kd g ((nds.length : Int) - 1) q nds = res
theorem ChR.len {ts l : List Tok} {n0 : Nat} {res : PRes} {f : List Tok → List Nd → PRes} {sg : List UInt8} {kd : Int} {g : Nat} {K : Int} {nds : List Nd} (h : ChR ts l n0 res f sg kd g K nds) (hb : n0 + l.length ≤ 999990) : nds.length ≤ 999991 := by
  rcases h with ⟨_, _, h⟩ | ⟨q, _, _, _, h, _⟩ <;> omega
theorem ChR.first {ts l : List Tok} {n0 : Nat} {f : List Tok → List Nd → PRes} {sg : List UInt8} {kd : Int} {m : Nat} {K : Int} {nds0 nds : List Nd} (hm : l.length ≤ m)
    (h : (f l nds0 = none ∧ K = -1 ∧ nds.length ≤ n0 + l.length + 1) ∨ ∃ q, f l nds0 = some ((nds.length : Int) - 1, q, nds) ∧ Live ts K (some q) ∧ q.length < l.length ∧ nds.length + q.length ≤ n0 + l.length) :
    ChR ts l n0 (chainF f sg kd m l nds0) f sg kd m K nds := by
  rcases h with ⟨h1, h2, h3⟩ | ⟨q, h1, h2, h3, h4⟩
  · exact .inl ⟨h2, by rw [chainF, h1], h3⟩
  · exact .inr ⟨q, h2, h3, by omega, h4, by rw [chainF, h1]⟩
theorem ChR.more {ts l q : List Tok} {n0 : Nat} {res : PRes} {f : List Tok → List Nd → PRes} {sg : List UInt8} {kd : Int} {g : Nat} {K : Int} {nds nds7 : List Nd} {t : Tok} (hq : (t :: q).length < l.length) (hg : (t :: q).length < g + 1) (hn : nds.length + (t :: q).length ≤ n0 + l.length)
    (hgo : chainGo f sg kd (g + 1) ((nds.length : Int) - 1) (t :: q) nds = res) (hb : isB (t :: q) 3 sg = true)
    (h : (f q nds = none ∧ K = -1 ∧ nds7.length ≤ nds.length + q.length + 1) ∨ ∃ q7, f q nds = some ((nds7.length : Int) - 1, q7, nds7) ∧ Live ts K (some q7) ∧ q7.length < q.length ∧ nds7.length + q7.length ≤ nds.length + q.length) :
    ChR ts l n0 res f sg kd g K (nds7 ++ [mkO kd [(nds.length : Int) - 1, (nds7.length : Int) - 1]]) := by
  simp only [List.length_cons] at hq hg hn
  rw [chainGo, if_pos hb, List.tail_cons] at hgo
  rcases h with ⟨h1, h2, h3⟩ | ⟨q7, h1, h2, h3, h4⟩
  · rw [h1] at hgo
    exact .inl ⟨h2, hgo.symm, by simp; omega⟩
  · rw [h1] at hgo
    refine .inr ⟨q7, h2, by omega, by omega, by simp; omega, ?_⟩
    rw [← hgo]
    simp
theorem ChR.none_ {ts l : List Tok} {n0 : Nat} {res : PRes} {f : List Tok → List Nd → PRes} {sg : List UInt8} {kd : Int} {g : Nat} {q : List Tok} {nds : List Nd} (hgo : chainGo f sg kd (g + 1) ((nds.length : Int) - 1) q nds = res) (hb : isB q 3 sg = false) : res = some ((nds.length : Int) - 1, q, nds) := by
  rw [← hgo, chainGo, hb]
  simp
theorem ints_two {W : World} {P : Nat → Prop} {g : Nat} {a b : Int} (h : W.heap[g]? = some (.cells #[.int .i64 a, .int .i64 b] 3 (0, 0))) (hP : P g) : IntsP W P (some ⟨g, 0, none⟩) [a, b] := by
  intro i cs hi
  match i, hi with
  | 0, hi => cases hi; exact ⟨g, 0, rfl, hP, fun j v hj => by match j, hj with | 0, hj => cases hj; exact blk_cell h rfl⟩
  | 1, hi => cases hi; exact ⟨g, 0, rfl, hP, fun j v hj => by match j, hj with | 0, hj => cases hj; exact blk_cell h rfl⟩
theorem ints_one {W : World} {P : Nat → Prop} {g : Nat} {a : Int} (h : W.heap[g]? = some (.cells #[.int .i64 a] 3 (0, 0))) (hP : P g) : IntsP W P (some ⟨g, 0, none⟩) [a] := by
  intro i cs hi
  match i, hi with
  | 0, hi => cases hi; exact ⟨g, 0, rfl, hP, fun j v hj => by match j, hj with | 0, hj => cases hj; exact blk_cell h rfl⟩
set_option maxRecDepth 100000 in
set_option maxHeartbeats 16000000 in
theorem rchain0 (n : Nat) (f : List Tok → List Nd → PRes) (hf : ChOk 1 n f) : ChOk 0 n (chainF f [124, 124] 10 n) := by
  intro w P L cl ts K A ca nds l hl hK hn hs hP hN hc1 hc2 hT
  obtain ⟨W0, hW0⟩ : ∃ W0, W0 = ((w.alloc (.cells #[.slice L ts.length cl, .int .i64 K, .slice A nds.length ca] 57)).alloc (.cells #[.slice none 0 0, .int .i64 0, .slice none 0 0] 57)).alloc (.cells #[.string ⟨#[124, 124]⟩, .string ⟨#[38, 38]⟩] 9) := ⟨_, rfl⟩
  have hf0 : FS 3 w W0 P L ts.length cl K A ca nds := by
    refine ⟨bel_thr hW0, ?_, blk_thr2 hW0, by omega, by rw [size_thr hW0]; omega, hP, hN.keep (fun b hb => (bel_thr hW0).block b (hP b hb)) (fun b hb => .inl hb), ⟨hc1, hc2⟩⟩
    rw [hW0]
    exact (heap_alloc_old _ _ (by simp <;> omega)).trans ((heap_alloc_old _ _ (by simp)).trans (heap_alloc_new w _))
  have hq0 : W0.heap[w.heap.size + 1 + 1]? = some (.cells #[.string ⟨#[124, 124]⟩, .string ⟨#[38, 38]⟩] 9 (0, 0)) := blk_thr3 hW0
  have hb0 := hf0.bel
  have hcall := hf W0 _ L cl ts K A ca nds l hl hK hn hs hf0.inn hf0.nod hc1 hc2 ((hT.below hb0 (Nat.le_refl _)).more hb0.size)
  have HC := hide hcall
  have HF := hide hf
  have HFS := hide hf0
  have HQ := hide hq0
  have HT := hide hT
  have HW0 := hide hW0
  unfold ChOk at HF
  clear hf hcall hf0 hq0 hb0 hT hW0 hN hK hc1 hc2 hP
  go_enter Tryz.func27, Tryz.ntmps27
  go_wp2_with fail
  rw [← HW0.out]
  refine Calls.mono HC.out ?_
  rintro e w1 ⟨hb, K1, A1, ca1, n1, rfl, hn1, hc1, hc2, hor⟩
  obtain ⟨Z1, hZ1⟩ : ∃ Z1, Z1 = w1.setRow w.heap.size (Value.agg #[.slice L ts.length cl, .int .i64 K1, .slice A1 n1.length ca1]).cells := ⟨_, rfl⟩
  have hf1 := HFS.out.put hb (K' := K1) hn1 ⟨hc1, hc2⟩
  have hk1 := (HFS.out.next hb).k0
  have hq1 := (hb.block _ (World.lt_of_blk HQ.out)).trans HQ.out
  have hqz : Z1.heap[w.heap.size + 1 + 1]? = some (.cells #[.string ⟨#[124, 124]⟩, .string ⟨#[38, 38]⟩] 9 (0, 0)) := row_other hZ1 hq1 (by omega)
  have hZ1' : Z1 = w1.setRow w.heap.size #[.slice L ts.length cl, .int .i64 K1, .slice A1 n1.length ca1] := hZ1
  rw [← hZ1'] at hf1
  have hR := ChR.first (f := f) (sg := [124, 124]) (kd := 10) (m := n) (by omega) hor
  have hnl := hR.len hs
  have hnl2 : n1.length ≤ 1000000 := by omega
  have HFS1 := hide hf1
  have HQ1 := hide hqz
  have HK1 := hide hk1
  have HZ1 := hide hZ1
  have HR := hide hR
  clear hb hn1 hc1 hc2 hor hf1 hk1 hq1 hqz hZ1 hZ1' hR HC HFS HQ HW0 hnl
  obtain ⟨c0, c1, c2, c3⟩ := HFS1.out.cells
  go_wp2_with (first
    | (with_reducible refine wpList_store_row rfl 57 (.tmp 2) (.tmp 17) rfl w.heap.size rfl (.agg #[.slice L ts.length cl, .int .i64 K1, .slice A1 n1.length ca1]) rfl _ _ HK1.out rfl (by kernel_rfl) (by simp [Value.cells, Value.oneCell']) ?_; rw [← HZ1.out]))
  clear c0 c1 c2 c3
  go_loopg [6] n (fun g av wr => ∃ (K' : Int) (A' : Option Addr) (ca' : Nat) (nds' : List Nd), av = .int .i64 ((nds'.length : Int) - 1) ∧ nds'.length ≤ 999991 ∧ Hid (FS 3 w wr P L ts.length cl K' A' ca' nds') ∧ Hid (wr.heap[w.heap.size + 1 + 1]? = some (.cells #[.string ⟨#[124, 124]⟩, .string ⟨#[38, 38]⟩] 9 (0, 0))) ∧ Hid (ChR ts l nds.length (chainF f [124, 124] 10 n l nds) f [124, 124] 10 g K' nds'))
  case atStart => exact ⟨K1, A1, ca1, n1, by go_num, HR.out.len hs, HFS1, HQ1, HR⟩
  case round =>
    clear HR HFS1 HQ1 HK1 HZ1 hnl2
    obtain ⟨K', A', ca', nds', rfl, hnl, HFS, HQ, HR⟩ := hrel
    obtain ⟨c0, c1, c2, c3⟩ := HFS.out.cells
    rcases HR.out with ⟨rfl, hres, hlen⟩ | ⟨q, hL, hq1, hq2, hq3, hgo⟩
    · go_wp2_with (first
        | (with_reducible refine wpList_load_row rfl 57 (.tmp 2) rfl w.heap.size rfl 57 _ (0, 0) _ HFS.out.k0 Tryz.underlying57 rfl (by kernel_rfl) ?_)
        | (with_reducible refine wpList_store_row rfl 57 (.tmp 4) (.tmp 57) rfl (w.heap.size + 1) rfl _ rfl _ _ HFS.out.k1 rfl (by kernel_rfl) (by kernel_rfl) ?_))
      refine bodyPost_ret (results_cell_row Tryz.results27 _ _ (w.heap.size + 1) 57 _ (0, 0) _ rfl (setRow_heap _ _ _ _ 57 (0, 0) HFS.out.k1) Tryz.underlying57 rfl (by kernel_rfl)) rfl ?_
      obtain ⟨z1, z2⟩ := HFS.out.out (Below.refl _ _) #[.slice L ts.length cl, .int .i64 (-1), .slice A' nds'.length ca'] HFS.out.same
      exact ⟨z1, -1, A', ca', nds', rfl, z2, HFS.out.cap.1, HFS.out.cap.2, .inl ⟨hres, rfl, hlen⟩⟩
    · cases gk with
      | zero => omega
      | succ g =>
        have hKr := hL.range
        have hK0 : 0 ≤ K' := by obtain ⟨k, rfl, _⟩ := hL; omega
        have HL := hide hL
        have HGo := hide hgo
        clear hL hgo HR
        go_wp2_with fail
        refine wp_region_held (S := fun V => V.heap[w.heap.size]? = some (.cells #[.slice L ts.length cl, .int .i64 K', .slice A' nds'.length ca'] 57 (0, 0)) ∧ V.heap[w.heap.size + 1 + 1]? = some (.cells #[.string ⟨#[124, 124]⟩, .string ⟨#[38, 38]⟩] 9 (0, 0))) (by kernel_rfl) ?_
        change wpAnyH _ _ _ _ _ _ _ _ (World.drew _)
        have HSS := hide (show wr.drew.heap[w.heap.size]? = some (.cells #[.slice L ts.length cl, .int .i64 K', .slice A' nds'.length ca'] 57 (0, 0)) ∧ wr.drew.heap[w.heap.size + 1 + 1]? = some (.cells #[.string ⟨#[124, 124]⟩, .string ⟨#[38, 38]⟩] 9 (0, 0)) from ⟨HFS.out.k0, HQ.out⟩)
        have HDr := hide (Below.refl wr.heap.size wr).drew
        clear c0 c1 c2 c3
        refine takeH (i := 0) (d := 25) (v := .agg #[.slice L ts.length cl, .int .i64 K', .slice A' nds'.length ca']) rfl rfl (by kernel_rfl) (by kernel_rfl) (by kernel_rfl) (fun _ _ _ h => h) rfl HSS.out ?_ ?_
        · intro W' hS; exact y_load1 57 (.tmp 2) rfl w.heap.size rfl 57 _ (0, 0) _ hS.1 Tryz.underlying57 rfl (by kernel_rfl)
        try simp only [Act.put, List.setIfInBounds_toArray, List.set_cons_zero, List.set_cons_succ]
        refine takeH (i := 1) (d := 26) (v := .slice (some ⟨w.heap.size + 1 + 1, 0, none⟩) 2 2) rfl rfl (by kernel_rfl) (by kernel_rfl) (by kernel_rfl) (fun _ _ _ h => h) rfl HSS.out ?_ ?_
        · intro W' _; go_simp
        try simp only [Act.put, List.setIfInBounds_toArray, List.set_cons_zero, List.set_cons_succ]
        refine takeH (i := 2) (d := 27) (v := .int .i64 0) rfl rfl (by kernel_rfl) (by kernel_rfl) (by kernel_rfl) (fun _ _ _ h => h) rfl HSS.out ?_ ?_
        · intro W' _; go_simp
        try simp only [Act.put, List.setIfInBounds_toArray, List.set_cons_zero, List.set_cons_succ]
        refine takeH (i := 3) (d := 28) (v := .pointer (some ⟨w.heap.size + 1 + 1, 0, none⟩)) rfl rfl (by kernel_rfl) (by kernel_rfl) (by kernel_rfl) (fun _ _ _ h => h) rfl HSS.out ?_ ?_
        · intro W' _; go_simp
        try simp only [Act.put, List.setIfInBounds_toArray, List.set_cons_zero, List.set_cons_succ]
        refine takeH (i := 4) (d := 29) (v := .string ⟨#[124, 124]⟩) rfl rfl (by kernel_rfl) (by kernel_rfl) (by kernel_rfl) (fun _ _ _ h => h) rfl HSS.out ?_ ?_
        · intro W' hS; have c := blk_cell (i := 0) (v := .string ⟨#[124, 124]⟩) hS.2 rfl; clear hS; go_simp
        try simp only [Act.put, List.setIfInBounds_toArray, List.set_cons_zero, List.set_cons_succ]
        refine wpAnyH_ready (rs := [5]) (by kernel_rfl) (by simp) ?_
        refine AllReadyH.cons rfl (fun K hK => ?_) AllReadyH.nil
        go_simp
        refine Calls.mono (ris_r wr.drew L cl ts K' A' nds'.length ca' 3 _ hl hKr (((HT.out.below HFS.out.bel (Nat.le_refl _)).more HFS.out.bel.size).below HDr.out (Nat.le_refl _))) ?_
        rintro e w5 ⟨rfl, hb5⟩
        have hb5' := HDr.out.trans hb5
        have HFS5 := hide (HFS.out.next hb5')
        have HQ5 := hide ((hb5'.block _ (World.lt_of_blk HQ.out)).trans HQ.out)
        have HS5 := hide (And.intro HFS5.out.k0 HQ5.out)
        clear hb5 hb5'
        refine hK.out _ _ HS5.out (fun _ => ?_)
        clear hK K
        try simp only [Act.put, List.setIfInBounds_toArray, List.set_cons_zero, List.set_cons_succ]
        obtain ⟨bo, hbo⟩ : ∃ bo, isR ts K' 3 ⟨#[124, 124]⟩ = bo := ⟨_, rfl⟩
        rw [hbo]
        refine takeH (i := 6) (d := 7) (v := .bool bo) rfl rfl (by kernel_rfl) (by kernel_rfl) (by kernel_rfl) (fun _ _ _ h => h) rfl HS5.out ?_ ?_
        · intro W' _; go_simp
        try simp only [Act.put, List.setIfInBounds_toArray, List.set_cons_zero, List.set_cons_succ]
        refine wpAnyH_done (by kernel_rfl) ?_ _
        have hbB : isB q 3 [124, 124] = bo := by rw [← hbo, isR_live HL.out]; simp
        have HBo := hide hbo
        clear hbo HSS HDr HS5
        cases bo with
        | false =>
          have hres := ChR.none_ (ts := ts) (l := l) (n0 := nds.length) HGo.out hbB
          have HRes := hide hres
          clear hres hbB
          go_wp2_with (first
            | (with_reducible refine wpList_load_row rfl 57 (.tmp 2) rfl w.heap.size rfl 57 _ (0, 0) _ HFS5.out.k0 Tryz.underlying57 rfl (by kernel_rfl) ?_)
            | (with_reducible refine wpList_store_row rfl 57 (.tmp 4) (.tmp 57) rfl (w.heap.size + 1) rfl _ rfl _ _ HFS5.out.k1 rfl (by kernel_rfl) (by kernel_rfl) ?_))
          refine bodyPost_ret (results_cell_row Tryz.results27 _ _ (w.heap.size + 1) 57 _ (0, 0) _ rfl (setRow_heap _ _ _ _ 57 (0, 0) HFS5.out.k1) Tryz.underlying57 rfl (by kernel_rfl)) rfl ?_
          obtain ⟨z1, z2⟩ := HFS5.out.out (Below.refl _ _) #[.slice L ts.length cl, .int .i64 K', .slice A' nds'.length ca'] HFS5.out.same
          exact ⟨z1, K', A', ca', nds', rfl, z2, HFS5.out.cap.1, HFS5.out.cap.2, .inr ⟨q, HRes.out, HL.out, hq1, hq3⟩⟩
        | true =>
          have hir := isR_range HBo.out
          obtain ⟨t, q', rfl⟩ := isB_cons hbB
          have hL6 := (HL.out.next).1
          have HBB := hide hbB
          simp only [List.length_cons] at hq1 hq2 hq3
          obtain ⟨c0, c1, c2, c3⟩ := HFS5.out.cells
          obtain ⟨Z6, hZ6⟩ : ∃ Z6, Z6 = w5.setCell ⟨w.heap.size, 1, none⟩ (.int .i64 (K' + 1)) := ⟨_, rfl⟩
          have hf6 := HFS5.out.pos (K' + 1)
          rw [← hZ6] at hf6
          have hq6 := set_other hZ6 HQ5.out (show w.heap.size + 1 + 1 ≠ w.heap.size by omega)
          have hcall := HF.out Z6 _ L cl ts (K' + 1) A' ca' nds' q' hl hL6 (by omega) (by omega) hf6.inn hf6.nod hf6.cap.1 hf6.cap.2 ((HT.out.below hf6.bel (Nat.le_refl _)).more hf6.bel.size)
          have HC := hide hcall
          have HFS6 := hide hf6
          have HQ6 := hide hq6
          have HZ6 := hide hZ6
          clear hcall hf6 hq6 hZ6 hbB hL6
          go_wp2_with fail
          rw [← HZ6.out]
          refine Calls.mono HC.out ?_
          rintro e w7 ⟨hb, K7, A7, ca7, n7, rfl, hn7, hc1, hc2, hor⟩
          clear c0 c1 c2 c3
          obtain ⟨Z7, hZ7⟩ : ∃ Z7, Z7 = w7.setRow w.heap.size (Value.agg #[.slice L ts.length cl, .int .i64 K7, .slice A7 n7.length ca7]).cells := ⟨_, rfl⟩
          have hf7 := HFS6.out.put hb (K' := K7) hn7 ⟨hc1, hc2⟩
          have hk7 := (HFS6.out.next hb).k0
          have hq7 := row_other hZ7 ((hb.block _ (World.lt_of_blk HQ6.out)).trans HQ6.out) (show w.heap.size + 1 + 1 ≠ w.heap.size by omega)
          have hZ7' : Z7 = w7.setRow w.heap.size #[.slice L ts.length cl, .int .i64 K7, .slice A7 n7.length ca7] := hZ7
          rw [← hZ7'] at hf7
          have hn7l : n7.length ≤ 999991 := by rcases hor with ⟨_, _, h⟩ | ⟨q7, _, _, _, h⟩ <;> omega
          have hR := ChR.more (n0 := nds.length) (by simp only [List.length_cons]; omega) (by simp only [List.length_cons]; omega) (by simp only [List.length_cons]; omega) HGo.out HBB.out hor
          obtain ⟨Z8, hZ8⟩ : ∃ Z8, Z8 = Z7.alloc (.cells #[.int .i64 ((nds'.length : Int) - 1), .int .i64 ((n7.length : Int) - 1)] 3) := ⟨_, rfl⟩
          obtain ⟨fb8, fk8, fs8⟩ := fresh_facts hZ8
          have hf8 := hf7.next fb8
          have hq8 := (fb8.block _ (World.lt_of_blk hq7)).trans hq7
          have ho8 : IntsP Z8 (fun b => (P b ∨ (w.heap.size + 3 ≤ b ∧ b < Z8.heap.size))) (some ⟨Z7.heap.size, 0, none⟩) [(nds'.length : Int) - 1, (n7.length : Int) - 1] := by
            have hlt7 := hf7.lt
            refine ints_two fk8 (.inr ⟨by omega, by omega⟩)
          have hcall := rwith_any Z8 L ts.length cl K7 A7 ca7 n7 (mkO 10 [(nds'.length : Int) - 1, (n7.length : Int) - 1]) (some ⟨Z7.heap.size, 0, none⟩) 2 _ hf8.inn hf8.nod ho8 (by omega)
          have HC8 := hide hcall
          have HFS7 := hide hf7
          have HFS8 := hide hf8
          have HQ8 := hide hq8
          have HK7 := hide hk7
          have HZ7 := hide hZ7
          have HZ8 := hide hZ8
          have HR := hide hR
          obtain ⟨c0, c1, c2, c3⟩ := hf7.cells
          clear hcall hf7 hf8 hq7 hq8 hk7 hZ7 hZ7' hZ8 hR fb8 fk8 fs8 ho8 hb hn7 hc1 hc2 hor HC
          go_wp2_with (first
            | (with_reducible refine wpList_store_row rfl 57 (.tmp 2) (.tmp 40) rfl w.heap.size rfl (.agg #[.slice L ts.length cl, .int .i64 K7, .slice A7 n7.length ca7]) rfl _ _ HK7.out rfl (by kernel_rfl) (by simp [Value.cells, Value.oneCell']) ?_; rw [← HZ7.out]))
          rw [← HZ8.out]
          refine Calls.mono HC8.out ?_
          rintro e w9 ⟨hb, A9, ca9, rfl, hn9, hc1, hc2⟩
          clear c0 c1 c2 c3
          obtain ⟨Z9, hZ9⟩ : ∃ Z9, Z9 = w9.setRow w.heap.size (Value.agg #[.slice L ts.length cl, .int .i64 K7, .slice A9 (n7.length + 1) ca9]).cells := ⟨_, rfl⟩
          have hf9 := HFS8.out.put hb (K' := K7) hn9 (by simpa using And.intro hc1 hc2)
          have hk9 := (HFS8.out.next hb).k0
          have hq9 := row_other hZ9 ((hb.block _ (World.lt_of_blk HQ8.out)).trans HQ8.out) (show w.heap.size + 1 + 1 ≠ w.heap.size by omega)
          have hZ9' : Z9 = w9.setRow w.heap.size #[.slice L ts.length cl, .int .i64 K7, .slice A9 (n7 ++ [mkO 10 [(nds'.length : Int) - 1, (n7.length : Int) - 1]]).length ca9] := by rw [hZ9]; simp [Value.cells]
          rw [← hZ9'] at hf9
          have HFS9 := hide hf9
          have HQ9 := hide hq9
          have HK9 := hide hk9
          have HZ9 := hide hZ9
          have c2 : Z9.cell? ⟨w.heap.size, 2, none⟩ = some (.slice A9 (n7.length + 1) ca9) := by have := hf9.cells.2.2.1; simpa using this
          clear hb hn9 hc1 hc2 hf9 hk9 hq9 hZ9 hZ9' HC8
          go_wp2_with (first
            | (with_reducible refine wpList_store_row rfl 57 (.tmp 2) (.tmp 52) rfl w.heap.size rfl (.agg #[.slice L ts.length cl, .int .i64 K7, .slice A9 (n7.length + 1) ca9]) rfl _ _ HK9.out rfl (by kernel_rfl) (by simp [Value.cells, Value.oneCell']) ?_; rw [← HZ9.out]))
          go_roundg g
          case measure => omega
          case rel => exact ⟨K7, A9, ca9, _, by simp; try omega, HR.out.len hs, HFS9, HQ9, HR⟩
set_option maxRecDepth 100000 in
set_option maxHeartbeats 16000000 in
theorem rchain1 (n : Nat) (f : List Tok → List Nd → PRes) (hf : ChOk 2 n f) : ChOk 1 n (chainF f [38, 38] 9 n) := by
  intro w P L cl ts K A ca nds l hl hK hn hs hP hN hc1 hc2 hT
  obtain ⟨W0, hW0⟩ : ∃ W0, W0 = ((w.alloc (.cells #[.slice L ts.length cl, .int .i64 K, .slice A nds.length ca] 57)).alloc (.cells #[.slice none 0 0, .int .i64 0, .slice none 0 0] 57)).alloc (.cells #[.string ⟨#[124, 124]⟩, .string ⟨#[38, 38]⟩] 9) := ⟨_, rfl⟩
  have hf0 : FS 3 w W0 P L ts.length cl K A ca nds := by
    refine ⟨bel_thr hW0, ?_, blk_thr2 hW0, by omega, by rw [size_thr hW0]; omega, hP, hN.keep (fun b hb => (bel_thr hW0).block b (hP b hb)) (fun b hb => .inl hb), ⟨hc1, hc2⟩⟩
    rw [hW0]
    exact (heap_alloc_old _ _ (by simp <;> omega)).trans ((heap_alloc_old _ _ (by simp)).trans (heap_alloc_new w _))
  have hq0 : W0.heap[w.heap.size + 1 + 1]? = some (.cells #[.string ⟨#[124, 124]⟩, .string ⟨#[38, 38]⟩] 9 (0, 0)) := blk_thr3 hW0
  have hb0 := hf0.bel
  have hcall := hf W0 _ L cl ts K A ca nds l hl hK hn hs hf0.inn hf0.nod hc1 hc2 ((hT.below hb0 (Nat.le_refl _)).more hb0.size)
  have HC := hide hcall
  have HF := hide hf
  have HFS := hide hf0
  have HQ := hide hq0
  have HT := hide hT
  have HW0 := hide hW0
  unfold ChOk at HF
  clear hf hcall hf0 hq0 hb0 hT hW0 hN hK hc1 hc2 hP
  go_enter Tryz.func27, Tryz.ntmps27
  go_wp2_with fail
  rw [← HW0.out]
  refine Calls.mono HC.out ?_
  rintro e w1 ⟨hb, K1, A1, ca1, n1, rfl, hn1, hc1, hc2, hor⟩
  obtain ⟨Z1, hZ1⟩ : ∃ Z1, Z1 = w1.setRow w.heap.size (Value.agg #[.slice L ts.length cl, .int .i64 K1, .slice A1 n1.length ca1]).cells := ⟨_, rfl⟩
  have hf1 := HFS.out.put hb (K' := K1) hn1 ⟨hc1, hc2⟩
  have hk1 := (HFS.out.next hb).k0
  have hq1 := (hb.block _ (World.lt_of_blk HQ.out)).trans HQ.out
  have hqz : Z1.heap[w.heap.size + 1 + 1]? = some (.cells #[.string ⟨#[124, 124]⟩, .string ⟨#[38, 38]⟩] 9 (0, 0)) := row_other hZ1 hq1 (by omega)
  have hZ1' : Z1 = w1.setRow w.heap.size #[.slice L ts.length cl, .int .i64 K1, .slice A1 n1.length ca1] := hZ1
  rw [← hZ1'] at hf1
  have hR := ChR.first (f := f) (sg := [38, 38]) (kd := 9) (m := n) (by omega) hor
  have hnl := hR.len hs
  have hnl2 : n1.length ≤ 1000000 := by omega
  have HFS1 := hide hf1
  have HQ1 := hide hqz
  have HK1 := hide hk1
  have HZ1 := hide hZ1
  have HR := hide hR
  clear hb hn1 hc1 hc2 hor hf1 hk1 hq1 hqz hZ1 hZ1' hR HC HFS HQ HW0 hnl
  obtain ⟨c0, c1, c2, c3⟩ := HFS1.out.cells
  go_wp2_with (first
    | (with_reducible refine wpList_store_row rfl 57 (.tmp 2) (.tmp 17) rfl w.heap.size rfl (.agg #[.slice L ts.length cl, .int .i64 K1, .slice A1 n1.length ca1]) rfl _ _ HK1.out rfl (by kernel_rfl) (by simp [Value.cells, Value.oneCell']) ?_; rw [← HZ1.out]))
  clear c0 c1 c2 c3
  go_loopg [6] n (fun g av wr => ∃ (K' : Int) (A' : Option Addr) (ca' : Nat) (nds' : List Nd), av = .int .i64 ((nds'.length : Int) - 1) ∧ nds'.length ≤ 999991 ∧ Hid (FS 3 w wr P L ts.length cl K' A' ca' nds') ∧ Hid (wr.heap[w.heap.size + 1 + 1]? = some (.cells #[.string ⟨#[124, 124]⟩, .string ⟨#[38, 38]⟩] 9 (0, 0))) ∧ Hid (ChR ts l nds.length (chainF f [38, 38] 9 n l nds) f [38, 38] 9 g K' nds'))
  case atStart => exact ⟨K1, A1, ca1, n1, by go_num, HR.out.len hs, HFS1, HQ1, HR⟩
  case round =>
    clear HR HFS1 HQ1 HK1 HZ1 hnl2
    obtain ⟨K', A', ca', nds', rfl, hnl, HFS, HQ, HR⟩ := hrel
    obtain ⟨c0, c1, c2, c3⟩ := HFS.out.cells
    rcases HR.out with ⟨rfl, hres, hlen⟩ | ⟨q, hL, hq1, hq2, hq3, hgo⟩
    · go_wp2_with (first
        | (with_reducible refine wpList_load_row rfl 57 (.tmp 2) rfl w.heap.size rfl 57 _ (0, 0) _ HFS.out.k0 Tryz.underlying57 rfl (by kernel_rfl) ?_)
        | (with_reducible refine wpList_store_row rfl 57 (.tmp 4) (.tmp 57) rfl (w.heap.size + 1) rfl _ rfl _ _ HFS.out.k1 rfl (by kernel_rfl) (by kernel_rfl) ?_))
      refine bodyPost_ret (results_cell_row Tryz.results27 _ _ (w.heap.size + 1) 57 _ (0, 0) _ rfl (setRow_heap _ _ _ _ 57 (0, 0) HFS.out.k1) Tryz.underlying57 rfl (by kernel_rfl)) rfl ?_
      obtain ⟨z1, z2⟩ := HFS.out.out (Below.refl _ _) #[.slice L ts.length cl, .int .i64 (-1), .slice A' nds'.length ca'] HFS.out.same
      exact ⟨z1, -1, A', ca', nds', rfl, z2, HFS.out.cap.1, HFS.out.cap.2, .inl ⟨hres, rfl, hlen⟩⟩
    · cases gk with
      | zero => omega
      | succ g =>
        have hKr := hL.range
        have hK0 : 0 ≤ K' := by obtain ⟨k, rfl, _⟩ := hL; omega
        have HL := hide hL
        have HGo := hide hgo
        clear hL hgo HR
        go_wp2_with fail
        refine wp_region_held (S := fun V => V.heap[w.heap.size]? = some (.cells #[.slice L ts.length cl, .int .i64 K', .slice A' nds'.length ca'] 57 (0, 0)) ∧ V.heap[w.heap.size + 1 + 1]? = some (.cells #[.string ⟨#[124, 124]⟩, .string ⟨#[38, 38]⟩] 9 (0, 0))) (by kernel_rfl) ?_
        change wpAnyH _ _ _ _ _ _ _ _ (World.drew _)
        have HSS := hide (show wr.drew.heap[w.heap.size]? = some (.cells #[.slice L ts.length cl, .int .i64 K', .slice A' nds'.length ca'] 57 (0, 0)) ∧ wr.drew.heap[w.heap.size + 1 + 1]? = some (.cells #[.string ⟨#[124, 124]⟩, .string ⟨#[38, 38]⟩] 9 (0, 0)) from ⟨HFS.out.k0, HQ.out⟩)
        have HDr := hide (Below.refl wr.heap.size wr).drew
        clear c0 c1 c2 c3
        refine takeH (i := 0) (d := 25) (v := .agg #[.slice L ts.length cl, .int .i64 K', .slice A' nds'.length ca']) rfl rfl (by kernel_rfl) (by kernel_rfl) (by kernel_rfl) (fun _ _ _ h => h) rfl HSS.out ?_ ?_
        · intro W' hS; exact y_load1 57 (.tmp 2) rfl w.heap.size rfl 57 _ (0, 0) _ hS.1 Tryz.underlying57 rfl (by kernel_rfl)
        try simp only [Act.put, List.setIfInBounds_toArray, List.set_cons_zero, List.set_cons_succ]
        refine takeH (i := 1) (d := 26) (v := .slice (some ⟨w.heap.size + 1 + 1, 0, none⟩) 2 2) rfl rfl (by kernel_rfl) (by kernel_rfl) (by kernel_rfl) (fun _ _ _ h => h) rfl HSS.out ?_ ?_
        · intro W' _; go_simp
        try simp only [Act.put, List.setIfInBounds_toArray, List.set_cons_zero, List.set_cons_succ]
        refine takeH (i := 2) (d := 27) (v := .int .i64 1) rfl rfl (by kernel_rfl) (by kernel_rfl) (by kernel_rfl) (fun _ _ _ h => h) rfl HSS.out ?_ ?_
        · intro W' _; go_simp
        try simp only [Act.put, List.setIfInBounds_toArray, List.set_cons_zero, List.set_cons_succ]
        refine takeH (i := 3) (d := 28) (v := .pointer (some ⟨w.heap.size + 1 + 1, 1, none⟩)) rfl rfl (by kernel_rfl) (by kernel_rfl) (by kernel_rfl) (fun _ _ _ h => h) rfl HSS.out ?_ ?_
        · intro W' _; go_simp
        try simp only [Act.put, List.setIfInBounds_toArray, List.set_cons_zero, List.set_cons_succ]
        refine takeH (i := 4) (d := 29) (v := .string ⟨#[38, 38]⟩) rfl rfl (by kernel_rfl) (by kernel_rfl) (by kernel_rfl) (fun _ _ _ h => h) rfl HSS.out ?_ ?_
        · intro W' hS; have c := blk_cell (i := 1) (v := .string ⟨#[38, 38]⟩) hS.2 rfl; clear hS; go_simp
        try simp only [Act.put, List.setIfInBounds_toArray, List.set_cons_zero, List.set_cons_succ]
        refine wpAnyH_ready (rs := [5]) (by kernel_rfl) (by simp) ?_
        refine AllReadyH.cons rfl (fun K hK => ?_) AllReadyH.nil
        go_simp
        refine Calls.mono (ris_r wr.drew L cl ts K' A' nds'.length ca' 3 _ hl hKr (((HT.out.below HFS.out.bel (Nat.le_refl _)).more HFS.out.bel.size).below HDr.out (Nat.le_refl _))) ?_
        rintro e w5 ⟨rfl, hb5⟩
        have hb5' := HDr.out.trans hb5
        have HFS5 := hide (HFS.out.next hb5')
        have HQ5 := hide ((hb5'.block _ (World.lt_of_blk HQ.out)).trans HQ.out)
        have HS5 := hide (And.intro HFS5.out.k0 HQ5.out)
        clear hb5 hb5'
        refine hK.out _ _ HS5.out (fun _ => ?_)
        clear hK K
        try simp only [Act.put, List.setIfInBounds_toArray, List.set_cons_zero, List.set_cons_succ]
        obtain ⟨bo, hbo⟩ : ∃ bo, isR ts K' 3 ⟨#[38, 38]⟩ = bo := ⟨_, rfl⟩
        rw [hbo]
        refine takeH (i := 6) (d := 7) (v := .bool bo) rfl rfl (by kernel_rfl) (by kernel_rfl) (by kernel_rfl) (fun _ _ _ h => h) rfl HS5.out ?_ ?_
        · intro W' _; go_simp
        try simp only [Act.put, List.setIfInBounds_toArray, List.set_cons_zero, List.set_cons_succ]
        refine wpAnyH_done (by kernel_rfl) ?_ _
        have hbB : isB q 3 [38, 38] = bo := by rw [← hbo, isR_live HL.out]; simp
        have HBo := hide hbo
        clear hbo HSS HDr HS5
        cases bo with
        | false =>
          have hres := ChR.none_ (ts := ts) (l := l) (n0 := nds.length) HGo.out hbB
          have HRes := hide hres
          clear hres hbB
          go_wp2_with (first
            | (with_reducible refine wpList_load_row rfl 57 (.tmp 2) rfl w.heap.size rfl 57 _ (0, 0) _ HFS5.out.k0 Tryz.underlying57 rfl (by kernel_rfl) ?_)
            | (with_reducible refine wpList_store_row rfl 57 (.tmp 4) (.tmp 57) rfl (w.heap.size + 1) rfl _ rfl _ _ HFS5.out.k1 rfl (by kernel_rfl) (by kernel_rfl) ?_))
          refine bodyPost_ret (results_cell_row Tryz.results27 _ _ (w.heap.size + 1) 57 _ (0, 0) _ rfl (setRow_heap _ _ _ _ 57 (0, 0) HFS5.out.k1) Tryz.underlying57 rfl (by kernel_rfl)) rfl ?_
          obtain ⟨z1, z2⟩ := HFS5.out.out (Below.refl _ _) #[.slice L ts.length cl, .int .i64 K', .slice A' nds'.length ca'] HFS5.out.same
          exact ⟨z1, K', A', ca', nds', rfl, z2, HFS5.out.cap.1, HFS5.out.cap.2, .inr ⟨q, HRes.out, HL.out, hq1, hq3⟩⟩
        | true =>
          have hir := isR_range HBo.out
          obtain ⟨t, q', rfl⟩ := isB_cons hbB
          have hL6 := (HL.out.next).1
          have HBB := hide hbB
          simp only [List.length_cons] at hq1 hq2 hq3
          obtain ⟨c0, c1, c2, c3⟩ := HFS5.out.cells
          obtain ⟨Z6, hZ6⟩ : ∃ Z6, Z6 = w5.setCell ⟨w.heap.size, 1, none⟩ (.int .i64 (K' + 1)) := ⟨_, rfl⟩
          have hf6 := HFS5.out.pos (K' + 1)
          rw [← hZ6] at hf6
          have hq6 := set_other hZ6 HQ5.out (show w.heap.size + 1 + 1 ≠ w.heap.size by omega)
          have hcall := HF.out Z6 _ L cl ts (K' + 1) A' ca' nds' q' hl hL6 (by omega) (by omega) hf6.inn hf6.nod hf6.cap.1 hf6.cap.2 ((HT.out.below hf6.bel (Nat.le_refl _)).more hf6.bel.size)
          have HC := hide hcall
          have HFS6 := hide hf6
          have HQ6 := hide hq6
          have HZ6 := hide hZ6
          clear hcall hf6 hq6 hZ6 hbB hL6
          go_wp2_with fail
          rw [← HZ6.out]
          refine Calls.mono HC.out ?_
          rintro e w7 ⟨hb, K7, A7, ca7, n7, rfl, hn7, hc1, hc2, hor⟩
          clear c0 c1 c2 c3
          obtain ⟨Z7, hZ7⟩ : ∃ Z7, Z7 = w7.setRow w.heap.size (Value.agg #[.slice L ts.length cl, .int .i64 K7, .slice A7 n7.length ca7]).cells := ⟨_, rfl⟩
          have hf7 := HFS6.out.put hb (K' := K7) hn7 ⟨hc1, hc2⟩
          have hk7 := (HFS6.out.next hb).k0
          have hq7 := row_other hZ7 ((hb.block _ (World.lt_of_blk HQ6.out)).trans HQ6.out) (show w.heap.size + 1 + 1 ≠ w.heap.size by omega)
          have hZ7' : Z7 = w7.setRow w.heap.size #[.slice L ts.length cl, .int .i64 K7, .slice A7 n7.length ca7] := hZ7
          rw [← hZ7'] at hf7
          have hn7l : n7.length ≤ 999991 := by rcases hor with ⟨_, _, h⟩ | ⟨q7, _, _, _, h⟩ <;> omega
          have hR := ChR.more (n0 := nds.length) (by simp only [List.length_cons]; omega) (by simp only [List.length_cons]; omega) (by simp only [List.length_cons]; omega) HGo.out HBB.out hor
          obtain ⟨Z8, hZ8⟩ : ∃ Z8, Z8 = Z7.alloc (.cells #[.int .i64 ((nds'.length : Int) - 1), .int .i64 ((n7.length : Int) - 1)] 3) := ⟨_, rfl⟩
          obtain ⟨fb8, fk8, fs8⟩ := fresh_facts hZ8
          have hf8 := hf7.next fb8
          have hq8 := (fb8.block _ (World.lt_of_blk hq7)).trans hq7
          have ho8 : IntsP Z8 (fun b => (P b ∨ (w.heap.size + 3 ≤ b ∧ b < Z8.heap.size))) (some ⟨Z7.heap.size, 0, none⟩) [(nds'.length : Int) - 1, (n7.length : Int) - 1] := by
            have hlt7 := hf7.lt
            refine ints_two fk8 (.inr ⟨by omega, by omega⟩)
          have hcall := rwith_any Z8 L ts.length cl K7 A7 ca7 n7 (mkO 9 [(nds'.length : Int) - 1, (n7.length : Int) - 1]) (some ⟨Z7.heap.size, 0, none⟩) 2 _ hf8.inn hf8.nod ho8 (by omega)
          have HC8 := hide hcall
          have HFS7 := hide hf7
          have HFS8 := hide hf8
          have HQ8 := hide hq8
          have HK7 := hide hk7
          have HZ7 := hide hZ7
          have HZ8 := hide hZ8
          have HR := hide hR
          obtain ⟨c0, c1, c2, c3⟩ := hf7.cells
          clear hcall hf7 hf8 hq7 hq8 hk7 hZ7 hZ7' hZ8 hR fb8 fk8 fs8 ho8 hb hn7 hc1 hc2 hor HC
          go_wp2_with (first
            | (with_reducible refine wpList_store_row rfl 57 (.tmp 2) (.tmp 40) rfl w.heap.size rfl (.agg #[.slice L ts.length cl, .int .i64 K7, .slice A7 n7.length ca7]) rfl _ _ HK7.out rfl (by kernel_rfl) (by simp [Value.cells, Value.oneCell']) ?_; rw [← HZ7.out]))
          rw [← HZ8.out]
          refine Calls.mono HC8.out ?_
          rintro e w9 ⟨hb, A9, ca9, rfl, hn9, hc1, hc2⟩
          clear c0 c1 c2 c3
          obtain ⟨Z9, hZ9⟩ : ∃ Z9, Z9 = w9.setRow w.heap.size (Value.agg #[.slice L ts.length cl, .int .i64 K7, .slice A9 (n7.length + 1) ca9]).cells := ⟨_, rfl⟩
          have hf9 := HFS8.out.put hb (K' := K7) hn9 (by simpa using And.intro hc1 hc2)
          have hk9 := (HFS8.out.next hb).k0
          have hq9 := row_other hZ9 ((hb.block _ (World.lt_of_blk HQ8.out)).trans HQ8.out) (show w.heap.size + 1 + 1 ≠ w.heap.size by omega)
          have hZ9' : Z9 = w9.setRow w.heap.size #[.slice L ts.length cl, .int .i64 K7, .slice A9 (n7 ++ [mkO 9 [(nds'.length : Int) - 1, (n7.length : Int) - 1]]).length ca9] := by rw [hZ9]; simp [Value.cells]
          rw [← hZ9'] at hf9
          have HFS9 := hide hf9
          have HQ9 := hide hq9
          have HK9 := hide hk9
          have HZ9 := hide hZ9
          have c2 : Z9.cell? ⟨w.heap.size, 2, none⟩ = some (.slice A9 (n7.length + 1) ca9) := by have := hf9.cells.2.2.1; simpa using this
          clear hb hn9 hc1 hc2 hf9 hk9 hq9 hZ9 hZ9' HC8
          go_wp2_with (first
            | (with_reducible refine wpList_store_row rfl 57 (.tmp 2) (.tmp 52) rfl w.heap.size rfl (.agg #[.slice L ts.length cl, .int .i64 K7, .slice A9 (n7.length + 1) ca9]) rfl _ _ HK9.out rfl (by kernel_rfl) (by simp [Value.cells, Value.oneCell']) ?_; rw [← HZ9.out]))
          go_roundg g
          case measure => omega
          case rel => exact ⟨K7, A9, ca9, _, by simp; try omega, HR.out.len hs, HFS9, HQ9, HR⟩
set_option maxRecDepth 100000 in
set_option maxHeartbeats 4000000 in
theorem rchain2 (n : Nat) (hf : NotOk n) : ChOk 2 n (notF n) := by
  intro w P L cl ts K A ca nds l hl hK hn hs hP hN hc1 hc2 hT
  obtain ⟨W0, hW0⟩ : ∃ W0, W0 = ((w.alloc (.cells #[.slice L ts.length cl, .int .i64 K, .slice A nds.length ca] 57)).alloc (.cells #[.slice none 0 0, .int .i64 0, .slice none 0 0] 57)).alloc (.cells #[.string ⟨#[124, 124]⟩, .string ⟨#[38, 38]⟩] 9) := ⟨_, rfl⟩
  have hf0 : FS 3 w W0 P L ts.length cl K A ca nds := by
    refine ⟨bel_thr hW0, ?_, blk_thr2 hW0, by omega, by rw [size_thr hW0]; omega, hP, hN.keep (fun b hb => (bel_thr hW0).block b (hP b hb)) (fun b hb => .inl hb), ⟨hc1, hc2⟩⟩
    rw [hW0]
    exact (heap_alloc_old _ _ (by simp <;> omega)).trans ((heap_alloc_old _ _ (by simp)).trans (heap_alloc_new w _))
  have hb0 := hf0.bel
  have hcall := hf W0 _ L cl ts K A ca nds l hl hK hn hs hf0.inn hf0.nod hc1 hc2 ((hT.below hb0 (Nat.le_refl _)).more hb0.size)
  have HC := hide hcall
  have HFS := hide hf0
  have HW0 := hide hW0
  clear hf hcall hf0 hb0 hT hW0 hN hK hc1 hc2 hP
  go_enter Tryz.func27, Tryz.ntmps27
  go_wp2_with fail
  rw [← HW0.out]
  refine Calls.mono HC.out ?_
  rintro e w1 ⟨hb, K1, A1, ca1, n1, rfl, hn1, hc1, hc2, hor⟩
  have HK := hide (HFS.out.next hb).k1
  have HZ := hide (HFS.out.out hb #[.slice L ts.length cl, .int .i64 K1, .slice A1 n1.length ca1] hn1)
  have HO := hide hor
  clear hb hn1 hor
  go_wp2_with (first
    | (with_reducible refine wpList_store_row rfl 57 (.tmp 4) (.tmp 13) rfl (w.heap.size + 1) rfl _ rfl _ _ HK.out rfl (by kernel_rfl) (by kernel_rfl) ?_))
  refine bodyPost_ret (results_cell_row Tryz.results27 _ _ (w.heap.size + 1) 57 _ (0, 0) _ rfl (setRow_heap _ _ _ _ 57 (0, 0) HK.out) Tryz.underlying57 rfl (by kernel_rfl)) rfl ?_
  exact ⟨HZ.out.1, K1, A1, ca1, n1, rfl, HZ.out.2, hc1, hc2, HO.out⟩
/-- not, from not and chain. -/
theorem notF_bang {n : Nat} {t : Tok} {q : List Tok} {nds nds7 : List Nd} {ts : List Tok} {K : Int} {n0 : Nat} (hb : isB (t :: q) 3 [33] = true)
    (h : (notF n q nds = none ∧ K = -1 ∧ nds7.length ≤ nds.length + q.length + 1) ∨ ∃ q7, notF n q nds = some ((nds7.length : Int) - 1, q7, nds7) ∧ Live ts K (some q7) ∧ q7.length < q.length ∧ nds7.length + q7.length ≤ nds.length + q.length) :
    (notF (n + 1) (t :: q) nds = none ∧ K = -1 ∧ (nds7 ++ [mkO 8 [(nds7.length : Int) - 1]]).length ≤ nds.length + (t :: q).length + 1) ∨
    ∃ q7, notF (n + 1) (t :: q) nds = some (((nds7 ++ [mkO 8 [(nds7.length : Int) - 1]]).length : Int) - 1, q7, nds7 ++ [mkO 8 [(nds7.length : Int) - 1]]) ∧ Live ts K (some q7) ∧ q7.length < (t :: q).length ∧ (nds7 ++ [mkO 8 [(nds7.length : Int) - 1]]).length + q7.length ≤ nds.length + (t :: q).length := by
  rw [notF, if_pos hb, List.tail_cons]
  rcases h with ⟨h1, h2, h3⟩ | ⟨q7, h1, h2, h3, h4⟩
  · rw [h1]
    exact .inl ⟨rfl, h2, by simp; omega⟩
  · rw [h1]
    refine .inr ⟨q7, by simp, h2, by simp; omega, by simp; omega⟩
theorem notF_paren {n : Nat} {t : Tok} {q : List Tok} {nds nds7 : List Nd} {ts : List Tok} {K K8 : Int} {t8 : Tok} {s1 : ByteArray} (hs1 : s1.toList = [41]) (hb : isB (t :: q) 3 [40] = true) (hb0 : isB (t :: q) 3 [33] = false) (hm : mustR ts K 3 s1 = (t8, K8))
    (h : (chainF (chainF (notF n) [38, 38] 9 n) [124, 124] 10 n q nds = none ∧ K = -1 ∧ nds7.length ≤ nds.length + q.length + 1) ∨ ∃ q7, chainF (chainF (notF n) [38, 38] 9 n) [124, 124] 10 n q nds = some ((nds7.length : Int) - 1, q7, nds7) ∧ Live ts K (some q7) ∧ q7.length < q.length ∧ nds7.length + q7.length ≤ nds.length + q.length) :
    (notF (n + 1) (t :: q) nds = none ∧ K8 = -1 ∧ nds7.length ≤ nds.length + (t :: q).length + 1) ∨
    ∃ q7, notF (n + 1) (t :: q) nds = some ((nds7.length : Int) - 1, q7, nds7) ∧ Live ts K8 (some q7) ∧ q7.length < (t :: q).length ∧ nds7.length + q7.length ≤ nds.length + (t :: q).length := by
  rw [notF, hb0, if_pos hb, List.tail_cons]
  simp only [Bool.false_eq_true, if_false]
  rcases h with ⟨h1, h2, h3⟩ | ⟨q7, h1, h2, h3, h4⟩
  · rw [h1]
    subst h2
    rw [mustR_dead] at hm
    injection hm with _ e
    exact .inl ⟨rfl, e.symm, by simp; omega⟩
  · rw [h1]
    cases hf : mustF 3 [41] q7 with
    | none =>
      rw [mustR_fail h2 (by rw [hs1]; exact hf)] at hm
      injection hm with _ e
      exact .inl ⟨by simp [hf], e.symm, by simp; omega⟩
    | some p =>
      obtain ⟨t9, q9⟩ := p
      obtain ⟨h5, h6⟩ := mustR_ok h2 (show mustF 3 s1.toList q7 = some (t9, q9) by rw [hs1]; exact hf)
      rw [h5] at hm
      injection hm with _ e
      subst e
      have hl9 := mustF_len hf
      exact .inr ⟨q9, by simp [hf], h6, by simp; omega, by simp; omega⟩
theorem notF_atom {n : Nat} {l : List Tok} {nds : List Nd} {ts : List Tok} {K : Int} {x : Nd} (hb : isB l 3 [40] = false) (hb0 : isB l 3 [33] = false) (h : PairOk ts x K (atomF l)) :
    (notF (n + 1) l nds = none ∧ K = -1 ∧ (nds ++ [x]).length ≤ nds.length + l.length + 1) ∨
    ∃ q7, notF (n + 1) l nds = some (((nds ++ [x]).length : Int) - 1, q7, nds ++ [x]) ∧ Live ts K (some q7) ∧ q7.length < l.length ∧ (nds ++ [x]).length + q7.length ≤ nds.length + l.length := by
  rw [notF, hb0, hb]
  simp only [Bool.false_eq_true, if_false]
  obtain ⟨h1, h2⟩ := h
  cases hf : atomF l with
  | none =>
    rw [hf] at h1
    exact .inl ⟨rfl, h1, by simp⟩
  | some p =>
    obtain ⟨x', r⟩ := p
    have hx := h2 x' r hf
    subst hx
    rw [hf] at h1
    have hl := atomF_len hf
    exact .inr ⟨r, by simp, h1, hl, by simp; omega⟩
set_option maxRecDepth 100000 in
set_option maxHeartbeats 16000000 in
theorem rnot_step (n : Nat) (hnot : NotOk n) (hch : ChOk 0 n (chainF (chainF (notF n) [38, 38] 9 n) [124, 124] 10 n)) : NotOk (n + 1) := by
  intro w P L cl ts K A ca nds l hl hK hn hs hP hN hc1 hc2 hT
  obtain ⟨W0, hW0⟩ : ∃ W0, W0 = (w.alloc (.cells #[.slice L ts.length cl, .int .i64 K, .slice A nds.length ca] 57)).alloc (.cells #[.slice none 0 0, .int .i64 0, .slice none 0 0] 57) := ⟨_, rfl⟩
  have hf0 : FS 2 w W0 P L ts.length cl K A ca nds := ⟨bel_two hW0, blk_two1 hW0, blk_two2 hW0, by omega, by rw [size_two hW0]; omega, hP, hN.keep (fun b hb => (bel_two hW0).block b (hP b hb)) (fun b hb => .inl hb), ⟨hc1, hc2⟩⟩
  have hKr := hK.range
  have HNot := hide hnot
  have HCh := hide hch
  have HFS := hide hf0
  have HT := hide hT
  have HL := hide hK
  have HW0 := hide hW0
  unfold NotOk at HNot
  unfold ChOk at HCh
  clear hnot hch hf0 hT hW0 hN hK hc1 hc2 hP
  go_enter Tryz.func54, Tryz.ntmps54
  go_wp2_with fail
  rw [← HW0.out]
  refine Calls.mono (ris_r W0 L cl ts K A nds.length ca 3 _ hl hKr ((HT.out.below HFS.out.bel (Nat.le_refl _)).more HFS.out.bel.size)) ?_
  rintro e w1 ⟨rfl, hb⟩
  replace HFS := hide (HFS.out.next hb)
  clear hb HW0
  obtain ⟨c0, c1, c2, c3⟩ := HFS.out.cells
  obtain ⟨bo, hbo⟩ : ∃ bo, isR ts K 3 ⟨#[33]⟩ = bo := ⟨_, rfl⟩
  rw [hbo]
  have hB1 : isB l 3 [33] = bo := by rw [← hbo, isR_live HL.out]; simp
  cases bo with
  | true =>
    have hir := isR_range hbo
    obtain ⟨t, q, rfl⟩ := isB_cons hB1
    have hL6 := (HL.out.next).1
    have HB1 := hide hB1
    simp only [List.length_cons] at hn hs
    obtain ⟨Z6, hZ6⟩ : ∃ Z6, Z6 = w1.setCell ⟨w.heap.size, 1, none⟩ (.int .i64 (K + 1)) := ⟨_, rfl⟩
    have hf6 := HFS.out.pos (K + 1)
    rw [← hZ6] at hf6
    have hcall := HNot.out Z6 _ L cl ts (K + 1) A ca nds q hl hL6 (by omega) (by omega) hf6.inn hf6.nod hf6.cap.1 hf6.cap.2 ((HT.out.below hf6.bel (Nat.le_refl _)).more hf6.bel.size)
    have HC := hide hcall
    have HFS6 := hide hf6
    have HZ6 := hide hZ6
    clear hcall hf6 hZ6 hB1 hL6 hbo
    go_wp2_with fail
    rw [← HZ6.out]
    refine Calls.mono HC.out ?_
    rintro e w7 ⟨hb, K7, A7, ca7, n7, rfl, hn7, hc1, hc2, hor⟩
    clear c0 c1 c2 c3
    obtain ⟨Z7, hZ7⟩ : ∃ Z7, Z7 = w7.setRow w.heap.size (Value.agg #[.slice L ts.length cl, .int .i64 K7, .slice A7 n7.length ca7]).cells := ⟨_, rfl⟩
    have hf7 := HFS6.out.put hb (K' := K7) hn7 ⟨hc1, hc2⟩
    have hk7 := (HFS6.out.next hb).k0
    have hZ7' : Z7 = w7.setRow w.heap.size #[.slice L ts.length cl, .int .i64 K7, .slice A7 n7.length ca7] := hZ7
    rw [← hZ7'] at hf7
    have hn7l : n7.length ≤ 999991 := by rcases hor with ⟨_, _, h⟩ | ⟨q7, _, _, _, h⟩ <;> omega
    have hR := notF_bang (n0 := 0) HB1.out hor
    obtain ⟨Z8, hZ8⟩ : ∃ Z8, Z8 = Z7.alloc (.cells #[.int .i64 ((n7.length : Int) - 1)] 3) := ⟨_, rfl⟩
    obtain ⟨fb8, fk8, fs8⟩ := fresh_facts hZ8
    have hf8 := hf7.next fb8
    have ho8 : IntsP Z8 (fun b => (P b ∨ (w.heap.size + 2 ≤ b ∧ b < Z8.heap.size))) (some ⟨Z7.heap.size, 0, none⟩) [(n7.length : Int) - 1] := by
      have hlt7 := hf7.lt
      refine ints_one fk8 (.inr ⟨by omega, by omega⟩)
    have hcall := rwith_any Z8 L ts.length cl K7 A7 ca7 n7 (mkO 8 [(n7.length : Int) - 1]) (some ⟨Z7.heap.size, 0, none⟩) 1 _ hf8.inn hf8.nod ho8 (by omega)
    have HC8 := hide hcall
    have HFS7 := hide hf7
    have HFS8 := hide hf8
    have HK7 := hide hk7
    have HZ7 := hide hZ7
    have HZ8 := hide hZ8
    have HR := hide hR
    obtain ⟨c0, c1, c2, c3⟩ := hf7.cells
    clear hcall hf7 hf8 hk7 hZ7 hZ7' hZ8 hR fb8 fk8 fs8 ho8 hb hn7 hc1 hc2 hor HC
    go_wp2_with (first
      | (with_reducible refine wpList_store_row rfl 57 (.tmp 1) (.tmp 17) rfl w.heap.size rfl (.agg #[.slice L ts.length cl, .int .i64 K7, .slice A7 n7.length ca7]) rfl _ _ HK7.out rfl (by kernel_rfl) (by simp [Value.cells, Value.oneCell']) ?_; rw [← HZ7.out]))
    rw [← HZ8.out]
    refine Calls.mono HC8.out ?_
    rintro e w9 ⟨hb, A9, ca9, rfl, hn9, hc1, hc2⟩
    clear c0 c1 c2 c3
    have HK := hide (HFS8.out.next hb).k1
    have HZ := hide (HFS8.out.out hb #[.slice L ts.length cl, .int .i64 K7, .slice A9 (n7.length + 1) ca9] hn9)
    clear hb hn9
    go_wp2_with (first
      | (with_reducible refine wpList_store_row rfl 57 (.tmp 2) (.tmp 25) rfl (w.heap.size + 1) rfl _ rfl _ _ HK.out rfl (by kernel_rfl) (by kernel_rfl) ?_))
    refine bodyPost_ret (results_cell_row Tryz.results54 _ _ (w.heap.size + 1) 57 _ (0, 0) _ rfl (setRow_heap _ _ _ _ 57 (0, 0) HK.out) Tryz.underlying57 rfl (by kernel_rfl)) rfl ?_
    exact ⟨HZ.out.1, K7, A9, ca9, n7 ++ [mkO 8 [(n7.length : Int) - 1]], by rw [List.length_append]; rfl, HZ.out.2, by simpa using hc1, hc2, HR.out⟩
  | false =>
    have HB1 := hide hB1
    clear hB1 hbo
    go_wp2_with fail
    refine Calls.mono (ris_r w1 L cl ts K A nds.length ca 3 _ hl hKr ((HT.out.below HFS.out.bel (Nat.le_refl _)).more HFS.out.bel.size)) ?_
    rintro e w2 ⟨rfl, hb⟩
    replace HFS := hide (HFS.out.next hb)
    clear hb c0 c1 c2 c3
    obtain ⟨c0, c1, c2, c3⟩ := HFS.out.cells
    obtain ⟨bo, hbo⟩ : ∃ bo, isR ts K 3 ⟨#[40]⟩ = bo := ⟨_, rfl⟩
    rw [hbo]
    have hB2 : isB l 3 [40] = bo := by rw [← hbo, isR_live HL.out]; simp
    cases bo with
    | true =>
      have hir := isR_range hbo
      obtain ⟨t, q, rfl⟩ := isB_cons hB2
      have hL6 := (HL.out.next).1
      have HB2 := hide hB2
      simp only [List.length_cons] at hn hs
      obtain ⟨Z6, hZ6⟩ : ∃ Z6, Z6 = w2.setCell ⟨w.heap.size, 1, none⟩ (.int .i64 (K + 1)) := ⟨_, rfl⟩
      have hf6 := HFS.out.pos (K + 1)
      rw [← hZ6] at hf6
      have hcall := HCh.out Z6 _ L cl ts (K + 1) A ca nds q hl hL6 (by omega) (by omega) hf6.inn hf6.nod hf6.cap.1 hf6.cap.2 ((HT.out.below hf6.bel (Nat.le_refl _)).more hf6.bel.size)
      have HC := hide hcall
      have HFS6 := hide hf6
      have HZ6 := hide hZ6
      clear hcall hf6 hZ6 hB2 hL6 hbo
      go_wp2_with fail
      rw [← HZ6.out]
      refine Calls.mono HC.out ?_
      rintro e w7 ⟨hb, K7, A7, ca7, n7, rfl, hn7, hc1, hc2, hor⟩
      clear c0 c1 c2 c3
      obtain ⟨Z7, hZ7⟩ : ∃ Z7, Z7 = w7.setRow w.heap.size (Value.agg #[.slice L ts.length cl, .int .i64 K7, .slice A7 n7.length ca7]).cells := ⟨_, rfl⟩
      have hf7 := HFS6.out.put hb (K' := K7) hn7 ⟨hc1, hc2⟩
      have hk7 := (HFS6.out.next hb).k0
      have hZ7' : Z7 = w7.setRow w.heap.size #[.slice L ts.length cl, .int .i64 K7, .slice A7 n7.length ca7] := hZ7
      rw [← hZ7'] at hf7
      have hn7l : n7.length ≤ 999991 := by rcases hor with ⟨_, _, h⟩ | ⟨q7, _, _, _, h⟩ <;> omega
      have hK7 : -1 ≤ K7 ∧ K7 ≤ ts.length := by
        rcases hor with ⟨_, h, _⟩ | ⟨q7, _, h, _⟩
        · omega
        · exact h.range
      have HO := hide hor
      have HFS7 := hide hf7
      have HK7 := hide hk7
      have HZ7 := hide hZ7
      obtain ⟨c0, c1, c2, c3⟩ := hf7.cells
      clear hf7 hk7 hZ7 hZ7' hb hn7 hor HC
      go_wp2_with (first
        | (with_reducible refine wpList_store_row rfl 57 (.tmp 1) (.tmp 34) rfl w.heap.size rfl (.agg #[.slice L ts.length cl, .int .i64 K7, .slice A7 n7.length ca7]) rfl _ _ HK7.out rfl (by kernel_rfl) (by simp [Value.cells, Value.oneCell']) ?_; rw [← HZ7.out]))
      refine Calls.mono (rmust_r Z7 L cl ts K7 A7 n7.length ca7 3 _ hl hK7 ((HT.out.below HFS7.out.bel (Nat.le_refl _)).more HFS7.out.bel.size)) ?_
      rintro e w8 ⟨t8, K8, rfl, hm8, hb⟩
      clear c0 c1 c2 c3
      obtain ⟨Y8, hY8⟩ : ∃ Y8, Y8 = (w8.alloc (.cells #[.int .i64 t8.k, .string t8.s, .int .i64 t8.n, .int .i64 t8.p] 62)).alloc (.cells #[.slice L ts.length cl, .int .i64 K8, .slice A7 n7.length ca7] 57) := ⟨_, rfl⟩
      have hf8 := (HFS7.out.next hb).next (bel_two hY8)
      have hR := notF_paren (by simp) HB2.out HB1.out hm8 HO.out
      have HK := hide hf8.k1
      rw [hY8] at HK
      have HZ := hide (hf8.out (Below.refl _ _) #[.slice L ts.length cl, .int .i64 K8, .slice A7 n7.length ca7] hf8.same)
      have hcap := hf8.cap
      have HR := hide hR
      have HY8 := hide hY8
      rw [hY8] at HZ
      clear hf8 hR hY8 hb hm8
      go_wp2_with (first
        | (with_reducible refine wpList_store_row rfl 57 (.tmp 2) (.tmp 40) rfl (w.heap.size + 1) rfl _ rfl _ _ HK.out rfl (by kernel_rfl) (by kernel_rfl) ?_))
      refine bodyPost_ret (results_cell_row Tryz.results54 _ _ (w.heap.size + 1) 57 _ (0, 0) _ rfl (setRow_heap _ _ _ _ 57 (0, 0) HK.out) Tryz.underlying57 rfl (by kernel_rfl)) rfl ?_
      exact ⟨HZ.out.1, K8, A7, ca7, n7, rfl, HZ.out.2, hcap.1, hcap.2, HR.out⟩
    | false =>
      have HB2 := hide hB2
      clear hB2 hbo
      have hcall := ratom_any w2 L cl ts K A nds.length ca l hl HL.out ((HT.out.below HFS.out.bel (Nat.le_refl _)).more HFS.out.bel.size)
      have HC := hide hcall
      clear hcall
      go_wp2_with fail
      refine Calls.mono HC.out ?_
      rintro e w3 ⟨hb, x, K3, hx, rfl, hp⟩
      clear c0 c1 c2 c3
      obtain ⟨nd, hnd⟩ : ∃ nd, (x.cells (.slice none 0 0)).toArray = nd := ⟨_, rfl⟩
      have hns : nd.size = 21 := by rw [← hnd]; rfl
      have hn1 : (Value.agg nd).cells.all (·.oneCell') = true := by rw [← hnd]; exact nd_one rfl
      obtain ⟨Y4, hY4⟩ : ∃ Y4, Y4 = (w3.alloc (.cells #[.int .i64 0, .int .i64 0, .int .i64 0, .int .i64 0, .int .u8 0, .int .u8 0, .int .u8 0, .int .u8 0, .int .u8 0, .int .u8 0, .int .u8 0, .int .u8 0, .int .u8 0, .int .u8 0, .int .u8 0, .int .u8 0, .int .u8 0, .int .u8 0, .int .u8 0, .int .u8 0, .slice none 0 0] 67)).alloc (.cells #[.slice none 0 0, .int .i64 0, .slice none 0 0] 57) := ⟨_, rfl⟩
      have k7 := blk_two1 hY4
      have k8 := blk_two2 hY4
      obtain ⟨X4, hX4⟩ : ∃ X4, X4 = Y4.setRow w3.heap.size (Value.agg nd).cells := ⟨_, rfl⟩
      have j7 : X4.heap[w3.heap.size]? = some (.cells nd 67 (0, 0)) := row_at hX4 k7
      have j8 := row_other hX4 k8 (show w3.heap.size + 1 ≠ w3.heap.size by omega)
      obtain ⟨Z4, hZ4⟩ : ∃ Z4, Z4 = X4.setRow (w3.heap.size + 1) (Value.agg #[.slice L ts.length cl, .int .i64 K3, .slice A nds.length ca]).cells := ⟨_, rfl⟩
      have i7 : Z4.heap[w3.heap.size]? = some (.cells nd 67 (0, 0)) := row_other hZ4 j7 (by omega)
      have i8 : Z4.heap[w3.heap.size + 1]? = some (.cells #[.slice L ts.length cl, .int .i64 K3, .slice A nds.length ca] 57 (0, 0)) := row_at hZ4 j8
      have hb4 : Below w3.heap.size w3 Z4 := row_bel hZ4 (row_bel hX4 (bel_two hY4) (Nat.le_refl _)) (by omega)
      have hf4 := (HFS.out.next hb).next hb4
      have hR := notF_atom (n := n) (nds := nds) HB2.out HB1.out hp
      have hcall := rwith_any Z4 L ts.length cl K3 A ca nds x none 0 _ hf4.inn hf4.nod (by rw [hx]; exact IntsP.nil_ _ _ _) (by omega)
      rw [show x.of.length = 0 by rw [hx]; rfl, hnd] at hcall
      have HC4 := hide hcall
      have HFS4 := hide hf4
      have HR := hide hR
      have Hn1 := hide hn1
      have Hns := hide hns
      have HSz := hide (show (#[(.int .i64 0 : Value), .int .i64 0, .int .i64 0, .int .i64 0, .int .u8 0, .int .u8 0, .int .u8 0, .int .u8 0, .int .u8 0, .int .u8 0, .int .u8 0, .int .u8 0, .int .u8 0, .int .u8 0, .int .u8 0, .int .u8 0, .int .u8 0, .int .u8 0, .int .u8 0, .int .u8 0, .slice none 0 0] : Array Value).size = (Value.agg nd).cells.size from hns.symm)
      have HIn := hide (show (Tryz.prog.info? 67).map (·.size) = some (Value.agg nd).cells.size by rw [show (Value.agg nd).cells.size = 21 from hns]; kernel_rfl)
      have HK7 := hide k7
      have HK8 := hide j8
      have HY4 := hide hY4
      have HX4 := hide hX4
      have HZ4 := hide hZ4
      have HI7 := hide i7
      rw [hY4] at HK7
      have k0 : Z4.cell? ⟨w3.heap.size + 1, 0, none⟩ = some (.slice L ts.length cl) := blk_cell i8 rfl
      have k1 : Z4.cell? ⟨w3.heap.size + 1, 1, none⟩ = some (.int .i64 K3) := blk_cell i8 rfl
      have k2 : Z4.cell? ⟨w3.heap.size + 1, 2, none⟩ = some (.slice A nds.length ca) := blk_cell i8 rfl
      clear hcall hf4 hR hn1 hns k7 k8 j7 j8 i7 i8 hb4 hY4 hX4 hZ4 hb hp HC
      rw [hnd]
      clear hnd
      go_wp2_with (first
        | (with_reducible refine wpList_store_row rfl 67 (.tmp 7) (.tmp 44) rfl w3.heap.size rfl (.agg nd) rfl _ _ HK7.out HSz.out HIn.out Hn1.out ?_; rw [← HY4.out, ← HX4.out])
        | (with_reducible refine wpList_store_row rfl 57 (.tmp 8) (.tmp 45) rfl (w3.heap.size + 1) rfl (.agg #[.slice L ts.length cl, .int .i64 K3, .slice A nds.length ca]) rfl _ _ HK8.out rfl (by kernel_rfl) (by simp [Value.cells, Value.oneCell']) ?_; rw [← HZ4.out])
        | (with_reducible refine wpList_load_row rfl 67 (.tmp 7) rfl w3.heap.size rfl 67 _ (0, 0) _ HI7.out Tryz.underlying67 rfl (by rw [Hns.out]; kernel_rfl) ?_))
      refine Calls.mono HC4.out ?_
      rintro e w5 ⟨hb, A9, ca9, rfl, hn9, hc1, hc2⟩
      clear k0 k1 k2
      have HK := hide (HFS4.out.next hb).k1
      have HZ := hide (HFS4.out.out hb #[.slice L ts.length cl, .int .i64 K3, .slice A9 (nds.length + 1) ca9] hn9)
      clear hb hn9
      go_wp2_with (first
        | (with_reducible refine wpList_store_row rfl 57 (.tmp 2) (.tmp 48) rfl (w.heap.size + 1) rfl _ rfl _ _ HK.out rfl (by kernel_rfl) (by kernel_rfl) ?_))
      refine bodyPost_ret (results_cell_row Tryz.results54 _ _ (w.heap.size + 1) 57 _ (0, 0) _ rfl (setRow_heap _ _ _ _ 57 (0, 0) HK.out) Tryz.underlying57 rfl (by kernel_rfl)) rfl ?_
      exact ⟨HZ.out.1, K3, A9, ca9, nds ++ [x], by rw [List.length_append]; rfl, HZ.out.2, by simpa using hc1, hc2, HR.out⟩
theorem rnot_all : ∀ n, NotOk n
  | 0 => fun w P L cl ts K A ca nds l _ _ h => by omega
  | n + 1 => rnot_step n (rnot_all n) (rchain0 n _ (rchain1 n _ (rchain2 n (rnot_all n))))
theorem rchain_all (n : Nat) : ChOk 0 n (polF n) := rchain0 n _ (rchain1 n _ (rchain2 n (rnot_all n)))
end Go.Proofs.YtbojlnbdkaanmaaGreatDoor
