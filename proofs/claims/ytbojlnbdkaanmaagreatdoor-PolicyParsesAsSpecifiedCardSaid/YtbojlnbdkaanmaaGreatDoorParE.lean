/-
  The program's parser of policies, part E: add.
-/
import Derived.Test.YtbojlnbdkaanmaaGreatDoorParD
import Derived.Deep.RegionLaw
set_option linter.unusedVariables false
set_option linter.unusedSimpArgs false
namespace Go.Proofs.YtbojlnbdkaanmaaGreatDoor
open Go.RowKit

/-- What a part of the parser that makes nodes leaves of the memory: all below B, and every block that holds neither nodes nor the parser. -/
structure Fr (B : Nat) (w w' : World) : Prop where
  below : Below B w w'
  keep : ∀ (k : Nat) (cs : Array Value) (t : TypeId) (f : Nat × Nat), w.heap[k]? = some (.cells cs t f) → t ≠ 67 → t ≠ 94 → w'.heap[k]? = w.heap[k]?
theorem Fr.refl (B : Nat) (w : World) : Fr B w w := ⟨Below.refl _ _, fun _ _ _ _ _ _ _ => rfl⟩
theorem Fr.trans {B : Nat} {a b c : World} (h : Fr B a b) (k : Fr B b c) : Fr B a c :=
  ⟨h.below.trans k.below, fun i cs t f hi h1 h2 => by
    have e := h.keep i cs t f hi h1 h2
    exact (k.keep i cs t f (e.trans hi) h1 h2).trans e⟩
theorem Fr.of_grown {B pb : Nat} {w w' : World} {cs : Array Value} {f : Nat × Nat} (hp : w.heap[pb]? = some (.cells cs 94 f)) (hB : B ≤ pb) (hg : w.grownBy w' (some pb)) : Fr B w w' :=
  ⟨⟨hg.os, hg.tape, hg.output, hg.size, fun k hk => by
      by_cases hlt : k < w.heap.size
      · exact hg.block k hlt (fun e => by injection e with e; omega)
      · have := (Array.getElem?_eq_some_iff.1 hp).1
        omega⟩,
    fun k c t f' h _ h2 => grown_keep hp hg k c t f' h2 h⟩
theorem PInv.blk {B pb : Nat} {ov : Value} {os : List Value} {w : World} {ts : List Tok} {nds : List Nd} (h : PInv B pb ov os w ts nds) : ∃ cs, w.heap[pb]? = some (.cells cs 94 (0, 0)) := by
  obtain ⟨A, c, _, hp, _⟩ := h
  exact ⟨_, hp⟩
theorem PInv.fr {B pb : Nat} {ov : Value} {os : List Value} {w w' : World} {ts : List Tok} {nds : List Nd} (h : PInv B pb ov os w ts nds) (hg : w.grownBy w' (some pb)) : Fr B w w' := by
  obtain ⟨cs, hp⟩ := h.blk
  exact Fr.of_grown hp h.lt.1 hg
theorem Fr.drew {B : Nat} {a w : World} (h : Fr B a w) : Fr B a w.drew := ⟨h.below.drew, h.keep⟩
theorem Fr.alloc {B : Nat} {a w : World} (h : Fr B a w) (hB : B ≤ w.heap.size) (o : Obj) : Fr B a (w.alloc o) :=
  ⟨h.below.alloc hB o, fun k cs t f hk h1 h2 => by
    have e := h.keep k cs t f hk h1 h2
    exact (Below.heap_alloc w o k ((Array.getElem?_eq_some_iff.1 (e.trans hk)).1)).trans e⟩

theorem zip_snoc {nds : List Nd} {os : List Value} (h : os.length = nds.length) (x : Nd) (o : Value) : (List.zipWith Nd.cells (nds ++ [x]) (os ++ [o])).flatten = (List.zipWith Nd.cells nds os).flatten ++ x.cells o := by
  rw [List.zipWith_append (by omega)]
  simp

/-- What add makes of the parser: from the world behind the append. -/
theorem add_inv {B pb : Nat} {ov : Value} {os : List Value} {w W W1 : World} {ts : List Tok} {nds : List Nd} {x : Nd} {o : Value} {g cap : Nat} (hI : PInv B pb ov os w ts nds) (ho : OfRow w x.of o)
    (hW : Below w.heap.size w W) (hown1 : W1.ownsRow B 67 21 (.slice (some ⟨g, 0, none⟩) (nds.length + 1) cap) (nds.length + 1) ((List.zipWith Nd.cells nds os).flatten ++ x.cells o)) (hg : W.grownBy W1 ov.ownBlock) :
    PInv B pb (.slice (some ⟨g, 0, none⟩) (nds.length + 1) cap) (os ++ [o]) (W1.setCell ⟨pb, 1, none⟩ (.slice (some ⟨g, 0, none⟩) (nds.length + 1) cap)) ts (nds ++ [x]) ∧
    Fr B w (W1.setCell ⟨pb, 1, none⟩ (.slice (some ⟨g, 0, none⟩) (nds.length + 1) cap)) := by
  obtain ⟨A, c, hB, hp, hl, hm, ht, hos, hown, hof⟩ := hI
  have hlt : pb < w.heap.size := (Array.getElem?_eq_some_iff.1 hp).1
  have hpW : W.heap[pb]? = some (.cells #[.slice A ts.length c, ov] 94 (0, 0)) := (hW.block pb hlt).trans hp
  have hov : ∀ k, ov.ownBlock = some k → B ≤ k ∧ ∃ cs, w.heap[k]? = some (.cells cs 67 (0, 0)) := by
    intro k hk
    refine ⟨(hown.lt k hk).1, ?_⟩
    rcases hown.2 with ⟨e, _⟩ | ⟨g', cap', cur, e, _, hh, _⟩
    · rw [e] at hk; cases hk
    · rw [e] at hk
      have : g' = k := by simpa [Value.ownBlock] using hk
      subst this
      exact ⟨_, hh⟩
  have far : ∀ (k : Nat) (cs : Array Value) (t : TypeId) (f : Nat × Nat), w.heap[k]? = some (.cells cs t f) → t ≠ 67 → W1.heap[k]? = w.heap[k]? := by
    intro k cs t f hk hne
    have hk' : k < w.heap.size := (Array.getElem?_eq_some_iff.1 hk).1
    refine (hg.block k (Nat.lt_of_lt_of_le hk' hW.size) (fun e => ?_)).trans (hW.block k hk')
    obtain ⟨_, cs', hc'⟩ := hov k e.symm
    rw [hk] at hc'
    injection hc' with hc'
    injection hc' with _ hc' _
    exact hne hc'
  have hp1 : W1.heap[pb]? = some (.cells #[.slice A ts.length c, ov] 94 (0, 0)) := (far pb _ 94 _ hp (by decide)).trans hp
  have hp2 : (W1.setCell ⟨pb, 1, none⟩ (.slice (some ⟨g, 0, none⟩) (nds.length + 1) cap)).heap[pb]? = some (.cells #[.slice A ts.length c, .slice (some ⟨g, 0, none⟩) (nds.length + 1) cap] 94 (0, 0)) := by
    simp [World.setCell, Array.getElem?_modify, hp1]
  have hbel : Below B w (W1.setCell ⟨pb, 1, none⟩ (.slice (some ⟨g, 0, none⟩) (nds.length + 1) cap)) :=
    (((Below.refl B w).trans (hW.mono (by omega))).grown hg (by have := hW.size; omega) (fun k hk => (hov k hk).1)).setCell hB _
  have fr : Fr B w (W1.setCell ⟨pb, 1, none⟩ (.slice (some ⟨g, 0, none⟩) (nds.length + 1) cap)) :=
    ⟨hbel, fun k cs t f hk h1 h2 => (Below.heap_setCell W1 _ _ k (fun e => by
        have e : k = pb := e
        rw [e, hp] at hk
        injection hk with hk
        injection hk with _ hk _
        exact h2 hk.symm)).trans (far k cs t f hk h1)⟩
  refine ⟨⟨A, c, hB, hp2, hl, hm, ?_, by simp [hos], ?_, ?_⟩, fr⟩
  · exact ht.below hbel (Nat.le_refl _)
  · rw [zip_snoc hos, List.length_append, List.length_singleton]
    refine ownsRow_setCell_other hown1 ?_ _
    intro e
    have e : g = pb := by simpa [Value.ownBlock] using e
    subst e
    rcases hown1.2 with ⟨e, _⟩ | ⟨g', cap', cur, e, _, hh, _⟩
    · cases e
    · have : g' = g := by injection e with e; injection e with e; injection e with e; exact e.symm
      subst this
      rw [hp1] at hh
      injection hh with hh
      injection hh with _ hh _
      exact absurd hh (by decide)
  · intro i nd o' hi ho'
    have keep3 : ∀ {of : List Int} {q : Value}, OfRow w of q → OfRow (W1.setCell ⟨pb, 1, none⟩ (.slice (some ⟨g, 0, none⟩) (nds.length + 1) cap)) of q := fun hq =>
      OfRow.keep hq fun k c f hk => fr.keep k c 3 f hk (by decide) (by decide)
    rcases Nat.lt_or_ge i nds.length with hlt' | hge
    · rw [List.getElem?_append_left hlt'] at hi
      rw [List.getElem?_append_left (by omega)] at ho'
      exact keep3 (hof i nd o' hi ho')
    · rw [List.getElem?_append_right hge] at hi
      rw [List.getElem?_append_right (by omega)] at ho'
      have hi0 : i - nds.length = 0 := by
        rcases Nat.eq_zero_or_pos (i - nds.length) with h | h
        · exact h
        · rw [List.getElem?_eq_none (by simp; omega)] at hi; cases hi
      rw [hos, hi0] at ho'
      rw [hi0] at hi
      simp at hi ho'
      subst hi
      subst ho'
      exact keep3 ho

/-- At a step of a region that draws: a whole struct loaded out of a block that is known. -/
theorem step_load_row {P : Program} {ops : Array Oper} {o : Oper} {a : Act} {w : World} {K : Act → World → Prop} {Q : Exit → Act → World → Prop} {E : Prop} (hgd : o.guard = none) (ty : TypeId) (x : Operand) (ho : o.op = .load ty x)
    (g : Nat) (hx : a.eval x = .pointer (some ⟨g, 0, none⟩)) (t : TypeId) (cs : Array Value) (fr : Nat × Nat) (d : TypeDesc) (hg : w.heap[g]? = some (.cells cs t fr))
    (hu : P.underlying ty = some d) (hd : (match d with | .struct _ | .array _ _ => true | _ => false) = true) (hi : (P.info? ty).map (·.size) = some cs.size) (h : K (a.put o.dst (.agg cs)) w) :
    if Region.wanted o (yielded ops a.tmps) = true then Oper.wp P o a w K Q else E := by
  have hw : Region.wanted o (yielded ops a.tmps) = true := by simp [Region.wanted, hgd]
  rw [if_pos hw]
  exact wp_load_row ty x ho g hx t cs fr d hg hu hd hi h
theorem add_cells {B pb : Nat} {ov : Value} {os : List Value} {w W W1 : World} {ts : List Tok} {nds : List Nd} (hI : PInv B pb ov os w ts nds) (hW : Below w.heap.size w W) (hg : W.grownBy W1 ov.ownBlock) :
    W1.cell? ⟨pb, 1, none⟩ = some ov ∧ W1.frozen? ⟨pb, 1, none⟩ = false := by
  obtain ⟨A, c, hB, hp, hl, hm, ht, hos, hown, hof⟩ := hI
  have hlt : pb < w.heap.size := (Array.getElem?_eq_some_iff.1 hp).1
  have hp1 : W1.heap[pb]? = some (.cells #[.slice A ts.length c, ov] 94 (0, 0)) := by
    refine (hg.block pb (Nat.lt_of_lt_of_le hlt hW.size) (fun e => ?_)).trans ((hW.block pb hlt).trans hp)
    rcases hown.2 with ⟨e', _⟩ | ⟨g', cap', cur, e', _, hh, _⟩
    · rw [e'] at e; cases e
    · rw [e'] at e
      have : pb = g' := by simpa [Value.ownBlock] using e
      subst this
      rw [hp] at hh
      injection hh with hh
      injection hh with _ hh _
      exact absurd hh (by decide)
  exact ⟨by rw [cell_of_row _ _ _ _ _ _ hp1]; rfl, frozen_of_row _ _ _ _ _ hp1⟩
theorem Nd.cells_one {x : Nd} {o : Value} (h : o.oneCell' = true) : ∀ u ∈ x.cells o, u.oneCell' = true := by
  intro u hu
  simp only [Nd.cells, List.mem_cons, List.not_mem_nil, or_false] at hu
  rcases hu with rfl | rfl | rfl | rfl | rfl | rfl | rfl | rfl | rfl | rfl | rfl | rfl | rfl | rfl | rfl | rfl | rfl | rfl | rfl | rfl | rfl
  all_goals first | rfl | exact h

set_option maxRecDepth 100000 in
set_option maxHeartbeats 2000000 in
theorem add_any (B pb : Nat) (ov : Value) (os : List Value) (w : World) (ts : List Tok) (nds : List Nd) (x : Nd) (o : Value) (hI : PInv B pb ov os w ts nds) (ho : OfRow w x.of o) (h1c : o.oneCell' = true) (hN : nds.length ≤ 1000000) :
    Calls Tryz.prog 93 #[.pointer (some ⟨pb, 0, none⟩), .agg #[.int .i64 x.k, .int .i64 x.n, .int .i64 x.m, .int .i64 x.sd, .int .u8 (x.d 0), .int .u8 (x.d 1), .int .u8 (x.d 2), .int .u8 (x.d 3), .int .u8 (x.d 4), .int .u8 (x.d 5), .int .u8 (x.d 6), .int .u8 (x.d 7),
      .int .u8 (x.d 8), .int .u8 (x.d 9), .int .u8 (x.d 10), .int .u8 (x.d 11), .int .u8 (x.d 12), .int .u8 (x.d 13), .int .u8 (x.d 14), .int .u8 (x.d 15), o]] w fun e w' =>
        e = .returned (.int .i64 nds.length) ∧ ∃ ov' os', PInv B pb ov' os' w' ts (nds ++ [x]) ∧ Fr B w w' := by
  obtain ⟨i0, hi0, hz0, hz1, hz2⟩ := info_parts info67
  have hlt := hI.lt.2
  have hBp := hI.lt.1
  obtain ⟨A, c, _, hp, _, _, _, hos, hown, _⟩ := id hI
  have p1 : w.cell? ⟨pb, 1, none⟩ = some ov := by simp [World.cell?, hp]
  have hI' := hide hI
  have ho' := hide ho
  have hown' := hide hown
  have hp' := hide hp
  have hos' := hide hos
  clear hI ho hown hp hos
  go_enter Tryz.func93, Tryz.ntmps93
  go_wp2_with fail
  obtain ⟨N, hN1⟩ : ∃ N : List Value, N = x.cells o := ⟨_, rfl⟩
  have hNl : N.length = 21 := by rw [hN1]; rfl
  have hN2 : [.int .i64 x.k, .int .i64 x.n, .int .i64 x.m, .int .i64 x.sd, .int .u8 (x.d 0), .int .u8 (x.d 1), .int .u8 (x.d 2), .int .u8 (x.d 3), .int .u8 (x.d 4), .int .u8 (x.d 5), .int .u8 (x.d 6), .int .u8 (x.d 7), .int .u8 (x.d 8), .int .u8 (x.d 9), .int .u8 (x.d 10), .int .u8 (x.d 11), .int .u8 (x.d 12), .int .u8 (x.d 13), .int .u8 (x.d 14), .int .u8 (x.d 15), o] = N := by rw [hN1]; rfl
  have hone : ∀ u ∈ N, u.oneCell' = true := by rw [hN1]; exact Nd.cells_one h1c
  obtain ⟨W, hW⟩ : ∃ W, W = ((w.alloc (.cells #[.int .i64 x.k, .int .i64 x.n, .int .i64 x.m, .int .i64 x.sd, .int .u8 (x.d 0), .int .u8 (x.d 1), .int .u8 (x.d 2), .int .u8 (x.d 3), .int .u8 (x.d 4), .int .u8 (x.d 5), .int .u8 (x.d 6), .int .u8 (x.d 7), .int .u8 (x.d 8), .int .u8 (x.d 9), .int .u8 (x.d 10), .int .u8 (x.d 11), .int .u8 (x.d 12), .int .u8 (x.d 13), .int .u8 (x.d 14), .int .u8 (x.d 15), o] 67)).alloc (.cells #[.int .i64 x.k, .int .i64 x.n, .int .i64 x.m, .int .i64 x.sd, .int .u8 (x.d 0), .int .u8 (x.d 1), .int .u8 (x.d 2), .int .u8 (x.d 3), .int .u8 (x.d 4), .int .u8 (x.d 5), .int .u8 (x.d 6), .int .u8 (x.d 7), .int .u8 (x.d 8), .int .u8 (x.d 9), .int .u8 (x.d 10), .int .u8 (x.d 11), .int .u8 (x.d 12), .int .u8 (x.d 13), .int .u8 (x.d 14), .int .u8 (x.d 15), o] 67)).drew := ⟨_, rfl⟩
  have hownW : W.ownsRow B 67 21 ov nds.length (List.zipWith Nd.cells nds os).flatten := by rw [hW]; exact (hown'.out.alloc _).alloc _
  have hblk : W.heap[w.heap.size + 1]? = some (.cells #[.int .i64 x.k, .int .i64 x.n, .int .i64 x.m, .int .i64 x.sd, .int .u8 (x.d 0), .int .u8 (x.d 1), .int .u8 (x.d 2), .int .u8 (x.d 3), .int .u8 (x.d 4), .int .u8 (x.d 5), .int .u8 (x.d 6), .int .u8 (x.d 7), .int .u8 (x.d 8), .int .u8 (x.d 9), .int .u8 (x.d 10), .int .u8 (x.d 11), .int .u8 (x.d 12), .int .u8 (x.d 13), .int .u8 (x.d 14), .int .u8 (x.d 15), o] 67 (0, 0)) := by
    rw [hW]
    exact heap_alloc2_new w _ _
  have hnews : ∀ j u, N[j]? = some u → W.cell? ((⟨w.heap.size + 1, 0, none⟩ : Addr).add j) = some u := by
    intro j u hu
    rw [← hN2] at hu
    exact World.news_of_block hblk j u hu
  have hbel : Below w.heap.size w W := by
    rw [hW]
    exact (((Below.refl _ _).alloc (Nat.le_refl _) _).alloc (by simp) _).drew
  have hsz : W.heap.size = w.heap.size + 2 := by rw [hW]; simp
  have HbW := hide (show ((w.alloc (.cells #[.int .i64 x.k, .int .i64 x.n, .int .i64 x.m, .int .i64 x.sd, .int .u8 (x.d 0), .int .u8 (x.d 1), .int .u8 (x.d 2), .int .u8 (x.d 3), .int .u8 (x.d 4), .int .u8 (x.d 5), .int .u8 (x.d 6), .int .u8 (x.d 7), .int .u8 (x.d 8), .int .u8 (x.d 9), .int .u8 (x.d 10), .int .u8 (x.d 11), .int .u8 (x.d 12), .int .u8 (x.d 13), .int .u8 (x.d 14), .int .u8 (x.d 15), o] 67)).drew).heap[w.heap.size]? = some (.cells #[.int .i64 x.k, .int .i64 x.n, .int .i64 x.m, .int .i64 x.sd, .int .u8 (x.d 0), .int .u8 (x.d 1), .int .u8 (x.d 2), .int .u8 (x.d 3), .int .u8 (x.d 4), .int .u8 (x.d 5), .int .u8 (x.d 6), .int .u8 (x.d 7), .int .u8 (x.d 8), .int .u8 (x.d 9), .int .u8 (x.d 10), .int .u8 (x.d 11), .int .u8 (x.d 12), .int .u8 (x.d 13), .int .u8 (x.d 14), .int .u8 (x.d 15), o] 67 (0, 0)) from heap_alloc_new w _)
  have HN1 := hide hN1
  have HNl := hide hNl
  have Hown := hide hownW
  have Hnews := hide hnews
  have Hbel := hide hbel
  have Hsz := hide hsz
  have Hone := hide hone
  clear hownW hblk hbel hsz hnews hone hN1 hN2 hNl
  rw [hW] at Hown Hnews Hbel Hsz
  clear hW W
  refine wp_region_any (by kernel_rfl) ?_
  change wpAny _ _ _ _ _ _ _ (World.drew _)
  refine wpAny_take (i := 0) (v := ?_) rfl (by kernel_rfl) (by kernel_rfl) (by kernel_rfl) (fun _ _ _ h => h) (Or.inl ⟨by rfl, ?_⟩) ?_
  rotate_left
  · intro W
    go_simp
    try (with_reducible rfl)
  refine wpAny_take (i := 1) (v := ?_) rfl (by kernel_rfl) (by kernel_rfl) (by kernel_rfl) (fun _ _ _ h => h) (Or.inl ⟨by rfl, ?_⟩) ?_
  rotate_left
  · intro W
    go_simp
    try (with_reducible rfl)
  refine wpAny_take (i := 2) (v := ?_) rfl (by kernel_rfl) (by kernel_rfl) (by kernel_rfl) (fun _ _ _ h => h) (Or.inl ⟨by rfl, ?_⟩) ?_
  rotate_left
  · intro W
    go_simp
    try (with_reducible rfl)
  refine wpAny_take (i := 3) (v := ?_) rfl (by kernel_rfl) (by kernel_rfl) (by kernel_rfl) (fun _ _ _ h => h) (Or.inl ⟨by rfl, ?_⟩) ?_
  rotate_left
  · intro W
    go_simp
    try (with_reducible rfl)
  refine wpAny_ready (rs := [4, 5]) (by kernel_rfl) (by simp) ?_
  refine AllReady.cons rfl (fun K hK => ?_) (AllReady.cons rfl (fun K hK => ?_) AllReady.nil)
  · go_simp
    refine hK _ _ ?_
    clear hK K
    refine wpAny_ready (rs := [5]) (by kernel_rfl) (by simp) ?_
    refine AllReady.cons rfl (fun K hK => ?_) AllReady.nil
    refine step_load_row rfl 67 (.tmp 3) rfl w.heap.size (by simp [Act.eval, Act.put]) 67 _ (0, 0) _ HbW.out Tryz.underlying67 rfl (by kernel_rfl) ?_
    refine hK _ _ ?_
    clear hK K
    refine wpAny_ready (rs := [6]) (by kernel_rfl) (by simp) ?_
    refine AllReady.cons rfl (fun K hK => ?_) AllReady.nil
    go_simp
    refine hK _ _ ?_
    clear hK K
    refine wpAny_ready (rs := [7]) (by kernel_rfl) (by simp) ?_
    refine AllReady.cons rfl (fun K hK => ?_) AllReady.nil
    refine step_append_lies _ rfl (.tmp 9) (.tmp 11) 23 rfl B 67 i0 _ 21 72 Tryz.underlying23 hi0 hz0 hz1 hz2 rfl (by decide) ov nds.length _ (by simp [Act.eval, Act.put]) Hown.out ⟨w.heap.size + 1, 0, none⟩ 1 1 N (by simp [Act.eval, Act.put]) (by rw [HNl.out]) Hnews.out Hone.out (by decide) (by simp only [maxLen]; omega) (by omega) (by rw [Hsz.out]; omega) (w.heap.size + 2) Hsz.out ?_
    intro g cap W1 hown1 hgr hat hlt1
    have hq := add_cells hI'.out Hbel.out hgr
    obtain ⟨q0, q1⟩ := hq
    rw [HN1.out] at hown1
    have HP := hide (add_inv hI'.out ho'.out Hbel.out hown1 hgr)
    clear hown1 hgr hat
    refine hK _ _ ?_
    clear hK K
    refine wpAny_take (i := 8) (v := ?_) rfl (by kernel_rfl) (by kernel_rfl) (by kernel_rfl) (fun _ _ _ h => h) (Or.inl ⟨by rfl, ?_⟩) ?_
    rotate_left
    · intro W
      go_simp
      try (with_reducible rfl)
    refine wpAny_take (i := 9) (v := ?_) rfl (by kernel_rfl) (by kernel_rfl) (by kernel_rfl) (fun _ _ _ h => h) (Or.inl ⟨by rfl, ?_⟩) ?_
    rotate_left
    · intro W
      go_simp
      try (with_reducible rfl)
    refine wpAny_ready (rs := [10]) (by kernel_rfl) (by simp) ?_
    refine AllReady.cons rfl (fun K hK => ?_) AllReady.nil
    go_simp
    refine hK _ _ ?_
    clear hK K
    refine wpAny_done (by kernel_rfl) ?_ _
    go_wp2
    go_ret
    exact ⟨rfl, _, _, HP.out.1, HP.out.2⟩
  · refine step_load_row rfl 67 (.tmp 3) rfl w.heap.size (by simp [Act.eval, Act.put]) 67 _ (0, 0) _ HbW.out Tryz.underlying67 rfl (by kernel_rfl) ?_
    refine hK _ _ ?_
    clear hK K
    refine wpAny_ready (rs := [4, 6]) (by kernel_rfl) (by simp) ?_
    refine AllReady.cons rfl (fun K hK => ?_) (AllReady.cons rfl (fun K hK => ?_) AllReady.nil)
    · go_simp
      refine hK _ _ ?_
      clear hK K
      refine wpAny_ready (rs := [6]) (by kernel_rfl) (by simp) ?_
      refine AllReady.cons rfl (fun K hK => ?_) AllReady.nil
      go_simp
      refine hK _ _ ?_
      clear hK K
      refine wpAny_ready (rs := [7]) (by kernel_rfl) (by simp) ?_
      refine AllReady.cons rfl (fun K hK => ?_) AllReady.nil
      refine step_append_lies _ rfl (.tmp 9) (.tmp 11) 23 rfl B 67 i0 _ 21 72 Tryz.underlying23 hi0 hz0 hz1 hz2 rfl (by decide) ov nds.length _ (by simp [Act.eval, Act.put]) Hown.out ⟨w.heap.size + 1, 0, none⟩ 1 1 N (by simp [Act.eval, Act.put]) (by rw [HNl.out]) Hnews.out Hone.out (by decide) (by simp only [maxLen]; omega) (by omega) (by rw [Hsz.out]; omega) (w.heap.size + 2) Hsz.out ?_
      intro g cap W1 hown1 hgr hat hlt1
      have hq := add_cells hI'.out Hbel.out hgr
      obtain ⟨q0, q1⟩ := hq
      rw [HN1.out] at hown1
      have HP := hide (add_inv hI'.out ho'.out Hbel.out hown1 hgr)
      clear hown1 hgr hat
      refine hK _ _ ?_
      clear hK K
      refine wpAny_take (i := 8) (v := ?_) rfl (by kernel_rfl) (by kernel_rfl) (by kernel_rfl) (fun _ _ _ h => h) (Or.inl ⟨by rfl, ?_⟩) ?_
      rotate_left
      · intro W
        go_simp
        try (with_reducible rfl)
      refine wpAny_take (i := 9) (v := ?_) rfl (by kernel_rfl) (by kernel_rfl) (by kernel_rfl) (fun _ _ _ h => h) (Or.inl ⟨by rfl, ?_⟩) ?_
      rotate_left
      · intro W
        go_simp
        try (with_reducible rfl)
      refine wpAny_ready (rs := [10]) (by kernel_rfl) (by simp) ?_
      refine AllReady.cons rfl (fun K hK => ?_) AllReady.nil
      go_simp
      refine hK _ _ ?_
      clear hK K
      refine wpAny_done (by kernel_rfl) ?_ _
      go_wp2
      go_ret
      exact ⟨rfl, _, _, HP.out.1, HP.out.2⟩
    · go_simp
      refine hK _ _ ?_
      clear hK K
      refine wpAny_ready (rs := [4]) (by kernel_rfl) (by simp) ?_
      refine AllReady.cons rfl (fun K hK => ?_) AllReady.nil
      go_simp
      refine hK _ _ ?_
      clear hK K
      refine wpAny_ready (rs := [7]) (by kernel_rfl) (by simp) ?_
      refine AllReady.cons rfl (fun K hK => ?_) AllReady.nil
      refine step_append_lies _ rfl (.tmp 9) (.tmp 11) 23 rfl B 67 i0 _ 21 72 Tryz.underlying23 hi0 hz0 hz1 hz2 rfl (by decide) ov nds.length _ (by simp [Act.eval, Act.put]) Hown.out ⟨w.heap.size + 1, 0, none⟩ 1 1 N (by simp [Act.eval, Act.put]) (by rw [HNl.out]) Hnews.out Hone.out (by decide) (by simp only [maxLen]; omega) (by omega) (by rw [Hsz.out]; omega) (w.heap.size + 2) Hsz.out ?_
      intro g cap W1 hown1 hgr hat hlt1
      have hq := add_cells hI'.out Hbel.out hgr
      obtain ⟨q0, q1⟩ := hq
      rw [HN1.out] at hown1
      have HP := hide (add_inv hI'.out ho'.out Hbel.out hown1 hgr)
      clear hown1 hgr hat
      refine hK _ _ ?_
      clear hK K
      refine wpAny_take (i := 8) (v := ?_) rfl (by kernel_rfl) (by kernel_rfl) (by kernel_rfl) (fun _ _ _ h => h) (Or.inl ⟨by rfl, ?_⟩) ?_
      rotate_left
      · intro W
        go_simp
        try (with_reducible rfl)
      refine wpAny_take (i := 9) (v := ?_) rfl (by kernel_rfl) (by kernel_rfl) (by kernel_rfl) (fun _ _ _ h => h) (Or.inl ⟨by rfl, ?_⟩) ?_
      rotate_left
      · intro W
        go_simp
        try (with_reducible rfl)
      refine wpAny_ready (rs := [10]) (by kernel_rfl) (by simp) ?_
      refine AllReady.cons rfl (fun K hK => ?_) AllReady.nil
      go_simp
      refine hK _ _ ?_
      clear hK K
      refine wpAny_done (by kernel_rfl) ?_ _
      go_wp2
      go_ret
      exact ⟨rfl, _, _, HP.out.1, HP.out.2⟩
end Go.Proofs.YtbojlnbdkaanmaaGreatDoor
