/-
  The program's Parse.
-/
import Derived.Test.YtbojlnbdkaanmaaGreatDoorLexD
import Derived.Test.YtbojlnbdkaanmaaGreatDoorParH
set_option linter.unusedVariables false
set_option linter.unusedSimpArgs false
namespace Go.Proofs.YtbojlnbdkaanmaaGreatDoor
open Go.RowKit

/-- The error and the nodes of the tokens of a text. -/
def parseT (ts : List Tok) : Int × List Nd := if 30 < depthF ts then (2, []) else match treeF ts with | none => (3, []) | some nds => if 400 < nds.length then (2, []) else (0, nds)
/-- The error and the nodes of a text. -/
def parseR (s : ByteArray) : Int × List Nd := if (lexR s).1 = 0 then parseT (lexR s).2 else ((lexR s).1, [])
/-- What Parse leaves. -/
def PostR (w : World) (r : Int × List Nd) (e : Ending) (w' : World) : Prop :=
  Below w.heap.size w w' ∧ ∃ A c, e = .returned (.tuple #[.agg #[.slice A r.2.length c], .int .i64 r.1]) ∧ Nodes w' w'.heap.size A r.2 ∧ r.2.length ≤ c ∧ c ≤ 9223372036854775807
theorem load25 (w : World) (g : Nat) (v : Value) (t : TypeId) (hg : w.heap[g]? = some (.cells #[v] t (0, 0))) : (loadVar 25 ⟨g, 0, none⟩).run Tryz.prog w = .ok (.agg #[v]) w :=
  run_loadVar_row w g t 25 #[v] (0, 0) _ hg Tryz.underlying25 rfl (by kernel_rfl)
theorem PostR.none_ {w w' : World} {e : Int} (hb : Below w.heap.size w w') : PostR w (e, []) (.returned (.tuple #[.agg #[.slice none 0 0], .int .i64 e])) w' :=
  ⟨hb, none, 0, rfl, Nodes.nil_ _ _ _, by simp, by omega⟩

theorem one_cell_val {w : World} {g off : Nat} {x v : Value} {t : TypeId} {f : Nat × Nat} (hg : w.heap[g]? = some (.cells #[x] t f)) (h : w.cell? ⟨g, off, none⟩ = some v) : v = x := by
  simp [World.cell?, hg] at h
  cases off with
  | zero => simpa using h.symm
  | succ n => simp at h
/-- A row none of whose elements could lie in a block of one cell stands where that block is written. -/
theorem Row.setOther {w : World} {B sz g : Nat} {A : Option Addr} {css : List (List Value)} {x : Value} {t : TypeId} {f : Nat × Nat} (h : Row w B sz A css) (hg : w.heap[g]? = some (.cells #[x] t f))
    (hx : ∀ (i : Nat) (cs : List Value), css[i]? = some cs → ∃ (j : Nat) (v : Value), cs[j]? = some v ∧ v ≠ x) (new : Array Value) : Row (w.setRow g new) B sz A css := by
  intro i cs hi
  obtain ⟨b, off, rfl, hb, hc⟩ := h i cs hi
  have hne : b ≠ g := by
    rintro rfl
    obtain ⟨j, v, hj, hv⟩ := hx i cs hi
    exact hv (one_cell_val hg (hc j v hj))
  exact ⟨b, off, rfl, hb, fun j v hj => (World.cell?_of_block (setRow_other w g b new hne)).trans (hc j v hj)⟩
theorem Nodes.setOther {w : World} {B g : Nat} {A : Option Addr} {nds : List Nd} {x : Value} {t : TypeId} {f : Nat × Nat} (h : Nodes w B A nds) (hg : w.heap[g]? = some (.cells #[x] t f)) (hx : ∀ k n, x ≠ .int k n) (new : Array Value) :
    Nodes (w.setRow g new) B A nds := by
  obtain ⟨os, h1, h2, h3⟩ := h
  refine ⟨os, h1, Row.setOther h2 hg (fun i cs hi => ?_) new, fun i nd o hi ho => ?_⟩
  · rw [List.getElem?_zipWith] at hi
    cases hn : nds[i]? with
    | none => rw [hn] at hi; simp at hi
    | some nd =>
      cases ho : os[i]? with
      | none => rw [hn, ho] at hi; simp at hi
      | some o =>
        rw [hn, ho] at hi
        simp at hi
        subst hi
        exact ⟨0, _, rfl, fun e => hx _ _ e.symm⟩
  · obtain ⟨Ao, co, e, hi3⟩ := h3 i nd o hi ho
    refine ⟨Ao, co, e, Row.setOther hi3 hg (fun q cs hq => ?_) new⟩
    rw [List.getElem?_map] at hq
    cases hz : nd.of[q]? with
    | none => rw [hz] at hq; simp at hq
    | some z =>
      rw [hz] at hq
      simp at hq
      subst hq
      exact ⟨0, _, rfl, fun e => hx _ _ e.symm⟩

set_option maxRecDepth 100000 in
set_option maxHeartbeats 4000000 in
theorem parse_any (w : World) (s : ByteArray) (hE : Env w) (hs : s.size ≤ 1000000) : Calls Tryz.prog 10 #[.string s] w (PostR w (parseR s)) := by
  obtain ⟨er, hel⟩ : ∃ er, (lexR s).1 = er := ⟨_, rfl⟩
  obtain ⟨ts, hts⟩ : ∃ ts, (lexR s).2 = ts := ⟨_, rfl⟩
  have htok := fun W (hW : Env W) => tokens_any W s hW hs
  have hE0 : Env (w.alloc (.cells #[.slice none 0 0] 25)) := hE.below ((Below.refl _ w).alloc (Nat.le_refl _) _)
  have HT := hide (htok _ hE0)
  clear htok
  have Hel := hide hel
  have Hts := hide hts
  clear hel hts
  go_enter Tryz.func10, Tryz.ntmps10
  go_wp2_with (first
    | (go_at_call 25; (with_reducible refine Calls.mono HT.out ?_); rintro e w1 ⟨hb1, A, c, rfl, ht1, hl1, hc1, hn1⟩; rw [Hts.out] at ht1 hl1 hn1; rw [Hel.out, Hts.out]; have HB := hide hb1; have Ht := hide ht1; clear hb1 ht1)
    | (go_at_call 14; (with_reducible refine Calls.mono (depth_any _ _ _ _ (by omega) Ht.out) ?_); rintro e w2 ⟨rfl, hb2⟩; have HC := hide (HB.out.trans (hb2.mono HB.out.size)); have Ht2 := hide ((Ht.out.below hb2 (Nat.le_refl _)).more hb2.size); clear hb2)
    | (go_at_call 26; (with_reducible refine Calls.mono (tree_any _ _ _ _ Ht2.out hl1 hc1 (by omega)) ?_); rintro e w3 ⟨hb3, ⟨hx, v, rfl⟩ | ⟨nds, A', c', hx, rfl, hN, hl3, hc3⟩⟩ <;> (have HD := hide (HC.out.trans (hb3.mono HC.out.size)); have Hx := hide hx; clear hb3 hx))
    | (with_reducible refine wpList_store_row rfl 25 (.tmp 2) (.tmp 15) rfl w.heap.size rfl _ rfl _ _ (blk_keep HB.out) rfl (by kernel_rfl) (by kernel_rfl) ?_)
    | (with_reducible refine wpList_store_row rfl 25 (.tmp 2) (.tmp 20) rfl w.heap.size rfl _ rfl _ _ (blk_keep HC.out) rfl (by kernel_rfl) (by kernel_rfl) ?_)
    | (with_reducible refine wpList_store_row rfl 25 (.tmp 2) (.tmp 29) rfl w.heap.size rfl _ rfl _ _ (blk_keep HD.out) rfl (by kernel_rfl) (by kernel_rfl) ?_)
    | (with_reducible refine wpList_store_row rfl 25 (.tmp 2) (.tmp 34) rfl w.heap.size rfl _ rfl _ _ (blk_keep HD.out) rfl (by kernel_rfl) (by kernel_rfl) ?_)
    | (with_reducible refine wpList_store_row rfl 25 (.tmp 2) (.tmp 36) rfl w.heap.size rfl _ rfl _ _ (blk_keep HD.out) rfl (by kernel_rfl) (by kernel_rfl) ?_))
  all_goals (refine bodyPost_ret (results_row_tmp Tryz.results10 _ _ w.heap.size _ rfl (load25 _ _ _ 25 (by first | exact setRow_heap _ _ _ _ 25 (0, 0) (blk_keep HD.out) | exact setRow_heap _ _ _ _ 25 (0, 0) (blk_keep HC.out) | exact setRow_heap _ _ _ _ 25 (0, 0) (blk_keep HB.out)))) rfl ?_)
  · have hq : (er != 0) = true := by assumption
    have hp : parseR s = (er, []) := by rw [parseR, Hel.out, if_neg (by simpa using hq)]
    rw [hp]
    exact PostR.none_ (below_setRow' (((Below.refl _ w).alloc (Nat.le_refl _) _).trans (HB.out.mono (by simp))) (Nat.le_refl _) _)
  · have hq : (er != 0) = false := by assumption
    have hd : 30 < depthF ts := by assumption
    have hp : parseR s = (2, []) := by rw [parseR, Hel.out, if_pos (by simpa using hq), Hts.out, parseT, if_pos hd]
    rw [hp]
    exact PostR.none_ (below_setRow' (((Below.refl _ w).alloc (Nat.le_refl _) _).trans (HC.out.mono (by simp))) (Nat.le_refl _) _)
  · have hq : (er != 0) = false := by assumption
    have hd : depthF ts ≤ 30 := by assumption
    have hp : parseR s = (3, []) := by rw [parseR, Hel.out, if_pos (by simpa using hq), Hts.out, parseT, if_neg (by omega), Hx.out]
    rw [hp]
    exact PostR.none_ (below_setRow' (((Below.refl _ w).alloc (Nat.le_refl _) _).trans (HD.out.mono (by simp))) (Nat.le_refl _) _)
  · have hq : (er != 0) = false := by assumption
    have hd : depthF ts ≤ 30 := by assumption
    have hn : (400 : Int) < nds.length := by assumption
    have hp : parseR s = (2, []) := by rw [parseR, Hel.out, if_pos (by simpa using hq), Hts.out, parseT, if_neg (by omega), Hx.out]; simp; omega
    rw [hp]
    exact PostR.none_ (below_setRow' (((Below.refl _ w).alloc (Nat.le_refl _) _).trans (HD.out.mono (by simp))) (Nat.le_refl _) _)
  · have hq : (er != 0) = false := by assumption
    have hd : depthF ts ≤ 30 := by assumption
    have hn : (nds.length : Int) ≤ 400 := by assumption
    have hp : parseR s = (0, nds) := by rw [parseR, Hel.out, if_pos (by simpa using hq), Hts.out, parseT, if_neg (by omega), Hx.out]; simp; omega
    rw [hp]
    refine ⟨below_setRow' (((Below.refl _ w).alloc (Nat.le_refl _) _).trans (HD.out.mono (by simp))) (Nat.le_refl _) _, A', c', rfl, ?_, hl3, hc3⟩
    have := hN.setOther (blk_keep HD.out) (fun k n => by simp) #[.slice A' nds.length c']
    simpa using this
end Go.Proofs.YtbojlnbdkaanmaaGreatDoor
