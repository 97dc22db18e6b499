/-
  The program's parser of policies, part D: atom.
-/
import Derived.Test.YtbojlnbdkaanmaaGreatDoorParC
set_option linter.unusedVariables false
set_option linter.unusedSimpArgs false
namespace Go.Proofs.YtbojlnbdkaanmaaGreatDoor
open Go.RowKit

theorem compare_any' (B pb : Nat) (ov : Value) (os : List Value) (w : World) (ts : List Tok) (nds : List Nd) (eq al : Int) (hI : PInv B pb ov os w ts nds) :
    Calls Tryz.prog 114 #[.pointer (some ⟨pb, 0, none⟩), .int .i64 eq, .int .i64 al] w fun e w' =>
      (compareF eq al ts = none ∧ e = PanF ∧ w.grownBy w' (some pb)) ∨ (∃ x r, compareF eq al ts = some (x, r) ∧ e = .returned (x.val (.slice none 0 0)) ∧ PInv B pb ov os w' r nds ∧ w.grownBy w' (some pb)) :=
  (compare_any B pb ov os w ts nds eq al hI).mono fun e w' h => by
    cases hc : compareF eq al ts with
    | none => rw [hc] at h; exact .inl ⟨rfl, h.1, h.2⟩
    | some y => rw [hc] at h; obtain ⟨x, r⟩ := y; exact .inr ⟨x, r, rfl, h.1, h.2.1, h.2.2⟩
theorem digest_any' (B pb : Nat) (ov : Value) (os : List Value) (w : World) (ts : List Tok) (nds : List Nd) (hI : PInv B pb ov os w ts nds) :
    Calls Tryz.prog 115 #[.pointer (some ⟨pb, 0, none⟩)] w fun e w' =>
      (digestF ts = none ∧ e = PanF ∧ w.grownBy w' (some pb)) ∨
      (∃ d r, digestF ts = some (d, r) ∧ e = .returned (.agg #[.int .u8 (d 0), .int .u8 (d 1), .int .u8 (d 2), .int .u8 (d 3), .int .u8 (d 4), .int .u8 (d 5), .int .u8 (d 6), .int .u8 (d 7), .int .u8 (d 8), .int .u8 (d 9), .int .u8 (d 10), .int .u8 (d 11), .int .u8 (d 12), .int .u8 (d 13), .int .u8 (d 14), .int .u8 (d 15)]) ∧
        PInv B pb ov os w' r nds ∧ w.grownBy w' (some pb)) :=
  (digest_any B pb ov os w ts nds hI).mono fun e w' h => by
    cases hc : digestF ts with
    | none => rw [hc] at h; exact .inl ⟨rfl, h.1, h.2⟩
    | some y => rw [hc] at h; obtain ⟨x, r⟩ := y; exact .inr ⟨x, r, rfl, h.1, h.2.1, h.2.2⟩

section
variable {ts r : List Tok} {t : Tok} (h : mustF 1 [] ts = some (t, r))
include h
theorem atomF_any (h1 : (t.s.toList == [97, 110, 121]) = true) : atomF ts = some (mkN 1 0 0 0, r) := by
  simp only [atomF, h, tAny, h1, if_true]
theorem atomF_ver (h1 : (t.s.toList == [97, 110, 121]) = false) (h2 : (t.s.toList == [118, 101, 114, 115, 105, 111, 110]) = true) : atomF ts = compareF 2 3 r := by
  simp only [atomF, h, tAny, tVersion, h1, h2, if_true, Bool.false_eq_true, if_false]
theorem atomF_epo (h1 : (t.s.toList == [97, 110, 121]) = false) (h2 : (t.s.toList == [118, 101, 114, 115, 105, 111, 110]) = false) (h3 : (t.s.toList == [101, 112, 111, 99, 104]) = true) : atomF ts = compareF 4 5 r := by
  simp only [atomF, h, tAny, tVersion, tEpoch, h1, h2, h3, if_true, Bool.false_eq_true, if_false]
theorem atomF_sta (h1 : (t.s.toList == [97, 110, 121]) = false) (h2 : (t.s.toList == [118, 101, 114, 115, 105, 111, 110]) = false) (h3 : (t.s.toList == [101, 112, 111, 99, 104]) = false)
    (h4 : (t.s.toList == [115, 116, 97, 103, 101]) = true) : atomF ts = stageF r := by
  simp only [atomF, h, tAny, tVersion, tEpoch, tStage, h1, h2, h3, h4, if_true, Bool.false_eq_true, if_false]
theorem atomF_poi (h1 : (t.s.toList == [97, 110, 121]) = false) (h2 : (t.s.toList == [118, 101, 114, 115, 105, 111, 110]) = false) (h3 : (t.s.toList == [101, 112, 111, 99, 104]) = false)
    (h4 : (t.s.toList == [115, 116, 97, 103, 101]) = false) (h5 : (t.s.toList == [112, 111, 105, 110, 116]) = true) : atomF ts = pointF r := by
  simp only [atomF, h, tAny, tVersion, tEpoch, tStage, tPoint, h1, h2, h3, h4, h5, if_true, Bool.false_eq_true, if_false]
theorem atomF_else (h1 : (t.s.toList == [97, 110, 121]) = false) (h2 : (t.s.toList == [118, 101, 114, 115, 105, 111, 110]) = false) (h3 : (t.s.toList == [101, 112, 111, 99, 104]) = false)
    (h4 : (t.s.toList == [115, 116, 97, 103, 101]) = false) (h5 : (t.s.toList == [112, 111, 105, 110, 116]) = false) : atomF ts = none := by
  simp only [atomF, h, tAny, tVersion, tEpoch, tStage, tPoint, h1, h2, h3, h4, h5, Bool.false_eq_true, if_false]
end

/-- The end of atom, where a node is handed back. -/
theorem node_end {B pb : Nat} {ov : Value} {os : List Value} {w w1 : World} {ts0 r : List Tok} {nds : List Nd} {a : Act} {x : Nd} {res : Option (Nd × List Tok)} {o : Obj} {cs : Array Value} (h0 : PInv B pb ov os w ts0 nds) (hlt : pb < w.heap.size)
    (hI : PInv B pb ov os w1 r nds) (hg : (w.alloc o).grownBy w1 (some pb)) (hr : res = some (x, r)) (hd : a.defers = [] := by rfl) (ht : a.tmps.getD 2 undef = .pointer (some ⟨w.heap.size, 0, none⟩) := by rfl)
    (ho : ∃ old, o = .cells old 67 (0, 0) := by exact ⟨_, rfl⟩) (hc : Value.agg cs = x.val (.slice none 0 0) := by rfl) : bodyPost Tryz.prog Tryz.f95 (PostN B pb ov os w nds res) .ret a (w1.setRow w.heap.size cs) := by
  obtain ⟨old, rfl⟩ := ho
  refine bodyPost_ret (v := .agg cs) ?_ hd ?_
  · have hcs : cs = #[.int .i64 x.k, .int .i64 x.n, .int .i64 x.m, .int .i64 x.sd, .int .u8 (x.d 0), .int .u8 (x.d 1), .int .u8 (x.d 2), .int .u8 (x.d 3), .int .u8 (x.d 4), .int .u8 (x.d 5), .int .u8 (x.d 6), .int .u8 (x.d 7),
      .int .u8 (x.d 8), .int .u8 (x.d 9), .int .u8 (x.d 10), .int .u8 (x.d 11), .int .u8 (x.d 12), .int .u8 (x.d 13), .int .u8 (x.d 14), .int .u8 (x.d 15), .slice none 0 0] := by
      unfold Nd.val at hc
      injection hc
    subst hcs
    exact results_cell_row Tryz.results95 _ _ w.heap.size 67 _ (0, 0) _ ht (setRow_heap _ _ _ _ 67 (0, 0) (blk_of_alloc hg hlt)) Tryz.underlying67 rfl (by kernel_rfl)
  · rw [hr]
    exact ⟨by rw [hc], hI.setRow h0 (Nat.le_refl _) _, grown_setRow (grown_of_alloc hg) (Nat.le_refl _) _⟩

set_option maxRecDepth 100000 in
set_option maxHeartbeats 4000000 in
theorem atom_any (B pb : Nat) (ov : Value) (os : List Value) (w : World) (ts : List Tok) (nds : List Nd) (hI : PInv B pb ov os w ts nds) :
    Calls Tryz.prog 95 #[.pointer (some ⟨pb, 0, none⟩)] w (PostN B pb ov os w nds (atomF ts)) := by
  have hlt := hI.lt.2
  have hI0 := hide hI
  clear hI
  go_enter Tryz.func95, Tryz.ntmps95
  go_wp2_with (first
    | (go_at_call 94; (with_reducible refine Calls.mono (must_any B pb ov os _ _ _ 1 _ [] (by simp) (PInv.alloc hI0.out _)) ?_); rintro e w1 (⟨hm, rfl, hg⟩ | ⟨t1, r1, hm, rfl, hI1, hg⟩) <;> (have Hm1 := hide hm; have HG := hide hg; clear hm hg) <;> try (have HI := hide hI1; clear hI1))
    | (go_at_call 114; (with_reducible refine Calls.mono (compare_any' B pb ov os _ _ _ _ _ HI.out) ?_); rintro e w2 (⟨hm, rfl, hg⟩ | ⟨x, rx, hm, rfl, hI1, hg⟩) <;> (have Hmx := hide hm; have HG := hide (grown_trans HG.out hg); clear hm hg) <;> try (have HI := hide hI1; clear hI1))
    | (go_at_call 94; have _t := Hma; (with_reducible refine Calls.mono (must_any B pb ov os _ _ _ 2 _ [] (by simp) HI.out) ?_); rintro e w3 (⟨hm, rfl, hg⟩ | ⟨tb, rb, hm, rfl, hI1, hg⟩) <;> (have Hmb := hide hm; have HG := hide (grown_trans HG.out hg); clear hm hg _t) <;> try (have HI := hide hI1; clear hI1))
    | (go_at_call 94; (with_reducible refine Calls.mono (must_any B pb ov os _ _ _ 2 _ [] (by simp) HI.out) ?_); rintro e w3 (⟨hm, rfl, hg⟩ | ⟨ta, ra, hm, rfl, hI1, hg⟩) <;> (have Hma := hide hm; have HG := hide (grown_trans HG.out hg); clear hm hg) <;> try (have HI := hide hI1; clear hI1))
    | (go_at_call 94; (with_reducible refine Calls.mono (must_any B pb ov os _ _ _ 1 ⟨#[105, 115]⟩ tIs (by simp [tIs]) HI.out) ?_); rintro e w3 (⟨hm, rfl, hg⟩ | ⟨ti, ri, hm, rfl, hI1, hg⟩) <;> (have Hmi := hide hm; have HG := hide (grown_trans HG.out hg); clear hm hg) <;> try (have HI := hide hI1; clear hI1))
    | (go_at_call 94; (with_reducible refine Calls.mono (must_any B pb ov os _ _ _ 1 ⟨#[116, 111, 111, 107]⟩ tTook (by simp [tTook]) HI.out) ?_); rintro e w3 (⟨hm, rfl, hg⟩ | ⟨ti, ri, hm, rfl, hI1, hg⟩) <;> (have Hmk := hide hm; have HG := hide (grown_trans HG.out hg); clear hm hg) <;> try (have HI := hide hI1; clear hI1))
    | (go_at_call 115; (with_reducible refine Calls.mono (digest_any' B pb ov os _ _ _ HI.out) ?_); rintro e w3 (⟨hm, rfl, hg⟩ | ⟨d, rd, hm, rfl, hI1, hg⟩) <;> (have Hmd := hide hm; have HG := hide (grown_trans HG.out hg); clear hm hg) <;> try (have HI := hide hI1; clear hI1))
    | (go_at_call 92; (with_reducible refine Calls.mono (accept_any' B pb ov os _ _ _ 1 ⟨#[116, 114, 117, 101]⟩ tTrue (by simp [tTrue]) HI.out) ?_); rintro e w3 (⟨hm, rfl, hI1, hg⟩ | ⟨hm, rfl, hI1, hg⟩) <;> (have Hac := hide hm; have HG := hide (grown_trans HG.out hg); have HI := hide hI1; clear hm hg hI1))
    | (go_at_call 94; (with_reducible refine Calls.mono (must_any B pb ov os _ _ _ 1 ⟨#[102, 97, 108, 115, 101]⟩ tFalse (by simp [tFalse]) HI.out) ?_); rintro e w3 (⟨hm, rfl, hg⟩ | ⟨tf, rf, hm, rfl, hI1, hg⟩) <;> (have Hmf := hide hm; have HG := hide (grown_trans HG.out hg); clear hm hg) <;> try (have HI := hide hI1; clear hI1))
    | (with_reducible refine wpList_store_row rfl 67 (.tmp 2) _ rfl w.heap.size rfl _ rfl _ _ (blk_of_alloc HG.out hlt) (by kernel_rfl) (by kernel_rfl) (by kernel_rfl) ?_))
  -- the ends, in the text's order
  · exact ⟨rfl, by rw [show atomF ts = none by simp only [atomF, Hm1.out]]; exact ⟨rfl, grown_of_alloc HG.out⟩⟩
  · exact node_end hI0.out hlt HI.out HG.out (atomF_any Hm1.out ‹_›)
  · exact ⟨rfl, by rw [(atomF_ver Hm1.out ‹_› ‹_›).trans Hmx.out]; exact ⟨rfl, grown_of_alloc HG.out⟩⟩
  · exact node_end hI0.out hlt HI.out HG.out ((atomF_ver Hm1.out ‹_› ‹_›).trans Hmx.out)
  · exact ⟨rfl, by rw [(atomF_epo Hm1.out ‹_› ‹_› ‹_›).trans Hmx.out]; exact ⟨rfl, grown_of_alloc HG.out⟩⟩
  · exact node_end hI0.out hlt HI.out HG.out ((atomF_epo Hm1.out ‹_› ‹_› ‹_›).trans Hmx.out)
  · exact ⟨rfl, by rw [(atomF_sta Hm1.out ‹_› ‹_› ‹_› ‹_›).trans (show stageF r1 = none by simp only [stageF, Hma.out])]; exact ⟨rfl, grown_of_alloc HG.out⟩⟩
  · exact ⟨rfl, by rw [(atomF_sta Hm1.out ‹_› ‹_› ‹_› ‹_›).trans (show stageF r1 = none by simp only [stageF, Hma.out, Hmi.out])]; exact ⟨rfl, grown_of_alloc HG.out⟩⟩
  · exact ⟨rfl, by rw [(atomF_sta Hm1.out ‹_› ‹_› ‹_› ‹_›).trans (show stageF r1 = none by simp only [stageF, Hma.out, Hmi.out, Hmd.out])]; exact ⟨rfl, grown_of_alloc HG.out⟩⟩
  · exact node_end hI0.out hlt HI.out HG.out ((atomF_sta Hm1.out ‹_› ‹_› ‹_› ‹_›).trans (show stageF r1 = some (⟨6, ta.n, 0, 0, d, []⟩, rd) by simp only [stageF, Hma.out, Hmi.out, Hmd.out]))
  · exact ⟨rfl, by rw [(atomF_poi Hm1.out ‹_› ‹_› ‹_› ‹_› ‹_›).trans (show pointF r1 = none by simp only [pointF, Hma.out])]; exact ⟨rfl, grown_of_alloc HG.out⟩⟩
  · exact ⟨rfl, by rw [(atomF_poi Hm1.out ‹_› ‹_› ‹_› ‹_› ‹_›).trans (show pointF r1 = none by simp only [pointF, Hma.out, Hmb.out])]; exact ⟨rfl, grown_of_alloc HG.out⟩⟩
  · exact ⟨rfl, by rw [(atomF_poi Hm1.out ‹_› ‹_› ‹_› ‹_› ‹_›).trans (show pointF r1 = none by simp only [pointF, Hma.out, Hmb.out, Hmk.out])]; exact ⟨rfl, grown_of_alloc HG.out⟩⟩
  · exact ⟨rfl, by rw [(atomF_poi Hm1.out ‹_› ‹_› ‹_› ‹_› ‹_›).trans (show pointF r1 = none by simp [pointF, sideF, Hma.out, Hmb.out, Hmk.out, Hac.out, Hmf.out])]; exact ⟨rfl, grown_of_alloc HG.out⟩⟩
  · exact node_end hI0.out hlt HI.out HG.out ((atomF_poi Hm1.out ‹_› ‹_› ‹_› ‹_› ‹_›).trans (show pointF r1 = some (mkN 7 ta.n tb.n 2, rf) by simp [pointF, sideF, Hma.out, Hmb.out, Hmk.out, Hac.out, Hmf.out]))
  · exact node_end hI0.out hlt HI.out HG.out ((atomF_poi Hm1.out ‹_› ‹_› ‹_› ‹_› ‹_›).trans (show pointF r1 = some (mkN 7 ta.n tb.n 1, ri.tail) by simp [pointF, sideF, Hma.out, Hmb.out, Hmk.out, Hac.out]))
  · exact ⟨rfl, by rw [atomF_else Hm1.out ‹_› ‹_› ‹_› ‹_› ‹_›]; exact ⟨rfl, grown_of_alloc HG.out⟩⟩
end Go.Proofs.YtbojlnbdkaanmaaGreatDoor
