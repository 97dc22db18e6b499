/-
  The program's parser of policies, part F: chain, not, policy.
-/
import Derived.Test.YtbojlnbdkaanmaaGreatDoorParE
import Derived.Test.YtbojlnbdkaanmaaGreatDoorPurB
set_option linter.unusedVariables false
set_option linter.unusedSimpArgs false
namespace Go.Proofs.YtbojlnbdkaanmaaGreatDoor
open Go.RowKit

def PS (B pb : Nat) (w : World) (ts : List Tok) (nds : List Nd) : Prop := ∃ ov os, PInv B pb ov os w ts nds
def PostP (B pb : Nat) (w : World) (r : PRes) (e : Ending) (w' : World) : Prop :=
  match r with
  | none => e = PanF ∧ Below B w w'
  | some (a, ts, nds) => e = .returned (.int .i64 a) ∧ PS B pb w' ts nds ∧ Fr B w w'
theorem PS.alloc {B pb : Nat} {w : World} {ts : List Tok} {nds : List Nd} (h : PS B pb w ts nds) (o : Obj) : PS B pb (w.alloc o) ts nds := by
  obtain ⟨ov, os, h⟩ := h
  exact ⟨ov, os, h.alloc o⟩
theorem PS.lt {B pb : Nat} {w : World} {ts : List Tok} {nds : List Nd} (h : PS B pb w ts nds) : B ≤ pb ∧ pb < w.heap.size := by
  obtain ⟨ov, os, h⟩ := h
  exact h.lt
theorem accept_ps (B pb : Nat) (w : World) (ts : List Tok) (nds : List Nd) (kd : Int) (tx : ByteArray) (tl : List UInt8) (htx : tx.toList = tl) (hI : PS B pb w ts nds) :
    Calls Tryz.prog 92 #[.pointer (some ⟨pb, 0, none⟩), .int .i64 kd, .string tx] w fun e w' =>
      (isB ts kd tl = false ∧ e = .returned (.bool false) ∧ PS B pb w' ts nds ∧ Fr B w w') ∨ (isB ts kd tl = true ∧ e = .returned (.bool true) ∧ PS B pb w' ts.tail nds ∧ Fr B w w') := by
  obtain ⟨ov, os, hI⟩ := hI
  refine (accept_any' B pb ov os w ts nds kd tx tl htx hI).mono ?_
  rintro e w' (⟨h1, h2, h3, h4⟩ | ⟨h1, h2, h3, h4⟩)
  · exact .inl ⟨h1, h2, ⟨ov, os, h3⟩, hI.fr h4⟩
  · exact .inr ⟨h1, h2, ⟨ov, os, h3⟩, hI.fr h4⟩
theorem must_ps (B pb : Nat) (w : World) (ts : List Tok) (nds : List Nd) (kd : Int) (tx : ByteArray) (tl : List UInt8) (htx : tx.toList = tl) (hI : PS B pb w ts nds) :
    Calls Tryz.prog 94 #[.pointer (some ⟨pb, 0, none⟩), .int .i64 kd, .string tx] w fun e w' =>
      (mustF kd tl ts = none ∧ e = PanF ∧ Fr B w w') ∨
      (∃ t r, mustF kd tl ts = some (t, r) ∧ e = .returned (.agg #[.int .i64 t.k, .string t.s, .int .i64 t.n, .int .i64 t.p]) ∧ PS B pb w' r nds ∧ Fr B w w') := by
  obtain ⟨ov, os, hI⟩ := hI
  refine (must_any B pb ov os w ts nds kd tx tl htx hI).mono ?_
  rintro e w' (⟨h1, h2, h4⟩ | ⟨t, r, h1, h2, h3, h4⟩)
  · exact .inl ⟨h1, h2, hI.fr h4⟩
  · exact .inr ⟨t, r, h1, h2, ⟨ov, os, h3⟩, hI.fr h4⟩
theorem atom_ps (B pb : Nat) (w : World) (ts : List Tok) (nds : List Nd) (hI : PS B pb w ts nds) :
    Calls Tryz.prog 95 #[.pointer (some ⟨pb, 0, none⟩)] w fun e w' =>
      (atomF ts = none ∧ e = PanF ∧ Fr B w w') ∨ (∃ x r, atomF ts = some (x, r) ∧ e = .returned (.agg #[.int .i64 x.k, .int .i64 x.n, .int .i64 x.m, .int .i64 x.sd, .int .u8 (x.d 0), .int .u8 (x.d 1), .int .u8 (x.d 2), .int .u8 (x.d 3), .int .u8 (x.d 4), .int .u8 (x.d 5), .int .u8 (x.d 6), .int .u8 (x.d 7),
   .int .u8 (x.d 8), .int .u8 (x.d 9), .int .u8 (x.d 10), .int .u8 (x.d 11), .int .u8 (x.d 12), .int .u8 (x.d 13), .int .u8 (x.d 14), .int .u8 (x.d 15), .slice none 0 0]) ∧ PS B pb w' r nds ∧ Fr B w w') := by
  obtain ⟨ov, os, hI⟩ := hI
  refine (atom_any B pb ov os w ts nds hI).mono ?_
  intro e w' h
  cases hc : atomF ts with
  | none => rw [hc] at h; exact .inl ⟨rfl, h.1, hI.fr h.2⟩
  | some y =>
    rw [hc] at h
    obtain ⟨x, r⟩ := y
    exact .inr ⟨x, r, rfl, h.1, ⟨ov, os, h.2.1⟩, hI.fr h.2.2⟩
theorem compareF_of {eq al : Int} {ts : List Tok} {x : Nd} {r : List Tok} (h : compareF eq al ts = some (x, r)) : x.of = [] := by
  unfold compareF at h
  split at h
  · split at h
    · cases h
    · simp only [Option.some.injEq, Prod.mk.injEq] at h; rw [← h.1]; rfl
  · split at h
    · cases h
    · split at h
      · cases h
      · simp only [Option.some.injEq, Prod.mk.injEq] at h; rw [← h.1]; rfl
theorem stageF_of {ts : List Tok} {x : Nd} {r : List Tok} (h : stageF ts = some (x, r)) : x.of = [] := by
  unfold stageF at h
  split at h
  · cases h
  · split at h
    · cases h
    · split at h
      · cases h
      · simp only [Option.some.injEq, Prod.mk.injEq] at h; rw [← h.1]
theorem pointF_of {ts : List Tok} {x : Nd} {r : List Tok} (h : pointF ts = some (x, r)) : x.of = [] := by
  unfold pointF at h
  split at h
  · cases h
  · split at h
    · cases h
    · split at h
      · cases h
      · split at h
        · cases h
        · simp only [Option.some.injEq, Prod.mk.injEq] at h; rw [← h.1]; rfl
theorem atomF_of {ts : List Tok} {x : Nd} {r : List Tok} (h : atomF ts = some (x, r)) : x.of = [] := by
  unfold atomF at h
  split at h
  · cases h
  · split at h
    · simp only [Option.some.injEq, Prod.mk.injEq] at h; rw [← h.1]; rfl
    · split at h
      · exact compareF_of h
      · split at h
        · exact compareF_of h
        · split at h
          · exact stageF_of h
          · split at h
            · exact pointF_of h
            · cases h
theorem add_atom (B pb : Nat) (w : World) (ts : List Tok) (nds : List Nd) (x : Nd) (hx : x.of = []) (hI : PS B pb w ts nds) (hN : nds.length ≤ 1000000) :
    Calls Tryz.prog 93 #[.pointer (some ⟨pb, 0, none⟩), .agg #[.int .i64 x.k, .int .i64 x.n, .int .i64 x.m, .int .i64 x.sd, .int .u8 (x.d 0), .int .u8 (x.d 1), .int .u8 (x.d 2), .int .u8 (x.d 3), .int .u8 (x.d 4), .int .u8 (x.d 5), .int .u8 (x.d 6), .int .u8 (x.d 7),
      .int .u8 (x.d 8), .int .u8 (x.d 9), .int .u8 (x.d 10), .int .u8 (x.d 11), .int .u8 (x.d 12), .int .u8 (x.d 13), .int .u8 (x.d 14), .int .u8 (x.d 15), .slice none 0 0]] w fun e w' =>
        e = .returned (.int .i64 nds.length) ∧ PS B pb w' ts (nds ++ [x]) ∧ Fr B w w' := by
  obtain ⟨ov, os, hI⟩ := hI
  exact (add_any B pb ov os w ts nds x (.slice none 0 0) hI (.inl ⟨hx, rfl⟩) rfl hN).mono fun e w' ⟨he, ov', os', h1, h2⟩ => ⟨he, ⟨ov', os', h1⟩, h2⟩
theorem add_op1 (B pb : Nat) (w : World) (ts : List Tok) (nds : List Nd) (kd a : Int) (hI : PS B pb w ts nds) (hN : nds.length ≤ 1000000) :
    Calls Tryz.prog 93 #[.pointer (some ⟨pb, 0, none⟩), .agg #[.int .i64 kd, .int .i64 0, .int .i64 0, .int .i64 0, .int .u8 0, .int .u8 0, .int .u8 0, .int .u8 0, .int .u8 0, .int .u8 0, .int .u8 0, .int .u8 0,
      .int .u8 0, .int .u8 0, .int .u8 0, .int .u8 0, .int .u8 0, .int .u8 0, .int .u8 0, .int .u8 0, .slice (some ⟨w.heap.size, 0, none⟩) 1 1]] (w.alloc (.cells #[.int .i64 a] 3)) fun e w' =>
        e = .returned (.int .i64 nds.length) ∧ PS B pb w' ts (nds ++ [mkO kd [a]]) ∧ Fr B (w.alloc (.cells #[.int .i64 a] 3)) w' := by
  obtain ⟨ov, os, hI⟩ := hI
  exact (add_any B pb ov os _ ts nds (mkO kd [a]) (.slice (some ⟨w.heap.size, 0, none⟩) 1 1) (hI.alloc _) (.inr ⟨w.heap.size, rfl, heap_alloc_new w _⟩) rfl hN).mono fun e w' ⟨he, ov', os', h1, h2⟩ => ⟨he, ⟨ov', os', h1⟩, h2⟩
theorem add_op2 (B pb : Nat) (w : World) (ts : List Tok) (nds : List Nd) (kd a b : Int) (hI : PS B pb w ts nds) (hN : nds.length ≤ 1000000) :
    Calls Tryz.prog 93 #[.pointer (some ⟨pb, 0, none⟩), .agg #[.int .i64 kd, .int .i64 0, .int .i64 0, .int .i64 0, .int .u8 0, .int .u8 0, .int .u8 0, .int .u8 0, .int .u8 0, .int .u8 0, .int .u8 0, .int .u8 0,
      .int .u8 0, .int .u8 0, .int .u8 0, .int .u8 0, .int .u8 0, .int .u8 0, .int .u8 0, .int .u8 0, .slice (some ⟨w.heap.size, 0, none⟩) 2 2]] (w.alloc (.cells #[.int .i64 a, .int .i64 b] 3)) fun e w' =>
        e = .returned (.int .i64 nds.length) ∧ PS B pb w' ts (nds ++ [mkO kd [a, b]]) ∧ Fr B (w.alloc (.cells #[.int .i64 a, .int .i64 b] 3)) w' := by
  obtain ⟨ov, os, hI⟩ := hI
  exact (add_any B pb ov os _ ts nds (mkO kd [a, b]) (.slice (some ⟨w.heap.size, 0, none⟩) 2 2) (hI.alloc _) (.inr ⟨w.heap.size, rfl, heap_alloc_new w _⟩) rfl hN).mono fun e w' ⟨he, ov', os', h1, h2⟩ => ⟨he, ⟨ov', os', h1⟩, h2⟩
theorem PostP.elim {B pb : Nat} {w w' : World} {r : PRes} {e : Ending} (h : PostP B pb w r e w') : (r = none ∧ e = PanF ∧ Below B w w') ∨ ∃ a ts nds, r = some (a, ts, nds) ∧ e = .returned (.int .i64 a) ∧ PS B pb w' ts nds ∧ Fr B w w' := by
  cases r with
  | none => exact .inl ⟨rfl, h.1, h.2⟩
  | some y => obtain ⟨a, ts, nds⟩ := y; exact .inr ⟨a, ts, nds, rfl, h.1, h.2.1, h.2.2⟩

/-- The variable that the function literal captures. -/
def Cap (b1 pb : Nat) (w : World) : Prop := w.heap[b1]? = some (.cells #[.pointer (some ⟨pb, 0, none⟩)] 92 (0, 0))
theorem Cap.fr {B b1 pb : Nat} {w w' : World} (h : Cap b1 pb w) (hg : Fr B w w') : Cap b1 pb w' := (hg.keep b1 _ 92 _ h (by decide) (by decide)).trans h
theorem Cap.cell {b1 pb : Nat} {w : World} (h : Cap b1 pb w) : w.cell? ⟨b1, 0, none⟩ = some (.pointer (some ⟨pb, 0, none⟩)) := cell_of_one h

set_option maxRecDepth 100000 in
set_option maxHeartbeats 2000000 in
/-- chain, its operand the method not. -/
theorem chain_not (B pb n : Nat) (f : List Tok → List Nd → PRes) (hL : LenOk f) (hS : SumOk f)
    (hf : ∀ w ts nds, ts.length < n → nds.length + ts.length ≤ 1000000 → PS B pb w ts nds → Calls Tryz.prog 73 #[.pointer (some ⟨pb, 0, none⟩)] w (PostP B pb w (f ts nds)))
    (sg : ByteArray) (sl : List UInt8) (hsg : sg.toList = sl) (kd : Int) (m : Nat) (w : World) (ts : List Tok) (nds : List Nd) (hn : ts.length < n) (hm : ts.length ≤ m) (hN : nds.length + ts.length ≤ 1000000) (hI : PS B pb w ts nds) :
    Calls Tryz.prog 72 #[.pointer (some ⟨pb, 0, none⟩), .string sg, .int .i64 kd, .func (.func 73) #[.pointer (some ⟨pb, 0, none⟩)] #[]] w (PostP B pb w (chainF f sl kd m ts nds)) := by
  have hB := hI.lt.1
  have HF := hide (fun w ts nds h1 h2 h3 => (hf w ts nds h1 h2 h3).mono fun e w' h => PostP.elim h)
  have HI := hide hI
  have Hsg := hide hsg
  have HL := hide hL
  have HS := hide hS
  clear hf hI hsg hL hS
  go_enter Tryz.func72, Tryz.ntmps72
  go_wp2_with (go_at_call 73; (with_reducible refine Calls.mono (HF.out _ ts nds hn hN HI.out) ?_); rintro e w1 (⟨hm1, rfl, hg1⟩ | ⟨a, r, nds1, hm1, rfl, hI1, hg1⟩) <;> (have Hm1 := hide hm1; have HG := hide hg1; clear hm1 hg1) <;> try (have HI1 := hide hI1; clear hI1))
  · have hr : chainF f sl kd m ts nds = none := by rw [chainF, Hm1.out]
    exact ⟨rfl, by rw [hr]; exact ⟨rfl, HG.out⟩⟩
  have HC : Hid (chainGo f sl kd m a r nds1 = chainF f sl kd m ts nds) := by
    show chainGo f sl kd m a r nds1 = chainF f sl kd m ts nds
    rw [chainF, Hm1.out]
  have l1 := HL.out _ _ _ _ _ Hm1.out
  have l2 := HS.out _ _ _ _ _ Hm1.out
  go_loopg [9] m (fun g av wr => ∃ (a' : Int) (ts' : List Tok) (nds' : List Nd), av = .int .i64 a' ∧ ts'.length < n ∧ ts'.length < g ∧ nds'.length + ts'.length ≤ 1000000 ∧ Hid (PS B pb wr ts' nds') ∧ Hid (Fr B w wr) ∧ Hid (chainGo f sl kd g a' ts' nds' = chainF f sl kd m ts nds))
  case atStart => exact ⟨a, r, nds1, rfl, by omega, by omega, by omega, HI1, HG, HC⟩
  case round =>
    obtain ⟨a', ts', nds', rfl, q1, q2, q3, hI', hG', hC'⟩ := hrel
    cases gk with
    | zero => omega
    | succ g =>
      go_wp2_with (first
        | (go_at_call 92; (with_reducible refine Calls.mono (accept_ps B pb _ _ _ _ _ sl Hsg.out hI'.out) ?_); rintro e w2 (⟨hm2, rfl, hI2, hg2⟩ | ⟨hm2, rfl, hI2, hg2⟩) <;> (have Hm2 := hide hm2; have HG2 := hide hg2; have HI2 := hide hI2; clear hm2 hg2 hI2))
        | (go_at_call 73; (with_reducible refine Calls.mono (HF.out _ ts'.tail nds' (by simp; omega) (by simp; omega) HI2.out) ?_); rintro e w3 (⟨hm3, rfl, hg3⟩ | ⟨b, r3, nds3, hm3, rfl, hI3, hg3⟩) <;> (have Hm3 := hide hm3; have HG3 := hide hg3; clear hm3 hg3) <;> try (have HI3 := hide hI3; clear hI3; have hs3 := HS.out _ _ _ _ _ Hm3.out; have hl3 := HL.out _ _ _ _ _ Hm3.out; simp at hs3 hl3))
        | (go_at_call 93; (with_reducible refine Calls.mono (add_op2 B pb _ _ _ _ _ _ HI3.out (by omega)) ?_); rintro e w4 ⟨rfl, hI4, hg4⟩; have HI4 := hide hI4; have HG4 := hide hg4; clear hI4 hg4))
      · have hr : chainF f sl kd m ts nds = some (a', ts', nds') := by
          rw [← hC'.out, chainGo, Hm2.out]
          simp
        go_ret
        rw [hr]
        exact ⟨rfl, HI2.out, Fr.trans hG'.out HG2.out⟩
      · have hr : chainF f sl kd m ts nds = none := by
          rw [← hC'.out, chainGo, Hm2.out]
          simp [Hm3.out]
        exact ⟨rfl, by rw [hr]; exact ⟨rfl, ((hG'.out.trans HG2.out).below.trans HG3.out)⟩⟩
      · have hr : Hid (chainGo f sl kd g (nds3.length : Int) r3 (nds3 ++ [mkO kd [a', b]]) = chainF f sl kd m ts nds) := by
          show chainGo f sl kd g (nds3.length : Int) r3 (nds3 ++ [mkO kd [a', b]]) = _
          rw [← hC'.out, chainGo, Hm2.out]
          simp [Hm3.out]
        have hB3 := (HI3.out).lt
        go_roundg g
        case measure => omega
        case rel => exact ⟨_, r3, nds3 ++ [mkO kd [a', b]], rfl, by omega, by omega, by simp; omega, HI4, ((hG'.out.trans HG2.out).trans HG3.out).trans (((Fr.refl B _).alloc (by omega) _).trans HG4.out), hr⟩

set_option maxRecDepth 100000 in
set_option maxHeartbeats 2000000 in
/-- chain, its operand the function literal of policy. -/
theorem chain_and (B pb b1 n : Nat) (f : List Tok → List Nd → PRes) (hL : LenOk f) (hS : SumOk f)
    (hf : ∀ w ts nds, ts.length < n → nds.length + ts.length ≤ 1000000 → PS B pb w ts nds → Cap b1 pb w → Calls Tryz.prog 71 #[.pointer (some ⟨b1, 0, none⟩)] w (PostP B pb w (f ts nds)))
    (sg : ByteArray) (sl : List UInt8) (hsg : sg.toList = sl) (kd : Int) (m : Nat) (w : World) (ts : List Tok) (nds : List Nd) (hn : ts.length < n) (hm : ts.length ≤ m) (hN : nds.length + ts.length ≤ 1000000) (hI : PS B pb w ts nds) (hcap : Cap b1 pb w) :
    Calls Tryz.prog 72 #[.pointer (some ⟨pb, 0, none⟩), .string sg, .int .i64 kd, .func (.func 71) #[] #[.pointer (some ⟨b1, 0, none⟩)]] w (PostP B pb w (chainF f sl kd m ts nds)) := by
  have hB := hI.lt.1
  have HF := hide (fun w ts nds h1 h2 h3 h4 => (hf w ts nds h1 h2 h3 h4).mono fun e w' h => PostP.elim h)
  have HI := hide hI
  have Hsg := hide hsg
  have HCap := hide hcap
  have HL := hide hL
  have HS := hide hS
  clear hf hI hsg hL hS hcap
  go_enter Tryz.func72, Tryz.ntmps72
  go_wp2_with (go_at_call 71; (with_reducible refine Calls.mono (HF.out _ ts nds hn hN HI.out HCap.out) ?_); rintro e w1 (⟨hm1, rfl, hg1⟩ | ⟨a, r, nds1, hm1, rfl, hI1, hg1⟩) <;> (have Hm1 := hide hm1; have HG := hide hg1; clear hm1 hg1) <;> try (have HI1 := hide hI1; clear hI1))
  · have hr : chainF f sl kd m ts nds = none := by rw [chainF, Hm1.out]
    exact ⟨rfl, by rw [hr]; exact ⟨rfl, HG.out⟩⟩
  have HC : Hid (chainGo f sl kd m a r nds1 = chainF f sl kd m ts nds) := by
    show chainGo f sl kd m a r nds1 = chainF f sl kd m ts nds
    rw [chainF, Hm1.out]
  have l1 := HL.out _ _ _ _ _ Hm1.out
  have l2 := HS.out _ _ _ _ _ Hm1.out
  go_loopg [9] m (fun g av wr => ∃ (a' : Int) (ts' : List Tok) (nds' : List Nd), av = .int .i64 a' ∧ ts'.length < n ∧ ts'.length < g ∧ nds'.length + ts'.length ≤ 1000000 ∧ Hid (PS B pb wr ts' nds') ∧ Hid (Fr B w wr) ∧ Hid (chainGo f sl kd g a' ts' nds' = chainF f sl kd m ts nds))
  case atStart => exact ⟨a, r, nds1, rfl, by omega, by omega, by omega, HI1, HG, HC⟩
  case round =>
    obtain ⟨a', ts', nds', rfl, q1, q2, q3, hI', hG', hC'⟩ := hrel
    cases gk with
    | zero => omega
    | succ g =>
      go_wp2_with (first
        | (go_at_call 92; (with_reducible refine Calls.mono (accept_ps B pb _ _ _ _ _ sl Hsg.out hI'.out) ?_); rintro e w2 (⟨hm2, rfl, hI2, hg2⟩ | ⟨hm2, rfl, hI2, hg2⟩) <;> (have Hm2 := hide hm2; have HG2 := hide hg2; have HI2 := hide hI2; clear hm2 hg2 hI2))
        | (go_at_call 71; (with_reducible refine Calls.mono (HF.out _ ts'.tail nds' (by simp; omega) (by simp; omega) HI2.out (Cap.fr HCap.out (Fr.trans hG'.out HG2.out))) ?_); rintro e w3 (⟨hm3, rfl, hg3⟩ | ⟨b, r3, nds3, hm3, rfl, hI3, hg3⟩) <;> (have Hm3 := hide hm3; have HG3 := hide hg3; clear hm3 hg3) <;> try (have HI3 := hide hI3; clear hI3; have hs3 := HS.out _ _ _ _ _ Hm3.out; have hl3 := HL.out _ _ _ _ _ Hm3.out; simp at hs3 hl3))
        | (go_at_call 93; (with_reducible refine Calls.mono (add_op2 B pb _ _ _ _ _ _ HI3.out (by omega)) ?_); rintro e w4 ⟨rfl, hI4, hg4⟩; have HI4 := hide hI4; have HG4 := hide hg4; clear hI4 hg4))
      · have hr : chainF f sl kd m ts nds = some (a', ts', nds') := by
          rw [← hC'.out, chainGo, Hm2.out]
          simp
        go_ret
        rw [hr]
        exact ⟨rfl, HI2.out, Fr.trans hG'.out HG2.out⟩
      · have hr : chainF f sl kd m ts nds = none := by
          rw [← hC'.out, chainGo, Hm2.out]
          simp [Hm3.out]
        exact ⟨rfl, by rw [hr]; exact ⟨rfl, ((hG'.out.trans HG2.out).below.trans HG3.out)⟩⟩
      · have hr : Hid (chainGo f sl kd g (nds3.length : Int) r3 (nds3 ++ [mkO kd [a', b]]) = chainF f sl kd m ts nds) := by
          show chainGo f sl kd g (nds3.length : Int) r3 (nds3 ++ [mkO kd [a', b]]) = _
          rw [← hC'.out, chainGo, Hm2.out]
          simp [Hm3.out]
        have hB3 := (HI3.out).lt
        go_roundg g
        case measure => omega
        case rel => exact ⟨_, r3, nds3 ++ [mkO kd [a', b]], rfl, by omega, by omega, by simp; omega, HI4, ((hG'.out.trans HG2.out).trans HG3.out).trans (((Fr.refl B _).alloc (by omega) _).trans HG4.out), hr⟩
end Go.Proofs.YtbojlnbdkaanmaaGreatDoor
