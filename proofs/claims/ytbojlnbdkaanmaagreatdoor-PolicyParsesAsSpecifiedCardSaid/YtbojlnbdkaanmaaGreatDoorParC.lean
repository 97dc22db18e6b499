/-
  The program's parser of policies, part C: digest.
-/
import Derived.Test.YtbojlnbdkaanmaaGreatDoorParB
set_option linter.unusedVariables false
set_option linter.unusedSimpArgs false
namespace Go.Proofs.YtbojlnbdkaanmaaGreatDoor
open Go.RowKit

theorem hexd_range {c v : Int} (h : hexd c = some v) : 0 ≤ v ∧ v ≤ 15 := by
  unfold hexd at h
  split at h
  · injection h; omega
  · split at h
    · injection h; omega
    · cases h
def digArr (d : Nat → Int) : Array Value :=
  #[.int .u8 (d 0), .int .u8 (d 1), .int .u8 (d 2), .int .u8 (d 3), .int .u8 (d 4), .int .u8 (d 5), .int .u8 (d 6), .int .u8 (d 7), .int .u8 (d 8), .int .u8 (d 9), .int .u8 (d 10), .int .u8 (d 11), .int .u8 (d 12), .int .u8 (d 13), .int .u8 (d 14), .int .u8 (d 15)]
theorem digArr_get (d : Nat → Int) (i : Nat) (h : i < 16) : (digArr d)[i]? = some (.int .u8 (d i)) := by
  unfold digArr
  match i, h with
  | 0, _ => rfl
  | 1, _ => rfl
  | 2, _ => rfl
  | 3, _ => rfl
  | 4, _ => rfl
  | 5, _ => rfl
  | 6, _ => rfl
  | 7, _ => rfl
  | 8, _ => rfl
  | 9, _ => rfl
  | 10, _ => rfl
  | 11, _ => rfl
  | 12, _ => rfl
  | 13, _ => rfl
  | 14, _ => rfl
  | 15, _ => rfl
  | n + 16, h => exact absurd h (by omega)
theorem digArr_set (d : Nat → Int) (i : Nat) (h : i < 16) (v : Int) : (digArr d).setIfInBounds i (.int .u8 v) = digArr (upd d i v) := by
  apply Array.ext
  · simp [digArr]
  · intro j h1 h2
    have hj : j < 16 := by simpa [digArr] using h2
    have e1 := digArr_get (upd d i v) j hj
    rw [Array.getElem?_eq_getElem h2] at e1
    injection e1 with e1
    have hlt : j < (digArr d).size := by simpa using h1
    have e2 := digArr_get d j hj
    rw [Array.getElem?_eq_getElem hlt] at e2
    injection e2 with e2
    rw [e1, Array.getElem_setIfInBounds hlt, e2]
    by_cases hij : i = j
    · subst hij
      simp [upd]
    · rw [if_neg hij]
      simp only [upd]
      rw [if_neg (fun e => hij e.symm)]

theorem toList_get (s : ByteArray) (i : Nat) (h : i < s.size) : s.toList.getD i 0 = s[i]'h := by
  rw [ByteArray.toList_eq]
  have hl : i < s.data.toList.length := by simpa using h
  rw [List.getD_eq_getElem?_getD, List.getElem?_eq_getElem hl]
  rfl
theorem toList_len (s : ByteArray) : s.toList.length = s.size := by rw [ByteArray.toList_eq]; simp
theorem byteAt_get (s : ByteArray) (i : Nat) (h : i < s.size) : byteAt s.toList i = ((s[i]'h).toNat : Int) := by rw [byteAt, toList_get s i h]
theorem byteAt_range (l : List UInt8) (i : Nat) : 0 ≤ byteAt l i ∧ byteAt l i ≤ 255 := by
  unfold byteAt
  have := (l.getD i 0).toNat_lt
  omega
theorem run_index_str (s : ByteArray) (i : Nat) (j : Int) (hj : j = i) (h : i < s.size) (W : World) : (Instr.index 9 (.string s) (.int .i64 j)).run Tryz.prog W = .ok (.int .u8 (byteAt s.toList i)) W := by
  subst hj
  rw [byteAt_get s i h]
  have h' : (i : Int) < (s.size : Int) := by omega
  simp [go_sem, h']
theorem or_u8 {a b : Int} (h : 0 ≤ a ∧ a ≤ 15) (h' : 0 ≤ b ∧ b ≤ 15) : bits .or .u8 (a * 16) b = 16 * a + b := by
  have key : ∀ x y : Fin 16, bits .or .u8 (((x.val : Nat) : Int) * 16) ((y.val : Nat) : Int) = 16 * ((x.val : Nat) : Int) + ((y.val : Nat) : Int) := by decide +kernel
  have := key ⟨a.toNat, by omega⟩ ⟨b.toNat, by omega⟩
  simp only [Int.toNat_of_nonneg h.1, Int.toNat_of_nonneg h'.1] at this
  exact this
theorem word_cases (s : ByteArray) :
    (((s.size : Int) != 9) = true ∧ wordOk s.toList = false) ∨
    (((s.size : Int) != 9) = false ∧ s.size = 9 ∧ wordOk s.toList = false ∧ ∀ h : 0 < s.size, (((s[0]'h).toNat : Int) != 120) = true) ∨
    (((s.size : Int) != 9) = false ∧ s.size = 9 ∧ wordOk s.toList = true ∧ ∀ h : 0 < s.size, (((s[0]'h).toNat : Int) != 120) = false) := by
  by_cases h9 : s.size = 9
  · right
    have hp : 0 < s.size := by omega
    by_cases hx : (s[0]'hp).toNat = 120
    · right
      have hq : s[0]'hp = 120 := UInt8.toNat_inj.1 (by simpa using hx)
      refine ⟨by simp [h9], h9, ?_, fun _ => by simp [hx]⟩
      unfold wordOk
      rw [toList_len, toList_get s 0 hp, hq, h9]
      decide
    · left
      refine ⟨by simp [h9], h9, ?_, fun _ => ?_⟩
      · unfold wordOk
        rw [toList_get s 0 hp]
        have : (s[0]'hp == 120) = false := by
          rw [beq_eq_false_iff_ne]
          intro e
          rw [e] at hx
          exact hx rfl
        rw [this, Bool.and_false]
      · rw [bne_iff_ne]
        omega
  · left
    refine ⟨by rw [bne_iff_ne]; omega, ?_⟩
    unfold wordOk
    rw [toList_len]
    simp [h9]

theorem digit_no {c : Int} (h0 : 0 ≤ c) (h1 : c ≤ 255) (hb : hexd c = none) (W : World) : Calls Tryz.prog 129 #[.int .u8 c] W fun e w' => e = PanF ∧ W = w' :=
  (digit_any c W h0 h1).mono (by
    rintro e w' (⟨_, he, hw⟩ | ⟨v, h, _⟩)
    · exact ⟨he, hw⟩
    · rw [hb] at h; cases h)
theorem digit_yes {c a : Int} (h0 : 0 ≤ c) (h1 : c ≤ 255) (hb : hexd c = some a) (W : World) : Calls Tryz.prog 129 #[.int .u8 c] W fun e w' => e = .returned (.int .u8 a) ∧ W = w' :=
  (digit_any c W h0 h1).mono (by
    rintro e w' (⟨h, _⟩ | ⟨v, h, he, hw⟩)
    · rw [hb] at h; cases h
    · rw [hb] at h; injection h with h; subst h; exact ⟨he, hw⟩)

/-- What digest leaves: the sixteen bytes. -/
def PostD (B pb : Nat) (ov : Value) (os : List Value) (w : World) (nds : List Nd) (r : Option ((Nat → Int) × List Tok)) (e : Ending) (w' : World) : Prop :=
  match r with
  | none => e = PanF ∧ w.grownBy w' (some pb)
  | some (d, ts) => e = .returned (.agg (digArr d)) ∧ PInv B pb ov os w' ts nds ∧ w.grownBy w' (some pb)
theorem byteF_no {l : List UInt8} {k : Nat} (h : byteF l k = none) : hexd (byteAt l (2 * k + 1)) = none ∨ ∃ a, hexd (byteAt l (2 * k + 1)) = some a ∧ hexd (byteAt l (2 * k + 2)) = none := by
  unfold byteF at h
  cases h1 : hexd (byteAt l (2 * k + 1)) with
  | none => exact .inl rfl
  | some a =>
    rw [h1] at h
    cases h2 : hexd (byteAt l (2 * k + 2)) with
    | none => exact .inr ⟨a, rfl, rfl⟩
    | some b => rw [h2] at h; cases h
theorem grown_drew {w w' : World} {row : Option Nat} (h : w.grownBy w' row) : w.grownBy w'.drew row := ⟨h.os, h.tape, h.output, h.size, h.block⟩
/-- The state of digest's loops. -/
def DigS (B pb : Nat) (ov : Value) (os : List Value) (w : World) (nds : List Nd) (wr : World) (d : Nat → Int) (r : List Tok) : Prop :=
  PInv B pb ov os wr r nds ∧ w.grownBy wr (some pb) ∧ wr.heap[w.heap.size]? = some (.cells (digArr d) 65 (0, 0))

theorem DigS.inv {B pb : Nat} {ov : Value} {os : List Value} {w : World} {nds : List Nd} {wr : World} {d : Nat → Int} {r : List Tok} (h : DigS B pb ov os w nds wr d r) : PInv B pb ov os wr r nds := h.1
theorem DigS.grown {B pb : Nat} {ov : Value} {os : List Value} {w : World} {nds : List Nd} {wr : World} {d : Nat → Int} {r : List Tok} (h : DigS B pb ov os w nds wr d r) : w.grownBy wr (some pb) := h.2.1
theorem DigS.blk {B pb : Nat} {ov : Value} {os : List Value} {w : World} {nds : List Nd} {wr : World} {d : Nat → Int} {r : List Tok} (h : DigS B pb ov os w nds wr d r) : wr.heap[w.heap.size]? = some (.cells (digArr d) 65 (0, 0)) := h.2.2
theorem DigS.must {B pb : Nat} {ov : Value} {os : List Value} {w : World} {nds : List Nd} {wr w1 : World} {d : Nat → Int} {r r1 : List Tok} (h : DigS B pb ov os w nds wr d r) (hI : PInv B pb ov os w1 r1 nds) (hg : wr.grownBy w1 (some pb)) (hlt : pb < w.heap.size) :
    DigS B pb ov os w nds w1 d r1 :=
  ⟨hI, grown_trans h.grown hg, (hg.block _ (Array.getElem?_eq_some_iff.1 h.blk).1 (fun e => by injection e with e; omega)).trans h.blk⟩

theorem DigS.set {B pb : Nat} {ov : Value} {os : List Value} {w : World} {nds : List Nd} {wr : World} {d : Nat → Int} {r ts0 : List Tok} (h : DigS B pb ov os w nds wr d r) (h0 : PInv B pb ov os w ts0 nds) {i : Nat} (hi : i < 16) (v : Int) :
    DigS B pb ov os w nds (wr.setCell ⟨w.heap.size, i, none⟩ (.int .u8 v)).drew (upd d i v) r := by
  rw [setCell_eq_setRow wr w.heap.size i _ _ _ _ h.blk, digArr_set d i hi]
  exact ⟨h.inv.setRow h0 (Nat.le_refl _) _, grown_drew (grown_setRow h.grown (Nat.le_refl _) _), setRow_heap _ _ _ _ _ _ h.blk⟩

set_option maxRecDepth 100000 in
set_option maxHeartbeats 4000000 in
theorem digest_any (B pb : Nat) (ov : Value) (os : List Value) (w : World) (ts : List Tok) (nds : List Nd) (hI : PInv B pb ov os w ts nds) :
    Calls Tryz.prog 115 #[.pointer (some ⟨pb, 0, none⟩)] w (PostD B pb ov os w nds (digestF ts)) := by
  have hlt := hI.lt.2
  have hI0 := hide hI
  have hS0 : Hid (DigS B pb ov os w nds (w.alloc (.cells (digArr fun _ => 0) 65)) (fun _ => 0) ts) := ⟨hI.alloc _, World.grownBy_alloc _ _ _, heap_alloc_new _ _⟩
  clear hI
  go_enter Tryz.func115, Tryz.ntmps115
  go_wp2
  go_loopg [6] 4 (fun g i wr => ∃ (n : Nat) (d : Nat → Int) (r : List Tok), n + g = 4 ∧ i = .int .i64 n ∧ Hid (DigS B pb ov os w nds wr d r) ∧ Hid (digGo g n d r = digestF ts))
  case atStart => exact ⟨0, _, ts, rfl, rfl, hS0, rfl⟩
  case round =>
    obtain ⟨n, d, r, hng, rfl, hS, hD⟩ := hrel
    cases gk with
    | zero =>
      have hn4 : n = 4 := by omega
      subst hn4
      go_wp2_with (first
        | (with_reducible refine wpList_load_row rfl 65 (.tmp 2) rfl w.heap.size rfl 65 _ (0, 0) _ (DigS.blk hS.out) Tryz.underlying65 rfl (by kernel_rfl) ?_)
        | (with_reducible refine wpList_store_row rfl 65 (.tmp 2) (.tmp 46) rfl w.heap.size rfl _ rfl _ 65 (DigS.blk hS.out) rfl (by kernel_rfl) (by kernel_rfl) ?_))
      have hD' : digestF ts = some (d, r) := by
        exact hD.out.symm
      refine bodyPost_ret (v := .agg (digArr d)) ?_ rfl ?_
      · exact results_cell_row Tryz.results115 _ _ w.heap.size 65 _ (0, 0) _ rfl (setRow_heap _ _ _ _ 65 (0, 0) (DigS.blk hS.out)) Tryz.underlying65 rfl (by kernel_rfl)
      · rw [hD']
        exact ⟨rfl, (DigS.inv hS.out).setRow hI0.out (Nat.le_refl _) _, grown_setRow (DigS.grown hS.out) (Nat.le_refl _) _⟩
    | succ g =>
      have hn4 : n < 4 := by omega
      have hng' := hide hng
      clear hng
      go_wp2_with (first
        | (go_at_call 94; (with_reducible refine Calls.mono (must_any B pb ov os _ _ _ 1 _ [] (by simp) (DigS.inv hS.out)) ?_); rintro e w1 (⟨hm1, rfl, hg1⟩ | ⟨t1, r1, hm1, rfl, hI1, hg1⟩) <;> (have Hm1 := hide hm1; have HG := hide hg1; clear hm1 hg1) <;> try (have HI := hide hI1; clear hI1; rcases word_cases t1.s with ⟨q1, q2⟩ | ⟨q1, q2, q3, q4⟩ | ⟨q1, q2, q3, q4⟩)))
      · have hD' : digestF ts = none := by rw [← hD.out]; simp [digGo, Hm1.out]
        exact ⟨rfl, by rw [hD']; exact ⟨rfl, grown_trans (DigS.grown hS.out) HG.out⟩⟩
      · have hD' : digestF ts = none := by rw [← hD.out]; simp [digGo, Hm1.out, q2]
        exact ⟨rfl, by rw [hD']; exact ⟨rfl, grown_trans (DigS.grown hS.out) HG.out⟩⟩
      · have hD' : digestF ts = none := by rw [← hD.out]; simp [digGo, Hm1.out, q3]
        exact ⟨rfl, by rw [hD']; exact ⟨rfl, grown_trans (DigS.grown hS.out) HG.out⟩⟩
      · have hS1 : Hid (DigS B pb ov os w nds w1 d r1) := DigS.must hS.out HI.out HG.out hlt
        have hI1' : Hid (inGo t1.s.toList n 4 0 d = inGo t1.s.toList n 4 0 d) := rfl
        have hq2 : (t1.s.size : Int) = 9 := by omega
        have Q3 := hide q3
        clear q3 q4
        go_loopg [22] 4 (fun g2 i2 wr2 => ∃ (k : Nat) (d2 : Nat → Int), k + g2 = 4 ∧ i2 = .int .i64 k ∧ Hid (DigS B pb ov os w nds wr2 d2 r1) ∧ Hid (inGo t1.s.toList n g2 k d2 = inGo t1.s.toList n 4 0 d))
        case atStart => exact ⟨0, d, rfl, rfl, hS1, rfl⟩
        case round =>
          obtain ⟨k, d2, hkg, rfl, hS2, hD2⟩ := hrel
          cases gk with
          | zero =>
            have hk4 : k = 4 := by omega
            subst hk4
            have hn : Hid (digGo g (n + 1) d2 r1 = digestF ts) := by
              show digGo g (n + 1) d2 r1 = digestF ts
              rw [← hD.out, digGo, Hm1.out]
              simp only [Q3.out, if_true]
              rw [← hD2.out]
              simp only [inGo]
            go_wp2
            go_roundg g
            case measure => omega
            case rel => exact ⟨n + 1, d2, r1, by have := hng'.out; omega, by go_num, hS2, hn⟩
          | succ g2 =>
            have hk4 : k < 4 := by omega
            have hkg' := hide hkg
            clear hkg
            have b1 : 2 * k + 1 < t1.s.size := by omega
            have b2 : 2 * k + 2 < t1.s.size := by omega
            obtain ⟨c1, hc1⟩ : ∃ c, c = byteAt t1.s.toList (2 * k + 1) := ⟨_, rfl⟩
            obtain ⟨c2, hc2⟩ : ∃ c, c = byteAt t1.s.toList (2 * k + 2) := ⟨_, rfl⟩
            have e1 : ∀ W, (Instr.index 9 (.string t1.s) (.int .i64 (2 * (k : Int) + 1))).run Tryz.prog W = .ok (.int .u8 c1) W := fun W => by rw [hc1]; exact run_index_str _ _ _ (by omega) b1 W
            have e2 : ∀ W, (Instr.index 9 (.string t1.s) (.int .i64 (2 * (k : Int) + 2))).run Tryz.prog W = .ok (.int .u8 c2) W := fun W => by rw [hc2]; exact run_index_str _ _ _ (by omega) b2 W
            have w1' : IntKind.i64.wrap (2 * (k : Int)) = 2 * (k : Int) := IntWalk.i64_in _ (by omega)
            have w2' : IntKind.i64.wrap (2 * (k : Int) + 1) = 2 * (k : Int) + 1 := IntWalk.i64_in _ (by omega)
            have w3' : IntKind.i64.wrap (2 * (k : Int) + 2) = 2 * (k : Int) + 2 := IntWalk.i64_in _ (by omega)
            have w4' : IntKind.i64.wrap (4 * (n : Int)) = 4 * (n : Int) := IntWalk.i64_in _ (by omega)
            have w5' : IntKind.i64.wrap (4 * (n : Int) + (k : Int)) = 4 * (n : Int) + (k : Int) := IntWalk.i64_in _ (by omega)
            have hr1 := byteAt_range t1.s.toList (2 * k + 1)
            have hr2 := byteAt_range t1.s.toList (2 * k + 2)
            rw [← hc1] at hr1
            rw [← hc2] at hr2
            have Hc1 := hide hc1
            have Hc2 := hide hc2
            have x0 : wr.cell? ⟨w.heap.size, 4 * n + k, none⟩ = some (.int .u8 (d2 (4 * n + k))) := by rw [cell_of_row _ _ _ _ _ _ (DigS.blk hS2.out)]; exact digArr_get _ _ (by omega)
            have x1 : wr.frozen? ⟨w.heap.size, 4 * n + k, none⟩ = false := frozen_of_row _ _ _ _ _ (DigS.blk hS2.out)
            clear hc1 hc2
            cases hb1 : hexd c1 with
            | none =>
              have HD1 := hide (digit_no hr1.1 hr1.2 hb1)
              have hf : digestF ts = none := by
                rw [← hD.out, digGo, Hm1.out]
                simp only [Q3.out, if_true]
                rw [← hD2.out, inGo, byteF, ← Hc1.out, hb1]
              have HF := hide hf
              clear hb1 hf
              go_wp2_with fail
              refine wp_region_any (by kernel_rfl) ?_
              change wpAny _ _ _ _ _ _ _ (World.drew _)
              refine wpAny_take (i := 0) (v := ?_) rfl (by kernel_rfl) (by kernel_rfl) (by kernel_rfl) (fun _ _ _ h => h) (Or.inl ⟨by rfl, ?_⟩) ?_
              rotate_left
              · intro W
                go_simp
                try (with_reducible rfl)
              refine wpAny_take (i := 1) (v := ?_) rfl (by kernel_rfl) (by kernel_rfl) (by kernel_rfl) (fun _ _ _ h => h) (Or.inl ⟨by rfl, ?_⟩) ?_
              rotate_left
              · intro W
                go_simp
                try (with_reducible rfl)
              refine wpAny_take (i := 2) (v := ?_) rfl (by kernel_rfl) (by kernel_rfl) (by kernel_rfl) (fun _ _ _ h => h) (Or.inl ⟨by rfl, ?_⟩) ?_
              rotate_left
              · intro W
                go_simp
                try (with_reducible rfl)
              refine wpAny_take (i := 3) (v := ?_) rfl (by kernel_rfl) (by kernel_rfl) (by kernel_rfl) (fun _ _ _ h => h) (Or.inl ⟨by rfl, ?_⟩) ?_
              rotate_left
              · intro W
                go_simp
                try (with_reducible rfl)
              refine wpAny_take (i := 4) (v := ?_) rfl (by kernel_rfl) (by kernel_rfl) (by kernel_rfl) (fun _ _ _ h => h) (Or.inl ⟨by rfl, ?_⟩) ?_
              rotate_left
              · intro W
                go_simp
                try (with_reducible rfl)
              refine wpAny_take (i := 5) (v := ?_) rfl (by kernel_rfl) (by kernel_rfl) (by kernel_rfl) (fun _ _ _ h => h) (Or.inl ⟨by rfl, ?_⟩) ?_
              rotate_left
              · intro W
                go_simp
                try (with_reducible rfl)
              refine wpAny_take (i := 6) (v := ?_) rfl (by kernel_rfl) (by kernel_rfl) (by kernel_rfl) (fun _ _ _ h => h) (Or.inl ⟨by rfl, ?_⟩) ?_
              rotate_left
              · intro W
                go_simp
                try (with_reducible rfl)
              refine wpAny_take (i := 7) (v := ?_) rfl (by kernel_rfl) (by kernel_rfl) (by kernel_rfl) (fun _ _ _ h => h) (Or.inl ⟨by rfl, ?_⟩) ?_
              rotate_left
              · intro W
                go_simp
                try (with_reducible rfl)
              refine wpAny_take (i := 8) (v := ?_) rfl (by kernel_rfl) (by kernel_rfl) (by kernel_rfl) (fun _ _ _ h => h) (Or.inl ⟨by rfl, ?_⟩) ?_
              rotate_left
              · intro W
                go_simp
                try (with_reducible rfl)
              refine wpAny_take (i := 11) (v := ?_) rfl (by kernel_rfl) (by kernel_rfl) (by kernel_rfl) (fun _ _ _ h => h) (Or.inl ⟨by rfl, ?_⟩) ?_
              rotate_left
              · intro W
                go_simp
                try (with_reducible rfl)
              refine wpAny_take (i := 12) (v := ?_) rfl (by kernel_rfl) (by kernel_rfl) (by kernel_rfl) (fun _ _ _ h => h) (Or.inl ⟨by rfl, ?_⟩) ?_
              rotate_left
              · intro W
                go_simp
                try (with_reducible rfl)
              refine wpAny_take (i := 13) (v := ?_) rfl (by kernel_rfl) (by kernel_rfl) (by kernel_rfl) (fun _ _ _ h => h) (Or.inl ⟨by rfl, ?_⟩) ?_
              rotate_left
              · intro W
                go_simp
                try (with_reducible rfl)
              refine wpAny_take (i := 14) (v := ?_) rfl (by kernel_rfl) (by kernel_rfl) (by kernel_rfl) (fun _ _ _ h => h) (Or.inl ⟨by rfl, ?_⟩) ?_
              rotate_left
              · intro W
                go_simp
                try (with_reducible rfl)
              refine wpAny_take (i := 15) (v := ?_) rfl (by kernel_rfl) (by kernel_rfl) (by kernel_rfl) (fun _ _ _ h => h) (Or.inl ⟨by rfl, ?_⟩) ?_
              rotate_left
              · intro W
                go_simp
                try (with_reducible rfl)
              refine wpAny_ready (rs := [9]) (by kernel_rfl) (by simp) ?_
              refine AllReady.cons rfl (fun K hK => ?_) AllReady.nil
              go_simp
              refine Calls.mono (HD1.out _) ?_
              rintro e w' ⟨rfl, rfl⟩
              exact ⟨rfl, by rw [HF.out]; exact ⟨rfl, grown_drew (DigS.grown hS2.out)⟩⟩
            | some a =>
              have ra := hexd_range hb1
              have HD1 := hide (digit_yes hr1.1 hr1.2 hb1)
              have Hb1 := hide hb1
              clear hb1
              cases hb2 : hexd c2 with
              | none =>
                have HD2 := hide (digit_no hr2.1 hr2.2 hb2)
                have hf : digestF ts = none := by
                  rw [← hD.out, digGo, Hm1.out]
                  simp only [Q3.out, if_true]
                  rw [← hD2.out, inGo, byteF, ← Hc1.out, Hb1.out, ← Hc2.out, hb2]
                have HF := hide hf
                clear hb2 hf
                go_wp2_with fail
                refine wp_region_any (by kernel_rfl) ?_
                change wpAny _ _ _ _ _ _ _ (World.drew _)
                refine wpAny_take (i := 0) (v := ?_) rfl (by kernel_rfl) (by kernel_rfl) (by kernel_rfl) (fun _ _ _ h => h) (Or.inl ⟨by rfl, ?_⟩) ?_
                rotate_left
                · intro W
                  go_simp
                  try (with_reducible rfl)
                refine wpAny_take (i := 1) (v := ?_) rfl (by kernel_rfl) (by kernel_rfl) (by kernel_rfl) (fun _ _ _ h => h) (Or.inl ⟨by rfl, ?_⟩) ?_
                rotate_left
                · intro W
                  go_simp
                  try (with_reducible rfl)
                refine wpAny_take (i := 2) (v := ?_) rfl (by kernel_rfl) (by kernel_rfl) (by kernel_rfl) (fun _ _ _ h => h) (Or.inl ⟨by rfl, ?_⟩) ?_
                rotate_left
                · intro W
                  go_simp
                  try (with_reducible rfl)
                refine wpAny_take (i := 3) (v := ?_) rfl (by kernel_rfl) (by kernel_rfl) (by kernel_rfl) (fun _ _ _ h => h) (Or.inl ⟨by rfl, ?_⟩) ?_
                rotate_left
                · intro W
                  go_simp
                  try (with_reducible rfl)
                refine wpAny_take (i := 4) (v := ?_) rfl (by kernel_rfl) (by kernel_rfl) (by kernel_rfl) (fun _ _ _ h => h) (Or.inl ⟨by rfl, ?_⟩) ?_
                rotate_left
                · intro W
                  go_simp
                  try (with_reducible rfl)
                refine wpAny_take (i := 5) (v := ?_) rfl (by kernel_rfl) (by kernel_rfl) (by kernel_rfl) (fun _ _ _ h => h) (Or.inl ⟨by rfl, ?_⟩) ?_
                rotate_left
                · intro W
                  go_simp
                  try (with_reducible rfl)
                refine wpAny_take (i := 6) (v := ?_) rfl (by kernel_rfl) (by kernel_rfl) (by kernel_rfl) (fun _ _ _ h => h) (Or.inl ⟨by rfl, ?_⟩) ?_
                rotate_left
                · intro W
                  go_simp
                  try (with_reducible rfl)
                refine wpAny_take (i := 7) (v := ?_) rfl (by kernel_rfl) (by kernel_rfl) (by kernel_rfl) (fun _ _ _ h => h) (Or.inl ⟨by rfl, ?_⟩) ?_
                rotate_left
                · intro W
                  go_simp
                  try (with_reducible rfl)
                refine wpAny_take (i := 8) (v := ?_) rfl (by kernel_rfl) (by kernel_rfl) (by kernel_rfl) (fun _ _ _ h => h) (Or.inl ⟨by rfl, ?_⟩) ?_
                rotate_left
                · intro W
                  go_simp
                  try (with_reducible rfl)
                refine wpAny_take (i := 11) (v := ?_) rfl (by kernel_rfl) (by kernel_rfl) (by kernel_rfl) (fun _ _ _ h => h) (Or.inl ⟨by rfl, ?_⟩) ?_
                rotate_left
                · intro W
                  go_simp
                  try (with_reducible rfl)
                refine wpAny_take (i := 12) (v := ?_) rfl (by kernel_rfl) (by kernel_rfl) (by kernel_rfl) (fun _ _ _ h => h) (Or.inl ⟨by rfl, ?_⟩) ?_
                rotate_left
                · intro W
                  go_simp
                  try (with_reducible rfl)
                refine wpAny_take (i := 13) (v := ?_) rfl (by kernel_rfl) (by kernel_rfl) (by kernel_rfl) (fun _ _ _ h => h) (Or.inl ⟨by rfl, ?_⟩) ?_
                rotate_left
                · intro W
                  go_simp
                  try (with_reducible rfl)
                refine wpAny_take (i := 14) (v := ?_) rfl (by kernel_rfl) (by kernel_rfl) (by kernel_rfl) (fun _ _ _ h => h) (Or.inl ⟨by rfl, ?_⟩) ?_
                rotate_left
                · intro W
                  go_simp
                  try (with_reducible rfl)
                refine wpAny_take (i := 15) (v := ?_) rfl (by kernel_rfl) (by kernel_rfl) (by kernel_rfl) (fun _ _ _ h => h) (Or.inl ⟨by rfl, ?_⟩) ?_
                rotate_left
                · intro W
                  go_simp
                  try (with_reducible rfl)
                refine wpAny_ready (rs := [9]) (by kernel_rfl) (by simp) ?_
                refine AllReady.cons rfl (fun K hK => ?_) AllReady.nil
                go_simp
                refine Calls.mono (HD1.out _) ?_
                rintro e w' ⟨rfl, rfl⟩
                refine hK _ _ ?_
                clear hK K
                refine wpAny_take (i := 10) (v := ?_) rfl (by kernel_rfl) (by kernel_rfl) (by kernel_rfl) (fun _ _ _ h => h) (Or.inl ⟨by rfl, ?_⟩) ?_
                rotate_left
                · intro W
                  go_simp
                  try (with_reducible rfl)
                refine wpAny_ready (rs := [16]) (by kernel_rfl) (by simp) ?_
                refine AllReady.cons rfl (fun K hK => ?_) AllReady.nil
                go_simp
                refine Calls.mono (HD2.out _) ?_
                rintro e w' ⟨rfl, rfl⟩
                exact ⟨rfl, by rw [HF.out]; exact ⟨rfl, grown_drew (DigS.grown hS2.out)⟩⟩
              | some b =>
                have rb := hexd_range hb2
                have HD2 := hide (digit_yes hr2.1 hr2.2 hb2)
                have Hb2 := hide hb2
                have hv := or_u8 ra rb
                have Hstep : Hid (inGo t1.s.toList n (g2 + 1) k d2 = inGo t1.s.toList n g2 (k + 1) (upd d2 (4 * n + k) (16 * a + b))) := by
                  show inGo t1.s.toList n (g2 + 1) k d2 = _
                  rw [inGo, byteF, ← Hc1.out, Hb1.out, ← Hc2.out, hb2]
                clear hb2
                go_wp2_with fail
                go_region_with (first
                  | (go_at_call 129; (with_reducible refine Calls.mono (HD1.out _) ?_); rintro e w' ⟨rfl, rfl⟩)
                  | (go_at_call 129; (with_reducible refine Calls.mono (HD2.out _) ?_); rintro e w' ⟨rfl, rfl⟩))
                all_goals go_wp2
                all_goals go_roundg g2
                all_goals first
                  | omega
                  | exact ⟨k + 1, upd d2 (4 * n + k) (16 * a + b), by have := hkg'.out; omega, by go_num, DigS.set hS2.out hI0.out (by omega) _, by rw [← Hstep.out]; exact hD2.out⟩
end Go.Proofs.YtbojlnbdkaanmaaGreatDoor
