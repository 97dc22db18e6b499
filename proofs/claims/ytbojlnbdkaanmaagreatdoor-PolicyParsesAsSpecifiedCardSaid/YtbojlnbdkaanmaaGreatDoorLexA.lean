/-
  The program's lexer, part A: letter, digit, within, prefix, at.
-/
import Derived.Test.YtbojlnbdkaanmaaGreatDoorDep
import Derived.Test.YtbojlnbdkaanmaaGreatDoorParC
import Derived.Lib.OthersKept
set_option linter.unusedVariables false
set_option linter.unusedSimpArgs false
namespace Go.Proofs.YtbojlnbdkaanmaaGreatDoor
open Go.RowKit

def isLet (c : Int) : Bool := (decide (97 ≤ c) && decide (c ≤ 122)) || (decide (65 ≤ c) && decide (c ≤ 90))
def isDig (c : Int) : Bool := decide (48 ≤ c) && decide (c ≤ 57)
def isWit (c : Int) : Bool := isLet c || isDig c || decide (c = 95)

set_option maxHeartbeats 400000 in
theorem letter_any (w : World) (c : Int) : Calls Tryz.prog 45 #[.int .i32 c] w fun e w' => e = .returned (.bool (isLet c)) ∧ w = w' := by
  go_enter Tryz.func45, Tryz.ntmps45
  go_wp2
  all_goals go_ret
  all_goals (refine ⟨?_, rfl⟩; simp_all [isLet])
  all_goals try omega

set_option maxHeartbeats 400000 in
theorem ldigit_any (w : World) (c : Int) : Calls Tryz.prog 48 #[.int .i32 c] w fun e w' => e = .returned (.bool (isDig c)) ∧ w = w' := by
  go_enter Tryz.func48, Tryz.ntmps48
  go_wp2
  all_goals go_ret
  all_goals (refine ⟨?_, rfl⟩; simp_all [isDig])
  all_goals try omega

set_option maxHeartbeats 400000 in
theorem within_any (w : World) (c : Int) : Calls Tryz.prog 47 #[.int .i32 c] w fun e w' => e = .returned (.bool (isWit c)) ∧ w = w' := by
  go_enter Tryz.func47, Tryz.ntmps47
  go_wp2_with (first | (go_at_call 45; refine (letter_any _ _).mono ?_; rintro e w1 ⟨rfl, rfl⟩) | (go_at_call 48; refine (ldigit_any _ _).mono ?_; rintro e w1 ⟨rfl, rfl⟩))
  all_goals go_ret
  all_goals (refine ⟨?_, rfl⟩; simp_all [isWit])
  rfl

/-- How many bytes at the front satisfy a predicate. -/
def pre (p : Int → Bool) (l : List UInt8) : Nat := (l.takeWhile fun b => p b.toNat).length
theorem pre_le (p : Int → Bool) (l : List UInt8) : pre p l ≤ l.length := (List.takeWhile_sublist _).length_le
theorem pre_at (p : Int → Bool) : ∀ (l : List UInt8) (k : Nat), (∀ i b, i < k → l[i]? = some b → p b.toNat = true) → (∀ b, l[k]? = some b → p b.toNat = false) → k ≤ l.length → pre p l = k
  | [], k, _, _, hk => by simp at hk; subst hk; rfl
  | b :: l, 0, _, h, _ => by simp [pre, h b rfl]
  | b :: l, k + 1, h0, h1, hk => by
    have hb := h0 0 b (by omega) rfl
    have := pre_at p l k (fun i c hi hc => h0 (i + 1) c (by omega) (by simpa using hc)) (fun c hc => h1 c (by simpa using hc)) (by simpa using hk)
    simp only [pre, List.takeWhile_cons, hb] at this ⊢
    simpa using this


theorem get_toList (s : ByteArray) (i : Nat) (h : i < s.size) : s.toList[i]? = some (s[i]'h) := by
  have hl : i < s.toList.length := by rw [toList_len]; exact h
  rw [List.getElem?_eq_getElem hl]
  have := toList_get s i h
  rw [List.getD_eq_getElem?_getD, List.getElem?_eq_getElem hl] at this
  simpa using this
theorem iterPos_iter (w : World) (s : ByteArray) (pos : Nat) : (w.iter s pos).iterPos w.heap.size = pos := by simp [World.iterPos, World.iter_heap]
theorem pre_stop {p : Int → Bool} {s : ByteArray} {pos : Nat} (hlt : pos < s.size) (hall : ∀ i b, i < pos → s.toList[i]? = some b → p b.toNat = true) (h : p (s[pos]'hlt).toNat = false) : pre p s.toList = pos :=
  pre_at p _ pos hall (fun b hb => by rw [get_toList s pos hlt] at hb; cases hb; exact h) (by rw [toList_len]; omega)
theorem pre_all {p : Int → Bool} {s : ByteArray} (hall : ∀ i b, i < s.size → s.toList[i]? = some b → p b.toNat = true) : pre p s.toList = s.size :=
  pre_at p _ _ hall (fun b hb => by rw [List.getElem?_eq_none (by rw [toList_len]; omega)] at hb; cases hb) (by rw [toList_len]; omega)
theorem all_more {p : Int → Bool} {s : ByteArray} {pos : Nat} (hlt : pos < s.size) (hall : ∀ i b, i < pos → s.toList[i]? = some b → p b.toNat = true) (h : p (s[pos]'hlt).toNat = true) :
    ∀ i b, i < pos + 1 → s.toList[i]? = some b → p b.toNat = true := by
  intro i b hi hb
  rcases Nat.lt_or_ge i pos with q | q
  · exact hall i b q hb
  · obtain rfl : i = pos := by omega
    rw [get_toList s i hlt] at hb
    cases hb
    exact h
theorem wit_high {c : Int} (h : 128 ≤ c) : isWit c = false := by simp [isWit, isLet, isDig]; omega
theorem dig_high {c : Int} (h : 128 ≤ c) : isDig c = false := by simp [isDig]; omega
theorem below_iter (w : World) (s : ByteArray) (pos : Nat) : Below w.heap.size w (w.iter s pos) := (Below.refl _ w).alloc (Nat.le_refl _) _

set_option maxHeartbeats 1000000 in
theorem prefix_wit (w : World) (s : ByteArray) (hs : s.size ≤ 1000000) : Calls Tryz.prog 46 #[.string s, .func (.func 47) #[] #[]] w fun e w' =>
    e = .returned (.int .i64 (pre isWit s.toList)) ∧ Below w.heap.size w w' := by
  go_enter Tryz.func46, Tryz.ntmps46
  go_wp2
  go_loopw [] (fun wr => ∃ pos, wr = w.iter s pos ∧ pos ≤ s.size ∧ ∀ i b, i < pos → s.toList[i]? = some b → isWit b.toNat = true) (fun wr => s.size - wr.iterPos w.heap.size)
  case atStart => exact ⟨0, rfl, Nat.zero_le _, fun i b h => by omega⟩
  case round =>
    obtain ⟨pos, rfl, hp, hall⟩ := hrel
    by_cases hlt : pos < s.size
    · by_cases ha : (s[pos]'hlt).toNat < 128
      · have hnx : ∀ ty, (Instr.next (.pointer (some ⟨w.heap.size, 0, none⟩)) true ty).run Tryz.prog (w.iter s pos) = _ := fun ty => run_next_ascii w s pos ty hlt ha
        go_wp2_with (go_at_call 47; refine (within_any _ _).mono ?_; rintro e w1 ⟨rfl, rfl⟩)
        · rename_i hq
          go_ret
          refine ⟨?_, below_iter w s _⟩
          rw [pre_stop hlt hall (by simpa using hq)]; rfl
        · rename_i hq
          refine ⟨⟨pos + 1, rfl, by omega, all_more hlt hall (by simpa using hq)⟩, ?_⟩
          rw [iterPos_iter, iterPos_iter]
          omega
      · have hnx : ∀ ty, (Instr.next (.pointer (some ⟨w.heap.size, 0, none⟩)) true ty).run Tryz.prog (w.iter s pos) = _ := fun ty => run_next_any w s pos ty hlt
        have hh := decode_high s pos hlt (by omega)
        have hf : isWit ((Utf8.decode s pos).1 : Int) = false := wit_high (by omega)
        go_wp2_with (go_at_call 47; refine (within_any _ _).mono ?_; rintro e w1 ⟨rfl, rfl⟩)
        go_ret
        refine ⟨?_, below_iter w s _⟩
        rw [pre_stop hlt hall (wit_high (by omega))]; rfl
    · have hnx : ∀ ty, (Instr.next (.pointer (some ⟨w.heap.size, 0, none⟩)) true ty).run Tryz.prog (w.iter s pos) = _ := fun ty => run_next_end w s pos ty hlt
      obtain rfl : pos = s.size := by omega
      go_wp2
      go_ret
      refine ⟨?_, below_iter w s _⟩
      rw [pre_all hall]; rfl

set_option maxHeartbeats 1000000 in
theorem prefix_dig (w : World) (s : ByteArray) (hs : s.size ≤ 1000000) : Calls Tryz.prog 46 #[.string s, .func (.func 48) #[] #[]] w fun e w' =>
    e = .returned (.int .i64 (pre isDig s.toList)) ∧ Below w.heap.size w w' := by
  go_enter Tryz.func46, Tryz.ntmps46
  go_wp2
  go_loopw [] (fun wr => ∃ pos, wr = w.iter s pos ∧ pos ≤ s.size ∧ ∀ i b, i < pos → s.toList[i]? = some b → isDig b.toNat = true) (fun wr => s.size - wr.iterPos w.heap.size)
  case atStart => exact ⟨0, rfl, Nat.zero_le _, fun i b h => by omega⟩
  case round =>
    obtain ⟨pos, rfl, hp, hall⟩ := hrel
    by_cases hlt : pos < s.size
    · by_cases ha : (s[pos]'hlt).toNat < 128
      · have hnx : ∀ ty, (Instr.next (.pointer (some ⟨w.heap.size, 0, none⟩)) true ty).run Tryz.prog (w.iter s pos) = _ := fun ty => run_next_ascii w s pos ty hlt ha
        go_wp2_with (go_at_call 48; refine (ldigit_any _ _).mono ?_; rintro e w1 ⟨rfl, rfl⟩)
        · rename_i hq
          go_ret
          refine ⟨?_, below_iter w s _⟩
          rw [pre_stop hlt hall (by simpa using hq)]; rfl
        · rename_i hq
          refine ⟨⟨pos + 1, rfl, by omega, all_more hlt hall (by simpa using hq)⟩, ?_⟩
          rw [iterPos_iter, iterPos_iter]
          omega
      · have hnx : ∀ ty, (Instr.next (.pointer (some ⟨w.heap.size, 0, none⟩)) true ty).run Tryz.prog (w.iter s pos) = _ := fun ty => run_next_any w s pos ty hlt
        have hh := decode_high s pos hlt (by omega)
        have hf : isDig ((Utf8.decode s pos).1 : Int) = false := dig_high (by omega)
        go_wp2_with (go_at_call 48; refine (ldigit_any _ _).mono ?_; rintro e w1 ⟨rfl, rfl⟩)
        go_ret
        refine ⟨?_, below_iter w s _⟩
        rw [pre_stop hlt hall (dig_high (by omega))]; rfl
    · have hnx : ∀ ty, (Instr.next (.pointer (some ⟨w.heap.size, 0, none⟩)) true ty).run Tryz.prog (w.iter s pos) = _ := fun ty => run_next_end w s pos ty hlt
      obtain rfl : pos = s.size := by omega
      go_wp2
      go_ret
      refine ⟨?_, below_iter w s _⟩
      rw [pre_all hall]; rfl

/-- The offset after the last token. -/
def atF (ts : List Tok) : Int := match ts.getLast? with | none => 0 | some t => t.p + t.s.size
set_option maxHeartbeats 400000 in
theorem at_any (w : World) (A : Option Addr) (c : Nat) (ts : List Tok) (hl : ts.length ≤ 1000000) (h : Toks w w.heap.size A ts) (hr : 0 ≤ atF ts ∧ atF ts ≤ 1000000) :
    Calls Tryz.prog 44 #[.slice A ts.length c] w fun e w' => e = .returned (.int .i64 (atF ts)) ∧ Below w.heap.size w w' := by
  go_enter Tryz.func44, Tryz.ntmps44
  cases hx : ts with
  | nil =>
    go_wp2
    go_ret
    exact ⟨rfl, Below.refl _ _⟩
  | cons t r =>
    have hlen : ts.length = r.length + 1 := by rw [hx]; rfl
    have hk : r.length < ts.length := by omega
    obtain ⟨b, off, rfl, hbB, c0, c1, c2, c3⟩ := h.at_ hk
    have hq : atF ts = ts[r.length].p + ts[r.length].s.size := by
      unfold atF
      rw [List.getLast?_eq_getElem?, hlen, Nat.add_sub_cancel, List.getElem?_eq_getElem hk]
    rw [hq] at hr
    rw [← hx, hq]
    clear hx
    go_wp2
    go_ret
    exact ⟨rfl, (Below.refl _ w).alloc (Nat.le_refl _) _⟩
end Go.Proofs.YtbojlnbdkaanmaaGreatDoor
