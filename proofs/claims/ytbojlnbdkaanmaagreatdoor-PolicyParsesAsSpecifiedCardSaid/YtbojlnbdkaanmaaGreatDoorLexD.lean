/-
  The program's lexer, part D: Tokens.
-/
import Derived.Test.YtbojlnbdkaanmaaGreatDoorLexC
import Derived.WalkMore
set_option linter.unusedVariables false
set_option linter.unusedSimpArgs false
namespace Go.Proofs.YtbojlnbdkaanmaaGreatDoor
open Go.RowKit

/-- The error and the tokens of a text. -/
def lexR (s : ByteArray) : Int × List Tok := if 1500 < s.size then (2, []) else match lexF s with | none => (3, []) | some ts => (0, ts)
/-- What Tokens leaves. -/
def PostL (w : World) (s : ByteArray) (e : Ending) (w' : World) : Prop :=
  Below w.heap.size w w' ∧ ∃ A c, e = .returned (.tuple #[.slice A (lexR s).2.length c, .int .i64 (lexR s).1]) ∧ Toks w' w'.heap.size A (lexR s).2 ∧ (lexR s).2.length ≤ c ∧ c ≤ 9223372036854775807 ∧ (lexR s).2.length ≤ s.size
theorem PostL.bad {w w' : World} {s : ByteArray} (hb : Below w.heap.size w w') (hs : ¬ 1500 < s.size) (h : lexF s = none) : PostL w s (.returned (.tuple #[.slice none 0 0, .int .i64 3])) w' := by
  refine ⟨hb, none, 0, ?_, ?_, ?_, by omega, ?_⟩ <;> simp [lexR, hs, h, Toks.nil_]
theorem PostL.big {w : World} {s : ByteArray} (hs : 1500 < s.size) : PostL w s (.returned (.tuple #[.slice none 0 0, .int .i64 2])) w := by
  refine ⟨Below.refl _ _, none, 0, ?_, ?_, ?_, by omega, ?_⟩ <;> simp [lexR, hs, Toks.nil_]
theorem PostL.good {w wr : World} {s : ByteArray} {v : Value} {acc : List Tok} {l : List UInt8} (h : LxS w s wr v acc l) (hs : ¬ 1500 < s.size) (ht : trimF l = []) : PostL w s (.returned (.tuple #[v, .int .i64 0])) wr := by
  have hl := h.stop ht
  obtain ⟨A, c, rfl, hc1, hc2, hrow, _⟩ := Row.of_own h.1 (by simp) (fun cs hcs => by
    obtain ⟨t, _, rfl⟩ := List.mem_map.1 hcs
    rfl)
  obtain ⟨_, _, p, hp, hps, _, hap, _⟩ := h
  have e : lexR s = (0, acc) := by simp [lexR, hs, hl]
  rw [PostL, e]
  exact ⟨by assumption, A, c, rfl, hrow, hc1, by simpa [maxLen] using hc2, by simpa using Nat.le_trans hap hps⟩

theorem LxS.reads {w wr : World} {s : ByteArray} {v : Value} {acc : List Tok} {l : List UInt8} (h : LxS w s wr v acc l) :
    ∃ A c, v = .slice A acc.length c ∧ Toks wr wr.heap.size A acc ∧ ∃ p : Nat, atF acc = p ∧ p ≤ s.size ∧ l = s.toList.drop p ∧ acc.length ≤ p := by
  obtain ⟨A, c, rfl, hc1, hc2, hrow, _⟩ := Row.of_own h.1 (by simp) (fun cs hcs => by
    obtain ⟨t, _, rfl⟩ := List.mem_map.1 hcs
    rfl)
  obtain ⟨_, _, p, hp, hps, hl, hap, _⟩ := h
  exact ⟨A, c, rfl, hrow, p, hp, hps, hl, hap⟩

theorem LxS.frame {w wr : World} {s : ByteArray} {v : Value} {acc : List Tok} {l : List UInt8} (h : LxS w s wr v acc l) : Below w.heap.size w wr := h.2.1
theorem LxS.grown {w wr W W1 : World} {s : ByteArray} {v v1 : Value} {acc : List Tok} {l : List UInt8} {t : Tok} {o : Obj} (h : LxS w s wr v acc l) (hW : Below wr.heap.size wr W)
    (ht : stepF ((s.size - (trimF l).length : Nat) : Int) (trimF l) = some t) (hown : W1.ownsRow w.heap.size 62 4 v1 (acc.length + 1) ((acc.map Tok.cells).flatten ++ t.cells)) (hg : (W.alloc o).grownBy W1 v.ownBlock) :
    LxS w s W1 v1 (acc ++ [t]) ((trimF l).drop t.s.size) ∧ ((trimF l).drop t.s.size).length < l.length := by
  refine h.step ht hown ?_
  have h1 : Below w.heap.size w (W.alloc o) := ((h.keep hW).2.1).alloc ((h.keep hW).2.1.size) o
  refine h1.grown hg h1.size fun g hgk => ?_
  exact (h.1.lt g hgk).1

theorem hasP (S : ByteArray) (o : List UInt8) (W : World) : Calls Tryz.prog 51 #[.string S, .string ⟨o.toArray⟩] W fun e w' => e = .returned (.bool (o.isPrefixOf S.toList)) ∧ W = w' := by
  refine (Tryz.strings_HasPrefix S ⟨o.toArray⟩ W).mono ?_
  rintro e w' ⟨rfl, rfl⟩
  refine ⟨?_, rfl⟩
  rw [toList_data]
  rfl
theorem find_go (l : List UInt8) (o : List UInt8) : ∀ (xs : List (List UInt8)) (j : Nat), xs[j]? = some o → (∀ q x, q < j → xs[q]? = some x → x.isPrefixOf l = false) → o.isPrefixOf l = true → xs.find? (·.isPrefixOf l) = some o
  | [], j, h, _, _ => by simp at h
  | x :: xs, 0, h, _, hp => by
    simp at h
    subst h
    simp [hp]
  | x :: xs, j + 1, h, hn, hp => by
    have h0 := hn 0 x (by omega) rfl
    rw [List.find?_cons, h0]
    exact find_go l o xs j (by simpa using h) (fun q y hq hy => hn (q + 1) y (by omega) (by simpa using hy)) hp
theorem getD_of {xs : List (List UInt8)} {q : Nat} {x : List UInt8} (h : xs[q]? = some x) : xs.getD q [] = x := by rw [List.getD_eq_getElem?_getD, h]; rfl
theorem find_at {l : List UInt8} (j : Nat) (hj : j < 15) (o : List UInt8) (ho : ops.getD j [] = o) (hn : ∀ q, q < j → (ops.getD q []).isPrefixOf l = false) (hp : o.isPrefixOf l = true) : ops.find? (·.isPrefixOf l) = some o := by
  refine find_go l o ops j ?_ (fun q x hq hx => by rw [← getD_of hx]; exact hn q hq) hp
  have hl : j < ops.length := by simpa [ops] using hj
  rw [List.getElem?_eq_getElem hl]
  rw [List.getD_eq_getElem?_getD, List.getElem?_eq_getElem hl] at ho
  simpa using ho
theorem find_none {l : List UInt8} (hn : ∀ q, q < 15 → (ops.getD q []).isPrefixOf l = false) : ops.find? (·.isPrefixOf l) = none := by
  rw [List.find?_eq_none]
  intro x hx
  obtain ⟨q, hq, rfl⟩ := List.getElem_of_mem hx
  have := hn q (by simpa [ops] using hq)
  rw [getD_of (List.getElem?_eq_getElem hq)] at this
  simp [this]
theorem no_more {l o : List UInt8} {j : Nat} (h : ∀ q, q < j → (ops.getD q []).isPrefixOf l = false) (ho : ops.getD j [] = o) (hp : o.isPrefixOf l = false) : ∀ q, q < j + 1 → (ops.getD q []).isPrefixOf l = false := by
  intro q hq
  rcases Nat.lt_or_ge q j with h1 | h1
  · exact h q h1
  · obtain rfl : q = j := by omega
    rw [ho]
    exact hp

set_option maxRecDepth 100000 in
set_option maxHeartbeats 4000000 in
theorem tokens_any (w : World) (s : ByteArray) (hE : Env w) (hs : s.size ≤ 1000000) : Calls Tryz.prog 25 #[.string s] w (PostL w s) := by
  by_cases hbig : 1500 < s.size
  · go_enter Tryz.func25, Tryz.ntmps25
    go_wp2
    go_step3
    go_wp2
    try rw [Exit.noGoto_ret]
    refine bodyPost_ret (results_tmp2 Tryz.results25 _ _ _) rfl ?_
    exact PostL.big hbig
  · go_enter Tryz.func25, Tryz.ntmps25
    go_wp2
    go_step3
    go_wp2
    go_step3
    go_wp2
    go_loopg [4] (s.size + 1) (fun g v wr => ∃ acc l, l.length < g ∧ Hid (LxS w s wr v acc l))
    case atStart => exact ⟨[], s.toList, by rw [toList_len]; omega, LxS.start w s⟩
    case round =>
      obtain ⟨acc, l, hlg, hS⟩ := hrel
      cases gk with
      | zero => omega
      | succ g =>
        obtain ⟨A, c, rfl, hT, p, hp, hps, hl, hap⟩ := hS.out.reads
        have hsub : (s.extract p s.size).toList = l := by rw [hl, toList_extract, List.take_of_length_le (by rw [toList_len]; exact Nat.le_refl _)]
        have hat := at_any wr A c acc (by omega) hT (by omega)
        rw [hp] at hat
        obtain ⟨S, hSv⟩ : ∃ S, S = (⟨(trimF l).toArray⟩ : ByteArray) := ⟨_, rfl⟩
        have hSl : S.toList = trimF l := by rw [hSv, toList_mk]
        have hSz : S.size = (trimF l).length := by rw [← toList_len, hSl]
        have htr := fun W => trim_any (s.extract p s.size) W
        rw [hsub, ← hSv] at htr
        have hSs : S.size ≤ s.size := by
          have h1 := trimF_le l
          have h2 : l.length = s.size - p := by rw [hl, List.length_drop, toList_len]
          omega
        have Hat := hide hat
        have Htr := hide htr
        have HSl := hide hSl
        have HSz := hide hSz
        have Hl := hide hl
        clear hat htr hsub hSv hT hp hSl hSz hl
        by_cases hne : trimF l = []
        · have he : S.toList = [] := by rw [HSl.out, hne]
          go_wp2_with (first
            | (go_at_call 44; (with_reducible refine Calls.mono Hat.out ?_); rintro e w1 ⟨rfl, hb1⟩; have HB := hide hb1; clear hb1)
            | (go_at_call 43; (with_reducible refine Calls.mono (Htr.out _) ?_); rintro e w2 ⟨rfl, hb2⟩; have HC := hide (below_then HB.out HB.out.size hb2); clear hb2))
          rw [Exit.noGoto_ret]
          refine bodyPost_ret (results_tmp2 Tryz.results25 _ _ _) rfl ?_
          exact PostL.good (hS.out.keep HC.out) hbig hne
        · obtain ⟨c0, r0, hx⟩ : ∃ c0 r0, trimF l = c0 :: r0 := by
            cases h : trimF l with
            | nil => exact absurd h hne
            | cons a b => exact ⟨a, b, rfl⟩
          have he : S.toList.isEmpty = false := by rw [HSl.out, hx]; rfl
          have h0 : 0 < S.size := by rw [HSz.out, hx]; simp
          have h0' : S[0]'h0 = c0 := by
            have := get_toList S 0 h0
            rw [HSl.out, hx] at this
            simpa using this.symm
          have hw : wrap32 ((S[0]'h0).toNat : Int) = (c0.toNat : Int) := by rw [h0']; have := c0.toNat_lt; unfold wrap32; omega
          have Hx := hide hx
          have H0' := hide h0'
          have Hne := hide hne
          clear hx h0' hne
          have hst : (s.size : Int) - S.size = ((s.size - (trimF l).length : Nat) : Int) := by rw [HSz.out] at hSs ⊢; omega
          have Hst := hide hst
          clear hst
          have hpv : acc.length + 1 ≤ 1501 := by omega
          obtain ⟨i0, hi0, hz0, hz1, hz2⟩ := info_parts info62
          by_cases hlet : isLet (c0.toNat : Int) = true
          · have hpre := fun W => prefix_wit W S (by omega)
            obtain ⟨k, hk⟩ : ∃ k, k = pre isWit S.toList := ⟨_, rfl⟩
            rw [← hk] at hpre
            have hkS : k ≤ S.size := by rw [hk, ← toList_len]; exact pre_le _ _
            have Hpre := hide hpre
            have Hk := hide hk
            clear hpre hk
            by_cases h12 : 12 < k
            · have hbad : stepF ((s.size - (trimF l).length : Nat) : Int) (trimF l) = none := by
                have hk := Hk.out
                rw [HSl.out, Hx.out] at hk
                rw [Hx.out, stepF, if_pos hlet, if_pos (by rw [← hk]; exact h12)]
              have Hbad := hide hbad
              clear hbad
              go_wp2_with (first
                | (go_at_call 44; (with_reducible refine Calls.mono Hat.out ?_); rintro e w1 ⟨rfl, hb1⟩; have HB := hide hb1; clear hb1)
                | (go_at_call 43; (with_reducible refine Calls.mono (Htr.out _) ?_); rintro e w2 ⟨rfl, hb2⟩; have HC := hide (below_then HB.out HB.out.size hb2); clear hb2)
                | (go_at_call 45; (with_reducible refine Calls.mono (letter_any _ _) ?_); rintro e w3 ⟨rfl, rfl⟩)
                | (go_at_call 46; (with_reducible refine Calls.mono (Hpre.out _) ?_); rintro e w4 ⟨rfl, hb4⟩; have HD := hide (below_then HC.out HC.out.size hb4); clear hb4))
              rw [Exit.noGoto_ret]
              refine bodyPost_ret (results_tmp2 Tryz.results25 _ _ _) rfl ?_
              exact PostL.bad (hS.out.keep HD.out).2.1 hbig (hS.out.bad Hne.out Hbad.out)
            · have htok : stepF ((s.size - (trimF l).length : Nat) : Int) (trimF l) = some ⟨1, S.extract 0 k, 0, (s.size : Int) - S.size⟩ := by
                rw [extract_take, HSl.out, Hst.out]
                have hk := Hk.out
                rw [HSl.out, Hx.out] at hk
                rw [Hx.out, stepF, if_pos hlet, if_neg (by rw [← hk]; exact h12), hk]
              have Htok := hide htok
              clear htok
              go_wp2_with (first
                | (go_at_call 44; (with_reducible refine Calls.mono Hat.out ?_); rintro e w1 ⟨rfl, hb1⟩; have HB := hide hb1; clear hb1)
                | (go_at_call 43; (with_reducible refine Calls.mono (Htr.out _) ?_); rintro e w2 ⟨rfl, hb2⟩; have HC := hide (below_then HB.out HB.out.size hb2); clear hb2)
                | (go_at_call 45; (with_reducible refine Calls.mono (letter_any _ _) ?_); rintro e w3 ⟨rfl, rfl⟩)
                | (go_at_call 46; (with_reducible refine Calls.mono (Hpre.out _) ?_); rintro e w4 ⟨rfl, hb4⟩; have HD := hide (below_then HC.out HC.out.size hb4); clear hb4)
                | (at_builtin; refine wpList_append_lies _ rfl (.tmp 39) (.tmp 45) 29 rfl w.heap.size 62 i0 _ 4 40 Tryz.underlying29 hi0 hz0 hz1 hz2 rfl (by decide) _ acc.length _ rfl ((hS.out.keep HD.out).1.alloc _) ⟨_, 0, none⟩ 1 1 (Tok.cells ⟨1, S.extract 0 k, 0, (s.size : Int) - S.size⟩) rfl rfl (World.news_of_block (cs := (Tok.cells ⟨1, S.extract 0 k, 0, (s.size : Int) - S.size⟩).toArray) (t := 62) (heap_alloc_new _ _)) (by intro u hu; simp [Tok.cells] at hu; rcases hu with rfl | rfl | rfl | rfl <;> rfl) (by decide) (by unfold maxLen; omega) (by omega) (Nat.le_trans (hS.out.keep HD.out).frame.size (by simp)) _ rfl ?_; intro g1 cap1 W1 hown1 hgr1 _ _; have HX := hide (hS.out.grown HD.out Htok.out hown1 hgr1); clear hown1 hgr1))
              go_roundg g
              case measure => omega
              case rel => exact ⟨_, _, Nat.lt_of_lt_of_le HX.out.2 (by omega), HX.out.1⟩
          · by_cases hdig : isDig (c0.toNat : Int) = true
            · obtain ⟨k, hk⟩ : ∃ k, pre isDig S.toList = k := ⟨_, rfl⟩
              obtain ⟨d, hd⟩ : ∃ d : Int, d = (decV (S.toList.take k) : Nat) := ⟨_, rfl⟩
              obtain ⟨ok, hok⟩ : ∃ ok, ok = (numOk (S.toList.take k) && !follows (S.toList.drop k)) := ⟨_, rfl⟩
              have hnum := fun W (hW : Env W) => number_any W S hW (by omega) c0 r0 (by rw [HSl.out, Hx.out]) hdig k hk d hd ok hok
              have hstep : stepF ((s.size - (trimF l).length : Nat) : Int) (trimF l) = if ok = true then some ⟨2, S.extract 0 k, d, (s.size : Int) - S.size⟩ else none := by
                rw [extract_take, Hst.out, hok, hd, ← hk, HSl.out, Hx.out, stepF, if_neg hlet, if_pos hdig]
              rw [← extract_take] at hnum
              have Hnum := hide hnum
              have Hstep := hide hstep
              clear hk hd hok hnum hstep
              cases ok with
              | false =>
                go_wp2_with (first
                  | (go_at_call 44; (with_reducible refine Calls.mono Hat.out ?_); rintro e w1 ⟨rfl, hb1⟩; have HB := hide hb1; clear hb1)
                  | (go_at_call 43; (with_reducible refine Calls.mono (Htr.out _) ?_); rintro e w2 ⟨rfl, hb2⟩; have HC := hide (below_then HB.out HB.out.size hb2); clear hb2)
                  | (go_at_call 45; (with_reducible refine Calls.mono (letter_any _ _) ?_); rintro e w3 ⟨rfl, rfl⟩)
                  | (go_at_call 48; (with_reducible refine Calls.mono (ldigit_any _ _) ?_); rintro e w3 ⟨rfl, rfl⟩)
                  | (go_at_call 49; (with_reducible refine Calls.mono (Hnum.out _ (hE.below (hS.out.keep HC.out).frame)) ?_); rintro e w5 ⟨hb5, n, rfl, hn5⟩; have HD := hide (below_then HC.out HC.out.size hb5); clear hb5 hn5))
                rw [Exit.noGoto_ret]
                refine bodyPost_ret (results_tmp2 Tryz.results25 _ _ _) rfl ?_
                have := (hS.out.keep HD.out).2.1
                exact PostL.bad (this.alloc this.size _) hbig (hS.out.bad Hne.out Hstep.out)
              | true =>
                have Htok := Hstep
                go_wp2_with (first
                  | (go_at_call 44; (with_reducible refine Calls.mono Hat.out ?_); rintro e w1 ⟨rfl, hb1⟩; have HB := hide hb1; clear hb1)
                  | (go_at_call 43; (with_reducible refine Calls.mono (Htr.out _) ?_); rintro e w2 ⟨rfl, hb2⟩; have HC := hide (below_then HB.out HB.out.size hb2); clear hb2)
                  | (go_at_call 45; (with_reducible refine Calls.mono (letter_any _ _) ?_); rintro e w3 ⟨rfl, rfl⟩)
                  | (go_at_call 48; (with_reducible refine Calls.mono (ldigit_any _ _) ?_); rintro e w3 ⟨rfl, rfl⟩)
                  | (go_at_call 49; (with_reducible refine Calls.mono (Hnum.out _ (hE.below (hS.out.keep HC.out).frame)) ?_); rintro e w5 ⟨hb5, n, rfl, hn5⟩; obtain rfl := hn5 (by trivial); have HD := hide ((below_then HC.out HC.out.size hb5).alloc (below_then HC.out HC.out.size hb5).size (.cells #[.int .i64 2, .string (S.extract 0 k), .int .i64 n, .int .i64 ((s.size : Int) - S.size)] 62)); clear hb5 hn5)
                  | (at_builtin; refine wpList_append_lies _ rfl (.tmp 59) (.tmp 61) 29 rfl w.heap.size 62 i0 _ 4 40 Tryz.underlying29 hi0 hz0 hz1 hz2 rfl (by decide) _ acc.length _ rfl ((hS.out.keep HD.out).1.alloc _) ⟨_, 0, none⟩ 1 1 (Tok.cells ⟨2, S.extract 0 k, n, (s.size : Int) - S.size⟩) rfl rfl (World.news_of_block (cs := (Tok.cells ⟨2, S.extract 0 k, n, (s.size : Int) - S.size⟩).toArray) (t := 62) (heap_alloc2_new _ _ _)) (by intro u hu; simp [Tok.cells] at hu; rcases hu with rfl | rfl | rfl | rfl <;> rfl) (by decide) (by unfold maxLen; omega) (by omega) (Nat.le_trans (hS.out.keep HD.out).frame.size (by simp)) _ rfl ?_; intro g1 cap1 W1 hown1 hgr1 _ _; have HX := hide (hS.out.grown HD.out Htok.out hown1 hgr1); clear hown1 hgr1))
                go_roundg g
                case measure => omega
                case rel => exact ⟨_, _, Nat.lt_of_lt_of_le HX.out.2 (by omega), HX.out.1⟩
            · have hstep : stepF ((s.size - (trimF l).length : Nat) : Int) (trimF l) = (ops.find? (·.isPrefixOf (trimF l))).map fun o => ⟨3, ⟨o.toArray⟩, 0, (s.size : Int) - S.size⟩ := by
                rw [Hst.out, Hx.out, stepF, if_neg hlet, if_neg hdig]
              have Hstep := hide hstep
              clear hstep
              go_wp2_with (first
                | (go_at_call 44; (with_reducible refine Calls.mono Hat.out ?_); rintro e w1 ⟨rfl, hb1⟩; have HB := hide hb1; clear hb1)
                  | (go_at_call 43; (with_reducible refine Calls.mono (Htr.out _) ?_); rintro e w2 ⟨rfl, hb2⟩; have HC := hide (below_then HB.out HB.out.size hb2); clear hb2)
                  | (go_at_call 45; (with_reducible refine Calls.mono (letter_any _ _) ?_); rintro e w3 ⟨rfl, rfl⟩)
                  | (go_at_call 48; (with_reducible refine Calls.mono (ldigit_any _ _) ?_); rintro e w3 ⟨rfl, rfl⟩)
                | (go_at_call 50; (with_reducible refine Calls.mono (operators_any _) ?_); rintro e w5 ⟨rfl, hb5⟩; have HD := hide (below_then HC.out HC.out.size hb5); clear hb5))
              go_loopg [4, 64] 16 (fun g2 v i wr2 => ∃ j : Nat, v = .slice A acc.length c ∧ i = .int .i64 j ∧ j ≤ 15 ∧ 15 < g2 + j ∧ wr2 = w5 ∧ Hid (∀ q, q < j → (ops.getD q []).isPrefixOf (trimF l) = false))
              case atStart => exact ⟨0, rfl, rfl, by omega, by omega, rfl, fun q hq => by omega⟩
              case round =>
                obtain ⟨j, rfl, rfl, hj, hg2, rfl, Hno⟩ := hrel
                cases gk with
                | zero => omega
                | succ g2 =>
                  by_cases hj15 : j < 15
                  · obtain ⟨o, ho⟩ : ∃ o, ops.getD j [] = o := ⟨_, rfl⟩
                    have hix := opB_index j hj15
                    rw [ho] at hix
                    have Ho := hide ho
                    clear ho
                    have hpf := hasP S o
                    rw [HSl.out] at hpf
                    by_cases hp : o.isPrefixOf (trimF l) = true
                    · have htok : stepF ((s.size - (trimF l).length : Nat) : Int) (trimF l) = some ⟨3, ⟨o.toArray⟩, 0, (s.size : Int) - S.size⟩ := by
                        rw [Hstep.out, find_at j hj15 o Ho.out Hno.out hp]
                        rfl
                      have Htok := hide htok
                      have Hpf := hide hpf
                      clear htok hpf
                      go_wp2_with (first
                        | (go_at_call 51; (with_reducible refine Calls.mono (Hpf.out _) ?_); rintro e w6 ⟨rfl, rfl⟩)
                        | (at_builtin; refine wpList_append_lies _ rfl (.tmp 70) (.tmp 74) 29 rfl w.heap.size 62 i0 _ 4 40 Tryz.underlying29 hi0 hz0 hz1 hz2 rfl (by decide) _ acc.length _ rfl ((hS.out.keep HD.out).1.alloc _) ⟨_, 0, none⟩ 1 1 (Tok.cells ⟨3, ⟨o.toArray⟩, 0, (s.size : Int) - S.size⟩) rfl rfl (World.news_of_block (cs := (Tok.cells ⟨3, ⟨o.toArray⟩, 0, (s.size : Int) - S.size⟩).toArray) (t := 62) (heap_alloc_new _ _)) (by intro u hu; simp [Tok.cells] at hu; rcases hu with rfl | rfl | rfl | rfl <;> rfl) (by decide) (by unfold maxLen; omega) (by omega) (Nat.le_trans (hS.out.keep HD.out).frame.size (by simp)) _ rfl ?_; intro g1 cap1 W1 hown1 hgr1 _ _; have HX := hide (hS.out.grown HD.out Htok.out hown1 hgr1); clear hown1 hgr1))
                      go_roundg g
                      case measure => omega
                      case rel => exact ⟨_, _, Nat.lt_of_lt_of_le HX.out.2 (by omega), HX.out.1⟩
                    · have Hpf := hide hpf
                      clear hpf
                      go_wp2_with (first
                        | (go_at_call 51; (with_reducible refine Calls.mono (Hpf.out _) ?_); rintro e w6 ⟨rfl, rfl⟩))
                      go_roundg g2
                      case measure => omega
                      case rel => exact ⟨j + 1, rfl, by simp, by omega, by omega, rfl, no_more Hno.out Ho.out (Bool.eq_false_iff.2 hp)⟩
                  · obtain rfl : j = 15 := by omega
                    go_wp2_with fail
                    rw [Exit.noGoto_ret]
                    refine bodyPost_ret (results_tmp2 Tryz.results25 _ _ _) rfl ?_
                    refine PostL.bad (hS.out.keep HD.out).2.1 hbig (hS.out.bad Hne.out ?_)
                    rw [Hstep.out, find_none Hno.out]
                    rfl
end Go.Proofs.YtbojlnbdkaanmaaGreatDoor
