/-
  A text that parses is a tree.
-/
import Derived.Test.YtbojlnbdkaanmaaGreatDoorAstEv
import Derived.Test.YtbojlnbdkaanmaaGreatDoorLexQ
set_option linter.unusedVariables false
set_option linter.unusedSimpArgs false
namespace Go.Proofs.YtbojlnbdkaanmaaGreatDoor
open Go.RowKit

theorem stepF_ok {st : Int} {l : List UInt8} {t : Tok} (h : stepF st l = some t) : 0 ≤ t.n ∧ t.n < 65536 := by
  unfold stepF at h
  cases l with
  | nil => cases h
  | cons c r =>
    simp only [] at h
    by_cases h1 : isLet c.toNat = true
    · rw [if_pos h1] at h
      split at h
      · cases h
      · injection h with h
        subst h
        exact ⟨by simp, by simp⟩
    · rw [if_neg h1] at h
      by_cases h2 : isDig c.toNat = true
      · rw [if_pos h2] at h
        split at h
        · rename_i hq
          injection h with h
          subst h
          simp only [Bool.and_eq_true] at hq
          have hn := hq.1
          unfold numOk at hn
          simp only [Bool.and_eq_true, decide_eq_true_eq] at hn
          have := hn.2
          simp only []
          omega
        · cases h
      · rw [if_neg h2] at h
        cases hf : ops.find? (·.isPrefixOf (c :: r)) with
        | none => rw [hf] at h; cases h
        | some o =>
          rw [hf] at h
          injection h with h
          subst h
          exact ⟨by simp, by simp⟩
theorem lexGo_ok : ∀ (f n : Nat) (l : List UInt8) (acc ts : List Tok), TokOk acc → lexGo f n l acc = some ts → TokOk ts
  | 0, _, _, _, _, _, h => by simp [lexGo] at h
  | f + 1, n, l, acc, ts, ho, h => by
    unfold lexGo at h
    by_cases ht : trimF l = []
    · rw [if_pos ht] at h
      injection h with h
      subst h
      exact ho
    · rw [if_neg ht] at h
      cases hx : stepF ((n - (trimF l).length : Nat) : Int) (trimF l) with
      | none => rw [hx] at h; cases h
      | some t =>
        rw [hx] at h
        refine lexGo_ok f n _ (acc ++ [t]) ts (fun u hu => ?_) h
        rcases List.mem_append.1 hu with q | q
        · exact ho u q
        · rw [List.mem_singleton.1 q]
          exact stepF_ok hx
theorem lexF_ok {s : ByteArray} {ts : List Tok} (h : lexF s = some ts) : TokOk ts := lexGo_ok _ _ _ [] ts (fun u hu => by cases hu) h
/-- What is known of a text that parses. -/
structure Parsed (s : ByteArray) (t : Ast) (ts : List Tok) : Prop where
  ok : t.Ok
  nds : (parseR s).2 = t.emit 0
  len : t.sz ≤ 400
  lex : lexF s = some ts
  tree : treeT ts = some t
  depth : depthF ts ≤ 30
  size : s.size ≤ 1500
theorem parsed {s : ByteArray} (h : (parseR s).1 = 0) : ∃ t ts, Parsed s t ts := by
  unfold parseR at h
  by_cases h0 : (lexR s).1 = 0
  · rw [if_pos h0] at h
    have hp2 : parseR s = parseT (lexR s).2 := by rw [parseR, if_pos h0]
    unfold lexR at h0
    by_cases hs : 1500 < s.size
    · rw [if_pos hs] at h0
      simp at h0
    · rw [if_neg hs] at h0
      cases hl : lexF s with
      | none => rw [hl] at h0; simp at h0
      | some ts =>
        have hr : (lexR s).2 = ts := by unfold lexR; rw [if_neg hs, hl]
        rw [hr] at h hp2
        unfold parseT at h hp2
        by_cases hd : 30 < depthF ts
        · rw [if_pos hd] at h
          simp at h
        · rw [if_neg hd] at h hp2
          rw [treeF_emit] at h hp2
          cases ht : treeT ts with
          | none => rw [ht] at h; simp at h
          | some t =>
            rw [ht] at h hp2
            simp only [Option.map_some] at h hp2
            by_cases hn : 400 < (t.emit 0).length
            · rw [if_pos hn] at h
              simp at h
            · rw [if_neg hn] at hp2
              refine ⟨t, ts, treeT_ok (lexF_ok hl) ht, by rw [hp2], ?_, hl, ht, by omega, by omega⟩
              rw [t.emit_length 0] at hn
              omega
  · rw [if_neg h0] at h
    exact absurd h h0
theorem Parsed.ndok {s : ByteArray} {t : Ast} {ts : List Tok} (h : Parsed s t ts) : ∀ i nd, (parseR s).2[i]? = some nd → NdOk i nd := by
  intro i nd hi
  rw [h.nds] at hi
  have := emit_ok t 0 h.ok i nd hi
  rwa [Nat.zero_add] at this
theorem Parsed.length {s : ByteArray} {t : Ast} {ts : List Tok} (h : Parsed s t ts) : (parseR s).2.length ≤ 400 := by
  rw [h.nds, t.emit_length]
  exact h.len
theorem Parsed.eval {s : ByteArray} {t : Ast} {ts : List Tok} (h : Parsed s t ts) (F : Fct) : evalF F (parseR s).2 = evalT F t := by
  rw [h.nds]
  exact evalF_emit F t h.ok
end Go.Proofs.YtbojlnbdkaanmaaGreatDoor
