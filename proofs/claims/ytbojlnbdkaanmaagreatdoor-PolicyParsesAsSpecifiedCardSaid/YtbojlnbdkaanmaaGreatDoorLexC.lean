/-
  The program's lexer, part C: operators, the state of Tokens' loop.
-/
import Derived.Test.YtbojlnbdkaanmaaGreatDoorLexB
import Derived.Shelf.Strings.SlTrimAscii
set_option linter.unusedVariables false
set_option linter.unusedSimpArgs false
namespace Go.Proofs.YtbojlnbdkaanmaaGreatDoor
open Go.RowKit

theorem stepF_facts {st : Int} {l : List UInt8} {t : Tok} (h : stepF st l = some t) : t.p = st ∧ 0 < t.s.size ∧ t.s.size ≤ l.length := by
  cases l with
  | nil => cases h
  | cons c r =>
    have hsz : ∀ x : List UInt8, (⟨x.toArray⟩ : ByteArray).size = x.length := fun x => by simp [ByteArray.size]
    simp only [stepF] at h
    split at h
    · rename_i hc
      split at h
      · cases h
      · cases h
        refine ⟨rfl, ?_, ?_⟩
        · rw [hsz, List.length_take]
          have := pre_pos (p := isWit) (r := r) (show isWit c.toNat = true by simp [isWit, hc])
          simp
          omega
        · rw [hsz, List.length_take]
          omega
    · split at h
      · rename_i hc
        split at h
        · cases h
          refine ⟨rfl, ?_, ?_⟩
          · rw [hsz, List.length_take]
            have := pre_pos (p := isDig) (r := r) hc
            simp
            omega
          · rw [hsz, List.length_take]
            omega
        · cases h
      · cases hf : ops.find? (·.isPrefixOf (c :: r)) with
        | none => rw [hf] at h; cases h
        | some o =>
          rw [hf] at h
          cases h
          have hp := List.find?_some hf
          have hm := List.mem_of_find?_eq_some hf
          have hpos : 0 < o.length := by
            have : ∀ o ∈ ops, 0 < o.length := by decide
            exact this o hm
          refine ⟨rfl, by rw [hsz]; exact hpos, ?_⟩
          rw [hsz]
          exact (List.isPrefixOf_iff_prefix.1 hp).length_le
theorem trimF_le (l : List UInt8) : (trimF l).length ≤ l.length := (List.dropWhile_sublist _).length_le
theorem trimF_drop : ∀ l : List UInt8, trimF l = l.drop (l.length - (trimF l).length)
  | [] => rfl
  | c :: r => by
    have ih := trimF_drop r
    unfold trimF at ih ⊢
    rw [List.dropWhile_cons]
    split
    · have hle := trimF_le r
      unfold trimF at hle
      rw [List.length_cons, show r.length + 1 - (r.dropWhile blank).length = (r.length - (r.dropWhile blank).length) + 1 by omega, List.drop_succ_cons]
      exact ih
    · simp
/-- The state of Tokens' loop: out holds the tokens so far, l is left. -/
def LxS (w : World) (s : ByteArray) (wr : World) (v : Value) (acc : List Tok) (l : List UInt8) : Prop :=
  wr.ownsRow w.heap.size 62 4 v acc.length (acc.map Tok.cells).flatten ∧ Below w.heap.size w wr ∧
    ∃ p : Nat, atF acc = p ∧ p ≤ s.size ∧ l = s.toList.drop p ∧ acc.length ≤ p ∧ ∃ fuel, l.length < fuel ∧ lexGo fuel s.size l acc = lexF s
theorem atF_snoc (acc : List Tok) (t : Tok) : atF (acc ++ [t]) = t.p + t.s.size := by simp [atF]
theorem LxS.start (w : World) (s : ByteArray) : LxS w s w (.slice none 0 0) [] s.toList :=
  ⟨World.ownsRow_nil _ _ _ _, Below.refl _ _, 0, rfl, Nat.zero_le _, rfl, Nat.le_refl _, s.size + 1, by rw [toList_len]; omega, rfl⟩
theorem LxS.keep {w wr wr' : World} {s : ByteArray} {v : Value} {acc : List Tok} {l : List UInt8} (h : LxS w s wr v acc l) (hb : Below wr.heap.size wr wr') : LxS w s wr' v acc l :=
  ⟨own_below h.1 hb, h.2.1.trans (hb.mono h.2.1.size), h.2.2⟩
/-- One token more. -/
theorem LxS.step {w wr w1 : World} {s : ByteArray} {v v1 : Value} {acc : List Tok} {l : List UInt8} {t : Tok} (h : LxS w s wr v acc l) (ht : stepF ((s.size - (trimF l).length : Nat) : Int) (trimF l) = some t)
    (hown : w1.ownsRow w.heap.size 62 4 v1 (acc.length + 1) ((acc.map Tok.cells).flatten ++ t.cells)) (hb : Below w.heap.size w w1) :
    LxS w s w1 v1 (acc ++ [t]) ((trimF l).drop t.s.size) ∧ ((trimF l).drop t.s.size).length < l.length := by
  obtain ⟨_, _, p, hp, hps, hl, hap, fuel, hf, hgo⟩ := h
  obtain ⟨hp1, hp2, hp3⟩ := stepF_facts ht
  have htl := trimF_le l
  have hll : l.length = s.size - p := by rw [hl, List.length_drop, toList_len]
  have hne : trimF l ≠ [] := by intro e; rw [e, List.length_nil] at hp3; omega
  obtain ⟨f, rfl⟩ : ∃ f, fuel = f + 1 := ⟨fuel - 1, by omega⟩
  refine ⟨⟨by simpa using hown, hb, s.size - (trimF l).length + t.s.size, ?_, by omega, ?_, by simp; omega, f, by rw [List.length_drop]; omega, ?_⟩, by rw [List.length_drop]; omega⟩
  · rw [atF_snoc, hp1]
    omega
  · have h1 := trimF_drop l
    have h2 : l.drop (l.length - (trimF l).length) = s.toList.drop (p + (l.length - (trimF l).length)) := by rw [← List.drop_drop, ← hl]
    have h3 : p + (l.length - (trimF l).length) = s.size - (trimF l).length := by omega
    have e : trimF l = s.toList.drop (s.size - (trimF l).length) := h1.trans (h2.trans (by rw [h3]))
    conv => lhs; rw [e, List.drop_drop]
  · rw [← hgo]
    conv => rhs; rw [lexGo, if_neg hne, ht]
theorem LxS.stop {w wr : World} {s : ByteArray} {v : Value} {acc : List Tok} {l : List UInt8} (h : LxS w s wr v acc l) (ht : trimF l = []) : lexF s = some acc := by
  obtain ⟨_, _, p, hp, hps, hl, hap, fuel, hf, hgo⟩ := h
  obtain ⟨f, rfl⟩ : ∃ f, fuel = f + 1 := ⟨fuel - 1, by omega⟩
  rw [← hgo, lexGo, if_pos ht]
theorem LxS.bad {w wr : World} {s : ByteArray} {v : Value} {acc : List Tok} {l : List UInt8} (h : LxS w s wr v acc l) (hne : trimF l ≠ []) (ht : stepF ((s.size - (trimF l).length : Nat) : Int) (trimF l) = none) : lexF s = none := by
  obtain ⟨_, _, p, hp, hps, hl, hap, fuel, hf, hgo⟩ := h
  obtain ⟨f, rfl⟩ : ∃ f, fuel = f + 1 := ⟨fuel - 1, by omega⟩
  rw [← hgo, lexGo, if_neg hne, ht]

/-! ### The library's functions, as Tokens calls them -/
theorem info107 : (Tryz.prog.info? 107).map (fun i => (i.zero, i.size)) = some (some (.agg (Array.replicate 256 (.bool false))), 256) := by kernel_rfl
theorem trim_any (s : ByteArray) (w : World) :
    Calls Tryz.prog 43 #[.string s, .string ⟨#[32, 9, 10]⟩] w fun e w' => e = .returned (.string ⟨(trimF s.toList).toArray⟩) ∧ Below w.heap.size w w' := by
  refine (Any.strings_TrimLeft_laid Tryz.lays161 info107 s ⟨#[32, 9, 10]⟩ w (by decide) ?_).mono ?_
  · intro j b hj
    match j, hj with
    | 0, hj => simp at hj; subst hj; decide
    | 1, hj => simp at hj; subst hj; decide
    | 2, hj => simp at hj; subst hj; decide
  · rintro e w' ⟨rfl, hb⟩
    refine ⟨?_, hb⟩
    rw [toList_data]
    rfl
def opsV : Array Value := #[.string ⟨#[61, 61]⟩, .string ⟨#[38, 38]⟩, .string ⟨#[124, 124]⟩, .string ⟨#[62, 61]⟩, .string ⟨#[123]⟩, .string ⟨#[125]⟩, .string ⟨#[40]⟩, .string ⟨#[41]⟩, .string ⟨#[59]⟩, .string ⟨#[61]⟩, .string ⟨#[43]⟩, .string ⟨#[45]⟩, .string ⟨#[42]⟩, .string ⟨#[60]⟩, .string ⟨#[33]⟩]
set_option maxHeartbeats 1000000 in
theorem operators_any (w : World) : Calls Tryz.prog 50 #[] w fun e w' => e = .returned (.agg opsV) ∧ Below w.heap.size w w' := by
  go_enter Tryz.func50, Tryz.ntmps50
  go_wp2
  refine bodyPost_ret (results_cell_row Tryz.results50 _ _ w.heap.size 87 _ (0, 0) _ rfl (heap_alloc_new w _) Tryz.underlying87 rfl (by kernel_rfl)) rfl ?_
  exact ⟨rfl, (Below.refl _ w).alloc (Nat.le_refl _) _⟩
theorem opB_index : ∀ (i : Nat) (_ : i < 15) (W : World), (Instr.index 87 (.agg opsV) (.int .i64 i)).run Tryz.prog W = .ok (.string ⟨(ops.getD i []).toArray⟩) W
  | 0, _, _ => by kernel_rfl
  | 1, _, _ => by kernel_rfl
  | 2, _, _ => by kernel_rfl
  | 3, _, _ => by kernel_rfl
  | 4, _, _ => by kernel_rfl
  | 5, _, _ => by kernel_rfl
  | 6, _, _ => by kernel_rfl
  | 7, _, _ => by kernel_rfl
  | 8, _, _ => by kernel_rfl
  | 9, _, _ => by kernel_rfl
  | 10, _, _ => by kernel_rfl
  | 11, _, _ => by kernel_rfl
  | 12, _, _ => by kernel_rfl
  | 13, _, _ => by kernel_rfl
  | 14, _, _ => by kernel_rfl
  | n + 15, h, _ => absurd h (by omega)
end Go.Proofs.YtbojlnbdkaanmaaGreatDoor
