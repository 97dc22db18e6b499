/-
  The program's parser of policies, part A: its state in memory; is, accept, must.
-/
import Derived.Test.YtbojlnbdkaanmaaGreatDoorRep
set_option linter.unusedVariables false
set_option linter.unusedSimpArgs false
namespace Go.Proofs.YtbojlnbdkaanmaaGreatDoor
open Go.RowKit

/-- The operands of a node: a block of the call's own, or nil where there are none. -/
def OfRow (w : World) (of : List Int) (o : Value) : Prop :=
  (of = [] ∧ o = .slice none 0 0) ∨ ∃ g, o = .slice (some ⟨g, 0, none⟩) of.length of.length ∧ w.heap[g]? = some (.cells (of.map (Value.int .i64)).toArray 3 (0, 0))
/-- The parser's struct lies in block pb: the tokens that are left, and the nodes made so far. -/
def PInv (B pb : Nat) (ov : Value) (os : List Value) (w : World) (ts : List Tok) (nds : List Nd) : Prop :=
  ∃ (A : Option Addr) (c : Nat), B ≤ pb ∧ w.heap[pb]? = some (.cells #[.slice A ts.length c, ov] 94 (0, 0)) ∧ ts.length ≤ c ∧ c ≤ 9223372036854775807 ∧ Toks w B A ts ∧
    os.length = nds.length ∧ w.ownsRow B 67 21 ov nds.length (List.zipWith Nd.cells nds os).flatten ∧ ∀ (i : Nat) nd o, nds[i]? = some nd → os[i]? = some o → OfRow w nd.of o

theorem OfRow.keep {w w' : World} {of : List Int} {o : Value} (h : OfRow w of o) (hk : ∀ (g : Nat) (c : Array Value) (f : Nat × Nat), w.heap[g]? = some (Obj.cells c 3 f) → w'.heap[g]? = w.heap[g]?) : OfRow w' of o := by
  rcases h with h | ⟨g, e, h⟩
  · exact .inl h
  · exact Or.inr ⟨g, e, (hk g _ _ h).trans h⟩
theorem grown_keep {w w' : World} {pb : Nat} {cs : Array Value} {t : TypeId} {f : Nat × Nat} (hp : w.heap[pb]? = some (.cells cs t f)) (hg : w.grownBy w' (some pb)) :
    ∀ (g : Nat) c (t' : TypeId) f', t' ≠ t → w.heap[g]? = some (.cells c t' f') → w'.heap[g]? = w.heap[g]? := by
  intro g c t' f' hne h
  refine hg.block g (Array.getElem?_eq_some_iff.1 h).1 (fun e => ?_)
  injection e with e
  subst e
  rw [hp] at h
  injection h with h
  injection h with _ h _
  exact hne h.symm
/-- The first field turns: the tokens that are left. -/
theorem PInv.step {B pb : Nat} {w w' : World} {ts ts' : List Tok} {nds : List Nd} {A A' : Option Addr} {c c' : Nat} {ov : Value} {os : List Value} (h : PInv B pb ov os w ts nds) (hB : B ≤ pb)
    (hp : w.heap[pb]? = some (.cells #[.slice A ts.length c, ov] 94 (0, 0))) (hp' : w'.heap[pb]? = some (.cells #[.slice A' ts'.length c', ov] 94 (0, 0))) (hc' : ts'.length ≤ c') (hm : c' ≤ 9223372036854775807)
    (ht : Toks w' B A' ts') (hg : w.grownBy w' (some pb)) : PInv B pb ov os w' ts' nds := by
  obtain ⟨A0, c0, _, hp0, _, _, _, hl, hown, hof⟩ := h
  refine ⟨A', c', hB, hp', hc', hm, ht, hl, hown.kept hg ?_, fun i nd o hi ho => OfRow.keep (hof i nd o hi ho) fun g c f h => grown_keep hp hg g c 3 f (by decide) h⟩
  rcases hown.2 with ⟨e, _⟩ | ⟨g, cap, cur, e, _, hh, _⟩
  · left; rw [e]; rfl
  · right
    rw [e]
    intro e'
    have : g = pb := by simpa [Value.ownBlock] using e'
    subst this
    rw [hp] at hh
    injection hh with hh
    injection hh with _ hh _
    exact absurd hh (by decide)

theorem own_below {w w' : World} {base e size n : Nat} {v : Value} {xs : List Value} (h : w.ownsRow base e size v n xs) (hb : Below w.heap.size w w') : w'.ownsRow base e size v n xs :=
  h.kept (row := none) ⟨hb.os, hb.tape, hb.output, hb.size, fun i hi _ => hb.block i hi⟩ (by cases v.ownBlock <;> simp)
/-- New blocks alone: the parser stands as it stood. -/
theorem PInv.below {B pb : Nat} {ov : Value} {os : List Value} {w w' : World} {ts : List Tok} {nds : List Nd} (h : PInv B pb ov os w ts nds) (hb : Below w.heap.size w w') : PInv B pb ov os w' ts nds := by
  obtain ⟨A, c, hB, hp, hl, hm, ht, hos, hown, hof⟩ := h
  have hlt : pb < w.heap.size := (Array.getElem?_eq_some_iff.1 hp).1
  refine ⟨A, c, hB, (hb.block pb hlt).trans hp, hl, hm, ht.below hb (by omega), hos, own_below hown hb, fun i nd o hi ho => OfRow.keep (hof i nd o hi ho) fun g c f hg => hb.block g (Array.getElem?_eq_some_iff.1 hg).1⟩
theorem PInv.alloc {B pb : Nat} {ov : Value} {os : List Value} {w : World} {ts : List Tok} {nds : List Nd} (h : PInv B pb ov os w ts nds) (o : Obj) : PInv B pb ov os (w.alloc o) ts nds := h.below ((Below.refl _ _).alloc (Nat.le_refl _) o)
theorem PInv.lt {B pb : Nat} {ov : Value} {os : List Value} {w : World} {ts : List Tok} {nds : List Nd} (h : PInv B pb ov os w ts nds) : B ≤ pb ∧ pb < w.heap.size := by
  obtain ⟨A, c, hB, hp, _⟩ := h
  exact ⟨hB, (Array.getElem?_eq_some_iff.1 hp).1⟩

theorem PInv.setRow {B pb : Nat} {ov : Value} {os : List Value} {w w0 : World} {ts ts0 : List Tok} {nds : List Nd} (h : PInv B pb ov os w ts nds) (h0 : PInv B pb ov os w0 ts0 nds) {g : Nat} (hg : w0.heap.size ≤ g) (cs : Array Value) :
    PInv B pb ov os (w.setRow g cs) ts nds := by
  obtain ⟨A, c, hB, hp, hl, hm, ht, hos, hown, hof⟩ := h
  obtain ⟨_, _, _, hp0, _, _, _, _, hown0, hof0⟩ := h0
  have hlt : pb < w0.heap.size := (Array.getElem?_eq_some_iff.1 hp0).1
  have hgr : w.grownBy (w.setRow g cs) (some g) := ⟨rfl, rfl, rfl, by simp, fun i hi hne => setRow_other w g i cs (fun e => hne (by rw [e]))⟩
  refine ⟨A, c, hB, (setRow_other w g pb cs (by omega)).trans hp, hl, hm, Row.keep ht (fun b o hb => World.cell?_of_block (setRow_other w g b cs (by omega))), hos, hown.kept hgr ?_, fun i nd o hi ho => ?_⟩
  · cases e : ov.ownBlock with
    | none => exact .inl rfl
    | some k =>
      right
      intro e'
      injection e' with e'
      have := (hown0.lt k e).2
      omega
  · rcases hof i nd o hi ho with hx | ⟨q, e, hq⟩
    · exact .inl hx
    · refine .inr ⟨q, e, ?_⟩
      rcases hof0 i nd o hi ho with ⟨_, hx⟩ | ⟨q0, e0, hq0⟩
      · rw [e] at hx; cases hx
      · have : q = q0 := by rw [e] at e0; injection e0 with e0; injection e0 with e0; injection e0
        subst this
        have := (Array.getElem?_eq_some_iff.1 hq0).1
        exact (setRow_other w g q cs (by omega)).trans hq

theorem grown_alloc {w w' : World} {row : Option Nat} (h : w.grownBy w' row) (o : Obj) : w.grownBy (w'.alloc o) row :=
  ⟨h.os, h.tape, h.output, Nat.le_trans h.size (by simp), fun i hi hne => (Below.heap_alloc w' o i (Nat.lt_of_lt_of_le hi h.size)).trans (h.block i hi hne)⟩
theorem pi_alloc {B pb : Nat} {ov : Value} {os : List Value} {w w' : World} {ts : List Tok} {nds : List Nd} (h : PInv B pb ov os w' ts nds ∧ w.grownBy w' (some pb)) (o : Obj) : PInv B pb ov os (w'.alloc o) ts nds ∧ w.grownBy (w'.alloc o) (some pb) :=
  ⟨h.1.alloc o, grown_alloc h.2 o⟩

set_option maxHeartbeats 400000 in
theorem is_any (B pb : Nat) (ov : Value) (os : List Value) (w : World) (ts : List Tok) (nds : List Nd) (kd : Int) (tx : ByteArray) (tl : List UInt8) (htx : tx.toList = tl) (h : PInv B pb ov os w ts nds) :
    Calls Tryz.prog 113 #[.pointer (some ⟨pb, 0, none⟩), .int .i64 kd, .string tx] w fun e w' => e = .returned (.bool (isB ts kd tl)) ∧ w = w' := by
  subst htx
  obtain ⟨A, c, hB, hp, hl, hm, ht, _⟩ := h
  have p0 : w.cell? ⟨pb, 0, none⟩ = some (.slice A ts.length c) := by simp [World.cell?, hp]
  clear hp
  cases ts with
  | nil =>
    go_enter Tryz.func113, Tryz.ntmps113
    go_wp2
    go_ret
    exact ⟨rfl, rfl⟩
  | cons t ts =>
    obtain ⟨b, off, rfl, hb, c0, c1, c2, c3⟩ := ht.head_
    clear ht
    have hpos : (0 : Int) < ((t :: ts).length : Int) := by simp
    by_cases h1 : (t.k == kd) = true
    · by_cases h2 : tx.toList.isEmpty = true
      · go_enter Tryz.func113, Tryz.ntmps113
        go_wp2
        go_ret
        exact ⟨by simp [isB, h1, h2], rfl⟩
      · have h2' : tx.toList.isEmpty = false := by simpa using h2
        go_enter Tryz.func113, Tryz.ntmps113
        go_wp2
        go_ret
        exact ⟨by simp [isB, h1, h2'], rfl⟩
    · have h1' : (t.k == kd) = false := by simpa using h1
      go_enter Tryz.func113, Tryz.ntmps113
      go_wp2
      go_ret
      exact ⟨by simp [isB, h1'], rfl⟩

/-- What 'p.l = p.l[1:]' makes of the parser. -/
theorem step_tail {B pb : Nat} {w : World} {t : Tok} {ts : List Tok} {nds : List Nd} {b off c : Nat} {ov : Value} {os : List Value} (h : PInv B pb ov os w (t :: ts) nds) (hB : B ≤ pb)
    (hp : w.heap[pb]? = some (.cells #[.slice (some ⟨b, off, none⟩) (t :: ts).length c, ov] 94 (0, 0))) (hl : (t :: ts).length ≤ c) (hm : c ≤ 9223372036854775807) (ht : Toks w B (some ⟨b, off, none⟩) (t :: ts))
    (A' : Option Addr) (hA : A' = if c = 1 then some ⟨b, off, none⟩ else some ⟨b, off + 4, none⟩) :
    PInv B pb ov os (w.setCell ⟨pb, 0, none⟩ (.slice A' ts.length (c - 1))) ts nds ∧ w.grownBy (w.setCell ⟨pb, 0, none⟩ (.slice A' ts.length (c - 1))) (some pb) := by
  have hg : w.grownBy (w.setCell ⟨pb, 0, none⟩ (.slice A' ts.length (c - 1))) (some pb) :=
    ⟨rfl, rfl, rfl, by simp [World.setCell], fun i hi hne => Below.heap_setCell w _ _ i (fun e => hne (by rw [e]))⟩
  refine ⟨h.step hB hp (A' := A') (c' := c - 1) ?_ (by simp at hl; omega) (by omega) ?_ hg, hg⟩
  · simp [World.setCell, Array.getElem?_modify, hp]
  · have hk : ∀ b' o, b' < B → (w.setCell ⟨pb, 0, none⟩ (.slice A' ts.length (c - 1))).cell? ⟨b', o, none⟩ = w.cell? ⟨b', o, none⟩ := fun b' o hb =>
      World.cell?_setCell_other w _ _ _ (fun e => by injection e with e; omega)
    refine Row.keep ?_ hk
    rw [hA]
    split
    · rename_i h1
      subst h1
      have : ts = [] := by
        cases ts with
        | nil => rfl
        | cons _ _ => simp at hl
      subst this
      exact Toks.nil_ _ _ _
    · exact ht.tail_

set_option maxHeartbeats 400000 in
theorem accept_any (B pb : Nat) (ov : Value) (os : List Value) (w : World) (ts : List Tok) (nds : List Nd) (kd : Int) (tx : ByteArray) (tl : List UInt8) (htx : tx.toList = tl) (hI : PInv B pb ov os w ts nds) :
    Calls Tryz.prog 92 #[.pointer (some ⟨pb, 0, none⟩), .int .i64 kd, .string tx] w fun e w' =>
      e = .returned (.bool (isB ts kd tl)) ∧ PInv B pb ov os w' (if isB ts kd tl then ts.tail else ts) nds ∧ w.grownBy w' (some pb) := by
  have H := is_any B pb ov os w ts nds kd tx tl htx hI
  clear htx
  cases hi : isB ts kd tl with
  | false =>
    rw [hi] at H
    have H' := hide H
    clear H hi
    go_enter Tryz.func92, Tryz.ntmps92
    go_wp2_with (go_at_call 113; refine Calls.mono H'.out ?_; rintro e w' ⟨rfl, rfl⟩)
    go_ret
    exact ⟨rfl, hI, World.grownBy.refl _ _⟩
  | true =>
    obtain ⟨t, r, rfl⟩ := isB_cons hi
    rw [hi] at H
    have H' := hide H
    clear H hi
    obtain ⟨A, c, hB, hp, hl, hm, ht, hx⟩ := id hI
    clear hx
    obtain ⟨b, off, rfl, hb, hx⟩ := ht.head_
    clear hx
    have p0 : w.cell? ⟨pb, 0, none⟩ = some (.slice (some ⟨b, off, none⟩) (t :: r).length c) := by simp [World.cell?, hp]
    have f0 : w.frozen? ⟨pb, 0, none⟩ = false := by simp [World.frozen?, hp]
    have hpos : 1 ≤ c := by simp at hl; omega
    have hlen : (1 : Int) ≤ ((t :: r).length : Int) := by simp; omega
    have hlc : ((t :: r).length : Int) ≤ c := by omega
    have S := hide (fun A' => step_tail hI hB hp hl hm ht A')
    clear hI hp hl ht
    go_enter Tryz.func92, Tryz.ntmps92
    go_wp2_with (go_at_call 113; refine Calls.mono H'.out ?_; rintro e w' ⟨rfl, rfl⟩)
    all_goals go_ret
    · have hq : c = 1 := by assumption
      have := S.out (some ⟨b, off, none⟩) (by rw [if_pos hq])
      rw [hq] at this
      exact ⟨rfl, this⟩
    · have hq : ¬ c = 1 := by assumption
      exact ⟨rfl, S.out (some ⟨b, off + 4, none⟩) (by rw [if_neg hq])⟩

/-- The panic of a syntax error. -/
abbrev PanF : Ending := .panicked [{ v := .iface 91 (.agg #[]), recovered := false }]

set_option maxHeartbeats 400000 in
theorem must_no (B pb : Nat) (ov : Value) (os : List Value) (w : World) (ts : List Tok) (nds : List Nd) (kd : Int) (tx : ByteArray) (tl : List UInt8) (htx : tx.toList = tl) (hI : PInv B pb ov os w ts nds) (hi : isB ts kd tl = false) :
    Calls Tryz.prog 94 #[.pointer (some ⟨pb, 0, none⟩), .int .i64 kd, .string tx] w fun e w' => e = PanF ∧ Below w.heap.size w w' := by
  have H := fun w' (hb : PInv B pb ov os w' ts nds) => is_any B pb ov os w' ts nds kd tx tl htx hb
  rw [hi] at H
  have H' := hide H
  have hI' := hide hI
  clear H hi hI htx
  go_enter Tryz.func94, Tryz.ntmps94
  go_wp2_with (go_at_call 113; refine Calls.mono (H'.out _ (PInv.alloc hI'.out _)) ?_; rintro e w' ⟨rfl, rfl⟩)
  all_goals (refine ⟨rfl, rfl, ?_⟩)
  all_goals exact (Below.refl _ _).alloc (Nat.le_refl _) _

set_option maxHeartbeats 400000 in
theorem must_yes (B pb : Nat) (ov : Value) (os : List Value) (w : World) (t : Tok) (ts : List Tok) (nds : List Nd) (kd : Int) (tx : ByteArray) (tl : List UInt8) (htx : tx.toList = tl) (hI : PInv B pb ov os w (t :: ts) nds) (hi : isB (t :: ts) kd tl = true) :
    Calls Tryz.prog 94 #[.pointer (some ⟨pb, 0, none⟩), .int .i64 kd, .string tx] w fun e w' =>
      e = .returned (.agg #[.int .i64 t.k, .string t.s, .int .i64 t.n, .int .i64 t.p]) ∧ PInv B pb ov os w' ts nds ∧ w.grownBy w' (some pb) := by
  have H := fun w' (hb : PInv B pb ov os w' (t :: ts) nds) => is_any B pb ov os w' (t :: ts) nds kd tx tl htx hb
  rw [hi] at H
  have H' := hide H
  clear H hi htx
  obtain ⟨A, c, hB, hp, hl, hm, ht, hx⟩ := id hI
  clear hx
  obtain ⟨b, off, rfl, hb, c0, c1, c2, c3⟩ := ht.head_
  have hlt := hI.lt.2
  have hbB : b < w.heap.size := by omega
  have p0 : w.cell? ⟨pb, 0, none⟩ = some (.slice (some ⟨b, off, none⟩) (t :: ts).length c) := by simp [World.cell?, hp]
  have f0 : w.frozen? ⟨pb, 0, none⟩ = false := by simp [World.frozen?, hp]
  have hpos : 1 ≤ c := by simp at hl; omega
  have hlen : (1 : Int) ≤ ((t :: ts).length : Int) := by simp; omega
  have hlc : ((t :: ts).length : Int) ≤ c := by omega
  have hI' := hide hI
  have hp' := hide hp
  have hl' := hide hl
  have ht' := hide ht
  clear hI hp hl ht
  go_enter Tryz.func94, Tryz.ntmps94
  go_wp2_with (go_at_call 113; refine Calls.mono (H'.out _ (PInv.alloc hI'.out _)) ?_; rintro e w' ⟨rfl, rfl⟩)
  · have hq : c = 1 := by assumption
    have S := step_tail hI'.out hB hp'.out hl'.out hm ht'.out (some ⟨b, off, none⟩) (by rw [if_pos hq])
    refine bodyPost_ret (v := .agg #[.int .i64 t.k, .string t.s, .int .i64 t.n, .int .i64 t.p]) (by simp [results, Tryz.results94, go_sem]) rfl ⟨rfl, ?_⟩
    rw [hq] at S
    exact pi_alloc (pi_alloc S _) _
  · have hq : ¬ c = 1 := by assumption
    have S := step_tail hI'.out hB hp'.out hl'.out hm ht'.out (some ⟨b, off + 4, none⟩) (by rw [if_neg hq])
    refine bodyPost_ret (v := .agg #[.int .i64 t.k, .string t.s, .int .i64 t.n, .int .i64 t.p]) (by simp [results, Tryz.results94, go_sem]) rfl ⟨rfl, ?_⟩
    exact pi_alloc (pi_alloc S _) _

theorem must_any (B pb : Nat) (ov : Value) (os : List Value) (w : World) (ts : List Tok) (nds : List Nd) (kd : Int) (tx : ByteArray) (tl : List UInt8) (htx : tx.toList = tl) (hI : PInv B pb ov os w ts nds) :
    Calls Tryz.prog 94 #[.pointer (some ⟨pb, 0, none⟩), .int .i64 kd, .string tx] w fun e w' =>
      (mustF kd tl ts = none ∧ e = PanF ∧ w.grownBy w' (some pb)) ∨
      (∃ t r, mustF kd tl ts = some (t, r) ∧ e = .returned (.agg #[.int .i64 t.k, .string t.s, .int .i64 t.n, .int .i64 t.p]) ∧ PInv B pb ov os w' r nds ∧ w.grownBy w' (some pb)) := by
  cases hm : isB ts kd tl with
  | false => exact (must_no B pb ov os w ts nds kd tx tl htx hI hm).mono fun e w' ⟨he, hb⟩ => .inl ⟨mustF_none.2 hm, he, ⟨hb.os, hb.tape, hb.output, hb.size, fun i hi _ => hb.block i hi⟩⟩
  | true =>
    obtain ⟨t, r, rfl⟩ := isB_cons hm
    exact (must_yes B pb ov os w t r nds kd tx tl htx hI hm).mono fun e w' ⟨he, h1, h2⟩ => .inr ⟨t, r, mustF_some.2 ⟨rfl, hm⟩, he, h1, h2⟩
theorem accept_any' (B pb : Nat) (ov : Value) (os : List Value) (w : World) (ts : List Tok) (nds : List Nd) (kd : Int) (tx : ByteArray) (tl : List UInt8) (htx : tx.toList = tl) (hI : PInv B pb ov os w ts nds) :
    Calls Tryz.prog 92 #[.pointer (some ⟨pb, 0, none⟩), .int .i64 kd, .string tx] w fun e w' =>
      (isB ts kd tl = false ∧ e = .returned (.bool false) ∧ PInv B pb ov os w' ts nds ∧ w.grownBy w' (some pb)) ∨ (isB ts kd tl = true ∧ e = .returned (.bool true) ∧ PInv B pb ov os w' ts.tail nds ∧ w.grownBy w' (some pb)) :=
  (accept_any B pb ov os w ts nds kd tx tl htx hI).mono fun e w' ⟨he, h1, h2⟩ => by
    cases hb : isB ts kd tl with
    | false => rw [hb] at he h1; exact .inl ⟨rfl, he, by simpa using h1, h2⟩
    | true => rw [hb] at he h1; exact .inr ⟨rfl, he, by simpa using h1, h2⟩
theorem grown_trans {a b c : World} {row : Option Nat} (h : a.grownBy b row) (k : b.grownBy c row) : a.grownBy c row :=
  ⟨k.os.trans h.os, k.tape.trans h.tape, k.output.trans h.output, Nat.le_trans h.size k.size, fun i hi hne => (k.block i (Nat.lt_of_lt_of_le hi h.size) hne).trans (h.block i hi hne)⟩
end Go.Proofs.YtbojlnbdkaanmaaGreatDoor
