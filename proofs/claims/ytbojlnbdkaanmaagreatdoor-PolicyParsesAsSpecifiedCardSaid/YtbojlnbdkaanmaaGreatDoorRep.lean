/-
  How tokens, nodes of policies and lists of numbers lie in memory: predicates that say what a slice reads as, and their lemmas (kept below a block, made larger, cut, got from a row of the call's own).
-/
import Derived.Test.YtbojlnbdkaanmaaGreatDoorProg
import Derived.Test.YtbojlnbdkaanmaaGreatDoorPur
import Derived.WalkKit
import Derived.WalkLawsBesides
import Derived.WalkSpells
import Derived.Deep.LoopGhost
import Derived.Deep.AppendLies
import Derived.Deep.Draws
import Derived.Deep.QuietTactic
import Derived.BigQuiet
import Derived.Deep.RegionWith
import Derived.Maps.AppendAt
import Derived.KernelRfl
set_option linter.unusedVariables false
set_option linter.unusedSimpArgs false
namespace Go.Proofs.YtbojlnbdkaanmaaGreatDoor
open Go.RowKit

/-! ### Data -/
def Tok.cells (t : Tok) : List Value := [.int .i64 t.k, .string t.s, .int .i64 t.n, .int .i64 t.p]

def Nd.cells (x : Nd) (o : Value) : List Value :=
  [.int .i64 x.k, .int .i64 x.n, .int .i64 x.m, .int .i64 x.sd, .int .u8 (x.d 0), .int .u8 (x.d 1), .int .u8 (x.d 2), .int .u8 (x.d 3), .int .u8 (x.d 4), .int .u8 (x.d 5), .int .u8 (x.d 6), .int .u8 (x.d 7),
   .int .u8 (x.d 8), .int .u8 (x.d 9), .int .u8 (x.d 10), .int .u8 (x.d 11), .int .u8 (x.d 12), .int .u8 (x.d 13), .int .u8 (x.d 14), .int .u8 (x.d 15), o]
theorem Tok.cells_length (t : Tok) : t.cells.length = 4 := rfl
theorem Nd.cells_length (x : Nd) (o : Value) : (x.cells o).length = 21 := rfl

/-! ### Rows -/
/-- A slice at A reads as the elements css, each of sz cells, and lies below block B. -/
def Row (w : World) (B sz : Nat) (A : Option Addr) (css : List (List Value)) : Prop :=
  ∀ i cs, css[i]? = some cs → ∃ b off, A = some ⟨b, off, none⟩ ∧ b < B ∧ ∀ j v, cs[j]? = some v → w.cell? ⟨b, off + i * sz + j, none⟩ = some v

theorem Row.nil_ (w : World) (B sz : Nat) (A : Option Addr) : Row w B sz A [] := fun i cs h => by simp at h
theorem Row.keep {w w' : World} {B sz : Nat} {A : Option Addr} {css : List (List Value)} (h : Row w B sz A css) (hk : ∀ b o, b < B → w'.cell? ⟨b, o, none⟩ = w.cell? ⟨b, o, none⟩) : Row w' B sz A css := by
  intro i cs hi
  obtain ⟨b, off, rfl, hb, hc⟩ := h i cs hi
  exact ⟨b, off, rfl, hb, fun j v hj => (hk b _ hb).trans (hc j v hj)⟩
theorem Row.below {w w' : World} {B B' sz : Nat} {A : Option Addr} {css : List (List Value)} (h : Row w B sz A css) (hb : Below B' w w') (hB : B ≤ B') : Row w' B sz A css :=
  h.keep fun b o hlt => hb.cell (p := ⟨b, o, none⟩) (Nat.lt_of_lt_of_le hlt hB)
theorem Row.more {w : World} {B B' sz : Nat} {A : Option Addr} {css : List (List Value)} (h : Row w B sz A css) (hB : B ≤ B') : Row w B' sz A css := by
  intro i cs hi
  obtain ⟨b, off, rfl, hb, hc⟩ := h i cs hi
  exact ⟨b, off, rfl, Nat.lt_of_lt_of_le hb hB, hc⟩
theorem Row.drewN {w : World} {B sz : Nat} {A : Option Addr} {css : List (List Value)} (h : Row w B sz A css) (n : Nat) : Row (w.drewN n) B sz A css := h
theorem Row.prefix_ {w : World} {B sz : Nat} {A : Option Addr} {css : List (List Value)} (h : Row w B sz A css) (n : Nat) : Row w B sz A (css.take n) := by
  intro i cs hi
  refine h i cs ?_
  rw [List.getElem?_take] at hi
  split at hi
  · exact hi
  · cases hi
theorem Row.cut {w : World} {B sz : Nat} {A : Option Addr} {css : List (List Value)} (h : Row w B sz A css) (k : Nat) (hsz : 0 < sz) : Row w B sz (A.map (·.add (k * sz))) (css.drop k) := by
  intro i cs hi
  rw [List.getElem?_drop] at hi
  obtain ⟨b, off, rfl, hb, hc⟩ := h _ cs hi
  refine ⟨b, off + k * sz, ?_, hb, fun j v hj => ?_⟩
  · show some (Addr.add _ _) = _
    unfold Addr.add
    split
    · rename_i h0
      rw [h0, Nat.add_zero]
    · rfl
  · have := hc j v hj
    rw [Nat.add_mul, ← Nat.add_assoc] at this
    exact this
theorem flatten_get {css : List (List Value)} {sz : Nat} (hsz : ∀ cs ∈ css, cs.length = sz) : ∀ (i : Nat) (cs : List Value), css[i]? = some cs → ∀ j v, cs[j]? = some v → css.flatten[i * sz + j]? = some v := by
  induction css with
  | nil => intro i cs h; simp at h
  | cons c r ih =>
    intro i cs h j v hj
    have hc : c.length = sz := hsz c (by simp)
    cases i with
    | zero =>
      simp at h
      subst h
      have hlt : j < c.length := by
        rcases Nat.lt_or_ge j c.length with q | q
        · exact q
        · rw [List.getElem?_eq_none q] at hj; cases hj
      rw [List.flatten_cons, Nat.zero_mul, Nat.zero_add, List.getElem?_append_left hlt]
      exact hj
    | succ i =>
      simp at h
      rw [List.flatten_cons, List.getElem?_append_right (by rw [hc, Nat.add_mul]; omega)]
      have := ih (fun cs hcs => hsz cs (by simp [hcs])) i cs h j v hj
      rw [← this, hc, Nat.add_mul]
      congr 1
      omega
/-- A row of the call's own reads. -/
theorem Row.of_own {w : World} {base e sz n : Nat} {v : Value} {css : List (List Value)} (h : w.ownsRow base e sz v n css.flatten) (hn : css.length = n) (hsz : ∀ cs ∈ css, cs.length = sz) :
    ∃ A c, v = .slice A n c ∧ n ≤ c ∧ c ≤ maxLen ∧ Row w w.heap.size sz A css ∧ (∀ b o s, A = some ⟨b, o, s⟩ → base ≤ b) := by
  rcases h.2 with ⟨rfl, h0⟩ | ⟨g, cap, cur, rfl, hb, hh, hle, hm, hs, ht⟩
  · subst h0
    obtain rfl := List.eq_nil_of_length_eq_zero hn
    exact ⟨none, 0, rfl, Nat.le_refl _, by simp [maxLen], Row.nil_ _ _ _ _, fun _ _ _ hx => by cases hx⟩
  · refine ⟨_, cap, rfl, hle, hm, fun i cs hi => ?_, fun b o s hx => by cases hx; exact hb⟩
    refine ⟨g, 0, rfl, (Array.getElem?_eq_some_iff.1 hh).1, fun j v hj => ?_⟩
    have hf := flatten_get hsz i cs hi j v hj
    have := h.cells (g := g) rfl _ _ hf
    rw [show (⟨g, 0, none⟩ : Addr).add (i * sz + j) = ⟨g, 0 + i * sz + j, none⟩ by unfold Addr.add; split <;> simp_all] at this
    exact this

/-! ### Tokens -/
def Toks (w : World) (B : Nat) (A : Option Addr) (ts : List Tok) : Prop := Row w B 4 A (ts.map Tok.cells)
theorem Toks.nil_ (w : World) (B : Nat) (A : Option Addr) : Toks w B A [] := Row.nil_ _ _ _ _
theorem Toks.below {w w' : World} {B B' : Nat} {A : Option Addr} {ts : List Tok} (h : Toks w B A ts) (hb : Below B' w w') (hB : B ≤ B') : Toks w' B A ts := Row.below h hb hB
theorem Toks.more {w : World} {B B' : Nat} {A : Option Addr} {ts : List Tok} (h : Toks w B A ts) (hB : B ≤ B') : Toks w B' A ts := Row.more h hB
theorem Toks.at_ {w : World} {B : Nat} {A : Option Addr} {ts : List Tok} (h : Toks w B A ts) {k : Nat} (hk : k < ts.length) :
    ∃ b off, A = some ⟨b, off, none⟩ ∧ b < B ∧ w.cell? ⟨b, off + k * 4, none⟩ = some (.int .i64 ts[k].k) ∧ w.cell? ⟨b, off + k * 4 + 1, none⟩ = some (.string ts[k].s) ∧
      w.cell? ⟨b, off + k * 4 + 2, none⟩ = some (.int .i64 ts[k].n) ∧ w.cell? ⟨b, off + k * 4 + 3, none⟩ = some (.int .i64 ts[k].p) := by
  obtain ⟨b, off, hA, hb, hc⟩ := h k ts[k].cells (by simp [List.getElem?_eq_getElem hk])
  exact ⟨b, off, hA, hb, hc 0 _ rfl, hc 1 _ rfl, hc 2 _ rfl, hc 3 _ rfl⟩
theorem Toks.head_ {w : World} {B : Nat} {A : Option Addr} {t : Tok} {ts : List Tok} (h : Toks w B A (t :: ts)) :
    ∃ b off, A = some ⟨b, off, none⟩ ∧ b < B ∧ w.cell? ⟨b, off, none⟩ = some (.int .i64 t.k) ∧ w.cell? ⟨b, off + 1, none⟩ = some (.string t.s) ∧
      w.cell? ⟨b, off + 2, none⟩ = some (.int .i64 t.n) ∧ w.cell? ⟨b, off + 3, none⟩ = some (.int .i64 t.p) := by
  obtain ⟨b, off, hA, hb, c0, c1, c2, c3⟩ := h.at_ (k := 0) (by simp)
  exact ⟨b, off, hA, hb, by simpa using c0, by simpa using c1, by simpa using c2, by simpa using c3⟩
theorem Toks.tail_ {w : World} {B b off : Nat} {t : Tok} {ts : List Tok} (h : Toks w B (some ⟨b, off, none⟩) (t :: ts)) : Toks w B (some ⟨b, off + 4, none⟩) ts := by
  have := Row.cut h 1 (by omega)
  simpa [Addr.add, Toks] using this

/-! ### Numbers -/
def Ints (w : World) (B : Nat) (A : Option Addr) (xs : List Int) : Prop := Row w B 1 A (xs.map fun x => [.int .i64 x])
theorem Ints.nil_ (w : World) (B : Nat) (A : Option Addr) : Ints w B A [] := Row.nil_ _ _ _ _
theorem Ints.below {w w' : World} {B B' : Nat} {A : Option Addr} {xs : List Int} (h : Ints w B A xs) (hb : Below B' w w') (hB : B ≤ B') : Ints w' B A xs := Row.below h hb hB
theorem Ints.more {w : World} {B B' : Nat} {A : Option Addr} {xs : List Int} (h : Ints w B A xs) (hB : B ≤ B') : Ints w B' A xs := Row.more h hB
theorem Ints.at_ {w : World} {B : Nat} {A : Option Addr} {xs : List Int} (h : Ints w B A xs) {k : Nat} (hk : k < xs.length) :
    ∃ b off, A = some ⟨b, off, none⟩ ∧ b < B ∧ w.cell? ⟨b, off + k, none⟩ = some (.int .i64 xs[k]) := by
  obtain ⟨b, off, hA, hb, hc⟩ := h k [.int .i64 xs[k]] (by simp [List.getElem?_eq_getElem hk])
  exact ⟨b, off, hA, hb, by simpa using hc 0 _ rfl⟩

/-! ### Nodes -/
def Nodes (w : World) (B : Nat) (A : Option Addr) (nds : List Nd) : Prop :=
  ∃ os : List Value, os.length = nds.length ∧ Row w B 21 A (List.zipWith Nd.cells nds os) ∧
    ∀ (i : Nat) nd o, nds[i]? = some nd → os[i]? = some o → ∃ Ao co, o = .slice Ao nd.of.length co ∧ Ints w B Ao nd.of
theorem Nodes.nil_ (w : World) (B : Nat) (A : Option Addr) : Nodes w B A [] := ⟨[], rfl, Row.nil_ _ _ _ _, fun i nd o h => by simp at h⟩
theorem Nodes.below {w w' : World} {B B' : Nat} {A : Option Addr} {nds : List Nd} (h : Nodes w B A nds) (hb : Below B' w w') (hB : B ≤ B') : Nodes w' B A nds := by
  obtain ⟨os, h1, h2, h3⟩ := h
  refine ⟨os, h1, h2.below hb hB, fun i nd o hi ho => ?_⟩
  obtain ⟨Ao, co, e, hx⟩ := h3 i nd o hi ho
  exact ⟨Ao, co, e, hx.below hb hB⟩
theorem Nodes.more {w : World} {B B' : Nat} {A : Option Addr} {nds : List Nd} (h : Nodes w B A nds) (hB : B ≤ B') : Nodes w B' A nds := by
  obtain ⟨os, h1, h2, h3⟩ := h
  refine ⟨os, h1, h2.more hB, fun i nd o hi ho => ?_⟩
  obtain ⟨Ao, co, e, hx⟩ := h3 i nd o hi ho
  exact ⟨Ao, co, e, hx.more hB⟩
/-- The cells of one node at an address. -/
def NdAt (w : World) (b off : Nat) (x : Nd) (o : Value) : Prop := ∀ j v, (x.cells o)[j]? = some v → w.cell? ⟨b, off + j, none⟩ = some v
theorem NdAt.all {w : World} {b off : Nat} {x : Nd} {o : Value} (h : NdAt w b off x o) :
    w.cell? ⟨b, off, none⟩ = some (.int .i64 x.k) ∧ w.cell? ⟨b, off + 1, none⟩ = some (.int .i64 x.n) ∧ w.cell? ⟨b, off + 2, none⟩ = some (.int .i64 x.m) ∧ w.cell? ⟨b, off + 3, none⟩ = some (.int .i64 x.sd) ∧
    w.cell? ⟨b, off + 4, none⟩ = some (.int .u8 (x.d 0)) ∧ w.cell? ⟨b, off + 5, none⟩ = some (.int .u8 (x.d 1)) ∧ w.cell? ⟨b, off + 6, none⟩ = some (.int .u8 (x.d 2)) ∧ w.cell? ⟨b, off + 7, none⟩ = some (.int .u8 (x.d 3)) ∧
    w.cell? ⟨b, off + 8, none⟩ = some (.int .u8 (x.d 4)) ∧ w.cell? ⟨b, off + 9, none⟩ = some (.int .u8 (x.d 5)) ∧ w.cell? ⟨b, off + 10, none⟩ = some (.int .u8 (x.d 6)) ∧ w.cell? ⟨b, off + 11, none⟩ = some (.int .u8 (x.d 7)) ∧
    w.cell? ⟨b, off + 12, none⟩ = some (.int .u8 (x.d 8)) ∧ w.cell? ⟨b, off + 13, none⟩ = some (.int .u8 (x.d 9)) ∧ w.cell? ⟨b, off + 14, none⟩ = some (.int .u8 (x.d 10)) ∧ w.cell? ⟨b, off + 15, none⟩ = some (.int .u8 (x.d 11)) ∧
    w.cell? ⟨b, off + 16, none⟩ = some (.int .u8 (x.d 12)) ∧ w.cell? ⟨b, off + 17, none⟩ = some (.int .u8 (x.d 13)) ∧ w.cell? ⟨b, off + 18, none⟩ = some (.int .u8 (x.d 14)) ∧ w.cell? ⟨b, off + 19, none⟩ = some (.int .u8 (x.d 15)) ∧
    w.cell? ⟨b, off + 20, none⟩ = some o :=
  ⟨h 0 _ rfl, h 1 _ rfl, h 2 _ rfl, h 3 _ rfl, h 4 _ rfl, h 5 _ rfl, h 6 _ rfl, h 7 _ rfl, h 8 _ rfl, h 9 _ rfl, h 10 _ rfl, h 11 _ rfl, h 12 _ rfl, h 13 _ rfl, h 14 _ rfl, h 15 _ rfl, h 16 _ rfl, h 17 _ rfl, h 18 _ rfl, h 19 _ rfl, h 20 _ rfl⟩
theorem Nodes.at_ {w : World} {B : Nat} {A : Option Addr} {nds : List Nd} (h : Nodes w B A nds) {k : Nat} (hk : k < nds.length) :
    ∃ b off Ao co, A = some ⟨b, off, none⟩ ∧ b < B ∧ NdAt w b (off + k * 21) nds[k] (.slice Ao nds[k].of.length co) ∧ Ints w B Ao nds[k].of := by
  obtain ⟨os, h1, h2, h3⟩ := h
  have ho : os[k]? = some (os[k]'(by omega)) := List.getElem?_eq_getElem (by omega)
  obtain ⟨Ao, co, e, hx⟩ := h3 k _ _ (List.getElem?_eq_getElem hk) ho
  obtain ⟨b, off, hA, hb, hc⟩ := h2 k (nds[k].cells (os[k]'(by omega))) (by rw [List.getElem?_zipWith, List.getElem?_eq_getElem hk, ho])
  rw [e] at hc
  exact ⟨b, off, Ao, co, hA, hb, hc, hx⟩
theorem NdAt.keep {w w' : World} {b off : Nat} {x : Nd} {o : Value} (h : NdAt w b off x o) (hk : ∀ p, w'.cell? ⟨b, p, none⟩ = w.cell? ⟨b, p, none⟩) : NdAt w' b off x o := fun j v hj => (hk _).trans (h j v hj)
theorem NdAt.below {w w' : World} {B b off : Nat} {x : Nd} {o : Value} (h : NdAt w b off x o) (hb : Below B w w') (hB : b < B) : NdAt w' b off x o := h.keep fun p => hb.cell (p := ⟨b, p, none⟩) hB

/-! ### Small words -/
theorem hide {p : Prop} (h : p) : Hid p := h
theorem ret_int {k : IntKind} {a b : Int} (h : a = b) : Ending.returned (.int k a) = .returned (.int k b) := by rw [h]
theorem ret_bool {a b : Bool} (h : a = b) : Ending.returned (.bool a) = .returned (.bool b) := by rw [h]
theorem below_drewN {B : Nat} {a w : World} (h : Below B a w) (n : Nat) : Below B a (w.drewN n) := ⟨h.os, h.tape, h.output, h.size, h.block⟩
theorem below_then {B : Nat} {w w1 w2 : World} (h : Below B w w1) (hB : B ≤ w1.heap.size) (k : Below w1.heap.size w1 w2) : Below B w w2 := h.trans (k.mono hB)
theorem below_size {w w1 : World} (h : Below w.heap.size w w1) : w.heap.size ≤ w1.heap.size := h.size
theorem below_drawn {w : World} (n : Nat) : Below w.heap.size w (w.drewN n) := below_drewN (Below.refl _ _) n
theorem quiet_left {P : Program} {f : FuncId} {args : Array Value} {w : World} {n : Nat} {v : Value}
    (h : Calls P f args (w.drewN n) fun e w' => e = .returned v ∧ w.drewN n = w') : Calls P f args (w.drewN n) fun e w'' => e = .returned v ∧ ∃ m, w'' = w.drewN m :=
  h.mono fun _ _ ⟨he, hm⟩ => ⟨he, n, hm.symm⟩
/-- The element types' rows of the table. -/
theorem info3 : (Tryz.prog.info? 3).map (fun i => (i.zero, i.size, i.bytes)) = some (some (.int .i64 0), 1, 8) := by kernel_rfl
theorem info62 : (Tryz.prog.info? 62).map (fun i => (i.zero, i.size, i.bytes)) = some (some (.agg #[.int .i64 0, .string ⟨#[]⟩, .int .i64 0, .int .i64 0]), 4, 40) := by kernel_rfl
theorem info67 : (Tryz.prog.info? 67).map (fun i => (i.zero, i.size, i.bytes)) = some (some (.agg #[.int .i64 0, .int .i64 0, .int .i64 0, .int .i64 0, .int .u8 0, .int .u8 0, .int .u8 0, .int .u8 0, .int .u8 0, .int .u8 0, .int .u8 0, .int .u8 0, .int .u8 0, .int .u8 0, .int .u8 0, .int .u8 0, .int .u8 0, .int .u8 0, .int .u8 0, .int .u8 0, .slice none 0 0]), 21, 72) := by kernel_rfl

/-! ### Fields of structs that are held by value -/
section
variable (a b c d : Value) (w : World)
@[go_sem] theorem run_tok_k : (Instr.field 62 (.agg #[a, b, c, d]) 0).run Tryz.prog w = .ok a w := by kernel_rfl
@[go_sem] theorem run_tok_s : (Instr.field 62 (.agg #[a, b, c, d]) 1).run Tryz.prog w = .ok b w := by kernel_rfl
@[go_sem] theorem run_tok_n : (Instr.field 62 (.agg #[a, b, c, d]) 2).run Tryz.prog w = .ok c w := by kernel_rfl
@[go_sem] theorem run_tok_p : (Instr.field 62 (.agg #[a, b, c, d]) 3).run Tryz.prog w = .ok d w := by kernel_rfl
@[go_sem] theorem run_at_l : (Instr.field 57 (.agg #[a, b, c]) 0).run Tryz.prog w = .ok a w := by kernel_rfl
@[go_sem] theorem run_at_k : (Instr.field 57 (.agg #[a, b, c]) 1).run Tryz.prog w = .ok b w := by kernel_rfl
@[go_sem] theorem run_at_n : (Instr.field 57 (.agg #[a, b, c]) 2).run Tryz.prog w = .ok c w := by kernel_rfl
@[go_sem] theorem run_facts_v : (Instr.field 42 (.agg #[a, b, c, d]) 0).run Tryz.prog w = .ok a w := by kernel_rfl
@[go_sem] theorem run_facts_e : (Instr.field 42 (.agg #[a, b, c, d]) 1).run Tryz.prog w = .ok b w := by kernel_rfl
@[go_sem] theorem run_facts_s : (Instr.field 42 (.agg #[a, b, c, d]) 2).run Tryz.prog w = .ok c w := by kernel_rfl
@[go_sem] theorem run_facts_p : (Instr.field 42 (.agg #[a, b, c, d]) 3).run Tryz.prog w = .ok d w := by kernel_rfl
@[go_sem] theorem run_policy_n : (Instr.field 25 (.agg #[a]) 0).run Tryz.prog w = .ok a w := by kernel_rfl
end
section
variable (a b c d e0 e1 e2 e3 e4 e5 e6 e7 e8 e9 ea eb ec ed ee ef g : Value) (w : World)
@[go_sem] theorem run_nd_k : (Instr.field 67 (.agg #[a, b, c, d, e0, e1, e2, e3, e4, e5, e6, e7, e8, e9, ea, eb, ec, ed, ee, ef, g]) 0).run Tryz.prog w = .ok a w := by kernel_rfl
@[go_sem] theorem run_nd_n : (Instr.field 67 (.agg #[a, b, c, d, e0, e1, e2, e3, e4, e5, e6, e7, e8, e9, ea, eb, ec, ed, ee, ef, g]) 1).run Tryz.prog w = .ok b w := by kernel_rfl
@[go_sem] theorem run_nd_m : (Instr.field 67 (.agg #[a, b, c, d, e0, e1, e2, e3, e4, e5, e6, e7, e8, e9, ea, eb, ec, ed, ee, ef, g]) 2).run Tryz.prog w = .ok c w := by kernel_rfl
@[go_sem] theorem run_nd_sd : (Instr.field 67 (.agg #[a, b, c, d, e0, e1, e2, e3, e4, e5, e6, e7, e8, e9, ea, eb, ec, ed, ee, ef, g]) 3).run Tryz.prog w = .ok d w := by kernel_rfl
@[go_sem] theorem run_nd_of : (Instr.field 67 (.agg #[a, b, c, d, e0, e1, e2, e3, e4, e5, e6, e7, e8, e9, ea, eb, ec, ed, ee, ef, g]) 5).run Tryz.prog w = .ok g w := by kernel_rfl
end
/-! ### A whole struct or array stored into a block of its own -/
theorem run_store_row {P : Program} (w : World) (ty : TypeId) (g : Nat) (v : Value) (old : Array Value) (t : TypeId) (hg : w.heap[g]? = some (.cells old t (0, 0))) (hs : old.size = v.cells.size)
    (hi : (P.info? ty).map (·.size) = some v.cells.size) (h1 : ∀ u ∈ v.cells.toList, u.oneCell' = true) : (Instr.storeAt ty (.pointer (some ⟨g, 0, none⟩)) v).run P w = .ok () (w.setRow g v.cells) := by
  cases hq : P.info? ty with
  | none => simp [hq] at hi
  | some i =>
    have hz : i.size = v.cells.size := by simpa [hq] using hi
    have hc := run_storeCells_from (P := P) g t v.cells.toList 0 old w hg (by simp [hs]) h1
    simp only [List.take_zero, List.nil_append, Array.toArray_toList] at hc
    simp [Instr.storeAt, Instr.sureAddr, storeVar, sizeOf, typeInfo, hq, hz, hc]
theorem wpList_store_row {P : Program} {ops : Array Oper} {rest : List Oper} {o : Oper} {a : Act} {w : World} {Q : Exit → Act → World → Prop} (hgd : o.guard = none) (ty : TypeId) (x y : Operand) (ho : o.op = .store ty x y)
    (g : Nat) (hx : a.eval x = .pointer (some ⟨g, 0, none⟩)) (v : Value) (hy : a.eval y = v) (old : Array Value) (t : TypeId) (hg : w.heap[g]? = some (.cells old t (0, 0))) (hs : old.size = v.cells.size)
    (hi : (P.info? ty).map (·.size) = some v.cells.size) (h1 : v.cells.all (·.oneCell') = true)
    (h : wpList P ops Q rest (a.put o.dst undef) (w.setRow g v.cells)) : wpList P ops Q (o :: rest) a w :=
  wpList_plain hgd fun _ hK => by
    have h1' : ∀ u ∈ v.cells.toList, u.oneCell' = true := fun u hu => by
      have := Array.all_eq_true'.1 h1 u (by simpa using hu)
      exact this
    unfold Oper.wp execOp
    simp only [ho, hx, hy, run_store_row w ty g v old t hg hs hi h1', Sem.run_bind, Sem.run_pure, Result.andThen_ok]
    exact hK _ _ h
theorem grown_setRow {w w' : World} {row : Option Nat} (h : w.grownBy w' row) {g : Nat} (hg : w.heap.size ≤ g) (cs : Array Value) : w.grownBy (w'.setRow g cs) row :=
  ⟨h.os, h.tape, h.output, by simpa using h.size, fun i hi hne => (setRow_other w' g i cs (by omega)).trans (h.block i hi hne)⟩
theorem below_setRow' {B : Nat} {w w' : World} (h : Below B w w') {g : Nat} (hg : B ≤ g) (cs : Array Value) : Below B w (w'.setRow g cs) :=
  ⟨h.os, h.tape, h.output, by simpa using h.size, fun i hi => (setRow_other w' g i cs (by omega)).trans (h.block i hi)⟩
end Go.Proofs.YtbojlnbdkaanmaaGreatDoor
