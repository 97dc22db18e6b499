/-
  The program's evaluation of policies: the functions of the table, and what they compute in plain Lean.
-/
import Derived.Test.YtbojlnbdkaanmaaGreatDoorParse
set_option linter.unusedVariables false
set_option linter.unusedSimpArgs false
namespace Go.Proofs.YtbojlnbdkaanmaaGreatDoor
open Go.RowKit

/-- Facts about a boot. -/
structure Fct where
  v : Int
  e : Int
  st : List (Nat → Int)
  pts : List (List Int)
def dCells (d : Nat → Int) : List Value := [.int .u8 (d 0), .int .u8 (d 1), .int .u8 (d 2), .int .u8 (d 3), .int .u8 (d 4), .int .u8 (d 5), .int .u8 (d 6), .int .u8 (d 7), .int .u8 (d 8), .int .u8 (d 9), .int .u8 (d 10), .int .u8 (d 11), .int .u8 (d 12), .int .u8 (d 13), .int .u8 (d 14), .int .u8 (d 15)]
def Pts (w : World) (B : Nat) (A : Option Addr) (pts : List (List Int)) : Prop :=
  ∃ os : List Value, os.length = pts.length ∧ Row w B 1 A (os.map fun o => [o]) ∧ ∀ (i : Nat) p o, pts[i]? = some p → os[i]? = some o → ∃ Ao co, o = .slice Ao p.length co ∧ Ints w B Ao p
/-- The rows that a value of facts leads to. -/
structure FctAt (w : World) (B : Nat) (F : Fct) (As Ap : Option Addr) : Prop where
  st : Row w B 16 As (F.st.map dCells)
  pts : Pts w B Ap F.pts
def tru (b : Bool) : Int := if b then 1 else 0
def notI (a : Int) : Int := if a < 0 then a else 1 - a
def andI (a b : Int) : Int := if a = 0 ∨ b = 0 then 0 else min a b
def tookF (F : Fct) (n m sd : Int) : Int :=
  match F.pts[n.toNat]? with
  | none => 0
  | some row => match row[m.toNat]? with
    | none => 0
    | some o => if o = -1 then -1 else tru (decide (bits .and .i64 o sd ≠ 0))
def sameD (a b : Nat → Int) : Bool := (List.range 16).all fun i => a i == b i
def atI (rs : List Int) (x : Option Int) : Int := match x with | none => 0 | some i => rs.getD i.toNat 0
def evStep (F : Fct) (rs : List Int) (nd : Nd) : Int :=
  if nd.k = 1 then 1
  else if nd.k = 2 then tru (F.v == nd.n)
  else if nd.k = 3 then tru (decide (F.v ≥ nd.n))
  else if nd.k = 4 then tru (F.e == nd.n)
  else if nd.k = 5 then tru (decide (F.e ≥ nd.n))
  else if nd.k = 6 then (match F.st[nd.n.toNat]? with | none => 0 | some d => tru (sameD d nd.d))
  else if nd.k = 7 then tookF F nd.n nd.m nd.sd
  else if nd.k = 8 then notI (atI rs nd.of[0]?)
  else if nd.k = 9 then andI (atI rs nd.of[0]?) (atI rs nd.of[1]?)
  else notI (andI (notI (atI rs nd.of[0]?)) (notI (atI rs nd.of[1]?)))

set_option maxHeartbeats 400000 in
theorem truth_any (w : World) (b : Bool) : Calls Tryz.prog 157 #[.bool b] w fun e w' => e = .returned (.int .i64 (tru b)) ∧ w = w' := by
  cases b
  all_goals
    go_enter Tryz.func157, Tryz.ntmps157
    go_wp2
    go_ret
    exact ⟨rfl, rfl⟩
set_option maxHeartbeats 400000 in
theorem not_i (w : World) (a : Int) (h : -1 ≤ a ∧ a ≤ 1) : Calls Tryz.prog 165 #[.int .i64 a] w fun e w' => e = .returned (.int .i64 (notI a)) ∧ w = w' := by
  by_cases h0 : a < 0
  all_goals
    go_enter Tryz.func165, Tryz.ntmps165
    go_wp2
    go_ret
    refine ⟨?_, rfl⟩
    simp [notI]
    omega
set_option maxHeartbeats 400000 in
theorem and_i (w : World) (a b : Int) : Calls Tryz.prog 167 #[.int .i64 a, .int .i64 b] w fun e w' => e = .returned (.int .i64 (andI a b)) ∧ w = w' := by
  go_enter Tryz.func167, Tryz.ntmps167
  go_wp2
  all_goals go_ret
  all_goals (refine ⟨?_, rfl⟩; simp_all [andI])
/-- A value of facts. -/
def Fct.val (F : Fct) (As : Option Addr) (cs : Nat) (Ap : Option Addr) (cp : Nat) : Value := .agg #[.int .i64 F.v, .int .i64 F.e, .slice As F.st.length cs, .slice Ap F.pts.length cp]

set_option maxRecDepth 100000 in
set_option maxHeartbeats 1000000 in
theorem ev155 (w : World) (nd : Nd) (o rv : Value) (ho : o.oneCell' = true) (F : Fct) (As : Option Addr) (cs : Nat) (Ap : Option Addr) (cp : Nat) :
    Calls Tryz.prog 155 #[Nd.val nd o, F.val As cs Ap cp, rv] w fun e w' => e = .returned (.int .i64 (1)) ∧ Below w.heap.size w w' := by
  simp only [Nd.val, Fct.val]
  go_enter Tryz.func155, Tryz.ntmps155
  go_wp2_with (go_at_call 157; (with_reducible refine Calls.mono (truth_any _ _) ?_); rintro e w1 ⟨rfl, rfl⟩)
  go_ret
  exact ⟨rfl, ((Below.refl _ w).alloc (Nat.le_refl _) _).alloc (by simp) _⟩

set_option maxRecDepth 100000 in
set_option maxHeartbeats 1000000 in
theorem ev156 (w : World) (nd : Nd) (o rv : Value) (ho : o.oneCell' = true) (F : Fct) (As : Option Addr) (cs : Nat) (Ap : Option Addr) (cp : Nat) :
    Calls Tryz.prog 156 #[Nd.val nd o, F.val As cs Ap cp, rv] w fun e w' => e = .returned (.int .i64 (tru (F.v == nd.n))) ∧ Below w.heap.size w w' := by
  simp only [Nd.val, Fct.val]
  go_enter Tryz.func156, Tryz.ntmps156
  go_wp2_with (go_at_call 157; (with_reducible refine Calls.mono (truth_any _ _) ?_); rintro e w1 ⟨rfl, rfl⟩)
  go_ret
  exact ⟨rfl, ((Below.refl _ w).alloc (Nat.le_refl _) _).alloc (by simp) _⟩

set_option maxRecDepth 100000 in
set_option maxHeartbeats 1000000 in
theorem ev158 (w : World) (nd : Nd) (o rv : Value) (ho : o.oneCell' = true) (F : Fct) (As : Option Addr) (cs : Nat) (Ap : Option Addr) (cp : Nat) :
    Calls Tryz.prog 158 #[Nd.val nd o, F.val As cs Ap cp, rv] w fun e w' => e = .returned (.int .i64 (tru (decide (F.v ≥ nd.n)))) ∧ Below w.heap.size w w' := by
  simp only [Nd.val, Fct.val]
  go_enter Tryz.func158, Tryz.ntmps158
  go_wp2_with (go_at_call 157; (with_reducible refine Calls.mono (truth_any _ _) ?_); rintro e w1 ⟨rfl, rfl⟩)
  go_ret
  exact ⟨rfl, ((Below.refl _ w).alloc (Nat.le_refl _) _).alloc (by simp) _⟩

set_option maxRecDepth 100000 in
set_option maxHeartbeats 1000000 in
theorem ev159 (w : World) (nd : Nd) (o rv : Value) (ho : o.oneCell' = true) (F : Fct) (As : Option Addr) (cs : Nat) (Ap : Option Addr) (cp : Nat) :
    Calls Tryz.prog 159 #[Nd.val nd o, F.val As cs Ap cp, rv] w fun e w' => e = .returned (.int .i64 (tru (F.e == nd.n))) ∧ Below w.heap.size w w' := by
  simp only [Nd.val, Fct.val]
  go_enter Tryz.func159, Tryz.ntmps159
  go_wp2_with (go_at_call 157; (with_reducible refine Calls.mono (truth_any _ _) ?_); rintro e w1 ⟨rfl, rfl⟩)
  go_ret
  exact ⟨rfl, ((Below.refl _ w).alloc (Nat.le_refl _) _).alloc (by simp) _⟩

set_option maxRecDepth 100000 in
set_option maxHeartbeats 1000000 in
theorem ev160 (w : World) (nd : Nd) (o rv : Value) (ho : o.oneCell' = true) (F : Fct) (As : Option Addr) (cs : Nat) (Ap : Option Addr) (cp : Nat) :
    Calls Tryz.prog 160 #[Nd.val nd o, F.val As cs Ap cp, rv] w fun e w' => e = .returned (.int .i64 (tru (decide (F.e ≥ nd.n)))) ∧ Below w.heap.size w w' := by
  simp only [Nd.val, Fct.val]
  go_enter Tryz.func160, Tryz.ntmps160
  go_wp2_with (go_at_call 157; (with_reducible refine Calls.mono (truth_any _ _) ?_); rintro e w1 ⟨rfl, rfl⟩)
  go_ret
  exact ⟨rfl, ((Below.refl _ w).alloc (Nat.le_refl _) _).alloc (by simp) _⟩

/-- The results so far, as Eval's slice holds them. -/
def ResAt (w : World) (B : Nat) (A : Option Addr) (n : Nat) (rs : List Int) : Prop := ∃ zs : List Int, zs.length = n ∧ (∀ i, i < rs.length → zs[i]? = rs[i]?) ∧ rs.length ≤ n ∧ Ints w B A zs
theorem ResAt.at_ {w : World} {B : Nat} {A : Option Addr} {n : Nat} {rs : List Int} (h : ResAt w B A n rs) {i : Nat} (hi : i < rs.length) : ∃ b off, A = some ⟨b, off, none⟩ ∧ b < B ∧ w.cell? ⟨b, off + i, none⟩ = some (.int .i64 rs[i]) ∧ i < n := by
  obtain ⟨zs, h1, h2, h3, h4⟩ := h
  obtain ⟨b, off, hA, hb, hc⟩ := h4.at_ (k := i) (by omega)
  have := h2 i hi
  rw [List.getElem?_eq_getElem (by omega), List.getElem?_eq_getElem hi] at this
  injection this with this
  exact ⟨b, off, hA, hb, by rw [← this]; exact hc, by omega⟩

set_option maxRecDepth 100000 in
set_option maxHeartbeats 1000000 in
theorem ev164 (w : World) (nd : Nd) (Ao : Option Addr) (co : Nat) (F : Fct) (As : Option Addr) (cs : Nat) (Ap : Option Addr) (cp : Nat) (Ar : Option Addr) (n cr : Nat) (rs : List Int) (a : Nat)
    (hof : nd.of = [(a : Int)]) (hO : Ints w w.heap.size Ao nd.of) (hR : ResAt w w.heap.size Ar n rs) (ha : a < rs.length) (hv : ∀ x ∈ rs, -1 ≤ x ∧ x ≤ 1) :
    Calls Tryz.prog 164 #[Nd.val nd (.slice Ao nd.of.length co), F.val As cs Ap cp, .slice Ar n cr] w fun e w' => e = .returned (.int .i64 (notI (atI rs nd.of[0]?))) ∧ Below w.heap.size w w' := by
  obtain ⟨b1, o1, rfl, hb1, c1⟩ := hO.at_ (k := 0) (by rw [hof]; simp)
  obtain ⟨b2, o2, rfl, hb2, c2, hn⟩ := hR.at_ ha
  have e1 : nd.of[0]'(by rw [hof]; simp) = (a : Int) := by simp [hof]
  rw [e1, Nat.add_zero] at c1
  have hl : nd.of.length = 1 := by rw [hof]; rfl
  have hr : notI (atI rs nd.of[0]?) = notI rs[a] := by simp [hof, atI, ha]
  have hrb := hv rs[a] (List.getElem_mem ha)
  rw [hr, hl]
  clear hof hO hR e1 hl hr hv
  simp only [Nd.val, Fct.val]
  go_enter Tryz.func164, Tryz.ntmps164
  go_wp2_with (go_at_call 165; (with_reducible refine Calls.mono (not_i _ _ hrb) ?_); rintro e w1 ⟨rfl, rfl⟩)
  go_ret
  exact ⟨rfl, ((Below.refl _ w).alloc (Nat.le_refl _) _).alloc (by simp) _⟩

set_option maxRecDepth 100000 in
set_option maxHeartbeats 1000000 in
theorem ev166 (w : World) (nd : Nd) (Ao : Option Addr) (co : Nat) (F : Fct) (As : Option Addr) (cs : Nat) (Ap : Option Addr) (cp : Nat) (Ar : Option Addr) (n cr : Nat) (rs : List Int) (a b : Nat)
    (hof : nd.of = [(a : Int), (b : Int)]) (hO : Ints w w.heap.size Ao nd.of) (hR : ResAt w w.heap.size Ar n rs) (ha : a < rs.length) (hb : b < rs.length) :
    Calls Tryz.prog 166 #[Nd.val nd (.slice Ao nd.of.length co), F.val As cs Ap cp, .slice Ar n cr] w fun e w' => e = .returned (.int .i64 (andI (atI rs nd.of[0]?) (atI rs nd.of[1]?))) ∧ Below w.heap.size w w' := by
  obtain ⟨b1, o1, rfl, hb1, c1⟩ := hO.at_ (k := 0) (by rw [hof]; simp)
  obtain ⟨b1', o1', he, _, c1'⟩ := hO.at_ (k := 1) (by rw [hof]; simp)
  cases he
  obtain ⟨b2, o2, rfl, hb2, c2, hn⟩ := hR.at_ ha
  obtain ⟨b2', o2', he, _, c2', hn'⟩ := hR.at_ hb
  cases he
  have e1 : nd.of[0]'(by rw [hof]; simp) = (a : Int) := by simp [hof]
  have e2 : nd.of[1]'(by rw [hof]; simp) = (b : Int) := by simp [hof]
  rw [e1, Nat.add_zero] at c1
  rw [e2] at c1'
  have hl : nd.of.length = 2 := by rw [hof]; rfl
  have hr : andI (atI rs nd.of[0]?) (atI rs nd.of[1]?) = andI rs[a] rs[b] := by simp [hof, atI, ha, hb]
  rw [hr, hl]
  have hnI : (a : Int) < n := by omega
  have hnI' : (b : Int) < n := by omega
  clear hof hO hR e1 e2 hl hr
  simp only [Nd.val, Fct.val]
  go_enter Tryz.func166, Tryz.ntmps166
  go_wp2
  go_quiet ((go_at_call 167; refine quiet_left (and_i _ _ _)))
  go_wp2
  go_ret
  exact ⟨rfl, below_drewN (((Below.refl _ w).alloc (Nat.le_refl _) _).alloc (by simp) _) _⟩
theorem notI_b {a : Int} (h : -1 ≤ a ∧ a ≤ 1) : -1 ≤ notI a ∧ notI a ≤ 1 := by unfold notI; split <;> omega
theorem andI_b {a b : Int} (h : -1 ≤ a ∧ a ≤ 1) (k : -1 ≤ b ∧ b ≤ 1) : -1 ≤ andI a b ∧ andI a b ≤ 1 := by unfold andI; split <;> omega

set_option maxRecDepth 100000 in
set_option maxHeartbeats 1000000 in
theorem ev168 (w : World) (nd : Nd) (Ao : Option Addr) (co : Nat) (F : Fct) (As : Option Addr) (cs : Nat) (Ap : Option Addr) (cp : Nat) (Ar : Option Addr) (n cr : Nat) (rs : List Int) (a b : Nat)
    (hof : nd.of = [(a : Int), (b : Int)]) (hO : Ints w w.heap.size Ao nd.of) (hR : ResAt w w.heap.size Ar n rs) (ha : a < rs.length) (hb : b < rs.length) (hv : ∀ x ∈ rs, -1 ≤ x ∧ x ≤ 1) :
    Calls Tryz.prog 168 #[Nd.val nd (.slice Ao nd.of.length co), F.val As cs Ap cp, .slice Ar n cr] w fun e w' => e = .returned (.int .i64 (notI (andI (notI (atI rs nd.of[0]?)) (notI (atI rs nd.of[1]?))))) ∧ Below w.heap.size w w' := by
  obtain ⟨b1, o1, rfl, hb1, c1⟩ := hO.at_ (k := 0) (by rw [hof]; simp)
  obtain ⟨b1', o1', he, _, c1'⟩ := hO.at_ (k := 1) (by rw [hof]; simp)
  cases he
  obtain ⟨b2, o2, rfl, hb2, c2, hn⟩ := hR.at_ ha
  obtain ⟨b2', o2', he, _, c2', hn'⟩ := hR.at_ hb
  cases he
  have e1 : nd.of[0]'(by rw [hof]; simp) = (a : Int) := by simp [hof]
  have e2 : nd.of[1]'(by rw [hof]; simp) = (b : Int) := by simp [hof]
  rw [e1, Nat.add_zero] at c1
  rw [e2] at c1'
  have hl : nd.of.length = 2 := by rw [hof]; rfl
  have hr : notI (andI (notI (atI rs nd.of[0]?)) (notI (atI rs nd.of[1]?))) = notI (andI (notI rs[a]) (notI rs[b])) := by simp [hof, atI, ha, hb]
  have q1 := hv rs[a] (List.getElem_mem ha)
  have q2 := hv rs[b] (List.getElem_mem hb)
  have q3 := andI_b (notI_b q1) (notI_b q2)
  rw [hr, hl]
  have hnI : (a : Int) < n := by omega
  have hnI' : (b : Int) < n := by omega
  clear hof hO hR e1 e2 hl hr
  simp only [Nd.val, Fct.val]
  go_enter Tryz.func168, Tryz.ntmps168
  go_wp2
  go_quiet (first | (go_at_call 165; refine quiet_left (not_i _ _ q1)) | (go_at_call 165; refine quiet_left (not_i _ _ q2)) | (go_at_call 165; refine quiet_left (not_i _ _ q3)) | (go_at_call 167; refine quiet_left (and_i _ _ _)))
  go_wp2
  go_ret
  exact ⟨rfl, below_drewN (((Below.refl _ w).alloc (Nat.le_refl _) _).alloc (by simp) _) _⟩

theorem dCells_at {w : World} {b off : Nat} {d : Nat → Int} (h : ∀ j v, (dCells d)[j]? = some v → w.cell? ⟨b, off + j, none⟩ = some v) :
    w.cell? ⟨b, off, none⟩ = some (.int .u8 (d 0)) ∧ w.cell? ⟨b, off + 1, none⟩ = some (.int .u8 (d 1)) ∧ w.cell? ⟨b, off + 2, none⟩ = some (.int .u8 (d 2)) ∧ w.cell? ⟨b, off + 3, none⟩ = some (.int .u8 (d 3)) ∧
    w.cell? ⟨b, off + 4, none⟩ = some (.int .u8 (d 4)) ∧ w.cell? ⟨b, off + 5, none⟩ = some (.int .u8 (d 5)) ∧ w.cell? ⟨b, off + 6, none⟩ = some (.int .u8 (d 6)) ∧ w.cell? ⟨b, off + 7, none⟩ = some (.int .u8 (d 7)) ∧
    w.cell? ⟨b, off + 8, none⟩ = some (.int .u8 (d 8)) ∧ w.cell? ⟨b, off + 9, none⟩ = some (.int .u8 (d 9)) ∧ w.cell? ⟨b, off + 10, none⟩ = some (.int .u8 (d 10)) ∧ w.cell? ⟨b, off + 11, none⟩ = some (.int .u8 (d 11)) ∧
    w.cell? ⟨b, off + 12, none⟩ = some (.int .u8 (d 12)) ∧ w.cell? ⟨b, off + 13, none⟩ = some (.int .u8 (d 13)) ∧ w.cell? ⟨b, off + 14, none⟩ = some (.int .u8 (d 14)) ∧ w.cell? ⟨b, off + 15, none⟩ = some (.int .u8 (d 15)) :=
  ⟨h 0 _ rfl, h 1 _ rfl, h 2 _ rfl, h 3 _ rfl, h 4 _ rfl, h 5 _ rfl, h 6 _ rfl, h 7 _ rfl, h 8 _ rfl, h 9 _ rfl, h 10 _ rfl, h 11 _ rfl, h 12 _ rfl, h 13 _ rfl, h 14 _ rfl, h 15 _ rfl⟩
end Go.Proofs.YtbojlnbdkaanmaaGreatDoor
