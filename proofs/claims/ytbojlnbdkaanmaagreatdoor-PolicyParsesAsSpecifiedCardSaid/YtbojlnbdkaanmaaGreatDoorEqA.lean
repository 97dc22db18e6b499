/-
  Equality of arrays of one-cell integers, as a law for the walk.
-/
import Derived.Test.YtbojlnbdkaanmaaGreatDoorRep
set_option linter.unusedVariables false
set_option linter.unusedSimpArgs false
namespace Go.Proofs.YtbojlnbdkaanmaaGreatDoor
open Go.RowKit
section
variable {P : Program} (w : World)

/-- The elements of two arrays, compared one by one. -/
def eqElems (d n : Nat) (e : TypeId) (xs ys : Array Value) : List Nat → Sem Bool
  | [] => pure true
  | i :: is => do
    let a ← part e xs (i * n)
    let b ← part e ys (i * n)
    let r ← Op.equalIn d e a b
    if (!r) = true then pure false else eqElems d n e xs ys is

theorem run_equalIn_array (d : Nat) (t : TypeId) (len : Nat) (e : TypeId) (xs ys : Array Value) (ht : P.underlying t = some (.array len e)) (n : Nat) (hn : ∀ w, (sizeOf e).run P w = .ok n w) :
    (Op.equalIn (d + 1) t (.agg xs) (.agg ys)).run P w = (eqElems d n e xs ys (List.range' 0 len)).run P w := by
  simp only [Op.equalIn, run_underlying ht, Sem.run_bind, Result.andThen_ok, hn]
  simp only [Std.Legacy.Range.forIn_eq_forIn_range', Std.Legacy.Range.size, Nat.sub_zero, Nat.add_sub_cancel, Nat.div_one]
  generalize List.range' 0 len = l
  induction l generalizing w with
  | nil => simp [eqElems]
  | cons i is ih =>
    simp only [List.forIn_cons, Sem.run_bind, eqElems]
    generalize (part e xs (i * n)).run P w = r1
    cases r1 with
    | ok a w1 =>
      simp only [Result.andThen_ok]
      generalize (part e ys (i * n)).run P w1 = r2
      cases r2 with
      | ok b w2 =>
        simp only [Result.andThen_ok]
        generalize (Op.equalIn d e a b).run P w2 = r3
        cases r3 with
        | ok r w3 =>
          cases r
          · simp only [Result.andThen_ok, Bool.not_false, if_true, Sem.run_pure]
          · simp only [Result.andThen_ok, Bool.not_true, Bool.false_eq_true, if_false, Sem.run_pure]
            exact ih w3
        | halt x w3 => simp [Result.andThen]
      | halt x w2 => simp [Result.andThen]
    | halt x w1 => simp [Result.andThen]
theorem eqElems_step (d : Nat) (xs ys : Array Value) (a b : Int) (i : Nat) (is : List Nat) (hx : ∀ w, (part 5 xs (i * 1)).run P w = .ok (.int .u8 a) w) (hy : ∀ w, (part 5 ys (i * 1)).run P w = .ok (.int .u8 b) w)
    (h5 : P.underlying 5 = some (.int .u8)) (r : Bool) (hr : (eqElems (d + 1) 1 5 xs ys is).run P w = .ok r w) : (eqElems (d + 1) 1 5 xs ys (i :: is)).run P w = .ok (a == b && r) w := by
  simp only [eqElems, Sem.run_bind, hx, hy, Result.andThen_ok, run_equalIn_int w d 5 .u8 .u8 a b h5]
  cases hab : a == b
  · simp [Sem.run_pure]
  · simpa using hr
end
/-- Two digests are compared byte by byte. -/
@[go_sem] theorem run_eq65 (a0 a1 a2 a3 a4 a5 a6 a7 a8 a9 a10 a11 a12 a13 a14 a15 b0 b1 b2 b3 b4 b5 b6 b7 b8 b9 b10 b11 b12 b13 b14 b15 : Int) (w : World) :
    (Op.equalIn 10000 65 (.agg #[.int .u8 a0, .int .u8 a1, .int .u8 a2, .int .u8 a3, .int .u8 a4, .int .u8 a5, .int .u8 a6, .int .u8 a7, .int .u8 a8, .int .u8 a9, .int .u8 a10, .int .u8 a11, .int .u8 a12, .int .u8 a13, .int .u8 a14, .int .u8 a15]) (.agg #[.int .u8 b0, .int .u8 b1, .int .u8 b2, .int .u8 b3, .int .u8 b4, .int .u8 b5, .int .u8 b6, .int .u8 b7, .int .u8 b8, .int .u8 b9, .int .u8 b10, .int .u8 b11, .int .u8 b12, .int .u8 b13, .int .u8 b14, .int .u8 b15])).run Tryz.prog w =
      .ok (a0 == b0 && (a1 == b1 && (a2 == b2 && (a3 == b3 && (a4 == b4 && (a5 == b5 && (a6 == b6 && (a7 == b7 && (a8 == b8 && (a9 == b9 && (a10 == b10 && (a11 == b11 && (a12 == b12 && (a13 == b13 && (a14 == b14 && (a15 == b15 && true)))))))))))))))) w := by
  rw [run_equalIn_array w 9999 65 16 5 _ _ Tryz.underlying65 1 Tryz.sizeOf5]
  change (eqElems 9999 1 5 _ _ [0, 1, 2, 3, 4, 5, 6, 7, 8, 9, 10, 11, 12, 13, 14, 15]).run Tryz.prog w = _
  refine eqElems_step w 9998 _ _ a0 b0 0 _ (fun w => by kernel_rfl) (fun w => by kernel_rfl) Tryz.underlying5 _ ?_
  refine eqElems_step w 9998 _ _ a1 b1 1 _ (fun w => by kernel_rfl) (fun w => by kernel_rfl) Tryz.underlying5 _ ?_
  refine eqElems_step w 9998 _ _ a2 b2 2 _ (fun w => by kernel_rfl) (fun w => by kernel_rfl) Tryz.underlying5 _ ?_
  refine eqElems_step w 9998 _ _ a3 b3 3 _ (fun w => by kernel_rfl) (fun w => by kernel_rfl) Tryz.underlying5 _ ?_
  refine eqElems_step w 9998 _ _ a4 b4 4 _ (fun w => by kernel_rfl) (fun w => by kernel_rfl) Tryz.underlying5 _ ?_
  refine eqElems_step w 9998 _ _ a5 b5 5 _ (fun w => by kernel_rfl) (fun w => by kernel_rfl) Tryz.underlying5 _ ?_
  refine eqElems_step w 9998 _ _ a6 b6 6 _ (fun w => by kernel_rfl) (fun w => by kernel_rfl) Tryz.underlying5 _ ?_
  refine eqElems_step w 9998 _ _ a7 b7 7 _ (fun w => by kernel_rfl) (fun w => by kernel_rfl) Tryz.underlying5 _ ?_
  refine eqElems_step w 9998 _ _ a8 b8 8 _ (fun w => by kernel_rfl) (fun w => by kernel_rfl) Tryz.underlying5 _ ?_
  refine eqElems_step w 9998 _ _ a9 b9 9 _ (fun w => by kernel_rfl) (fun w => by kernel_rfl) Tryz.underlying5 _ ?_
  refine eqElems_step w 9998 _ _ a10 b10 10 _ (fun w => by kernel_rfl) (fun w => by kernel_rfl) Tryz.underlying5 _ ?_
  refine eqElems_step w 9998 _ _ a11 b11 11 _ (fun w => by kernel_rfl) (fun w => by kernel_rfl) Tryz.underlying5 _ ?_
  refine eqElems_step w 9998 _ _ a12 b12 12 _ (fun w => by kernel_rfl) (fun w => by kernel_rfl) Tryz.underlying5 _ ?_
  refine eqElems_step w 9998 _ _ a13 b13 13 _ (fun w => by kernel_rfl) (fun w => by kernel_rfl) Tryz.underlying5 _ ?_
  refine eqElems_step w 9998 _ _ a14 b14 14 _ (fun w => by kernel_rfl) (fun w => by kernel_rfl) Tryz.underlying5 _ ?_
  refine eqElems_step w 9998 _ _ a15 b15 15 _ (fun w => by kernel_rfl) (fun w => by kernel_rfl) Tryz.underlying5 _ ?_
  rfl
theorem guard65 : Tryz.prog.eqGuardType Tryz.prog.depth 65 = false := by kernel_rfl
end Go.Proofs.YtbojlnbdkaanmaaGreatDoor
