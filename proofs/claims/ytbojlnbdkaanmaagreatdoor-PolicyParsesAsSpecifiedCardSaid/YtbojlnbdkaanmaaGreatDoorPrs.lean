/-
  The reference's Pairs: two lists of points compared.
-/
import Derived.Test.YtbojlnbdkaanmaaGreatDoorPtsC
import Derived.Test.YtbojlnbdkaanmaaGreatDoorRef0
set_option linter.unusedVariables false
set_option linter.unusedSimpArgs false
namespace Go.Proofs.YtbojlnbdkaanmaaGreatDoor
open Go.RowKit

theorem eqElems_step3 {P : Program} (w : World) (d : Nat) (xs ys : Array Value) (a b : Int) (i : Nat) (is : List Nat) (hx : ∀ w, (part 3 xs (i * 1)).run P w = .ok (.int .i64 a) w) (hy : ∀ w, (part 3 ys (i * 1)).run P w = .ok (.int .i64 b) w)
    (h3 : P.underlying 3 = some (.int .i64)) (r : Bool) (hr : (eqElems (d + 1) 1 3 xs ys is).run P w = .ok r w) : (eqElems (d + 1) 1 3 xs ys (i :: is)).run P w = .ok (a == b && r) w := by
  simp only [eqElems, Sem.run_bind, hx, hy, Result.andThen_ok, run_equalIn_int w d 3 .i64 .i64 a b h3]
  cases hab : a == b
  · simp [Sem.run_pure]
  · simpa using hr
/-- Two points are compared number by number. -/
@[go_sem] theorem run_eq50 (a0 a1 b0 b1 : Int) (w : World) :
    (Op.equalIn 10000 50 (.agg #[.int .i64 a0, .int .i64 a1]) (.agg #[.int .i64 b0, .int .i64 b1])).run Tryz.prog w = .ok (a0 == b0 && (a1 == b1 && true)) w := by
  rw [run_equalIn_array w 9999 50 2 3 _ _ Tryz.underlying50 1 Tryz.sizeOf3]
  change (eqElems 9999 1 3 _ _ [0, 1]).run Tryz.prog w = _
  refine eqElems_step3 w 9998 _ _ a0 b0 0 _ (fun w => by kernel_rfl) (fun w => by kernel_rfl) Tryz.underlying3 _ ?_
  refine eqElems_step3 w 9998 _ _ a1 b1 1 _ (fun w => by kernel_rfl) (fun w => by kernel_rfl) Tryz.underlying3 _ ?_
  rfl
theorem guard50 : Tryz.prog.eqGuardType Tryz.prog.depth 50 = false := by kernel_rfl
theorem Prs.at_ {w : World} {B : Nat} {A : Option Addr} {ps : List (Int × Int)} (h : Prs w B A ps) {k : Nat} (hk : k < ps.length) :
    ∃ b off, A = some ⟨b, off, none⟩ ∧ b < B ∧ w.cell? ⟨b, off + k * 2, none⟩ = some (.int .i64 ps[k].1) ∧ w.cell? ⟨b, off + k * 2 + 1, none⟩ = some (.int .i64 ps[k].2) := by
  obtain ⟨b, off, hA, hb, hc⟩ := h k (encP ps[k]) (by simp [List.getElem?_eq_getElem hk])
  exact ⟨b, off, hA, hb, hc 0 _ rfl, hc 1 _ rfl⟩

set_option maxRecDepth 100000 in
set_option maxHeartbeats 2000000 in
theorem pairs_any (w : World) (A B : Option Addr) (ca cb : Nat) (xs ys : List (Int × Int)) (hl : xs.length ≤ 1000000000) (hx : Prs w w.heap.size A xs) (hy : Prs w w.heap.size B ys) :
    Calls Tryz.prog 18 #[.slice A xs.length ca, .slice B ys.length cb] w fun e w' => e = .returned (.bool (decide (xs = ys))) ∧ Below w.heap.size w w' := by
  have Hx := hide hx
  have Hy := hide hy
  clear hx hy
  have hm := guard50
  by_cases hlen : xs.length = ys.length
  · have hne : ((xs.length : Int) != (ys.length : Int)) = false := by rw [hlen]; simp
    have Hlen := hide hlen
    clear hlen
    go_enter Tryz.func18, Tryz.ntmps18
    go_wp2
    go_loopw [5] (fun i wr => ∃ k : Nat, k ≤ xs.length ∧ i = .int .i64 k ∧ Hid (xs.take k = ys.take k) ∧ Hid (Below w.heap.size w wr)) (fun i _ => xs.length - (intOf i).toNat)
    case atStart => exact ⟨0, Nat.zero_le _, rfl, rfl, Below.refl _ _⟩
    case round =>
      obtain ⟨k, hk, rfl, HT, HB⟩ := hrel
      by_cases hlt : k < xs.length
      · obtain ⟨b, off, rfl, hb, c, c'⟩ := Hx.out.at_ hlt
        obtain ⟨b2, off2, rfl, hb2, c2, c2'⟩ := Hy.out.at_ (k := k) (by rw [← Hlen.out]; exact hlt)
        have d := (HB.out.cell (p := ⟨b, off + k * 2, none⟩) hb).trans c
        have d' := (HB.out.cell (p := ⟨b, off + k * 2 + 1, none⟩) hb).trans c'
        have d2 := (HB.out.cell (p := ⟨b2, off2 + k * 2, none⟩) hb2).trans c2
        have d2' := (HB.out.cell (p := ⟨b2, off2 + k * 2 + 1, none⟩) hb2).trans c2'
        have hlI : (k : Int) < (xs.length : Int) := by omega
        have hlI2 : (k : Int) < (ys.length : Int) := by have := Hlen.out; omega
        have hlN2 : k < ys.length := by have := Hlen.out; omega
        obtain ⟨x, hxx⟩ : ∃ x, xs[k] = x := ⟨_, rfl⟩
        obtain ⟨y, hyy⟩ : ∃ y, ys[k] = y := ⟨_, rfl⟩
        rw [hxx] at d d'
        rw [hyy] at d2 d2'
        have Hxx := hide hxx
        have Hyy := hide hyy
        clear c c2 c' c2' hb hb2 hxx hyy
        obtain ⟨x1, x2⟩ := x
        obtain ⟨y1, y2⟩ := y
        by_cases he1 : x1 = y1
        · by_cases he2 : x2 = y2
          · subst he1
            subst he2
            go_wp2
            go_quiet (fail)
            go_wp2
            go_roundw
            case rel => exact ⟨k + 1, by omega, by go_num, take_eq_snoc HT.out hlt hlN2 (Hxx.out.trans Hyy.out.symm), below_drewN HB.out _⟩
            case measure => simp [intOf]; omega
          · subst he1
            have hq : (x2 == y2) = false := by simpa using he2
            go_wp2
            go_quiet (fail)
            go_wp2
            go_ret
            refine ⟨ret_bool ?_, below_drewN HB.out _⟩
            rw [eq_comm, decide_eq_false_iff_not]
            intro h
            subst h
            have := Hxx.out.symm.trans Hyy.out
            injection this with _ this
            exact he2 this
        · have hq : (x1 == y1) = false := by simpa using he1
          go_wp2
          go_quiet (fail)
          go_wp2
          go_ret
          refine ⟨ret_bool ?_, below_drewN HB.out _⟩
          rw [eq_comm, decide_eq_false_iff_not]
          intro h
          subst h
          have := Hxx.out.symm.trans Hyy.out
          injection this with this
          exact he1 this
      · obtain rfl : k = xs.length := by omega
        go_wp2
        go_ret
        refine ⟨ret_bool ?_, HB.out⟩
        have h := HT.out
        rw [List.take_length, Hlen.out, List.take_length] at h
        simp [h]
  · have hne : ((xs.length : Int) != (ys.length : Int)) = true := by simp; omega
    go_enter Tryz.func18, Tryz.ntmps18
    go_wp2
    go_ret
    refine ⟨ret_bool ?_, Below.refl _ _⟩
    rw [eq_comm, decide_eq_false_iff_not]
    intro h
    subst h
    exact hlen rfl
end Go.Proofs.YtbojlnbdkaanmaaGreatDoor
