/-
  The program's evaluation of policies, part 3: took.
-/
import Derived.Test.YtbojlnbdkaanmaaGreatDoorEv
set_option linter.unusedVariables false
set_option linter.unusedSimpArgs false
namespace Go.Proofs.YtbojlnbdkaanmaaGreatDoor
open Go.RowKit

theorem Pts.at_ {w : World} {B : Nat} {A : Option Addr} {pts : List (List Int)} (h : Pts w B A pts) {i : Nat} (hi : i < pts.length) :
    ∃ b off Ao co, A = some ⟨b, off, none⟩ ∧ b < B ∧ w.cell? ⟨b, off + i, none⟩ = some (.slice Ao pts[i].length co) ∧ Ints w B Ao pts[i] := by
  obtain ⟨os, h1, h2, h3⟩ := h
  have ho : os[i]? = some (os[i]'(by omega)) := List.getElem?_eq_getElem (by omega)
  obtain ⟨Ao, co, e, hx⟩ := h3 i _ _ (List.getElem?_eq_getElem hi) ho
  obtain ⟨b, off, hA, hb, hc⟩ := h2 i [os[i]'(by omega)] (by rw [List.getElem?_map, ho]; rfl)
  rw [e] at hc
  exact ⟨b, off, Ao, co, hA, hb, by simpa using hc 0 _ rfl, hx⟩

set_option maxRecDepth 100000 in
set_option maxHeartbeats 4000000 in
theorem took_any (w : World) (nd : Nd) (o : Value) (ho : o.oneCell' = true) (F : Fct) (As : Option Addr) (cs : Nat) (Ap : Option Addr) (cp : Nat) (n m : Nat) (hn : nd.n = n) (hm : nd.m = m) (hP : Pts w w.heap.size Ap F.pts) :
    Calls Tryz.prog 163 #[Nd.val nd o, F.val As cs Ap cp] w fun e w' => e = .returned (.int .i64 (tookF F nd.n nd.m nd.sd)) ∧ Below w.heap.size w w' := by
  simp only [Nd.val, Fct.val, hn, hm]
  have hb0 : Below w.heap.size w ((w.alloc (.cells #[.int .i64 nd.k, .int .i64 n, .int .i64 m, .int .i64 nd.sd, .int .u8 (nd.d 0), .int .u8 (nd.d 1), .int .u8 (nd.d 2), .int .u8 (nd.d 3), .int .u8 (nd.d 4), .int .u8 (nd.d 5), .int .u8 (nd.d 6), .int .u8 (nd.d 7), .int .u8 (nd.d 8), .int .u8 (nd.d 9), .int .u8 (nd.d 10), .int .u8 (nd.d 11), .int .u8 (nd.d 12), .int .u8 (nd.d 13), .int .u8 (nd.d 14), .int .u8 (nd.d 15), o] 67)).alloc (.cells #[.int .i64 F.v, .int .i64 F.e, .slice As F.st.length cs, .slice Ap F.pts.length cp] 42)) :=
    ((Below.refl _ w).alloc (Nat.le_refl _) _).alloc (by simp) _
  have HB0 := hide hb0
  clear hb0
  by_cases hlt : n < F.pts.length
  · obtain ⟨b, off, Ao, co, rfl, hb, c0, hI⟩ := hP.at_ hlt
    have hd1 : decide ((F.pts.length : Int) ≤ (n : Int)) = false := by simp; omega
    have hi1 : (n : Int) < (F.pts.length : Int) := by omega
    by_cases hlm : m < F.pts[n].length
    · obtain ⟨b2, off2, rfl, hb2, c2⟩ := hI.at_ hlm
      have hd2 : decide ((F.pts[n].length : Int) ≤ (m : Int)) = false := by simp; omega
      have hi2 : (m : Int) < (F.pts[n].length : Int) := by omega
      have hr : tookF F n m nd.sd = if F.pts[n][m] = -1 then -1 else tru (decide (bits .and .i64 F.pts[n][m] nd.sd ≠ 0)) := by
        simp [tookF, hlt, hlm]
      obtain ⟨R, hR⟩ : ∃ R, tookF F n m nd.sd = R := ⟨_, rfl⟩
      rw [hR]
      have HR := hide (hR.symm.trans hr)
      clear hP hI hr hR
      go_enter Tryz.func163, Tryz.ntmps163
      go_wp2
      go_quiet (fail)
      go_wp2
      go_quiet (fail)
      go_wp2_with (go_at_call 157; (with_reducible refine Calls.mono (truth_any _ _) ?_); rintro e w1 ⟨rfl, rfl⟩)
      · have hq : (F.pts[n][m] == -1) = true := by assumption
        go_ret
        refine ⟨?_, below_drewN HB0.out _⟩
        rw [HR.out, if_pos (by simpa using hq)]
        rfl
      · have hq : (F.pts[n][m] == -1) = false := by assumption
        go_ret
        refine ⟨?_, below_drewN HB0.out _⟩
        rw [HR.out, if_neg (by simpa using hq)]
        exact congrArg (fun b => Ending.returned (.int .i64 (tru b))) (by simp [bne]; rfl)
    · have hd2 : decide ((F.pts[n].length : Int) ≤ (m : Int)) = true := by simp; omega
      have hr : tookF F n m nd.sd = 0 := by simp [tookF, hlt, List.getElem?_eq_none (Nat.le_of_not_lt hlm)]
      rw [hr]
      clear hP hI hr
      go_enter Tryz.func163, Tryz.ntmps163
      go_wp2
      go_quiet (fail)
      go_wp2
      go_ret
      exact ⟨rfl, below_drewN HB0.out _⟩
  · have hd1 : decide ((F.pts.length : Int) ≤ (n : Int)) = true := by simp; omega
    have hr : tookF F n m nd.sd = 0 := by simp [tookF, List.getElem?_eq_none (Nat.le_of_not_lt hlt)]
    rw [hr]
    clear hP hr
    go_enter Tryz.func163, Tryz.ntmps163
    go_wp2
    go_quiet (fail)
    go_wp2
    go_ret
    exact ⟨rfl, below_drewN HB0.out _⟩

end Go.Proofs.YtbojlnbdkaanmaaGreatDoor
