/-
  PolicyDependsOnPoints: for every input the statement answers true, and each argument reads afterwards as before: the row and the card, tied to the program's text.
-/
import Derived.Test.YtbojlnbdkaanmaaGreatDoorRow
import Derived.Test.YtbojlnbdkaanmaaGreatDoorLaw7
import Derived.Test.YtbojlnbdkaanmaaGreatDoorCards
import Derived.Test.YtbojlnbdkaanmaaGreatDoorTie
import Derived.ChangeMaps5
namespace Go.Proofs.YtbojlnbdkaanmaaGreatDoor
open Go.RowKit Go.ChangeShapes Go.WideShapes Go.ChangeAt
set_option linter.unusedSimpArgs false
set_option linter.unusedVariables false

set_option maxRecDepth 100000 in
theorem dpts_contract (H : Type) (enc : TypeId × Value → H) (W : World) (base : Nat) (args : Array Value) (ds gs : List (DataW H)) (before : List MemPlace)
    (hval : ∀ (j : Nat) t v, Tryz.f7.params[j]? = some t → args[j]? = some v → Value.okWide Tryz.prog W .any base t v)
    (hW : DataW.Whole enc Tryz.prog Tryz.f7.params.toList Rows.policyDependsOnPointsSpec.vars false W args.toList ds gs before) (hL : laidMetH Tryz.prog laidL W) :
    Calls Tryz.prog 7 args W fun e W' => ∃ v, e = .returned v ∧ Rows.policyDependsOnPointsSpec.post enc Tryz.prog Tryz.f7 false true false false W args v W' := by
  have hW' := hW
  obtain ⟨p, q, hA0, hV, rfl, hfz, hnd⟩ := hW
  have hA : DataW.TrodAll enc Tryz.prog W 0 (fun _ => true) true Tryz.f7.params.toList args.toList ds p := hA0
  rw [Tryz.params7] at hA hval
  obtain ⟨v0, vs0, d0, ds0, p0, q0, hargs, rfl, rfl, h0, r0⟩ := trodAll_cons hA
  obtain ⟨v1, vs1, d1, ds1, p1, q1, rfl, rfl, rfl, h1, r1⟩ := trodAll_cons r0
  obtain ⟨v2, vs2, d2, ds2, p2, q2, rfl, rfl, rfl, h2, r2⟩ := trodAll_cons r1
  obtain ⟨rfl, rfl, rfl⟩ := trodAll_nil r2
  obtain rfl : args = #[v0, v1, v2] := by cases args; simp_all
  obtain ⟨s0, rfl, _, _, ws0⟩ := ChangeMaps.open_string Tryz.underlying9 (hval 0 9 v0 rfl rfl) h0
  obtain ⟨F1, As1, cs1, Ap1, cp1, rfl, hF1⟩ := open_facts (hval 1 42 v1 rfl rfl) h1
  obtain ⟨z2, rfl, _, _, hz2⟩ := open_int (show Tryz.prog.underlying 49 = some (.int .i8) by kernel_rfl) (hval 2 49 v2 rfl rfl) h2
  have hz2' : -128 ≤ z2 ∧ z2 ≤ 127 := by
    have h := hz2
    unfold Lit.wf at h
    rw [Bool.and_eq_true, decide_eq_true_eq, decide_eq_true_eq] at h
    have e1 : IntKind.i8.min = -128 := by decide
    have e2 : IntKind.i8.max = 127 := by decide
    rw [e1, e2] at h
    exact h
  refine (law7 W s0 ws0 F1 As1 cs1 Ap1 cp1 z2 hz2' hF1 (env_of_laid hL) (evs_of_laid hL)).mono fun e W' ⟨he, hb⟩ => ?_
  subst he
  exact ⟨_, rfl, close_true rfl rfl (by decide +kernel) hW' rfl rfl rfl hb⟩
theorem dpts_reads (os : Os) {H : Type} (enc : TypeId × Value → H) : ∃ places, DataW.whole enc Tryz.prog ((wit os).forCall (fun _ _ => 0) ⟨#[], #[.string ⟨#[]⟩, .agg #[.int .i64 0, .int .i64 0, .slice none 0 0, .slice none 0 0], .int .i8 0], []⟩).memory Tryz.f7.params.toList Rows.policyDependsOnPointsSpec.vars false [.string ⟨#[]⟩, .agg #[.int .i64 0, .int .i64 0, .slice none 0 0, .slice none 0 0], .int .i8 0] 8 =
    some ([.lit (.string []), .agg [.lit (.int .i64 0), .lit (.int .i64 0), .nil, .nil], .lit (.int .i8 0)], [], places) :=
  ⟨[], by kernel_rfl⟩
set_option maxRecDepth 100000 in
theorem dpts_lifted (os : Os) (started : os.Started) (H : Type) (enc : TypeId × Value → H) (F : Stop.Interp) :
    ReturnsInHanded {} Tryz.checked os 7 .any ((OpenSpec.ofChange Rows.policyDependsOnPointsSpec).preRow enc Tryz.prog Tryz.f7 Rows.policyDependsOnPointsRow.domain false Rows.policyDependsOnPointsRow.laid) (((OpenSpec.ofChange Rows.policyDependsOnPointsSpec).at F).post enc Tryz.prog Tryz.f7 false true false false) := by
  obtain ⟨places, hx⟩ := dpts_reads os enc
  refine returnsInHanded_of_row (C := Tryz.checked) (s := OpenSpec.ofChange Rows.policyDependsOnPointsSpec) own started (by kernel_rfl) Tryz.func7
    (witness_row_atRef (enc := enc) (C := Tryz.checked) false (wit os) #[.string ⟨#[]⟩, .agg #[.int .i64 0, .int .i64 0, .slice none 0 0, .slice none 0 0], .int .i8 0] (wit_os os) (by kernel_rfl) (by kernel_rfl) (by kernel_rfl)
      (OpenSpec.preRow_of_cond 8 hx (by kernel_rfl) (fun k hk => by cases hk) (by kernel_rfl) (wit_met os _))) ?_
  intro W base args ds gs before hval hW _ _ _ hL _ _
  exact dpts_contract H enc W base args ds gs before hval hW hL
theorem dpts_said : Rows.PolicyDependsOnPointsSaid :=
  OpenClaim.holds_of_cond 7 Tryz.f7 rfl rfl rfl rfl rfl rfl rfl ⟨rfl, rfl, rfl, rfl, rfl⟩ rfl rfl rfl rfl rfl (by kernel_rfl) Tryz.func7 (by kernel_rfl)
    (of_decide_eq_true (by kernel_rfl)) (by unfold Func.isWrapper; first | (rw [if_pos (by decide +kernel)]; kernel_rfl) | (rw [if_neg (by decide +kernel)]; exact ⟨rfl, rfl⟩))
    (fun os started H enc _ F => by rw [OpenClaim.pre_eq_preRow]; exact dpts_lifted os started H enc F)
/-- No parameter wants a stand-in; the program's own looks. -/
theorem dpts_plain (f : FuncId) (fn : Func) (hf : Tryz.pinned.checked.prog.funcNamed "bootchain/bootchainlaw29.PolicyDependsOnPoints" = some f) (hfn : Tryz.pinned.checked.prog.funcs[f]? = some fn) :
    true = Tryz.pinned.checked.prog.looks [] ∧ ∀ (j : Nat) t, fn.params[j]? = some t → Tryz.pinned.checked.prog.wantsStandIn t = false := by
  obtain rfl : f = 7 := Option.some.inj ((show Tryz.prog.funcNamed "bootchain/bootchainlaw29.PolicyDependsOnPoints" = some 7 by kernel_rfl).symm.trans hf) |>.symm
  obtain rfl : fn = Tryz.f7 := (Option.some.inj (Tryz.func7.symm.trans hfn)).symm
  refine ⟨by kernel_rfl, fun j t ht => ?_⟩
  rw [Tryz.params7] at ht
  have hm := Array.mem_of_getElem? ht
  simp at hm
  rcases hm with rfl | rfl | rfl
  · exact (show Tryz.prog.wantsStandIn 9 = false by kernel_rfl)
  · exact (show Tryz.prog.wantsStandIn 42 = false by kernel_rfl)
  · exact (show Tryz.prog.wantsStandIn 49 = false by kernel_rfl)
theorem dpts_holds : Rows.PolicyDependsOnPointsCardSaid :=
  Claim7.holds_tied_plain_at .later [] _ _ _ _ dpts_said (fun _ h => by cases h) (by kernel_rfl) (fun _ h => by cases h) policyDependsOnPoints_row_tie rfl ⟨rfl, rfl⟩ (by kernel_rfl) rfl dpts_plain (by kernel_rfl)
#print axioms dpts_holds
end Go.Proofs.YtbojlnbdkaanmaaGreatDoor
