/-
  What all rows of the policy statements share: the witness's world, and the closing where a call answers true and touches nothing that stood.
-/
import Derived.Test.YtbojlnbdkaanmaaGreatDoorOpn
import Derived.Below
import Derived.Lay
import Derived.Deep.DeepHandedRow
import Derived.Deep.DeepWitnessRowRef
set_option linter.unusedVariables false
set_option linter.unusedSimpArgs false
namespace Go.Proofs.YtbojlnbdkaanmaaGreatDoor
open Go.RowKit Go.ChangeShapes Go.WideShapes Go.ChangeAt

theorem own : ownKnob Tryz.prog.godebug = none := by kernel_rfl
set_option maxRecDepth 100000 in
/-- A call that answers true and touches nothing that stood meets a statement whose answer is true and whose arguments read as before. -/
theorem close_true {H : Type} {enc : TypeId × Value → H} {f : Func} {s : ChangeSpec} {W W' : World} {args : Array Value} {ds gs : List (DataW H)} {before : List MemPlace} (hsv : s.vars = []) (hrt : f.resultTypes = #[4]) (hpt : ∀ t ∈ f.params.toList, t < Tryz.prog.types.size)
    (hW : DataW.Whole enc Tryz.prog f.params.toList s.vars false W args.toList ds gs before) (hr : (s.fn H ds).results = [.lit (.bool true)]) (ha : (s.fn H ds).args = ds) (hv : (s.fn H ds).vars = []) (hb : Below W.heap.size W W') :
    s.post enc Tryz.prog f false true false false W args (.bool true) W' := by
  have hlt : ∀ p ∈ before, p.block < W.heap.size := fun p hp => hW.lt p hp
  have hW2 := hW
  rw [hsv] at hW2
  obtain ⟨p, q, hA, hV, e, hz, hn⟩ := hW2
  obtain ⟨rfl, rfl⟩ := trodVars_none hV
  rw [List.append_nil] at e
  subst e
  have hres : ∀ (b : Nat) (sp : Nat → Bool) (hd : Bool), DataW.TrodAll enc Tryz.prog W' b sp hd f.resultTypes.toList ((Value.bool true).resultList f.resultTypes.size) (s.fn H (ds ++ [])).results [] := by
    intro b sp hd
    rw [List.append_nil, hr, hrt]
    exact trodAll_cons_mk (shut_bool Tryz.underlying4 _) trodAll_mk0
  have hargs : ∀ sp : Nat → Bool, (∀ x ∈ before, sp x.block = true) → DataW.TrodAll enc Tryz.prog W' 0 sp true f.params.toList args.toList (s.fn H (ds ++ [])).args before := by
    intro sp hs
    rw [List.append_nil, ha]
    exact trodAll_stays hb sp _ _ _ _ hpt hA hlt hs
  have hvars : ∀ sp : Nat → Bool, DataW.TrodVars enc Tryz.prog W' sp s.vars (s.fn H (ds ++ [])).vars [] := by
    intro sp
    rw [List.append_nil, hv, hsv]
    rfl
  have hold : ∀ x ∈ before, (fun b => decide (b < W.heap.size)) x.block = true := fun x hx => by simpa using hlt x hx
  refine ⟨ds, [], before, [], before, [], hW, hres _ _ _, hargs _ hold, hvars _, World.keptBut_mono (fun x hx => ⟨hx, Or.inr (Or.inl hx)⟩) (hb.frame (· ∈ before)), fun _ => ?_⟩
  refine ⟨ok_one hrt rfl (okWide_bool_mk Tryz.underlying4 _), _, _, ([] ++ before) ++ [], ⟨[] ++ before, [], trodAll_append (hargs _ (fun _ _ => rfl)) (hres _ _ _), hvars _, rfl, ?_, ?_⟩, ?_⟩
  · intro b off hx
    have hin : MemPlace.cell b off ∈ before := by simpa using hx
    rw [hb.frozen (hlt _ hin)]
    exact hz b off hin
  · intro h
    cases h
  · intro x hx _
    simpa using hx

/-! ### A world for the witness -/
/-- The listed variables that are plain data. -/
def plainL : List (String × DataW Unit) := laidL.filter fun x => x.2.handleName?.isNone
noncomputable def wit0 (os : Os) : World :=
  { World.holding Tryz.prog os ⟨#[], #[], []⟩ with heap := (World.holding Tryz.prog os ⟨#[], #[], []⟩).heap.modify 0 fun
      | .cells _ t frozen => .cells #[.nilFunc, .func (.func 155) #[] #[], .func (.func 156) #[] #[], .func (.func 158) #[] #[], .func (.func 159) #[] #[], .func (.func 160) #[] #[], .func (.func 161) #[] #[], .func (.func 162) #[] #[], .func (.func 164) #[] #[], .func (.func 166) #[] #[], .func (.func 168) #[] #[]] t frozen
      | o => o }
noncomputable def wit (os : Os) : World := (wit0 os).layVars Tryz.prog plainL
theorem wit_os (os : Os) : (wit os).os = os := World.layVars_os _ _ _
theorem filt_all : (laidL.filter fun x => x.2.handleName?.isNone).filter (fun x => (plainL.map (·.1)).contains x.1) = plainL := by
  refine List.filter_eq_self.2 fun x hx => List.contains_iff_mem.2 (List.mem_map.2 ⟨x, hx, rfl⟩)
theorem filt_none : (laidL.filter fun x => x.2.handleName?.isNone).filter (fun x => !(plainL.map (·.1)).contains x.1) = [] := by
  refine List.filter_eq_nil_iff.2 fun x hx => ?_
  have : (plainL.map (·.1)).contains x.1 = true := List.contains_iff_mem.2 (List.mem_map.2 ⟨x, hx, rfl⟩)
  rw [this]
  simp
theorem wit_plain (os : Os) : laidMet Tryz.prog plainL (wit os) := by
  refine laidMet_layVars (w0 := wit0 os) (plainL.map (·.1)) [] ?_ ?_ ?_ ?_
  · rw [show plainL.filter (fun x => (plainL.map (·.1)).contains x.1) = plainL from filt_all]
    rfl
  · rw [show plainL.filter (fun x => (plainL.map (·.1)).contains x.1) = plainL from filt_all]
    kernel_rfl
  · rw [show plainL.filter (fun x => (plainL.map (·.1)).contains x.1) = plainL from filt_all]
    kernel_rfl
  · rw [show plainL.filter (fun x => !(plainL.map (·.1)).contains x.1) = [] from filt_none]
    exact LaidIn.none
theorem wit_met (os : Os) (args : Array Value) : laidMetH Tryz.prog laidL ((wit os).forCall (fun _ _ => 0) ⟨#[], args, []⟩).memory := by
  have h : laidMetH Tryz.prog laidL (wit os) := laidMetH_of_parts3 (fuel := 8) (wit_plain os) (by kernel_rfl) (by kernel_rfl)
  exact h.of_heap (by simp [World.memory, World.forCall, Input.heap])
end Go.Proofs.YtbojlnbdkaanmaaGreatDoor
