/-
  What every row's condition on package variables gives; arguments opened; the closing of a statement that answers true and touches nothing. A value of facts that came in, opened: its numbers, its digests, its rows of outcomes. What all rows of the policy statements share: the witness's world, and the closing where a call answers true and touches nothing that stood. The reference's Parse leaves what the program's does. PolicyParsesAsSpecified: its walk: it answers true, and nothing that stood is touched. PolicyParsesAsSpecified: for every input the statement answers true, and each argument reads afterwards as before: the row and the card, tied to the program's text.
-/
import Derived.Test.YtbojlnbdkaanmaaGreatDoorEvC
import Derived.Test.YtbojlnbdkaanmaaGreatDoorRows
import Derived.ChangeStays
import Derived.ChangeBears
import Derived.ChangeSame
import Derived.ProofKit
import Derived.OpenShut
import Derived.LaidMore
import Derived.LaidSub
import Derived.LaidHandle
import Derived.MakeChecks
import Derived.Lib.LaidTab
import Derived.Lib.SmallJoins
import Derived.Deep.Slices
import Derived.Deep.Matrix
import Derived.Stop.Joined
import Derived.Below
import Derived.Lay
import Derived.Deep.DeepHandedRow
import Derived.Deep.DeepWitnessRowRef
import Derived.Test.YtbojlnbdkaanmaaGreatDoorRfMN
import Derived.Test.YtbojlnbdkaanmaaGreatDoorRfAG
import Derived.Test.YtbojlnbdkaanmaaGreatDoorParse
import Derived.Test.YtbojlnbdkaanmaaGreatDoorLwA
import Derived.Test.YtbojlnbdkaanmaaGreatDoorRtPt
import Derived.Test.YtbojlnbdkaanmaaGreatDoorCards
import Derived.Test.YtbojlnbdkaanmaaGreatDoorTie
import Derived.ChangeMaps5
namespace Go.Proofs.YtbojlnbdkaanmaaGreatDoor
open Go.RowKit Go.ChangeShapes Go.WideShapes Go.ChangeAt

/-! ### The package variables -/
theorem gEv : Tryz.prog.globalNamed "bootchain/policy.evaluators" = some 0 := by kernel_rfl
theorem gEvType : (Tryz.prog.globals[0]?).map (·.type) = some 79 := by kernel_rfl
theorem gPow : Tryz.prog.globalNamed "internal/strconv.uint64pow10" = some 1 := by kernel_rfl
theorem gPowType : (Tryz.prog.globals[1]?).map (·.type) = some 165 := by kernel_rfl
theorem gRng : Tryz.prog.globalNamed "strconv.ErrRange" = some 5 := by kernel_rfl
theorem gRngType : (Tryz.prog.globals[5]?).map (·.type) = some 113 := by kernel_rfl
theorem cells78 : Tryz.prog.cellsOf 78 = 1 := by kernel_rfl
theorem cells79 : Tryz.prog.cellsOf 79 = 11 := by kernel_rfl
theorem cells133 : Tryz.prog.cellsOf 133 = 1 := by kernel_rfl
theorem cells165 : Tryz.prog.cellsOf 165 = 20 := by kernel_rfl
/-- The list of package variables that each row bears. -/
def laidL : List (String × DataW Unit) := [("math/bits.deBruijn32tab", Rows.laid_math_bits_deBruijn32tab), ("math/bits.deBruijn64tab", Rows.laid_math_bits_deBruijn64tab), ("internal/strconv.uint64pow10", Rows.laid_internal_strconv_uint64pow10), ("unicode/utf8.acceptRanges", Rows.laid_unicode_utf8_acceptRanges), ("strconv.ErrRange", Rows.laid_strconv_ErrRange), ("strconv.ErrSyntax", Rows.laid_strconv_ErrSyntax), ("bootchain/policy.evaluators", Rows.laid_bootchain_policy_evaluators), ("unicode/utf8.first", Rows.laid_unicode_utf8_first)]
theorem filtPow : laidL.filter (fun x => x.1 == "internal/strconv.uint64pow10") = [("internal/strconv.uint64pow10", Lib.tabData .u64 Lib.pow10Tab)] := by kernel_rfl
theorem filtRng : laidL.filter (fun x => x.1 == "strconv.ErrRange") = [("strconv.ErrRange", Rows.laid_strconv_ErrRange)] := by kernel_rfl
theorem pow_of_laid {W : World} (h : laidMetH Tryz.prog laidL W) : Lib.TabIs Tryz.prog W "internal/strconv.uint64pow10" .u64 Lib.pow10Tab := by
  have h1 := h.filter (fun x => x.1 == "internal/strconv.uint64pow10")
  rw [filtPow, MakeChecks.laidMetH_plain _ _ _ (by kernel_rfl)] at h1
  exact Lib.tabIs_of_head (rest := []) gPow gPowType Tryz.underlying165 Tryz.underlying133 cells133 cells165 h1
theorem iface_cell {H : Type} {enc : TypeId × Value → H} {P : Program} {w : World} {base : Nat} {sp : Nat → Bool} {fuel : Nat} {t : TypeId} {ms : Array (String × TypeId)} {cs : List Value} {nm : String} {d : DataW H} {p : List MemPlace}
    (ht : P.underlying t = some (.interface ms)) (h : DataW.trod enc P w base sp false fuel t cs = some (.iface nm d, p)) : ∃ u v, cs = [.iface u v] := by
  cases fuel with
  | zero => simp [DataW.trod] at h
  | succ n =>
    unfold DataW.trod at h
    rw [ht] at h
    split at h <;> simp_all
set_option maxRecDepth 100000 in
theorem rng_of_laid {W : World} (h : laidMetH Tryz.prog laidL W) : ∃ tp p, W.var? Tryz.prog "strconv.ErrRange" = some #[.iface tp p] := by
  have h1 := h.filter (fun x => x.1 == "strconv.ErrRange")
  rw [filtRng, MakeChecks.laidMetH_plain _ _ _ (by kernel_rfl)] at h1
  obtain ⟨ps, ⟨g0, t0, cs0, f0, p0, q0, hg0, ht0, hv0, hd0, _, _⟩, _⟩ := h1
  obtain rfl := Option.some.inj (gRng.symm.trans hg0)
  obtain rfl := Option.some.inj (gRngType.symm.trans ht0)
  obtain ⟨u, v, e⟩ := iface_cell Tryz.underlying113 hd0
  refine ⟨u, v, ?_⟩
  rw [hv0]
  congr 1
  obtain ⟨l⟩ := cs0
  simp at e
  rw [e]
theorem env_of_laid {W : World} (h : laidMetH Tryz.prog laidL W) : Env W := ⟨pow_of_laid h, rng_of_laid h⟩
theorem ev_cell {H : Type} {enc : TypeId × Value → H} {w : World} {base : Nat} {sp : Nat → Bool} {fuel : Nat} {cs : List Value} {ds : List (DataW H)} {p : List MemPlace} (h : DataW.trod enc Tryz.prog w base sp true fuel 79 cs = some (.agg ds, p)) (i : Nat) (hi : i < 11) (d : DataW H) (hd : ds[i]? = some d) :
    ∃ v n q, cs[i]? = some v ∧ DataW.trod enc Tryz.prog w base sp true n 78 [v] = some (d, q) := by
  obtain ⟨xs, m, rfl, hx, hlen, hxl, hel⟩ := DataW.trod_array Tryz.underlying79 h
  have hds : ds = xs.map (·.1) := by
    have := congrArg Prod.fst hx
    simpa using this
  have h1 := hel i hi
  rw [cells78, Nat.mul_one] at h1
  rw [cells79] at hlen
  have hc : cs[i]? = some (cs[i]'(by omega)) := List.getElem?_eq_getElem (by omega)
  have e1 : (cs.drop i).take 1 = [cs[i]'(by omega)] := by
    rw [List.drop_eq_getElem_cons (by omega)]
    rfl
  rw [e1] at h1
  rw [hds, List.getElem?_map] at hd
  cases hy : xs[i]? with
  | none => rw [hy] at hd; cases hd
  | some y =>
    rw [hy] at hd h1
    injection hd with hd
    exact ⟨_, m, y.2, hc, by rw [h1, ← hd]⟩
def evDatum : DataW Unit := match Rows.laid_bootchain_policy_evaluators (H := Unit) with | .iface _ d => d | d => d
theorem evDatum_eq : (Rows.laid_bootchain_policy_evaluators : DataW Unit) = .iface "func table" evDatum := rfl
theorem evOut : evDatum.funcsOut = .agg [.nil, .held [98, 111, 111, 116, 99, 104, 97, 105, 110, 47, 112, 111, 108, 105, 99, 121, 46, 101, 118, 97, 108, 117, 97, 116, 111, 114, 115, 36, 49], .held [98, 111, 111, 116, 99, 104, 97, 105, 110, 47, 112, 111, 108, 105, 99, 121, 46, 101, 118, 97, 108, 117, 97, 116, 111, 114, 115, 36, 50], .held [98, 111, 111, 116, 99, 104, 97, 105, 110, 47, 112, 111, 108, 105, 99, 121, 46, 101, 118, 97, 108, 117, 97, 116, 111, 114, 115, 36, 51], .held [98, 111, 111, 116, 99, 104, 97, 105, 110, 47, 112, 111, 108, 105, 99, 121, 46, 101, 118, 97, 108, 117, 97, 116, 111, 114, 115, 36, 52], .held [98, 111, 111, 116, 99, 104, 97, 105, 110, 47, 112, 111, 108, 105, 99, 121, 46, 101, 118, 97, 108, 117, 97, 116, 111, 114, 115, 36, 53], .held [98, 111, 111, 116, 99, 104, 97, 105, 110, 47, 112, 111, 108, 105, 99, 121, 46, 101, 118, 97, 108, 117, 97, 116, 111, 114, 115, 36, 54], .held [98, 111, 111, 116, 99, 104, 97, 105, 110, 47, 112, 111, 108, 105, 99, 121, 46, 101, 118, 97, 108, 117, 97, 116, 111, 114, 115, 36, 55], .held [98, 111, 111, 116, 99, 104, 97, 105, 110, 47, 112, 111, 108, 105, 99, 121, 46, 101, 118, 97, 108, 117, 97, 116, 111, 114, 115, 36, 56], .held [98, 111, 111, 116, 99, 104, 97, 105, 110, 47, 112, 111, 108, 105, 99, 121, 46, 101, 118, 97, 108, 117, 97, 116, 111, 114, 115, 36, 57], .held [98, 111, 111, 116, 99, 104, 97, 105, 110, 47, 112, 111, 108, 105, 99, 121, 46, 101, 118, 97, 108, 117, 97, 116, 111, 114, 115, 36, 49, 48]] := by kernel_rfl
theorem one155 : ((List.range Tryz.prog.funcs.size).filter fun f => (Tryz.prog.funcs[f]?).any (·.name.toUTF8.data.toList == [98, 111, 111, 116, 99, 104, 97, 105, 110, 47, 112, 111, 108, 105, 99, 121, 46, 101, 118, 97, 108, 117, 97, 116, 111, 114, 115, 36, 49])) = [155] := by kernel_rfl
theorem one156 : ((List.range Tryz.prog.funcs.size).filter fun f => (Tryz.prog.funcs[f]?).any (·.name.toUTF8.data.toList == [98, 111, 111, 116, 99, 104, 97, 105, 110, 47, 112, 111, 108, 105, 99, 121, 46, 101, 118, 97, 108, 117, 97, 116, 111, 114, 115, 36, 50])) = [156] := by kernel_rfl
theorem one158 : ((List.range Tryz.prog.funcs.size).filter fun f => (Tryz.prog.funcs[f]?).any (·.name.toUTF8.data.toList == [98, 111, 111, 116, 99, 104, 97, 105, 110, 47, 112, 111, 108, 105, 99, 121, 46, 101, 118, 97, 108, 117, 97, 116, 111, 114, 115, 36, 51])) = [158] := by kernel_rfl
theorem one159 : ((List.range Tryz.prog.funcs.size).filter fun f => (Tryz.prog.funcs[f]?).any (·.name.toUTF8.data.toList == [98, 111, 111, 116, 99, 104, 97, 105, 110, 47, 112, 111, 108, 105, 99, 121, 46, 101, 118, 97, 108, 117, 97, 116, 111, 114, 115, 36, 52])) = [159] := by kernel_rfl
theorem one160 : ((List.range Tryz.prog.funcs.size).filter fun f => (Tryz.prog.funcs[f]?).any (·.name.toUTF8.data.toList == [98, 111, 111, 116, 99, 104, 97, 105, 110, 47, 112, 111, 108, 105, 99, 121, 46, 101, 118, 97, 108, 117, 97, 116, 111, 114, 115, 36, 53])) = [160] := by kernel_rfl
theorem one161 : ((List.range Tryz.prog.funcs.size).filter fun f => (Tryz.prog.funcs[f]?).any (·.name.toUTF8.data.toList == [98, 111, 111, 116, 99, 104, 97, 105, 110, 47, 112, 111, 108, 105, 99, 121, 46, 101, 118, 97, 108, 117, 97, 116, 111, 114, 115, 36, 54])) = [161] := by kernel_rfl
theorem one162 : ((List.range Tryz.prog.funcs.size).filter fun f => (Tryz.prog.funcs[f]?).any (·.name.toUTF8.data.toList == [98, 111, 111, 116, 99, 104, 97, 105, 110, 47, 112, 111, 108, 105, 99, 121, 46, 101, 118, 97, 108, 117, 97, 116, 111, 114, 115, 36, 55])) = [162] := by kernel_rfl
theorem one164 : ((List.range Tryz.prog.funcs.size).filter fun f => (Tryz.prog.funcs[f]?).any (·.name.toUTF8.data.toList == [98, 111, 111, 116, 99, 104, 97, 105, 110, 47, 112, 111, 108, 105, 99, 121, 46, 101, 118, 97, 108, 117, 97, 116, 111, 114, 115, 36, 56])) = [164] := by kernel_rfl
theorem one166 : ((List.range Tryz.prog.funcs.size).filter fun f => (Tryz.prog.funcs[f]?).any (·.name.toUTF8.data.toList == [98, 111, 111, 116, 99, 104, 97, 105, 110, 47, 112, 111, 108, 105, 99, 121, 46, 101, 118, 97, 108, 117, 97, 116, 111, 114, 115, 36, 57])) = [166] := by kernel_rfl
theorem one168 : ((List.range Tryz.prog.funcs.size).filter fun f => (Tryz.prog.funcs[f]?).any (·.name.toUTF8.data.toList == [98, 111, 111, 116, 99, 104, 97, 105, 110, 47, 112, 111, 108, 105, 99, 121, 46, 101, 118, 97, 108, 117, 97, 116, 111, 114, 115, 36, 49, 48])) = [168] := by kernel_rfl
theorem evs_of_laid {W : World} (h : laidMetH Tryz.prog laidL W) : Evs W := by
  have hm : ("bootchain/policy.evaluators", DataW.iface "func table" evDatum) ∈ laidL := List.mem_of_getElem? (i := 6) rfl
  obtain ⟨g, t, cs, fuel, p, hg, ht, hv, hd⟩ := h.funcs hm
  obtain rfl := Option.some.inj (gEv.symm.trans hg)
  obtain rfl := Option.some.inj (gEvType.symm.trans ht)
  rw [evOut] at hd
  intro k h1 h2
  have hcell := World.var?_cell hg hv k
  have hk : k = 1 ∨ k = 2 ∨ k = 3 ∨ k = 4 ∨ k = 5 ∨ k = 6 ∨ k = 7 ∨ k = 8 ∨ k = 9 ∨ k = 10 := by omega
  rcases hk with rfl | rfl | rfl | rfl | rfl | rfl | rfl | rfl | rfl | rfl
  · obtain ⟨v, n, q, hc, hr⟩ := ev_cell hd 1 (by decide) _ rfl
    obtain rfl := func_of_trod (f0 := 155) Tryz.underlying78 one155 hr
    have hc2 : cs[1]? = some (.func (.func 155) #[] #[]) := by simpa using hc
    exact hcell.trans hc2
  · obtain ⟨v, n, q, hc, hr⟩ := ev_cell hd 2 (by decide) _ rfl
    obtain rfl := func_of_trod (f0 := 156) Tryz.underlying78 one156 hr
    have hc2 : cs[2]? = some (.func (.func 156) #[] #[]) := by simpa using hc
    exact hcell.trans hc2
  · obtain ⟨v, n, q, hc, hr⟩ := ev_cell hd 3 (by decide) _ rfl
    obtain rfl := func_of_trod (f0 := 158) Tryz.underlying78 one158 hr
    have hc2 : cs[3]? = some (.func (.func 158) #[] #[]) := by simpa using hc
    exact hcell.trans hc2
  · obtain ⟨v, n, q, hc, hr⟩ := ev_cell hd 4 (by decide) _ rfl
    obtain rfl := func_of_trod (f0 := 159) Tryz.underlying78 one159 hr
    have hc2 : cs[4]? = some (.func (.func 159) #[] #[]) := by simpa using hc
    exact hcell.trans hc2
  · obtain ⟨v, n, q, hc, hr⟩ := ev_cell hd 5 (by decide) _ rfl
    obtain rfl := func_of_trod (f0 := 160) Tryz.underlying78 one160 hr
    have hc2 : cs[5]? = some (.func (.func 160) #[] #[]) := by simpa using hc
    exact hcell.trans hc2
  · obtain ⟨v, n, q, hc, hr⟩ := ev_cell hd 6 (by decide) _ rfl
    obtain rfl := func_of_trod (f0 := 161) Tryz.underlying78 one161 hr
    have hc2 : cs[6]? = some (.func (.func 161) #[] #[]) := by simpa using hc
    exact hcell.trans hc2
  · obtain ⟨v, n, q, hc, hr⟩ := ev_cell hd 7 (by decide) _ rfl
    obtain rfl := func_of_trod (f0 := 162) Tryz.underlying78 one162 hr
    have hc2 : cs[7]? = some (.func (.func 162) #[] #[]) := by simpa using hc
    exact hcell.trans hc2
  · obtain ⟨v, n, q, hc, hr⟩ := ev_cell hd 8 (by decide) _ rfl
    obtain rfl := func_of_trod (f0 := 164) Tryz.underlying78 one164 hr
    have hc2 : cs[8]? = some (.func (.func 164) #[] #[]) := by simpa using hc
    exact hcell.trans hc2
  · obtain ⟨v, n, q, hc, hr⟩ := ev_cell hd 9 (by decide) _ rfl
    obtain rfl := func_of_trod (f0 := 166) Tryz.underlying78 one166 hr
    have hc2 : cs[9]? = some (.func (.func 166) #[] #[]) := by simpa using hc
    exact hcell.trans hc2
  · obtain ⟨v, n, q, hc, hr⟩ := ev_cell hd 10 (by decide) _ rfl
    obtain rfl := func_of_trod (f0 := 168) Tryz.underlying78 one168 hr
    have hc2 : cs[10]? = some (.func (.func 168) #[] #[]) := by simpa using hc
    exact hcell.trans hc2

/-! ### What is below stays as it reads -/
theorem laidOut' : laidOutB Tryz.prog = true := by kernel_rfl
theorem mapsRowed' : mapsRowed Tryz.prog = true := by kernel_rfl
theorem kids' : Kids Tryz.prog (· < Tryz.prog.types.size) := kids_rows laidOut' mapsRowed'
def szB (P : Program) : Bool := (List.range P.types.size).all fun t => match P.underlying t with | some (.slice e) => decide (0 < P.cellsOf e) | _ => true
theorem szB' : szB Tryz.prog = true := by kernel_rfl
theorem hsz' {t e : TypeId} (ht : t < Tryz.prog.types.size) (hu : Tryz.prog.underlying t = some (.slice e)) : 0 < Tryz.prog.cellsOf e := by
  have := szB'
  unfold szB at this
  rw [List.all_eq_true] at this
  have h := this t (List.mem_range.2 ht)
  rw [hu] at h
  simpa using h
theorem sameAt_below {W W' : World} (hb : Below W.heap.size W W') (p : MemPlace) (hp : p.block < W.heap.size) : W.sameAt W' p := by
  cases p with
  | cell b off => exact hb.cell (p := ⟨b, off, none⟩) hp
  | map b => exact hb.block b hp
theorem trodAll_stays {H : Type} {enc : TypeId × Value → H} {W W' : World} (hb : Below W.heap.size W W') (sp : Nat → Bool) : ∀ (ts : List TypeId) (vs : List Value) (ds : List (DataW H)) (p : List MemPlace), (∀ t ∈ ts, t < Tryz.prog.types.size) →
    DataW.TrodAll enc Tryz.prog W 0 (fun _ => true) true ts vs ds p → (∀ q ∈ p, q.block < W.heap.size) → (∀ q ∈ p, sp q.block = true) → DataW.TrodAll enc Tryz.prog W' 0 sp true ts vs ds p
  | [], [], [], p, _, h, _, _ => h
  | t :: ts, v :: vs, d :: ds, p, ht, ⟨p1, p2, ⟨n, h1⟩, h2, e⟩, hl, hs => by
    subst e
    refine ⟨p1, p2, ⟨n, ?_⟩, trodAll_stays hb sp ts vs ds p2 (fun t h => ht t (by simp [h])) h2 (fun q hq => hl q (by simp [hq])) (fun q hq => hs q (by simp [hq])), rfl⟩
    exact DataW.trod_stays kids' hsz' (fun h => by cases h) (ht t (by simp)) h1 (fun q hq => sameAt_below hb q (hl q (by simp [hq]))) (fun q hq => hs q (by simp [hq]))
end Go.Proofs.YtbojlnbdkaanmaaGreatDoor
namespace Go.Proofs.YtbojlnbdkaanmaaGreatDoor
open Go.RowKit Go.ChangeShapes Go.WideShapes Go.ChangeAt

theorem cells5' : Tryz.prog.cellsOf 5 = 1 := by kernel_rfl
theorem cells3' : Tryz.prog.cellsOf 3 = 1 := by kernel_rfl
theorem cells47' : Tryz.prog.cellsOf 47 = 1 := by kernel_rfl
theorem cells65' : Tryz.prog.cellsOf 65 = 16 := by kernel_rfl
theorem cells42' : Tryz.prog.cellsOf 42 = 4 := by kernel_rfl
section
variable {H : Type} {enc : TypeId × Value → H} {w : World} {base : Nat} {sp : Nat → Bool} {held : Bool}
theorem open_digest {fuel : Nat} {cs : List Value} {x : DataW H × List MemPlace} (h : DataW.trod enc Tryz.prog w base sp held fuel 65 cs = some x) : ∃ d : Nat → Int, cs = dCells d := by
  obtain ⟨xs, m, rfl, _, hlen, hxl, hel⟩ := DataW.trod_array Tryz.underlying65 h
  rw [cells65'] at hlen
  have each : ∀ i, i < 16 → ∃ z : Int, cs[i]? = some (.int .u8 z) := by
    intro i hi
    have h1 := hel i hi
    rw [cells5', Nat.mul_one] at h1
    have hc : cs[i]? = some (cs[i]'(by omega)) := List.getElem?_eq_getElem (by omega)
    have e1 : (cs.drop i).take 1 = [cs[i]'(by omega)] := by
      rw [List.drop_eq_getElem_cons (by omega)]
      rfl
    rw [e1, List.getElem?_eq_getElem (by omega)] at h1
    obtain ⟨z, hz, _⟩ := DataW.trod_int Tryz.underlying5 h1
    injection hz with hz
    exact ⟨z, by rw [hc, hz]⟩
  obtain ⟨d, hd⟩ := Deep.choose_lt each
  refine ⟨d, ?_⟩
  apply List.ext_getElem?
  intro i
  by_cases hi : i < 16
  · rw [hd i hi]
    have : i = 0 ∨ i = 1 ∨ i = 2 ∨ i = 3 ∨ i = 4 ∨ i = 5 ∨ i = 6 ∨ i = 7 ∨ i = 8 ∨ i = 9 ∨ i = 10 ∨ i = 11 ∨ i = 12 ∨ i = 13 ∨ i = 14 ∨ i = 15 := by omega
    rcases this with rfl | rfl | rfl | rfl | rfl | rfl | rfl | rfl | rfl | rfl | rfl | rfl | rfl | rfl | rfl | rfl <;> rfl
  · rw [List.getElem?_eq_none (by omega), List.getElem?_eq_none (by simp [dCells]; omega)]
theorem open_stages {fuel : Nat} {v : Value} {x : DataW H × List MemPlace} (h : DataW.trod enc Tryz.prog w base (fun _ => true) held fuel 39 [v] = some x) : ∃ (A : Option Addr) (c : Nat) (st : List (Nat → Int)), v = .slice A st.length c ∧ Row w w.heap.size 16 A (st.map dCells) := by
  rcases Deep.open_slice Tryz.underlying39 h with ⟨e, _⟩ | ⟨a, len, cap, m, n, D, Pl, e, _, hl, _, hm, _, hel⟩
  · injection e with e
    exact ⟨none, 0, [], e, Row.nil_ _ _ _ _⟩
  · injection e with e
    simp only [if_true] at hm
    have each : ∀ i, i < len → ∃ d : Nat → Int, ∀ j, j < 16 → w.cell? (a.add (i * 16 + j)) = (dCells d)[j]? := by
      intro i hi
      obtain ⟨cs', hc, ht⟩ := hel i (by omega)
      rw [cells65'] at hc
      obtain ⟨_, hcl, hat⟩ := World.cells?_some hc
      obtain ⟨d, hd⟩ := open_digest ht
      refine ⟨d, fun j hj => ?_⟩
      have := hat j hj
      rw [hd, Deep.add_add] at this
      exact this
    obtain ⟨y, hy⟩ := Deep.choose_lt each
    refine ⟨some a, cap, (List.range len).map y, by simpa using e, ?_⟩
    intro i cs hi
    have hlt : i < len := by
      have := (List.getElem?_eq_some_iff.1 hi).1
      simpa using this
    have hcs : cs = dCells (y i) := by
      simp [hlt] at hi
      exact hi.symm
    subst hcs
    have h0 := hy i hlt 0 (by omega)
    have hs := World.cell?_spot (w := w) (a := a.add (0 * 16 + 0)) (hy 0 (by omega) 0 (by omega))
    obtain ⟨b, off, spot⟩ := a
    have hspot : spot = none := by simpa [Addr.add] using hs
    subst hspot
    have eadd : ∀ q : Nat, (⟨b, off, none⟩ : Addr).add q = ⟨b, off + q, none⟩ := fun q => by unfold Addr.add; split <;> simp_all
    rw [eadd] at h0
    have hb := World.block_lt_of_cell? w _ h0
    refine ⟨b, off, rfl, hb, fun j u hj => ?_⟩
    have hj16 : j < 16 := (List.getElem?_eq_some_iff.1 hj).1
    have h1 := hy i hlt j hj16
    rw [eadd, hj] at h1
    rw [Nat.add_assoc]
    exact h1
theorem open_points {fuel : Nat} {v : Value} {x : DataW H × List MemPlace} (h : DataW.trod enc Tryz.prog w base (fun _ => true) held fuel 40 [v] = some x) : ∃ (A : Option Addr) (c : Nat) (pts : List (List Int)), v = .slice A pts.length c ∧ Pts w w.heap.size A pts := by
  rcases Deep.open_int_rows Tryz.underlying40 Tryz.underlying47 Tryz.underlying3 cells47' cells3' h with ⟨e, _⟩ | ⟨a, len, cap, A, L, C, Z, e, _, hl, _, _, hel⟩
  · injection e with e
    exact ⟨none, 0, [], e, [], rfl, Row.nil_ _ _ _ _, fun i p o h => by simp at h⟩
  · injection e with e
    refine ⟨some a, cap, (List.range len).map fun r => (Z r).take (L r), by simpa using e, (List.range len).map fun r => .slice (A r) (L r) (C r), by simp, ?_, ?_⟩
    · intro i cs hi
      have hlt : i < len := by
        have := (List.getElem?_eq_some_iff.1 hi).1
        simpa using this
      have hcs : cs = [.slice (A i) (L i) (C i)] := by
        simp [hlt] at hi
        exact hi.symm
      subst hcs
      obtain ⟨h0, _⟩ := hel i (by omega)
      have hs := World.cell?_spot (hel 0 (by omega)).1
      obtain ⟨b, off, spot⟩ := a
      have hspot : spot = none := by simpa [Addr.add] using hs
      subst hspot
      have eadd : ∀ q : Nat, (⟨b, off, none⟩ : Addr).add q = ⟨b, off + q, none⟩ := fun q => by unfold Addr.add; split <;> simp_all
      rw [eadd] at h0
      refine ⟨b, off, rfl, World.block_lt_of_cell? w _ h0, fun j u hj => ?_⟩
      cases j with
      | zero =>
        simp at hj
        subst hj
        simpa using h0
      | succ j => simp at hj
    · intro i p o hp ho
      have hlt : i < len := by
        have := (List.getElem?_eq_some_iff.1 hp).1
        simpa using this
      have hp' : p = (Z i).take (L i) := by
        simp [hlt] at hp
        exact hp.symm
      have ho' : o = .slice (A i) (L i) (C i) := by
        simp [hlt] at ho
        exact ho.symm
      obtain ⟨_, hLC, _, hZ, _, hnone, hsome⟩ := hel i (by omega)
      subst hp'
      subst ho'
      refine ⟨A i, C i, by rw [List.length_take, hZ, Nat.min_eq_left hLC], ?_⟩
      intro j cs hj
      rw [List.getElem?_map] at hj
      cases hz : ((Z i).take (L i))[j]? with
      | none => rw [hz] at hj; cases hj
      | some z =>
        rw [hz] at hj
        injection hj with hj
        subst hj
        have hjl := (List.getElem?_eq_some_iff.1 hz).1
        rw [List.length_take, hZ, Nat.min_eq_left hLC] at hjl
        cases hA : A i with
        | none => have := hnone hA; omega
        | some a' =>
          obtain ⟨_, hc⟩ := hsome a' hA
          have h0 := hc j (by omega)
          have hs := World.cell?_spot (hc 0 (by omega))
          obtain ⟨b, off, spot⟩ := a'
          have hspot : spot = none := by simpa [Addr.add] using hs
          subst hspot
          have eadd : ∀ q : Nat, (⟨b, off, none⟩ : Addr).add q = ⟨b, off + q, none⟩ := fun q => by unfold Addr.add; split <;> simp_all
          rw [eadd] at h0
          have hzz : (Z i).getD j 0 = z := by
            rw [List.getElem?_take, if_pos hjl] at hz
            rw [List.getD_eq_getElem?_getD, hz]
            rfl
          rw [hzz] at h0
          refine ⟨b, off, rfl, World.block_lt_of_cell? w _ h0, fun q u hq => ?_⟩
          cases q with
          | zero =>
            simp at hq
            subst hq
            simpa using h0
          | succ q => simp at hq
set_option maxRecDepth 100000 in
theorem open_facts {r : Reach} {b0 : Nat} {v : Value} {d : DataW H} {p : List MemPlace} (hv : Value.okWide Tryz.prog w r b0 42 v) (h : DataW.Trod enc Tryz.prog w base (fun _ => true) held 42 v d p) :
    ∃ (F : Fct) (As : Option Addr) (cs : Nat) (Ap : Option Addr) (cp : Nat), v = F.val As cs Ap cp ∧ FctAt w w.heap.size F As Ap := by
  obtain ⟨v0, v1, v2, v3, y0, y1, y2, y3, n, rfl, _, _, t0, t1, t2, t3⟩ := Joins.open_agg4 Tryz.underlying42 (by kernel_rfl) cells42' hv h
  obtain ⟨z0, e0, _⟩ := DataW.trod_int Tryz.underlying3 t0
  obtain ⟨z1, e1, _⟩ := DataW.trod_int Tryz.underlying3 t1
  injection e0 with e0
  injection e1 with e1
  obtain ⟨As, cs, st, rfl, hs⟩ := open_stages t2
  obtain ⟨Ap, cp, pts, rfl, hp⟩ := open_points t3
  subst e0
  subst e1
  exact ⟨⟨z0, z1, st, pts⟩, As, cs, Ap, cp, rfl, hs, hp⟩
end
end Go.Proofs.YtbojlnbdkaanmaaGreatDoor
namespace Go.Proofs.YtbojlnbdkaanmaaGreatDoor
open Go.RowKit Go.ChangeShapes Go.WideShapes Go.ChangeAt

theorem own : ownKnob Tryz.prog.godebug = none := by kernel_rfl
set_option maxRecDepth 100000 in
/-- A call that answers true and touches nothing that stood meets a statement whose answer is true and whose arguments read as before. -/
theorem close_true {H : Type} {enc : TypeId × Value → H} {f : Func} {s : ChangeSpec} {W W' : World} {args : Array Value} {ds gs : List (DataW H)} {before : List MemPlace} (hsv : s.vars = []) (hrt : f.resultTypes = #[4]) (hpt : ∀ t ∈ f.params.toList, t < Tryz.prog.types.size)
    (hW : DataW.Whole enc Tryz.prog f.params.toList s.vars false W args.toList ds gs before) (hr : (s.fn H ds).results = [.lit (.bool true)]) (ha : (s.fn H ds).args = ds) (hv : (s.fn H ds).vars = []) (hb : Below W.heap.size W W') :
    s.post enc Tryz.prog f false true false false W args (.bool true) W' := by
  have hlt : ∀ p ∈ before, p.block < W.heap.size := fun p hp => hW.lt p hp
  have hW2 := hW
  rw [hsv] at hW2
  obtain ⟨p, q, hA, hV, e, hz, hn⟩ := hW2
  obtain ⟨rfl, rfl⟩ := trodVars_none hV
  rw [List.append_nil] at e
  subst e
  have hres : ∀ (b : Nat) (sp : Nat → Bool) (hd : Bool), DataW.TrodAll enc Tryz.prog W' b sp hd f.resultTypes.toList ((Value.bool true).resultList f.resultTypes.size) (s.fn H (ds ++ [])).results [] := by
    intro b sp hd
    rw [List.append_nil, hr, hrt]
    exact trodAll_cons_mk (shut_bool Tryz.underlying4 _) trodAll_mk0
  have hargs : ∀ sp : Nat → Bool, (∀ x ∈ before, sp x.block = true) → DataW.TrodAll enc Tryz.prog W' 0 sp true f.params.toList args.toList (s.fn H (ds ++ [])).args before := by
    intro sp hs
    rw [List.append_nil, ha]
    exact trodAll_stays hb sp _ _ _ _ hpt hA hlt hs
  have hvars : ∀ sp : Nat → Bool, DataW.TrodVars enc Tryz.prog W' sp s.vars (s.fn H (ds ++ [])).vars [] := by
    intro sp
    rw [List.append_nil, hv, hsv]
    rfl
  have hold : ∀ x ∈ before, (fun b => decide (b < W.heap.size)) x.block = true := fun x hx => by simpa using hlt x hx
  refine ⟨ds, [], before, [], before, [], hW, hres _ _ _, hargs _ hold, hvars _, World.keptBut_mono (fun x hx => ⟨hx, Or.inr (Or.inl hx)⟩) (hb.frame (· ∈ before)), fun _ => ?_⟩
  refine ⟨ok_one hrt rfl (okWide_bool_mk Tryz.underlying4 _), _, _, ([] ++ before) ++ [], ⟨[] ++ before, [], trodAll_append (hargs _ (fun _ _ => rfl)) (hres _ _ _), hvars _, rfl, ?_, ?_⟩, ?_⟩
  · intro b off hx
    have hin : MemPlace.cell b off ∈ before := by simpa using hx
    rw [hb.frozen (hlt _ hin)]
    exact hz b off hin
  · intro h
    cases h
  · intro x hx _
    simpa using hx

/-! ### A world for the witness -/
/-- The listed variables that are plain data. -/
def plainL : List (String × DataW Unit) := laidL.filter fun x => x.2.handleName?.isNone
noncomputable def wit0 (os : Os) : World :=
  { World.holding Tryz.prog os ⟨#[], #[], []⟩ with heap := (World.holding Tryz.prog os ⟨#[], #[], []⟩).heap.modify 0 fun
      | .cells _ t frozen => .cells #[.nilFunc, .func (.func 155) #[] #[], .func (.func 156) #[] #[], .func (.func 158) #[] #[], .func (.func 159) #[] #[], .func (.func 160) #[] #[], .func (.func 161) #[] #[], .func (.func 162) #[] #[], .func (.func 164) #[] #[], .func (.func 166) #[] #[], .func (.func 168) #[] #[]] t frozen
      | o => o }
noncomputable def wit (os : Os) : World := (wit0 os).layVars Tryz.prog plainL
theorem wit_os (os : Os) : (wit os).os = os := World.layVars_os _ _ _
theorem filt_all : (laidL.filter fun x => x.2.handleName?.isNone).filter (fun x => (plainL.map (·.1)).contains x.1) = plainL := by
  refine List.filter_eq_self.2 fun x hx => List.contains_iff_mem.2 (List.mem_map.2 ⟨x, hx, rfl⟩)
theorem filt_none : (laidL.filter fun x => x.2.handleName?.isNone).filter (fun x => !(plainL.map (·.1)).contains x.1) = [] := by
  refine List.filter_eq_nil_iff.2 fun x hx => ?_
  have : (plainL.map (·.1)).contains x.1 = true := List.contains_iff_mem.2 (List.mem_map.2 ⟨x, hx, rfl⟩)
  rw [this]
  simp
theorem wit_plain (os : Os) : laidMet Tryz.prog plainL (wit os) := by
  refine laidMet_layVars (w0 := wit0 os) (plainL.map (·.1)) [] ?_ ?_ ?_ ?_
  · rw [show plainL.filter (fun x => (plainL.map (·.1)).contains x.1) = plainL from filt_all]
    rfl
  · rw [show plainL.filter (fun x => (plainL.map (·.1)).contains x.1) = plainL from filt_all]
    kernel_rfl
  · rw [show plainL.filter (fun x => (plainL.map (·.1)).contains x.1) = plainL from filt_all]
    kernel_rfl
  · rw [show plainL.filter (fun x => !(plainL.map (·.1)).contains x.1) = [] from filt_none]
    exact LaidIn.none
theorem wit_met (os : Os) (args : Array Value) : laidMetH Tryz.prog laidL ((wit os).forCall (fun _ _ => 0) ⟨#[], args, []⟩).memory := by
  have h : laidMetH Tryz.prog laidL (wit os) := laidMetH_of_parts3 (fuel := 8) (wit_plain os) (by kernel_rfl) (by kernel_rfl)
  exact h.of_heap (by simp [World.memory, World.forCall, Input.heap])
end Go.Proofs.YtbojlnbdkaanmaaGreatDoor
namespace Go.Proofs.YtbojlnbdkaanmaaGreatDoor
open Go.RowKit
set_option linter.unusedSimpArgs false
set_option linter.unusedVariables false

theorem rtree_of {ts : List Tok} {K : Int} {nds : List Nd} (h : (polF (ts.length + 1) ts [] = none ∧ K = -1 ∧ nds.length ≤ 0 + ts.length + 1) ∨ ∃ q, polF (ts.length + 1) ts [] = some ((nds.length : Int) - 1, q, nds) ∧ Live ts K (some q) ∧ q.length < ts.length ∧ nds.length + q.length ≤ 0 + ts.length) :
    (treeF ts = none ∧ (K != (ts.length : Int)) = true) ∨ (treeF ts = some nds ∧ K = ts.length ∧ nds.length ≤ ts.length) := by
  unfold treeF
  rcases h with ⟨h1, h2, _⟩ | ⟨q, h1, ⟨k, rfl, hk, hd⟩, h3, h4⟩
  · rw [h1]
    exact .inl ⟨rfl, by rw [bne_iff_ne]; omega⟩
  · rw [h1]
    cases q with
    | nil =>
      have := congrArg List.length hd
      rw [List.length_drop] at this
      simp at this h4
      exact .inr ⟨rfl, by omega, h4⟩
    | cons t r =>
      have := congrArg List.length hd
      rw [List.length_drop] at this
      simp at this
      exact .inl ⟨rfl, by rw [bne_iff_ne]; omega⟩
set_option maxRecDepth 100000 in
set_option maxHeartbeats 8000000 in
theorem rparse_any (w : World) (s : ByteArray) (hs : s.size ≤ 900000) : Calls Tryz.prog 11 #[.string s] w (PostR w (parseR s)) := by
  obtain ⟨er, hel⟩ : ∃ er, (lexR s).1 = er := ⟨_, rfl⟩
  obtain ⟨ts, hts⟩ : ∃ ts, (lexR s).2 = ts := ⟨_, rfl⟩
  have HT := hide (rtokens_any (w.alloc (.cells #[.slice none 0 0] 25)) s)
  have Hel := hide hel
  have Hts := hide hts
  clear hel hts
  go_enter Tryz.func11, Tryz.ntmps11
  go_wp2_with fail
  refine Calls.mono HT.out ?_
  rintro e w1 ⟨hb1, A, c, rfl, ht1, hl1, hc1, hn1⟩
  rw [Hts.out] at ht1 hl1 hn1
  rw [Hel.out, Hts.out]
  have hlen : ts.length ≤ 900000 := by omega
  have HB := hide hb1
  have Ht := hide ht1
  clear hb1 ht1 HT hl1 hc1 hn1
  cases hq : (er != 0) with
  | true =>
    have hp : parseR s = (er, []) := by rw [parseR, Hel.out, if_neg (by simpa using hq)]
    have Hp := hide hp
    clear hp
    go_wp2_with (first
      | (with_reducible refine wpList_store_row rfl 25 (.tmp 2) (.tmp 14) rfl w.heap.size rfl _ rfl _ _ (blk_keep HB.out) rfl (by kernel_rfl) (by kernel_rfl) ?_))
    refine bodyPost_ret (results_row_tmp Tryz.results11 _ _ w.heap.size _ rfl (load25 _ _ _ 25 (setRow_heap _ _ _ _ 25 (0, 0) (blk_keep HB.out)))) rfl ?_
    rw [Hp.out]
    exact PostR.none_ (below_setRow' (((Below.refl _ w).alloc (Nat.le_refl _) _).trans (HB.out.mono (by simp))) (Nat.le_refl _) _)
  | false =>
    have he0 : er = 0 := by simpa using hq
    go_wp2_with fail
    refine Calls.mono (rdepth_any w1 A c ts (by omega) Ht.out) ?_
    rintro e w2 ⟨rfl, rfl⟩
    by_cases hd : 30 < depthF ts
    · have hp : parseR s = (2, []) := by rw [parseR, Hel.out, if_pos he0, Hts.out, parseT, if_pos hd]
      have Hp := hide hp
      clear hp
      go_wp2_with (first
        | (with_reducible refine wpList_store_row rfl 25 (.tmp 2) (.tmp 19) rfl w.heap.size rfl _ rfl _ _ (blk_keep HB.out) rfl (by kernel_rfl) (by kernel_rfl) ?_))
      refine bodyPost_ret (results_row_tmp Tryz.results11 _ _ w.heap.size _ rfl (load25 _ _ _ 25 (setRow_heap _ _ _ _ 25 (0, 0) (blk_keep HB.out)))) rfl ?_
      rw [Hp.out]
      exact PostR.none_ (below_setRow' (((Below.refl _ w).alloc (Nat.le_refl _) _).trans (HB.out.mono (by simp))) (Nat.le_refl _) _)
    · have hd' : depthF ts ≤ 30 := by omega
      have hcall := rchain_all (ts.length + 1) w1 (fun _ => False) A c ts 0 none 0 [] ts (by omega) ⟨0, rfl, Nat.zero_le _, rfl⟩ (by omega) (by simp; omega) (fun _ h => h.elim) (NodesP.nil_ _ _ _) (by simp) (by omega) Ht.out
      have HC := hide hcall
      clear hcall hd
      go_wp2_with fail
      refine Calls.mono HC.out ?_
      rintro e w3 ⟨hb3, K', A', ca', nds', rfl, hn3, hc1, hc2, hor⟩
      have hres := rtree_of hor
      have HD := hide (HB.out.trans (hb3.mono HB.out.size))
      have HN := hide (hn3.nodes (B := w3.heap.size) (fun b hb => hb.elim (fun h => h.elim) (fun h => h.2)))
      clear hb3 hn3 hor HC
      obtain ⟨Z, hZ⟩ : ∃ Z, Z = w3.alloc (.cells #[.slice A ts.length c, .int .i64 K', .slice A' nds'.length ca'] 57) := ⟨_, rfl⟩
      have fb := (fresh_facts hZ).1
      have hbZ : Below (w.alloc (.cells #[.slice none 0 0] 25)).heap.size (w.alloc (.cells #[.slice none 0 0] 25)) Z := HD.out.trans (fb.mono HD.out.size)
      have HK := hide (blk_keep hbZ)
      have HbZ := hide (((Below.refl _ w).alloc (Nat.le_refl w.heap.size) _).trans (hbZ.mono (by simp)))
      have HNZ := hide ((HN.out.below fb (Nat.le_refl _)).more fb.size)
      rw [hZ] at HK HbZ HNZ
      clear hbZ fb HN HD hZ Z
      rcases hres with ⟨ht, hk⟩ | ⟨ht, rfl, hnl⟩
      · have hp : parseR s = (3, []) := by rw [parseR, Hel.out, if_pos he0, Hts.out, parseT, if_neg (by omega), ht]
        have Hp := hide hp
        clear hp
        clear ht
        go_wp2_with (first
          | (with_reducible refine wpList_store_row rfl 25 (.tmp 2) (.tmp 28) rfl w.heap.size rfl _ rfl _ _ HK.out rfl (by kernel_rfl) (by kernel_rfl) ?_))
        refine bodyPost_ret (results_row_tmp Tryz.results11 _ _ w.heap.size _ rfl (load25 _ _ _ 25 (setRow_heap _ _ _ _ 25 (0, 0) HK.out))) rfl ?_
        rw [Hp.out]
        exact PostR.none_ (below_setRow' HbZ.out (Nat.le_refl _) _)
      · by_cases h4 : 400 < nds'.length
        · have h4I : (400 : Int) < (nds'.length : Int) := by omega
          have hp : parseR s = (2, []) := by rw [parseR, Hel.out, if_pos he0, Hts.out, parseT, if_neg (by omega), ht]; simp; omega
          have Hp := hide hp
          clear hp
          clear ht
          go_wp2_with (first
            | (with_reducible refine wpList_store_row rfl 25 (.tmp 2) (.tmp 33) rfl w.heap.size rfl _ rfl _ _ HK.out rfl (by kernel_rfl) (by kernel_rfl) ?_))
          refine bodyPost_ret (results_row_tmp Tryz.results11 _ _ w.heap.size _ rfl (load25 _ _ _ 25 (setRow_heap _ _ _ _ 25 (0, 0) HK.out))) rfl ?_
          rw [Hp.out]
          exact PostR.none_ (below_setRow' HbZ.out (Nat.le_refl _) _)
        · have h4I : (nds'.length : Int) ≤ (400 : Int) := by omega
          have hp : parseR s = (0, nds') := by rw [parseR, Hel.out, if_pos he0, Hts.out, parseT, if_neg (by omega), ht]; simp; omega
          have Hp := hide hp
          clear hp
          clear ht
          go_wp2_with (first
            | (with_reducible refine wpList_store_row rfl 25 (.tmp 2) (.tmp 36) rfl w.heap.size rfl _ rfl _ _ HK.out rfl (by kernel_rfl) (by kernel_rfl) ?_))
          refine bodyPost_ret (results_row_tmp Tryz.results11 _ _ w.heap.size _ rfl (load25 _ _ _ 25 (setRow_heap _ _ _ _ 25 (0, 0) HK.out))) rfl ?_
          rw [Hp.out]
          refine ⟨below_setRow' HbZ.out (Nat.le_refl _) _, A', ca', rfl, ?_, hc1, hc2⟩
          have := HNZ.out.setOther HK.out (fun k n => by simp) #[.slice A' nds'.length ca']
          simpa using this
end Go.Proofs.YtbojlnbdkaanmaaGreatDoor
namespace Go.Proofs.YtbojlnbdkaanmaaGreatDoor
open Go.RowKit
set_option linter.unusedSimpArgs false
set_option linter.unusedVariables false

/-- The reference's Text at a parsed policy. -/
theorem rtext_parsed {s : ByteArray} {t : Ast} {ts : List Tok} (h : Parsed s t ts) {nds : List Nd} (hn : (parseR s).2 = nds) (w : World) (A : Option Addr) (c : Nat) (hN : Nodes w w.heap.size A nds) :
    Calls Tryz.prog 17 #[.agg #[.slice A nds.length c]] w fun e w' => e = .returned (.string ⟨(textT t).toArray⟩) ∧ Below w.heap.size w w' := by
  have hl := h.length
  rw [hn] at hl
  have he : nds = t.emit 0 := by rw [← hn, h.nds]
  have h0 : 0 < nds.length := by rw [he, Ast.emit_length]; cases t <;> simp [Ast.sz]
  have hT := textF_emit t h.ok
  rw [← he] at hT
  rw [← hT]
  have hnum : ∀ nd ∈ nds, NumOk nd := fun nd hnd => emit_num t h.ok 0 nd (by rw [← he]; exact hnd)
  refine rtext17_any w A c nds (fun i nd hi => h.ndok i nd (by rw [hn]; exact hi)) (by omega) h0 (fun nd hnd => ⟨(hnum nd hnd).n, (hnum nd hnd).m⟩) (fun nd hnd h6 i _ => by have := (hnum nd hnd).d h6 i; omega) (fun x hx => ?_) hN
  have hb := texts_bound t h.ok [] 40000 (fun x hx => by cases hx) (by have := h.len; omega) x (by
    rw [List.length_nil, ← he]
    exact hx)
  omega
theorem parse_small {s : ByteArray} {nds : List Nd} {er : Int} (hn : (parseR s).2 = nds) (he : (parseR s).1 = er) : nds.length ≤ 900000 ∧ ∀ nd ∈ nds, nd.of.length ≤ 1000000 := by
  by_cases h0 : er = 0
  · subst h0
    obtain ⟨t, ts, hp⟩ := parsed he
    have hl := hp.length
    rw [hn] at hl
    have hne : nds = t.emit 0 := by rw [← hn, hp.nds]
    refine ⟨by omega, fun nd hnd => ?_⟩
    have := (emit_num t hp.ok 0 nd (by rw [← hne]; exact hnd)).of
    omega
  · have hnil : nds = [] := by
      rw [← hn]
      rw [← he] at h0
      unfold parseR at h0 ⊢
      split
      · rename_i h1
        rw [if_pos h1] at h0
        unfold parseT at h0 ⊢
        split
        · rfl
        · rename_i h2
          rw [if_neg h2] at h0
          split
          · rfl
          · rename_i h3
            rw [h3] at h0
            simp only [] at h0
            split
            · rfl
            · rename_i h4
              rw [if_neg h4] at h0
              exact absurd rfl h0
      · rfl
    subst hnil
    exact ⟨by simp, fun nd hnd => by simp at hnd⟩
set_option maxRecDepth 100000 in
set_option maxHeartbeats 16000000 in
theorem law3 (w : World) (s : ByteArray) (hs : s.size ≤ maxLen) (hE : Env w) (hV : Evs w) :
    Calls Tryz.prog 3 #[.string s] w fun e w' => e = .returned (.bool true) ∧ Below w.heap.size w w' := by
  unfold maxLen at hs
  have H0 := hide (show Std w w from ⟨Below.refl _ _, hE, hV⟩)
  clear hE hV
  by_cases h6 : s.size ≤ 600
  · have e6 : decide ((600 : Int) < (s.size : Int)) = false := by simp; omega
    go_enter Tryz.func3, Tryz.ntmps3
    go_wp2_with fail
    refine Calls.mono (sanity_any _ H0.out.env H0.out.evs) ?_
    rintro e w1 ⟨rfl, hb⟩
    have H1 := hide (H0.out.next hb)
    clear hb
    obtain ⟨er, her⟩ : ∃ er, (parseR s).1 = er := ⟨_, rfl⟩
    obtain ⟨nds, hnds⟩ : ∃ nds, (parseR s).2 = nds := ⟨_, rfl⟩
    obtain ⟨el, hel⟩ : ∃ el, (lexR s).1 = el := ⟨_, rfl⟩
    obtain ⟨ts, hts⟩ : ∃ ts, (lexR s).2 = ts := ⟨_, rfl⟩
    have Her := hide her
    have Hnds := hide hnds
    have Hel := hide hel
    have Hts := hide hts
    clear her hnds hel hts
    go_wp2_with fail
    refine Calls.mono (parse_all w1 s H1.out.env) ?_
    rintro e w2 ⟨hb, A, c, rfl, hN, _, _⟩
    rw [Her.out, Hnds.out]
    rw [Hnds.out] at hN
    obtain ⟨Z, hZ⟩ : ∃ Z, Z = w2.alloc (.cells #[.slice A nds.length c] 25) := ⟨_, rfl⟩
    obtain ⟨fb, fk, fs⟩ := fresh_facts hZ
    have H3 := hide ((H1.out.next hb).next fb)
    have N3 := hide (Nodes.more (Nodes.below hN fb (Nat.le_refl _)) fb.size)
    have K3 := hide fk
    have HZ := hide hZ
    clear fb fk fs hZ hb hN
    go_wp2_with fail
    rw [← HZ.out]
    refine Calls.mono (rparse_any Z s (by omega)) ?_
    rintro e w4 ⟨hb, A2, c2, rfl, hN, _, _⟩
    rw [Her.out, Hnds.out]
    rw [Hnds.out] at hN
    obtain ⟨Y, hY⟩ : ∃ Y, Y = w4.alloc (.cells #[.slice A2 nds.length c2] 25) := ⟨_, rfl⟩
    obtain ⟨fb, fk, fs⟩ := fresh_facts hY
    have hbb := hb.trans (fb.mono hb.size)
    have H5 := hide (H3.out.next hbb)
    have N5 := hide (Nodes.more (Nodes.below N3.out hbb (Nat.le_refl _)) hbb.size)
    have M5 := hide (Nodes.more (Nodes.below hN fb (Nat.le_refl _)) fb.size)
    have K5 := hide ((hbb.block _ (World.lt_of_blk K3.out)).trans K3.out)
    have L5 := hide fk
    have HY := hide hY
    clear fb fk fs hY hb hN hbb
    go_wp2_with fail
    rw [← HY.out]
    refine Calls.mono (rtokens_any Y s) ?_
    rintro e w6 ⟨hb, A3, c3, rfl, hT, _, _, hl⟩
    rw [Hel.out, Hts.out]
    rw [Hts.out] at hT hl
    have H6 := hide (H5.out.next hb)
    have N6 := hide (Nodes.more (Nodes.below N5.out hb (Nat.le_refl _)) hb.size)
    have M6 := hide (Nodes.more (Nodes.below M5.out hb (Nat.le_refl _)) hb.size)
    have K6 := hide ((hb.block _ (World.lt_of_blk K5.out)).trans K5.out)
    have L6 := hide ((hb.block _ (World.lt_of_blk L5.out)).trans L5.out)
    have T6 := hide hT
    clear hb hT
    have hlen : ts.length ≤ 600 := by omega
    clear hl
    have hnm : nds.length ≤ 900000 ∧ ∀ nd ∈ nds, nd.of.length ≤ 1000000 := parse_small Hnds.out Her.out
    obtain ⟨hnl, hof⟩ := hnm
    have Hof := hide hof
    clear hof
    have cz : w6.cell? ⟨w2.heap.size, 0, none⟩ = some (.slice A nds.length c) := by rw [cell_of_row _ _ _ _ _ _ K6.out]; rfl
    have cy : w6.cell? ⟨w4.heap.size, 0, none⟩ = some (.slice A2 nds.length c2) := by rw [cell_of_row _ _ _ _ _ _ L6.out]; rfl
    go_wp2_with fail
    refine Calls.mono (same_any _ A A2 c c2 nds N6.out M6.out (by omega) Hof.out) ?_
    rintro e w7 ⟨rfl, hb⟩
    have H7 := hide (H6.out.next hb)
    have M7 := hide (Nodes.more (Nodes.below M6.out hb (Nat.le_refl _)) hb.size)
    have L7 := hide ((hb.block _ (World.lt_of_blk L6.out)).trans L6.out)
    have T7 := hide (Toks.more (Toks.below T6.out hb (Nat.le_refl _)) hb.size)
    clear hb cz cy
    go_wp2_with fail
    refine Calls.mono (depth_any w7 A3 c3 ts (by omega) T7.out) ?_
    rintro e w8 ⟨rfl, hb⟩
    have H8 := hide (H7.out.next hb)
    have M8 := hide (Nodes.more (Nodes.below M7.out hb (Nat.le_refl _)) hb.size)
    have L8 := hide ((hb.block _ (World.lt_of_blk L7.out)).trans L7.out)
    have T8 := hide (Toks.more (Toks.below T7.out hb (Nat.le_refl _)) hb.size)
    clear hb
    go_wp2_with fail
    refine Calls.mono (rdepth_any w8 A3 c3 ts (by omega) T8.out) ?_
    rintro e w9 ⟨rfl, rfl⟩
    generalize depthF ts = dp
    by_cases h0 : er = 0
    · subst h0
      obtain ⟨t, tks, hp⟩ := parsed Her.out
      obtain ⟨T, hT⟩ : ∃ T : ByteArray, (⟨(textT t).toArray⟩ : ByteArray) = T := ⟨_, rfl⟩
      have htx := fun W A c hN hE => text_parsed hp Hnds.out W A c hN hE
      have hrx := fun W A c hN => rtext_parsed hp Hnds.out W A c hN
      rw [hT] at htx hrx
      have Htx := hide htx
      have Hrx := hide hrx
      clear hp htx hrx hT
      go_wp2
      have HDr := hide (Below.refl w8.heap.size w8).drew
      refine wp_region_held (S := fun W' => W'.heap[w4.heap.size]? = some (.cells #[.slice A2 nds.length c2] 25 (0, 0))) (by kernel_rfl) ?_
      change wpAnyH _ _ _ _ _ _ _ _ (World.drew _)
      have HS := hide (show w8.drew.heap[w4.heap.size]? = some (.cells #[.slice A2 nds.length c2] 25 (0, 0)) from L8.out)
      refine takeHG (i := 0) (d := 49) (v := .bool true) rfl rfl (by kernel_rfl) (by kernel_rfl) (by kernel_rfl) (fun _ _ _ h => h) (by rfl) HS.out ?_ ?_
      · intro W' _; go_simp
      try simp only [Act.put, List.setIfInBounds_toArray, List.set_cons_zero, List.set_cons_succ]
      refine takeHG (i := 1) (d := 50) (v := .bool true) rfl rfl (by kernel_rfl) (by kernel_rfl) (by kernel_rfl) (fun _ _ _ h => h) (by rfl) HS.out ?_ ?_
      · intro W' _; go_simp
      try simp only [Act.put, List.setIfInBounds_toArray, List.set_cons_zero, List.set_cons_succ]
      refine takeHG (i := 2) (d := 51) (v := .agg #[.slice A2 nds.length c2]) rfl rfl (by kernel_rfl) (by kernel_rfl) (by kernel_rfl) (fun _ _ _ h => h) (by rfl) HS.out ?_ ?_
      · intro W' hS; exact y_load1 25 (.tmp 6) rfl w4.heap.size rfl 25 _ (0, 0) _ hS Tryz.underlying25 rfl (by kernel_rfl)
      try simp only [Act.put, List.setIfInBounds_toArray, List.set_cons_zero, List.set_cons_succ]
      refine takeHG (i := 4) (d := 53) (v := .agg #[.slice A2 nds.length c2]) rfl rfl (by kernel_rfl) (by kernel_rfl) (by kernel_rfl) (fun _ _ _ h => h) (by rfl) HS.out ?_ ?_
      · intro W' hS; exact y_load1 25 (.tmp 6) rfl w4.heap.size rfl 25 _ (0, 0) _ hS Tryz.underlying25 rfl (by kernel_rfl)
      try simp only [Act.put, List.setIfInBounds_toArray, List.set_cons_zero, List.set_cons_succ]
      have Q0 := hide (Nodes.more (Nodes.below M8.out HDr.out (Nat.le_refl _)) HDr.out.size)
      have E0 := hide (H8.out.next HDr.out)
      refine wpAnyH_ready (rs := [3]) (by kernel_rfl) (by simp) ?_
      refine AllReadyH.cons rfl (fun K hK => ?_) AllReadyH.nil
      go_simp
      refine Calls.mono (Htx.out _ A2 c2 Q0.out E0.out.env) ?_
      rintro e v1 ⟨rfl, hb⟩
      have D1 := hide (HDr.out.trans (hb.mono HDr.out.size))
      have E1 := hide (H8.out.next D1.out)
      have Q1 := hide (Nodes.more (Nodes.below M8.out D1.out (Nat.le_refl _)) D1.out.size)
      have S1 := hide ((D1.out.block _ (World.lt_of_blk L8.out)).trans L8.out)
      clear hb
      refine hK.out _ _ S1.out (fun _ => ?_)
      clear hK K
      try simp only [Act.put, List.setIfInBounds_toArray, List.set_cons_zero, List.set_cons_succ]
      refine wpAnyH_ready (rs := [5]) (by kernel_rfl) (by simp) ?_
      refine AllReadyH.cons rfl (fun K hK => ?_) AllReadyH.nil
      go_simp
      refine Calls.mono (Hrx.out _ A2 c2 Q1.out) ?_
      rintro e v2 ⟨rfl, hb⟩
      have D2 := hide (D1.out.trans (hb.mono D1.out.size))
      have E2 := hide (H8.out.next D2.out)
      have Q2 := hide (Nodes.more (Nodes.below M8.out D2.out (Nat.le_refl _)) D2.out.size)
      have S2 := hide ((D2.out.block _ (World.lt_of_blk L8.out)).trans L8.out)
      clear hb
      refine hK.out _ _ S2.out (fun _ => ?_)
      clear hK K
      try simp only [Act.put, List.setIfInBounds_toArray, List.set_cons_zero, List.set_cons_succ]
      refine takeHG (i := 6) (d := 55) (v := .bool true) rfl rfl (by kernel_rfl) (by kernel_rfl) (by kernel_rfl) (fun _ _ _ h => h) (by rfl) S2.out ?_ ?_
      · intro W' _; go_simp
      try simp only [Act.put, List.setIfInBounds_toArray, List.set_cons_zero, List.set_cons_succ]
      refine takeHG (i := 7) (d := 56) (v := .bool true) rfl rfl (by kernel_rfl) (by kernel_rfl) (by kernel_rfl) (fun _ _ _ h => h) (by rfl) S2.out ?_ ?_
      · intro W' _; go_simp
      try simp only [Act.put, List.setIfInBounds_toArray, List.set_cons_zero, List.set_cons_succ]
      refine takeHG (i := 8) (d := 57) (v := .bool true) rfl rfl (by kernel_rfl) (by kernel_rfl) (by kernel_rfl) (fun _ _ _ h => h) (by rfl) S2.out ?_ ?_
      · intro W' _; go_simp
      try simp only [Act.put, List.setIfInBounds_toArray, List.set_cons_zero, List.set_cons_succ]
      refine takeHG (i := 9) (d := 58) (v := .agg #[.slice A2 nds.length c2]) rfl rfl (by kernel_rfl) (by kernel_rfl) (by kernel_rfl) (fun _ _ _ h => h) (by rfl) S2.out ?_ ?_
      · intro W' hS; exact y_load1 25 (.tmp 6) rfl w4.heap.size rfl 25 _ (0, 0) _ hS Tryz.underlying25 rfl (by kernel_rfl)
      try simp only [Act.put, List.setIfInBounds_toArray, List.set_cons_zero, List.set_cons_succ]
      refine takeHG (i := 11) (d := 60) (v := .agg #[.slice A2 nds.length c2]) rfl rfl (by kernel_rfl) (by kernel_rfl) (by kernel_rfl) (fun _ _ _ h => h) (by rfl) S2.out ?_ ?_
      · intro W' hS; exact y_load1 25 (.tmp 6) rfl w4.heap.size rfl 25 _ (0, 0) _ hS Tryz.underlying25 rfl (by kernel_rfl)
      try simp only [Act.put, List.setIfInBounds_toArray, List.set_cons_zero, List.set_cons_succ]
      refine wpAnyH_ready (rs := [10]) (by kernel_rfl) (by simp) ?_
      refine AllReadyH.cons rfl (fun K hK => ?_) AllReadyH.nil
      go_simp
      refine Calls.mono (points_any _ A2 c2 nds Q2.out (by omega) (comp_ok _ (by have := ptsF_length nds; omega))) ?_
      rintro e v3 ⟨hb, B1, k1, ys, rfl, hp, hs, hr1⟩
      have D3 := hide (D2.out.trans (hb.mono D2.out.size))
      have E3 := hide (H8.out.next D3.out)
      have Q3 := hide (Nodes.more (Nodes.below M8.out D3.out (Nat.le_refl _)) D3.out.size)
      have S3 := hide ((D3.out.block _ (World.lt_of_blk L8.out)).trans L8.out)
      have hpe := ptsR_eq hp hs
      rw [← hpe] at hr1 ⊢
      have R3 := hide hr1
      clear hb hp hs hr1 hpe
      refine hK.out _ _ S3.out (fun _ => ?_)
      clear hK K
      try simp only [Act.put, List.setIfInBounds_toArray, List.set_cons_zero, List.set_cons_succ]
      refine wpAnyH_ready (rs := [12]) (by kernel_rfl) (by simp) ?_
      refine AllReadyH.cons rfl (fun K hK => ?_) AllReadyH.nil
      go_simp
      refine Calls.mono (rpoints_any _ A2 c2 nds Q3.out (by omega)) ?_
      rintro e v4 ⟨hb, B2, k2, rfl, hr2⟩
      have D4 := hide (D3.out.trans (hb.mono D3.out.size))
      have E4 := hide (H8.out.next D4.out)
      have Q4 := hide (Nodes.more (Nodes.below M8.out D4.out (Nat.le_refl _)) D4.out.size)
      have S4 := hide ((D4.out.block _ (World.lt_of_blk L8.out)).trans L8.out)
      have R4 := hide (Row.more (Row.below R3.out hb (Nat.le_refl _)) hb.size)
      have U4 := hide hr2
      clear hb hr2
      refine hK.out _ _ S4.out (fun _ => ?_)
      clear hK K
      try simp only [Act.put, List.setIfInBounds_toArray, List.set_cons_zero, List.set_cons_succ]
      refine wpAnyH_ready (rs := [13]) (by kernel_rfl) (by simp) ?_
      refine AllReadyH.cons rfl (fun K hK => ?_) AllReadyH.nil
      go_simp
      refine Calls.mono (pairs_any _ B1 B2 k1 k2 (ptsR (ptsF nds)) (ptsR (ptsF nds)) (by have := ptsR_length (ptsF nds) []; have := ptsF_length nds; unfold ptsR; simp only [List.length_nil] at *; omega) R4.out U4.out) ?_
      rintro e v5 ⟨rfl, hb⟩
      have D5 := hide (D4.out.trans (hb.mono D4.out.size))
      have E5 := hide (H8.out.next D5.out)
      have Q5 := hide (Nodes.more (Nodes.below M8.out D5.out (Nat.le_refl _)) D5.out.size)
      have S5 := hide ((D5.out.block _ (World.lt_of_blk L8.out)).trans L8.out)
      rw [decide_eq_true (rfl : ptsR (ptsF nds) = ptsR (ptsF nds))]
      clear hb
      refine hK.out _ _ S5.out (fun _ => ?_)
      clear hK K
      try simp only [Act.put, List.setIfInBounds_toArray, List.set_cons_zero, List.set_cons_succ]
      refine takeHG (i := 14) (d := 63) (v := .bool true) rfl rfl (by kernel_rfl) (by kernel_rfl) (by kernel_rfl) (fun _ _ _ h => h) (by rfl) S5.out ?_ ?_
      · intro W' _; go_simp
      try simp only [Act.put, List.setIfInBounds_toArray, List.set_cons_zero, List.set_cons_succ]
      refine takeHG (i := 15) (d := 2) (v := .bool true) rfl rfl (by kernel_rfl) (by kernel_rfl) (by kernel_rfl) (fun _ _ _ h => h) (by rfl) S5.out ?_ ?_
      · intro W' _; go_simp
      try simp only [Act.put, List.setIfInBounds_toArray, List.set_cons_zero, List.set_cons_succ]
      refine wpAnyH_done (by kernel_rfl) ?_ _
      go_wp2
      refine bodyPost_ret (v := .bool true) (by simp [results, Tryz.results3, go_sem]) rfl ?_
      exact ⟨rfl, E5.out.bel⟩
    · have e9 : (er != 0) = true := by simpa using h0
      clear h0
      go_wp2
      go_ret
      exact ⟨rfl, H8.out.bel⟩
  · have e6 : decide ((600 : Int) < (s.size : Int)) = true := by simp; omega
    go_enter Tryz.func3, Tryz.ntmps3
    go_wp2_with fail
    refine Calls.mono (sanity_any _ H0.out.env H0.out.evs) ?_
    rintro e w1 ⟨rfl, hb⟩
    have H1 := hide (H0.out.next hb)
    clear hb
    go_wp2
    go_ret
    exact ⟨rfl, H1.out.bel⟩
end Go.Proofs.YtbojlnbdkaanmaaGreatDoor
namespace Go.Proofs.YtbojlnbdkaanmaaGreatDoor
open Go.RowKit Go.ChangeShapes Go.WideShapes Go.ChangeAt
set_option linter.unusedSimpArgs false
set_option linter.unusedVariables false

set_option maxRecDepth 100000 in
theorem pars_contract (H : Type) (enc : TypeId × Value → H) (W : World) (base : Nat) (args : Array Value) (ds gs : List (DataW H)) (before : List MemPlace)
    (hval : ∀ (j : Nat) t v, Tryz.f3.params[j]? = some t → args[j]? = some v → Value.okWide Tryz.prog W .any base t v)
    (hW : DataW.Whole enc Tryz.prog Tryz.f3.params.toList Rows.policyParsesAsSpecifiedSpec.vars false W args.toList ds gs before) (hL : laidMetH Tryz.prog laidL W) :
    Calls Tryz.prog 3 args W fun e W' => ∃ v, e = .returned v ∧ Rows.policyParsesAsSpecifiedSpec.post enc Tryz.prog Tryz.f3 false true false false W args v W' := by
  have hW' := hW
  obtain ⟨p, q, hA0, hV, rfl, hfz, hnd⟩ := hW
  have hA : DataW.TrodAll enc Tryz.prog W 0 (fun _ => true) true Tryz.f3.params.toList args.toList ds p := hA0
  rw [Tryz.params3] at hA hval
  obtain ⟨v0, vs0, d0, ds0, p0, q0, hargs, rfl, rfl, h0, r0⟩ := trodAll_cons hA
  obtain ⟨rfl, rfl, rfl⟩ := trodAll_nil r0
  obtain rfl : args = #[v0] := by cases args; simp_all
  obtain ⟨s0, rfl, _, _, ws0⟩ := ChangeMaps.open_string Tryz.underlying9 (hval 0 9 v0 rfl rfl) h0
  refine (law3 W s0 ws0 (env_of_laid hL) (evs_of_laid hL)).mono fun e W' ⟨he, hb⟩ => ?_
  subst he
  exact ⟨_, rfl, close_true rfl rfl (by decide +kernel) hW' rfl rfl rfl hb⟩
theorem pars_reads (os : Os) {H : Type} (enc : TypeId × Value → H) : ∃ places, DataW.whole enc Tryz.prog ((wit os).forCall (fun _ _ => 0) ⟨#[], #[.string ⟨#[]⟩], []⟩).memory Tryz.f3.params.toList Rows.policyParsesAsSpecifiedSpec.vars false [.string ⟨#[]⟩] 8 =
    some ([.lit (.string [])], [], places) :=
  ⟨[], by kernel_rfl⟩
set_option maxRecDepth 100000 in
theorem pars_lifted (os : Os) (started : os.Started) (H : Type) (enc : TypeId × Value → H) (F : Stop.Interp) :
    ReturnsInHanded {} Tryz.checked os 3 .any ((OpenSpec.ofChange Rows.policyParsesAsSpecifiedSpec).preRow enc Tryz.prog Tryz.f3 Rows.policyParsesAsSpecifiedRow.domain false Rows.policyParsesAsSpecifiedRow.laid) (((OpenSpec.ofChange Rows.policyParsesAsSpecifiedSpec).at F).post enc Tryz.prog Tryz.f3 false true false false) := by
  obtain ⟨places, hx⟩ := pars_reads os enc
  refine returnsInHanded_of_row (C := Tryz.checked) (s := OpenSpec.ofChange Rows.policyParsesAsSpecifiedSpec) own started (by kernel_rfl) Tryz.func3
    (witness_row_atRef (enc := enc) (C := Tryz.checked) false (wit os) #[.string ⟨#[]⟩] (wit_os os) (by kernel_rfl) (by kernel_rfl) (by kernel_rfl)
      (OpenSpec.preRow_of_cond 8 hx (by kernel_rfl) (fun k hk => by cases hk) (by kernel_rfl) (wit_met os _))) ?_
  intro W base args ds gs before hval hW _ _ _ hL _ _
  exact pars_contract H enc W base args ds gs before hval hW hL
theorem pars_said : Rows.PolicyParsesAsSpecifiedSaid :=
  OpenClaim.holds_of_cond 3 Tryz.f3 rfl rfl rfl rfl rfl rfl rfl ⟨rfl, rfl, rfl, rfl, rfl⟩ rfl rfl rfl rfl rfl (by kernel_rfl) Tryz.func3 (by kernel_rfl)
    (of_decide_eq_true (by kernel_rfl)) (by unfold Func.isWrapper; first | (rw [if_pos (by decide +kernel)]; kernel_rfl) | (rw [if_neg (by decide +kernel)]; exact ⟨rfl, rfl⟩))
    (fun os started H enc _ F => by rw [OpenClaim.pre_eq_preRow]; exact pars_lifted os started H enc F)
/-- No parameter wants a stand-in; the program's own looks. -/
theorem pars_plain (f : FuncId) (fn : Func) (hf : Tryz.pinned.checked.prog.funcNamed "bootchain/bootchainlaw29.PolicyParsesAsSpecified" = some f) (hfn : Tryz.pinned.checked.prog.funcs[f]? = some fn) :
    true = Tryz.pinned.checked.prog.looks [] ∧ ∀ (j : Nat) t, fn.params[j]? = some t → Tryz.pinned.checked.prog.wantsStandIn t = false := by
  obtain rfl : f = 3 := Option.some.inj ((show Tryz.prog.funcNamed "bootchain/bootchainlaw29.PolicyParsesAsSpecified" = some 3 by kernel_rfl).symm.trans hf) |>.symm
  obtain rfl : fn = Tryz.f3 := (Option.some.inj (Tryz.func3.symm.trans hfn)).symm
  refine ⟨by kernel_rfl, fun j t ht => ?_⟩
  rw [Tryz.params3] at ht
  have hm := Array.mem_of_getElem? ht
  simp at hm
  subst hm
  exact (show Tryz.prog.wantsStandIn 9 = false by kernel_rfl)
theorem pars_holds : Rows.PolicyParsesAsSpecifiedCardSaid :=
  Claim7.holds_tied_plain_at .later [] _ _ _ _ pars_said (fun _ h => by cases h) (by kernel_rfl) (fun _ h => by cases h) policyParsesAsSpecified_row_tie rfl ⟨rfl, rfl⟩ (by kernel_rfl) rfl pars_plain (by kernel_rfl)
#print axioms pars_holds
end Go.Proofs.YtbojlnbdkaanmaaGreatDoor
