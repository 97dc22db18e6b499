/-
  What every row's condition on package variables gives; arguments opened; the closing of a statement that answers true and touches nothing.
-/
import Derived.Test.YtbojlnbdkaanmaaGreatDoorEvC
import Derived.Test.YtbojlnbdkaanmaaGreatDoorRows
import Derived.ChangeStays
import Derived.ChangeBears
import Derived.ChangeSame
import Derived.ProofKit
import Derived.OpenShut
import Derived.LaidMore
import Derived.LaidSub
import Derived.LaidHandle
import Derived.MakeChecks
import Derived.Lib.LaidTab
import Derived.Lib.SmallJoins
import Derived.Deep.Slices
import Derived.Deep.Matrix
import Derived.Stop.Joined
set_option linter.unusedVariables false
set_option linter.unusedSimpArgs false
namespace Go.Proofs.YtbojlnbdkaanmaaGreatDoor
open Go.RowKit Go.ChangeShapes Go.WideShapes Go.ChangeAt

/-! ### The package variables -/
theorem gEv : Tryz.prog.globalNamed "bootchain/policy.evaluators" = some 0 := by kernel_rfl
theorem gEvType : (Tryz.prog.globals[0]?).map (·.type) = some 79 := by kernel_rfl
theorem gPow : Tryz.prog.globalNamed "internal/strconv.uint64pow10" = some 1 := by kernel_rfl
theorem gPowType : (Tryz.prog.globals[1]?).map (·.type) = some 165 := by kernel_rfl
theorem gRng : Tryz.prog.globalNamed "strconv.ErrRange" = some 5 := by kernel_rfl
theorem gRngType : (Tryz.prog.globals[5]?).map (·.type) = some 113 := by kernel_rfl
theorem cells78 : Tryz.prog.cellsOf 78 = 1 := by kernel_rfl
theorem cells79 : Tryz.prog.cellsOf 79 = 11 := by kernel_rfl
theorem cells133 : Tryz.prog.cellsOf 133 = 1 := by kernel_rfl
theorem cells165 : Tryz.prog.cellsOf 165 = 20 := by kernel_rfl
/-- The list of package variables that each row bears. -/
def laidL : List (String × DataW Unit) := [("math/bits.deBruijn32tab", Rows.laid_math_bits_deBruijn32tab), ("math/bits.deBruijn64tab", Rows.laid_math_bits_deBruijn64tab), ("internal/strconv.uint64pow10", Rows.laid_internal_strconv_uint64pow10), ("unicode/utf8.acceptRanges", Rows.laid_unicode_utf8_acceptRanges), ("strconv.ErrRange", Rows.laid_strconv_ErrRange), ("strconv.ErrSyntax", Rows.laid_strconv_ErrSyntax), ("bootchain/policy.evaluators", Rows.laid_bootchain_policy_evaluators), ("unicode/utf8.first", Rows.laid_unicode_utf8_first)]
theorem filtPow : laidL.filter (fun x => x.1 == "internal/strconv.uint64pow10") = [("internal/strconv.uint64pow10", Lib.tabData .u64 Lib.pow10Tab)] := by kernel_rfl
theorem filtRng : laidL.filter (fun x => x.1 == "strconv.ErrRange") = [("strconv.ErrRange", Rows.laid_strconv_ErrRange)] := by kernel_rfl
theorem pow_of_laid {W : World} (h : laidMetH Tryz.prog laidL W) : Lib.TabIs Tryz.prog W "internal/strconv.uint64pow10" .u64 Lib.pow10Tab := by
  have h1 := h.filter (fun x => x.1 == "internal/strconv.uint64pow10")
  rw [filtPow, MakeChecks.laidMetH_plain _ _ _ (by kernel_rfl)] at h1
  exact Lib.tabIs_of_head (rest := []) gPow gPowType Tryz.underlying165 Tryz.underlying133 cells133 cells165 h1
theorem iface_cell {H : Type} {enc : TypeId × Value → H} {P : Program} {w : World} {base : Nat} {sp : Nat → Bool} {fuel : Nat} {t : TypeId} {ms : Array (String × TypeId)} {cs : List Value} {nm : String} {d : DataW H} {p : List MemPlace}
    (ht : P.underlying t = some (.interface ms)) (h : DataW.trod enc P w base sp false fuel t cs = some (.iface nm d, p)) : ∃ u v, cs = [.iface u v] := by
  cases fuel with
  | zero => simp [DataW.trod] at h
  | succ n =>
    unfold DataW.trod at h
    rw [ht] at h
    split at h <;> simp_all
set_option maxRecDepth 100000 in
theorem rng_of_laid {W : World} (h : laidMetH Tryz.prog laidL W) : ∃ tp p, W.var? Tryz.prog "strconv.ErrRange" = some #[.iface tp p] := by
  have h1 := h.filter (fun x => x.1 == "strconv.ErrRange")
  rw [filtRng, MakeChecks.laidMetH_plain _ _ _ (by kernel_rfl)] at h1
  obtain ⟨ps, ⟨g0, t0, cs0, f0, p0, q0, hg0, ht0, hv0, hd0, _, _⟩, _⟩ := h1
  obtain rfl := Option.some.inj (gRng.symm.trans hg0)
  obtain rfl := Option.some.inj (gRngType.symm.trans ht0)
  obtain ⟨u, v, e⟩ := iface_cell Tryz.underlying113 hd0
  refine ⟨u, v, ?_⟩
  rw [hv0]
  congr 1
  obtain ⟨l⟩ := cs0
  simp at e
  rw [e]
theorem env_of_laid {W : World} (h : laidMetH Tryz.prog laidL W) : Env W := ⟨pow_of_laid h, rng_of_laid h⟩
theorem ev_cell {H : Type} {enc : TypeId × Value → H} {w : World} {base : Nat} {sp : Nat → Bool} {fuel : Nat} {cs : List Value} {ds : List (DataW H)} {p : List MemPlace} (h : DataW.trod enc Tryz.prog w base sp true fuel 79 cs = some (.agg ds, p)) (i : Nat) (hi : i < 11) (d : DataW H) (hd : ds[i]? = some d) :
    ∃ v n q, cs[i]? = some v ∧ DataW.trod enc Tryz.prog w base sp true n 78 [v] = some (d, q) := by
  obtain ⟨xs, m, rfl, hx, hlen, hxl, hel⟩ := DataW.trod_array Tryz.underlying79 h
  have hds : ds = xs.map (·.1) := by
    have := congrArg Prod.fst hx
    simpa using this
  have h1 := hel i hi
  rw [cells78, Nat.mul_one] at h1
  rw [cells79] at hlen
  have hc : cs[i]? = some (cs[i]'(by omega)) := List.getElem?_eq_getElem (by omega)
  have e1 : (cs.drop i).take 1 = [cs[i]'(by omega)] := by
    rw [List.drop_eq_getElem_cons (by omega)]
    rfl
  rw [e1] at h1
  rw [hds, List.getElem?_map] at hd
  cases hy : xs[i]? with
  | none => rw [hy] at hd; cases hd
  | some y =>
    rw [hy] at hd h1
    injection hd with hd
    exact ⟨_, m, y.2, hc, by rw [h1, ← hd]⟩
def evDatum : DataW Unit := match Rows.laid_bootchain_policy_evaluators (H := Unit) with | .iface _ d => d | d => d
theorem evDatum_eq : (Rows.laid_bootchain_policy_evaluators : DataW Unit) = .iface "func table" evDatum := rfl
theorem evOut : evDatum.funcsOut = .agg [.nil, .held [98, 111, 111, 116, 99, 104, 97, 105, 110, 47, 112, 111, 108, 105, 99, 121, 46, 101, 118, 97, 108, 117, 97, 116, 111, 114, 115, 36, 49], .held [98, 111, 111, 116, 99, 104, 97, 105, 110, 47, 112, 111, 108, 105, 99, 121, 46, 101, 118, 97, 108, 117, 97, 116, 111, 114, 115, 36, 50], .held [98, 111, 111, 116, 99, 104, 97, 105, 110, 47, 112, 111, 108, 105, 99, 121, 46, 101, 118, 97, 108, 117, 97, 116, 111, 114, 115, 36, 51], .held [98, 111, 111, 116, 99, 104, 97, 105, 110, 47, 112, 111, 108, 105, 99, 121, 46, 101, 118, 97, 108, 117, 97, 116, 111, 114, 115, 36, 52], .held [98, 111, 111, 116, 99, 104, 97, 105, 110, 47, 112, 111, 108, 105, 99, 121, 46, 101, 118, 97, 108, 117, 97, 116, 111, 114, 115, 36, 53], .held [98, 111, 111, 116, 99, 104, 97, 105, 110, 47, 112, 111, 108, 105, 99, 121, 46, 101, 118, 97, 108, 117, 97, 116, 111, 114, 115, 36, 54], .held [98, 111, 111, 116, 99, 104, 97, 105, 110, 47, 112, 111, 108, 105, 99, 121, 46, 101, 118, 97, 108, 117, 97, 116, 111, 114, 115, 36, 55], .held [98, 111, 111, 116, 99, 104, 97, 105, 110, 47, 112, 111, 108, 105, 99, 121, 46, 101, 118, 97, 108, 117, 97, 116, 111, 114, 115, 36, 56], .held [98, 111, 111, 116, 99, 104, 97, 105, 110, 47, 112, 111, 108, 105, 99, 121, 46, 101, 118, 97, 108, 117, 97, 116, 111, 114, 115, 36, 57], .held [98, 111, 111, 116, 99, 104, 97, 105, 110, 47, 112, 111, 108, 105, 99, 121, 46, 101, 118, 97, 108, 117, 97, 116, 111, 114, 115, 36, 49, 48]] := by kernel_rfl
theorem one155 : ((List.range Tryz.prog.funcs.size).filter fun f => (Tryz.prog.funcs[f]?).any (·.name.toUTF8.data.toList == [98, 111, 111, 116, 99, 104, 97, 105, 110, 47, 112, 111, 108, 105, 99, 121, 46, 101, 118, 97, 108, 117, 97, 116, 111, 114, 115, 36, 49])) = [155] := by kernel_rfl
theorem one156 : ((List.range Tryz.prog.funcs.size).filter fun f => (Tryz.prog.funcs[f]?).any (·.name.toUTF8.data.toList == [98, 111, 111, 116, 99, 104, 97, 105, 110, 47, 112, 111, 108, 105, 99, 121, 46, 101, 118, 97, 108, 117, 97, 116, 111, 114, 115, 36, 50])) = [156] := by kernel_rfl
theorem one158 : ((List.range Tryz.prog.funcs.size).filter fun f => (Tryz.prog.funcs[f]?).any (·.name.toUTF8.data.toList == [98, 111, 111, 116, 99, 104, 97, 105, 110, 47, 112, 111, 108, 105, 99, 121, 46, 101, 118, 97, 108, 117, 97, 116, 111, 114, 115, 36, 51])) = [158] := by kernel_rfl
theorem one159 : ((List.range Tryz.prog.funcs.size).filter fun f => (Tryz.prog.funcs[f]?).any (·.name.toUTF8.data.toList == [98, 111, 111, 116, 99, 104, 97, 105, 110, 47, 112, 111, 108, 105, 99, 121, 46, 101, 118, 97, 108, 117, 97, 116, 111, 114, 115, 36, 52])) = [159] := by kernel_rfl
theorem one160 : ((List.range Tryz.prog.funcs.size).filter fun f => (Tryz.prog.funcs[f]?).any (·.name.toUTF8.data.toList == [98, 111, 111, 116, 99, 104, 97, 105, 110, 47, 112, 111, 108, 105, 99, 121, 46, 101, 118, 97, 108, 117, 97, 116, 111, 114, 115, 36, 53])) = [160] := by kernel_rfl
theorem one161 : ((List.range Tryz.prog.funcs.size).filter fun f => (Tryz.prog.funcs[f]?).any (·.name.toUTF8.data.toList == [98, 111, 111, 116, 99, 104, 97, 105, 110, 47, 112, 111, 108, 105, 99, 121, 46, 101, 118, 97, 108, 117, 97, 116, 111, 114, 115, 36, 54])) = [161] := by kernel_rfl
theorem one162 : ((List.range Tryz.prog.funcs.size).filter fun f => (Tryz.prog.funcs[f]?).any (·.name.toUTF8.data.toList == [98, 111, 111, 116, 99, 104, 97, 105, 110, 47, 112, 111, 108, 105, 99, 121, 46, 101, 118, 97, 108, 117, 97, 116, 111, 114, 115, 36, 55])) = [162] := by kernel_rfl
theorem one164 : ((List.range Tryz.prog.funcs.size).filter fun f => (Tryz.prog.funcs[f]?).any (·.name.toUTF8.data.toList == [98, 111, 111, 116, 99, 104, 97, 105, 110, 47, 112, 111, 108, 105, 99, 121, 46, 101, 118, 97, 108, 117, 97, 116, 111, 114, 115, 36, 56])) = [164] := by kernel_rfl
theorem one166 : ((List.range Tryz.prog.funcs.size).filter fun f => (Tryz.prog.funcs[f]?).any (·.name.toUTF8.data.toList == [98, 111, 111, 116, 99, 104, 97, 105, 110, 47, 112, 111, 108, 105, 99, 121, 46, 101, 118, 97, 108, 117, 97, 116, 111, 114, 115, 36, 57])) = [166] := by kernel_rfl
theorem one168 : ((List.range Tryz.prog.funcs.size).filter fun f => (Tryz.prog.funcs[f]?).any (·.name.toUTF8.data.toList == [98, 111, 111, 116, 99, 104, 97, 105, 110, 47, 112, 111, 108, 105, 99, 121, 46, 101, 118, 97, 108, 117, 97, 116, 111, 114, 115, 36, 49, 48])) = [168] := by kernel_rfl
theorem evs_of_laid {W : World} (h : laidMetH Tryz.prog laidL W) : Evs W := by
  have hm : ("bootchain/policy.evaluators", DataW.iface "func table" evDatum) ∈ laidL := List.mem_of_getElem? (i := 6) rfl
  obtain ⟨g, t, cs, fuel, p, hg, ht, hv, hd⟩ := h.funcs hm
  obtain rfl := Option.some.inj (gEv.symm.trans hg)
  obtain rfl := Option.some.inj (gEvType.symm.trans ht)
  rw [evOut] at hd
  intro k h1 h2
  have hcell := World.var?_cell hg hv k
  have hk : k = 1 ∨ k = 2 ∨ k = 3 ∨ k = 4 ∨ k = 5 ∨ k = 6 ∨ k = 7 ∨ k = 8 ∨ k = 9 ∨ k = 10 := by omega
  rcases hk with rfl | rfl | rfl | rfl | rfl | rfl | rfl | rfl | rfl | rfl
  · obtain ⟨v, n, q, hc, hr⟩ := ev_cell hd 1 (by decide) _ rfl
    obtain rfl := func_of_trod (f0 := 155) Tryz.underlying78 one155 hr
    have hc2 : cs[1]? = some (.func (.func 155) #[] #[]) := by simpa using hc
    exact hcell.trans hc2
  · obtain ⟨v, n, q, hc, hr⟩ := ev_cell hd 2 (by decide) _ rfl
    obtain rfl := func_of_trod (f0 := 156) Tryz.underlying78 one156 hr
    have hc2 : cs[2]? = some (.func (.func 156) #[] #[]) := by simpa using hc
    exact hcell.trans hc2
  · obtain ⟨v, n, q, hc, hr⟩ := ev_cell hd 3 (by decide) _ rfl
    obtain rfl := func_of_trod (f0 := 158) Tryz.underlying78 one158 hr
    have hc2 : cs[3]? = some (.func (.func 158) #[] #[]) := by simpa using hc
    exact hcell.trans hc2
  · obtain ⟨v, n, q, hc, hr⟩ := ev_cell hd 4 (by decide) _ rfl
    obtain rfl := func_of_trod (f0 := 159) Tryz.underlying78 one159 hr
    have hc2 : cs[4]? = some (.func (.func 159) #[] #[]) := by simpa using hc
    exact hcell.trans hc2
  · obtain ⟨v, n, q, hc, hr⟩ := ev_cell hd 5 (by decide) _ rfl
    obtain rfl := func_of_trod (f0 := 160) Tryz.underlying78 one160 hr
    have hc2 : cs[5]? = some (.func (.func 160) #[] #[]) := by simpa using hc
    exact hcell.trans hc2
  · obtain ⟨v, n, q, hc, hr⟩ := ev_cell hd 6 (by decide) _ rfl
    obtain rfl := func_of_trod (f0 := 161) Tryz.underlying78 one161 hr
    have hc2 : cs[6]? = some (.func (.func 161) #[] #[]) := by simpa using hc
    exact hcell.trans hc2
  · obtain ⟨v, n, q, hc, hr⟩ := ev_cell hd 7 (by decide) _ rfl
    obtain rfl := func_of_trod (f0 := 162) Tryz.underlying78 one162 hr
    have hc2 : cs[7]? = some (.func (.func 162) #[] #[]) := by simpa using hc
    exact hcell.trans hc2
  · obtain ⟨v, n, q, hc, hr⟩ := ev_cell hd 8 (by decide) _ rfl
    obtain rfl := func_of_trod (f0 := 164) Tryz.underlying78 one164 hr
    have hc2 : cs[8]? = some (.func (.func 164) #[] #[]) := by simpa using hc
    exact hcell.trans hc2
  · obtain ⟨v, n, q, hc, hr⟩ := ev_cell hd 9 (by decide) _ rfl
    obtain rfl := func_of_trod (f0 := 166) Tryz.underlying78 one166 hr
    have hc2 : cs[9]? = some (.func (.func 166) #[] #[]) := by simpa using hc
    exact hcell.trans hc2
  · obtain ⟨v, n, q, hc, hr⟩ := ev_cell hd 10 (by decide) _ rfl
    obtain rfl := func_of_trod (f0 := 168) Tryz.underlying78 one168 hr
    have hc2 : cs[10]? = some (.func (.func 168) #[] #[]) := by simpa using hc
    exact hcell.trans hc2

/-! ### What is below stays as it reads -/
theorem laidOut' : laidOutB Tryz.prog = true := by kernel_rfl
theorem mapsRowed' : mapsRowed Tryz.prog = true := by kernel_rfl
theorem kids' : Kids Tryz.prog (· < Tryz.prog.types.size) := kids_rows laidOut' mapsRowed'
def szB (P : Program) : Bool := (List.range P.types.size).all fun t => match P.underlying t with | some (.slice e) => decide (0 < P.cellsOf e) | _ => true
theorem szB' : szB Tryz.prog = true := by kernel_rfl
theorem hsz' {t e : TypeId} (ht : t < Tryz.prog.types.size) (hu : Tryz.prog.underlying t = some (.slice e)) : 0 < Tryz.prog.cellsOf e := by
  have := szB'
  unfold szB at this
  rw [List.all_eq_true] at this
  have h := this t (List.mem_range.2 ht)
  rw [hu] at h
  simpa using h
theorem sameAt_below {W W' : World} (hb : Below W.heap.size W W') (p : MemPlace) (hp : p.block < W.heap.size) : W.sameAt W' p := by
  cases p with
  | cell b off => exact hb.cell (p := ⟨b, off, none⟩) hp
  | map b => exact hb.block b hp
theorem trodAll_stays {H : Type} {enc : TypeId × Value → H} {W W' : World} (hb : Below W.heap.size W W') (sp : Nat → Bool) : ∀ (ts : List TypeId) (vs : List Value) (ds : List (DataW H)) (p : List MemPlace), (∀ t ∈ ts, t < Tryz.prog.types.size) →
    DataW.TrodAll enc Tryz.prog W 0 (fun _ => true) true ts vs ds p → (∀ q ∈ p, q.block < W.heap.size) → (∀ q ∈ p, sp q.block = true) → DataW.TrodAll enc Tryz.prog W' 0 sp true ts vs ds p
  | [], [], [], p, _, h, _, _ => h
  | t :: ts, v :: vs, d :: ds, p, ht, ⟨p1, p2, ⟨n, h1⟩, h2, e⟩, hl, hs => by
    subst e
    refine ⟨p1, p2, ⟨n, ?_⟩, trodAll_stays hb sp ts vs ds p2 (fun t h => ht t (by simp [h])) h2 (fun q hq => hl q (by simp [hq])) (fun q hq => hs q (by simp [hq])), rfl⟩
    exact DataW.trod_stays kids' hsz' (fun h => by cases h) (ht t (by simp)) h1 (fun q hq => sameAt_below hb q (hl q (by simp [hq]))) (fun q hq => hs q (by simp [hq]))
end Go.Proofs.YtbojlnbdkaanmaaGreatDoor
