/-
  PolicyRoundTrip: its walk: it answers true, and nothing that stood is touched.
-/
import Derived.Test.YtbojlnbdkaanmaaGreatDoorSanB
import Derived.Test.YtbojlnbdkaanmaaGreatDoorRtP
import Derived.Test.YtbojlnbdkaanmaaGreatDoorWrd
import Derived.Test.YtbojlnbdkaanmaaGreatDoorSam
import Derived.Test.YtbojlnbdkaanmaaGreatDoorParL
import Derived.Outline
namespace Go.Proofs.YtbojlnbdkaanmaaGreatDoor
open Go.RowKit
set_option linter.unusedSimpArgs false
set_option linter.unusedVariables false

theorem takeHG {P : Program} {ops : Array Oper} {Q : Exit → Act → World → Prop} {md : Region.Mode} {S : World → Prop} {i : Nat} {d : Tmp} {oi : Oper} {v : Value} {fuel : Nat} {listed : Array Bool} {a : Act} {w : World} (hi : ops[i]? = some oi) (hd : oi.dst = some d)
    (hs : Region.noSelect ops = true) (hf : Region.free md ops listed i = true) (hr : (Region.ready md ops listed).contains i = true)
    (hQ : ∀ c a w, Q (.panic c) (a.put (some d) v) w → Q (.panic c) a w) (hg : Region.wanted oi (yielded ops a.tmps) = true) (hS : S w) (hy : ∀ W, S W → (execOp a.eval oi).run P W = .ok (.value v) W)
    (h : wpAnyH P md ops Q S fuel (listed.setIfInBounds i true) (a.put (some d) v) w) : wpAnyH P md ops Q S (fuel + 1) listed a w :=
  wpAnyH_take hi hs hf hr (fun c a w => by rw [hd]; exact hQ c a w) (Or.inl ⟨hg, hy⟩) hS (by rw [hd]; exact h)
/-- What is read of the package's variables, in a world behind the call's start. -/
structure Std (w W : World) : Prop where
  bel : Below w.heap.size w W
  env : Env W
  evs : Evs W
theorem Std.next {w W W' : World} (h : Std w W) (hb : Below W.heap.size W W') : Std w W' := ⟨h.bel.trans (hb.mono h.bel.size), h.env.below hb, h.evs.below hb⟩
/-- The program's Text at a parsed policy. -/
theorem text_parsed {s : ByteArray} {t : Ast} {ts : List Tok} (h : Parsed s t ts) {nds : List Nd} (hn : (parseR s).2 = nds) (w : World) (A : Option Addr) (c : Nat) (hN : Nodes w w.heap.size A nds) (hE : Env w) :
    Calls Tryz.prog 16 #[.agg #[.slice A nds.length c]] w fun e w' => e = .returned (.string ⟨(textT t).toArray⟩) ∧ Below w.heap.size w w' := by
  have hl := h.length
  rw [hn] at hl
  have he : nds = t.emit 0 := by rw [← hn, h.nds]
  have hT := textF_emit t h.ok
  rw [← he] at hT
  rw [← hT]
  have hnum : ∀ nd ∈ nds, NumOk nd := fun nd hnd => emit_num t h.ok 0 nd (by rw [← he]; exact hnd)
  refine text_any w A c nds hN (fun i nd hi => h.ndok i nd (by rw [hn]; exact hi)) (fun nd hnd => ⟨(hnum nd hnd).n, (hnum nd hnd).m⟩) (by omega) (fun x hx => ?_) (fun nd hnd h6 => words_any nd.d ((hnum nd hnd).d h6)) hE
  have hb := texts_bound t h.ok [] 40000 (fun x hx => by cases hx) (by have := h.len; omega) x (by
    rw [List.length_nil, ← he]
    exact hx)
  omega

set_option maxRecDepth 100000 in
set_option maxHeartbeats 8000000 in
theorem law5 (w : World) (s : ByteArray) (hs : s.size ≤ maxLen) (hE : Env w) (hV : Evs w) :
    Calls Tryz.prog 5 #[.string s] w fun e w' => e = .returned (.bool true) ∧ Below w.heap.size w w' := by
  unfold maxLen at hs
  have H0 := hide (show Std w w from ⟨Below.refl _ _, hE, hV⟩)
  clear hE hV
  by_cases h6 : s.size ≤ 200
  · have e6 : decide ((200 : Int) < (s.size : Int)) = false := by simp; omega
    go_enter Tryz.func5, Tryz.ntmps5
    go_wp2_with fail
    refine Calls.mono (sanity_any _ H0.out.env H0.out.evs) ?_
    rintro e w1 ⟨rfl, hb⟩
    have H1 := hide (H0.out.next hb)
    clear hb
    go_wp2_with fail
    obtain ⟨er, her⟩ : ∃ er, (parseR s).1 = er := ⟨_, rfl⟩
    obtain ⟨nds, hnds⟩ : ∃ nds, (parseR s).2 = nds := ⟨_, rfl⟩
    have Her := hide her
    have Hnds := hide hnds
    refine Calls.mono (parse_all w1 s H1.out.env) ?_
    rintro e w2 ⟨hb, A, c, rfl, hN, _, _⟩
    rw [her, hnds]
    rw [hnds] at hN
    have H2 := hide (H1.out.next hb)
    have HN := hide hN
    clear hb hN her hnds
    by_cases h0 : er = 0
    · subst h0
      obtain ⟨t, ts, hp⟩ := parsed Her.out
      have hnl := hp.length
      rw [Hnds.out] at hnl
      have HPt := hide hp
      have hrt := round_trip t hp.ok hp.len
      have hne : nds = t.emit 0 := by rw [← Hnds.out, hp.nds]
      rw [← hne] at hrt
      obtain ⟨T, hT⟩ : ∃ T : ByteArray, (⟨(textT t).toArray⟩ : ByteArray) = T := ⟨_, rfl⟩
      rw [hT] at hrt
      have htx := fun W A c hN hE => text_parsed hp Hnds.out W A c hN hE
      rw [hT] at htx
      have Htx := hide htx
      have Hrt := hide hrt
      have hofs : ∀ nd ∈ nds, nd.of.length ≤ 1000000 := fun nd hnd => by
        have := (emit_num t hp.ok 0 nd (by rw [← hne]; exact hnd)).of
        omega
      have Hofs := hide hofs
      clear hp hne hrt htx hT hofs
      obtain ⟨Z, hZ⟩ : ∃ Z, Z = w2.alloc (.cells #[.slice A nds.length c] 25) := ⟨_, rfl⟩
      obtain ⟨fb, fk, fs⟩ := fresh_facts hZ
      have H3 := hide (H2.out.next fb)
      have N3 := hide (Nodes.more (Nodes.below HN.out fb (Nat.le_refl _)) fb.size)
      have K3 := hide fk
      have HZ := hide hZ
      clear fb fk fs hZ
      go_wp2_with fail
      rw [← HZ.out]
      refine Calls.mono (Htx.out Z A c N3.out H3.out.env) ?_
      rintro e w5 ⟨rfl, hb⟩
      have H5 := hide (H3.out.next hb)
      have N5 := hide (Nodes.more (Nodes.below N3.out hb (Nat.le_refl _)) hb.size)
      have K5 := hide ((hb.block _ (World.lt_of_blk K3.out)).trans K3.out)
      clear hb
      go_wp2_with fail
      refine Calls.mono (parse_all w5 T H5.out.env) ?_
      rintro e w6 ⟨hb, A2, c2, rfl, hN2, _, _⟩
      have H6 := hide (H5.out.next hb)
      have N6 := hide (Nodes.more (Nodes.below N5.out hb (Nat.le_refl _)) hb.size)
      have K6 := hide ((hb.block _ (World.lt_of_blk K5.out)).trans K5.out)
      clear hb
      rcases Hrt.out with hr | hr
      · rw [hr]
        clear hr
        go_wp2
        go_ret
        exact ⟨rfl, H6.out.bel.alloc H6.out.bel.size _⟩
      · rw [hr]
        rw [hr] at hN2
        have HN2 := hide hN2
        clear hr hN2
        obtain ⟨Y, hY⟩ : ∃ Y, Y = w6.alloc (.cells #[.slice A2 nds.length c2] 25) := ⟨_, rfl⟩
        obtain ⟨fb, fk, fs⟩ := fresh_facts hY
        have H7 := hide (H6.out.next fb)
        have N7 := hide (Nodes.more (Nodes.below N6.out fb (Nat.le_refl _)) fb.size)
        have M7 := hide (Nodes.more (Nodes.below HN2.out fb (Nat.le_refl _)) fb.size)
        have K7 := hide ((fb.block _ (World.lt_of_blk K6.out)).trans K6.out)
        have L7 := hide fk
        have HY := hide hY
        clear fb fk fs hY
        have e2 : ((0 : Int) == 2) = false := by decide
        go_wp2
        have HDr := hide (Below.refl Y.heap.size Y).drew
        rw [← HY.out]
        refine wp_region_held (S := fun W' => W'.heap[w2.heap.size]? = some (.cells #[.slice A nds.length c] 25 (0, 0)) ∧ W'.heap[w6.heap.size]? = some (.cells #[.slice A2 nds.length c2] 25 (0, 0))) (by kernel_rfl) ?_
        change wpAnyH _ _ _ _ _ _ _ _ (World.drew _)
        have HS := hide (show Y.drew.heap[w2.heap.size]? = some (.cells #[.slice A nds.length c] 25 (0, 0)) ∧ Y.drew.heap[w6.heap.size]? = some (.cells #[.slice A2 nds.length c2] 25 (0, 0)) from ⟨K7.out, L7.out⟩)
        refine takeHG (i := 0) (d := 30) (v := .bool true) rfl rfl (by kernel_rfl) (by kernel_rfl) (by kernel_rfl) (fun _ _ _ h => h) (by rfl) HS.out ?_ ?_
        · intro W' _; go_simp
        try simp only [Act.put, List.setIfInBounds_toArray, List.set_cons_zero, List.set_cons_succ]
        refine takeHG (i := 1) (d := 31) (v := .bool true) rfl rfl (by kernel_rfl) (by kernel_rfl) (by kernel_rfl) (fun _ _ _ h => h) (by rfl) HS.out ?_ ?_
        · intro W' _; go_simp
        try simp only [Act.put, List.setIfInBounds_toArray, List.set_cons_zero, List.set_cons_succ]
        refine takeHG (i := 2) (d := 32) (v := .int .i64 0) rfl rfl (by kernel_rfl) (by kernel_rfl) (by kernel_rfl) (fun _ _ _ h => h) (by rfl) HS.out ?_ ?_
        · intro W' _; go_simp
        try simp only [Act.put, List.setIfInBounds_toArray, List.set_cons_zero, List.set_cons_succ]
        refine takeHG (i := 3) (d := 33) (v := .bool true) rfl rfl (by kernel_rfl) (by kernel_rfl) (by kernel_rfl) (fun _ _ _ h => h) (by rfl) HS.out ?_ ?_
        · intro W' _; go_simp
        try simp only [Act.put, List.setIfInBounds_toArray, List.set_cons_zero, List.set_cons_succ]
        refine takeHG (i := 4) (d := 34) (v := .bool true) rfl rfl (by kernel_rfl) (by kernel_rfl) (by kernel_rfl) (fun _ _ _ h => h) (by rfl) HS.out ?_ ?_
        · intro W' _; go_simp
        try simp only [Act.put, List.setIfInBounds_toArray, List.set_cons_zero, List.set_cons_succ]
        refine takeHG (i := 5) (d := 35) (v := .bool true) rfl rfl (by kernel_rfl) (by kernel_rfl) (by kernel_rfl) (fun _ _ _ h => h) (by rfl) HS.out ?_ ?_
        · intro W' _; go_simp
        try simp only [Act.put, List.setIfInBounds_toArray, List.set_cons_zero, List.set_cons_succ]
        refine takeHG (i := 6) (d := 36) (v := .agg #[.slice A nds.length c]) rfl rfl (by kernel_rfl) (by kernel_rfl) (by kernel_rfl) (fun _ _ _ h => h) (by rfl) HS.out ?_ ?_
        · intro W' hS; exact y_load1 25 (.tmp 4) rfl w2.heap.size rfl 25 _ (0, 0) _ hS.1 Tryz.underlying25 rfl (by kernel_rfl)
        try simp only [Act.put, List.setIfInBounds_toArray, List.set_cons_zero, List.set_cons_succ]
        refine takeHG (i := 7) (d := 37) (v := .agg #[.slice A2 nds.length c2]) rfl rfl (by kernel_rfl) (by kernel_rfl) (by kernel_rfl) (fun _ _ _ h => h) (by rfl) HS.out ?_ ?_
        · intro W' hS; exact y_load1 25 (.tmp 6) rfl w6.heap.size rfl 25 _ (0, 0) _ hS.2 Tryz.underlying25 rfl (by kernel_rfl)
        try simp only [Act.put, List.setIfInBounds_toArray, List.set_cons_zero, List.set_cons_succ]
        refine wpAnyH_ready (rs := [8]) (by kernel_rfl) (by simp) ?_
        refine AllReadyH.cons rfl (fun K hK => ?_) AllReadyH.nil
        go_simp
        refine Calls.mono (same_any _ A A2 c c2 nds (Nodes.more (Nodes.below N7.out HDr.out (Nat.le_refl _)) HDr.out.size) (Nodes.more (Nodes.below M7.out HDr.out (Nat.le_refl _)) HDr.out.size) (by omega) Hofs.out) ?_
        rintro e wa ⟨rfl, hb⟩
        have Da := hide (HDr.out.trans (hb.mono HDr.out.size))
        clear hb
        have Ea := hide (H7.out.next Da.out)
        have Pa := hide (Nodes.more (Nodes.below N7.out Da.out (Nat.le_refl _)) Da.out.size)
        have Qa := hide (Nodes.more (Nodes.below M7.out Da.out (Nat.le_refl _)) Da.out.size)
        have Sa := hide (And.intro ((Da.out.block _ (World.lt_of_blk K7.out)).trans K7.out) ((Da.out.block _ (World.lt_of_blk L7.out)).trans L7.out))
        refine hK.out _ _ Sa.out (fun _ => ?_)
        clear hK K
        try simp only [Act.put, List.setIfInBounds_toArray, List.set_cons_zero, List.set_cons_succ]
        refine takeHG (i := 9) (d := 39) (v := .bool true) rfl rfl (by kernel_rfl) (by kernel_rfl) (by kernel_rfl) (fun _ _ _ h => h) (by rfl) Sa.out ?_ ?_
        · intro W' _; go_simp
        try simp only [Act.put, List.setIfInBounds_toArray, List.set_cons_zero, List.set_cons_succ]
        refine takeHG (i := 10) (d := 40) (v := .bool true) rfl rfl (by kernel_rfl) (by kernel_rfl) (by kernel_rfl) (fun _ _ _ h => h) (by rfl) Sa.out ?_ ?_
        · intro W' _; go_simp
        try simp only [Act.put, List.setIfInBounds_toArray, List.set_cons_zero, List.set_cons_succ]
        refine takeHG (i := 11) (d := 41) (v := .agg #[.slice A2 nds.length c2]) rfl rfl (by kernel_rfl) (by kernel_rfl) (by kernel_rfl) (fun _ _ _ h => h) (by rfl) Sa.out ?_ ?_
        · intro W' hS; exact y_load1 25 (.tmp 6) rfl w6.heap.size rfl 25 _ (0, 0) _ hS.2 Tryz.underlying25 rfl (by kernel_rfl)
        try simp only [Act.put, List.setIfInBounds_toArray, List.set_cons_zero, List.set_cons_succ]
        refine takeHG (i := 13) (d := 43) (v := .agg #[.slice A nds.length c]) rfl rfl (by kernel_rfl) (by kernel_rfl) (by kernel_rfl) (fun _ _ _ h => h) (by rfl) Sa.out ?_ ?_
        · intro W' hS; exact y_load1 25 (.tmp 4) rfl w2.heap.size rfl 25 _ (0, 0) _ hS.1 Tryz.underlying25 rfl (by kernel_rfl)
        try simp only [Act.put, List.setIfInBounds_toArray, List.set_cons_zero, List.set_cons_succ]
        refine wpAnyH_ready (rs := [12]) (by kernel_rfl) (by simp) ?_
        refine AllReadyH.cons rfl (fun K hK => ?_) AllReadyH.nil
        go_simp
        refine Calls.mono (Htx.out _ A2 c2 Qa.out Ea.out.env) ?_
        rintro e wb ⟨rfl, hb⟩
        have Db := hide (Da.out.trans (hb.mono Da.out.size))
        clear hb
        have Eb := hide (H7.out.next Db.out)
        have Pb := hide (Nodes.more (Nodes.below N7.out Db.out (Nat.le_refl _)) Db.out.size)
        have Qb := hide (Nodes.more (Nodes.below M7.out Db.out (Nat.le_refl _)) Db.out.size)
        have Sb := hide (And.intro ((Db.out.block _ (World.lt_of_blk K7.out)).trans K7.out) ((Db.out.block _ (World.lt_of_blk L7.out)).trans L7.out))
        refine hK.out _ _ Sb.out (fun _ => ?_)
        clear hK K
        try simp only [Act.put, List.setIfInBounds_toArray, List.set_cons_zero, List.set_cons_succ]
        refine wpAnyH_ready (rs := [14]) (by kernel_rfl) (by simp) ?_
        refine AllReadyH.cons rfl (fun K hK => ?_) AllReadyH.nil
        go_simp
        refine Calls.mono (Htx.out _ A c Pb.out Eb.out.env) ?_
        rintro e wd ⟨rfl, hb⟩
        have Dd := hide (Db.out.trans (hb.mono Db.out.size))
        clear hb
        have Ed := hide (H7.out.next Dd.out)
        have Pd := hide (Nodes.more (Nodes.below N7.out Dd.out (Nat.le_refl _)) Dd.out.size)
        have Qd := hide (Nodes.more (Nodes.below M7.out Dd.out (Nat.le_refl _)) Dd.out.size)
        have Sd := hide (And.intro ((Dd.out.block _ (World.lt_of_blk K7.out)).trans K7.out) ((Dd.out.block _ (World.lt_of_blk L7.out)).trans L7.out))
        refine hK.out _ _ Sd.out (fun _ => ?_)
        clear hK K
        try simp only [Act.put, List.setIfInBounds_toArray, List.set_cons_zero, List.set_cons_succ]
        refine takeHG (i := 15) (d := 45) (v := .bool true) rfl rfl (by kernel_rfl) (by kernel_rfl) (by kernel_rfl) (fun _ _ _ h => h) (by rfl) Sd.out ?_ ?_
        · intro W' _; go_simp
        try simp only [Act.put, List.setIfInBounds_toArray, List.set_cons_zero, List.set_cons_succ]
        refine takeHG (i := 16) (d := 46) (v := .bool true) rfl rfl (by kernel_rfl) (by kernel_rfl) (by kernel_rfl) (fun _ _ _ h => h) (by rfl) Sd.out ?_ ?_
        · intro W' _; go_simp
        try simp only [Act.put, List.setIfInBounds_toArray, List.set_cons_zero, List.set_cons_succ]
        refine takeHG (i := 17) (d := 2) (v := .bool true) rfl rfl (by kernel_rfl) (by kernel_rfl) (by kernel_rfl) (fun _ _ _ h => h) (by rfl) Sd.out ?_ ?_
        · intro W' _; go_simp
        try simp only [Act.put, List.setIfInBounds_toArray, List.set_cons_zero, List.set_cons_succ]
        refine wpAnyH_done (by kernel_rfl) ?_ _
        go_wp2
        refine bodyPost_ret (v := .bool true) (by simp [results, Tryz.results5, go_sem]) rfl ?_
        exact ⟨rfl, Ed.out.bel⟩
    · have e9 : (er != 0) = true := by simpa using h0
      clear h0
      go_wp2
      go_ret
      exact ⟨rfl, H2.out.bel.alloc H2.out.bel.size _⟩
  · have e6 : decide ((200 : Int) < (s.size : Int)) = true := by simp; omega
    go_enter Tryz.func5, Tryz.ntmps5
    go_wp2_with fail
    refine Calls.mono (sanity_any _ H0.out.env H0.out.evs) ?_
    rintro e w1 ⟨rfl, hb⟩
    have H1 := hide (H0.out.next hb)
    clear hb
    go_wp2
    go_ret
    exact ⟨rfl, H1.out.bel⟩
end Go.Proofs.YtbojlnbdkaanmaaGreatDoor
