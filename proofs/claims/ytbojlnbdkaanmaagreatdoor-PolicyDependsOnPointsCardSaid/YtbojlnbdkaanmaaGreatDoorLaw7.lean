/-
  PolicyDependsOnPoints: its walk: it answers true, and nothing that stood is touched.
-/
import Derived.Test.YtbojlnbdkaanmaaGreatDoorMixA
namespace Go.Proofs.YtbojlnbdkaanmaaGreatDoor
open Go.RowKit
set_option linter.unusedSimpArgs false
set_option linter.unusedVariables false

theorem takeHG {P : Program} {ops : Array Oper} {Q : Exit → Act → World → Prop} {md : Region.Mode} {S : World → Prop} {i : Nat} {d : Tmp} {oi : Oper} {v : Value} {fuel : Nat} {listed : Array Bool} {a : Act} {w : World} (hi : ops[i]? = some oi) (hd : oi.dst = some d)
    (hs : Region.noSelect ops = true) (hf : Region.free md ops listed i = true) (hr : (Region.ready md ops listed).contains i = true)
    (hQ : ∀ c a w, Q (.panic c) (a.put (some d) v) w → Q (.panic c) a w) (hg : Region.wanted oi (yielded ops a.tmps) = true) (hS : S w) (hy : ∀ W, S W → (execOp a.eval oi).run P W = .ok (.value v) W)
    (h : wpAnyH P md ops Q S fuel (listed.setIfInBounds i true) (a.put (some d) v) w) : wpAnyH P md ops Q S (fuel + 1) listed a w :=
  wpAnyH_take hi hs hf hr (fun c a w => by rw [hd]; exact hQ c a w) (Or.inl ⟨hg, hy⟩) hS (by rw [hd]; exact h)
/-- One copy of facts in a block of the call's, and the world behind it. -/
structure One (w : World) (F : Fct) (As : Option Addr) (cs : Nat) (Ap : Option Addr) (cp : Nat) (W : World) : Prop where
  f : W.heap[w.heap.size]? = some (.cells #[.int .i64 F.v, .int .i64 F.e, .slice As F.st.length cs, .slice Ap F.pts.length cp] 42 (0, 0))
  fa : FctAt W W.heap.size F As Ap
  bel : Below w.heap.size w W
  env : Env W
  evs : Evs W
section
variable {w : World} {F : Fct} {As : Option Addr} {cs : Nat} {Ap : Option Addr} {cp : Nat} {W W' : World}
theorem One.next (h : One w F As cs Ap cp W) (hb : Below W.heap.size W W') : One w F As cs Ap cp W' :=
  ⟨(hb.block _ (World.lt_of_blk h.f)).trans h.f, h.fa.nxt hb, h.bel.trans (hb.mono h.bel.size), h.env.below hb, h.evs.below hb⟩
theorem One.cells (h : One w F As cs Ap cp W) :
    W.cell? ⟨w.heap.size, 0, none⟩ = some (.int .i64 F.v) ∧ W.cell? ⟨w.heap.size, 1, none⟩ = some (.int .i64 F.e) ∧ W.cell? ⟨w.heap.size, 2, none⟩ = some (.slice As F.st.length cs) ∧ W.cell? ⟨w.heap.size, 3, none⟩ = some (.slice Ap F.pts.length cp) := by
  refine ⟨?_, ?_, ?_, ?_⟩
  · rw [cell_of_row _ _ _ _ _ _ h.f]; rfl
  · rw [cell_of_row _ _ _ _ _ _ h.f]; rfl
  · rw [cell_of_row _ _ _ _ _ _ h.f]; rfl
  · rw [cell_of_row _ _ _ _ _ _ h.f]; rfl
theorem One.start (hF : FctAt w w.heap.size F As Ap) (hE : Env w) (hV : Evs w) :
    One w F As cs Ap cp (w.alloc (.cells #[.int .i64 F.v, .int .i64 F.e, .slice As F.st.length cs, .slice Ap F.pts.length cp] 42)) := by
  have gb : Below w.heap.size w (w.alloc (.cells #[.int .i64 F.v, .int .i64 F.e, .slice As F.st.length cs, .slice Ap F.pts.length cp] 42)) := (Below.refl _ w).alloc (Nat.le_refl _) _
  exact ⟨heap_alloc_new w _, hF.nxt gb, gb, hE.below gb, hV.below gb⟩
end
/-- What stands where no point is named. -/
def noise (z : Int) : Int := if z.tmod 5 - 1 < -1 then z.tmod 5 - 1 + 5 else z.tmod 5 - 1
theorem dedup_length : ∀ ys : List (Int × Int), (dedupP ys).length ≤ ys.length
  | [] => Nat.le_refl _
  | [a] => Nat.le_refl _
  | a :: b :: l => by
    have ih := dedup_length (b :: l)
    unfold dedupP
    split
    · simp only [List.length_cons] at ih ⊢; omega
    · simp only [List.length_cons] at ih ⊢; omega
theorem mixVal_take (ps : List (Int × Int)) (z : Int) (i k : Nat) (x : Int) (j : Nat) (hj : j < ps.length) : mixVal (ps.take (j + 1)) z i k x = if ps[j] = ((i : Int), (k : Int)) then x else mixVal (ps.take j) z i k x := by
  unfold mixVal
  rw [List.take_add_one, List.getElem?_eq_getElem hj, Option.toList_some]
  by_cases h : ps[j] = ((i : Int), (k : Int))
  · rw [if_pos h, if_pos (by simp [h])]
  · rw [if_neg h]
    have h' : ¬ ((i : Int), (k : Int)) = ps[j] := fun e => h e.symm
    by_cases hm : ((i : Int), (k : Int)) ∈ ps.take j
    · rw [if_pos hm, if_pos (List.mem_append.2 (Or.inl hm))]
    · rw [if_neg hm, if_neg (fun e => by
        rcases List.mem_append.1 e with e | e
        · exact hm e
        · exact h' (List.mem_singleton.1 e))]
theorem info47 : (Tryz.prog.info? 47).map (fun i => (i.zero, i.size, i.bytes)) = some (some (.slice none 0 0), 1, 24) := by kernel_rfl
theorem Gst.cell {b11 : Nat} {hd : List Value} {W0 : World} {ps : List (Int × Int)} {z : Int} {pts : List (List Int)} {i : Nat} {v : Value} {w : World} (h : Gst b11 hd W0 ps z pts i v w) : w.cell? ⟨b11, 3, none⟩ = some v := by
  rw [cell_of_row _ _ _ _ _ _ h.blk]
  have h0 := h.hdl
  obtain ⟨a, b, c, rfl⟩ : ∃ a b c, hd = [a, b, c] := by
    match hd, h0 with
    | [a, b, c], _ => exact ⟨a, b, c, rfl⟩
  rfl
theorem Gst.mid {b11 : Nat} {hd : List Value} {W0 : World} {ps : List (Int × Int)} {z : Int} {pts : List (List Int)} {i : Nat} {v : Value} {w w1 : World} (h : Gst b11 hd W0 ps z pts i v w) (hg : w.grownBy w1 v.ownBlock) : w1.cell? ⟨b11, 3, none⟩ = some v ∧ w1.frozen? ⟨b11, 3, none⟩ = false := by
  obtain ⟨vs, _, hv, _⟩ := h.own_lt
  have hno : some b11 ≠ v.ownBlock := by
    rcases hv.2 with ⟨e, _⟩ | ⟨g, cap, cur, e, hb, _⟩
    · rw [e]; simp [Value.ownBlock]
    · rw [e]
      intro e'
      simp [Value.ownBlock] at e'
      omega
  have hb := hg.block b11 (World.lt_of_blk h.blk) hno
  exact ⟨(World.cell?_of_block (a := ⟨b11, 3, none⟩) hb).trans h.cell, (World.frozen?_of_block (a := ⟨b11, 3, none⟩) hb).trans (frozen_of_row _ _ _ _ _ h.blk)⟩
set_option maxRecDepth 100000 in
set_option maxHeartbeats 8000000 in
theorem law7 (w : World) (s : ByteArray) (hs : s.size ≤ maxLen) (F : Fct) (As : Option Addr) (cs : Nat) (Ap : Option Addr) (cp : Nat) (z : Int) (hz : -128 ≤ z ∧ z ≤ 127) (hF : FctAt w w.heap.size F As Ap) (hE : Env w) (hV : Evs w) :
    Calls Tryz.prog 7 #[.string s, F.val As cs Ap cp, .int .i8 z] w fun e w' => e = .returned (.bool true) ∧ Below w.heap.size w w' := by
  unfold maxLen at hs
  obtain ⟨i3, hi3, hz30, hz31, hz32⟩ := info_parts info3
  obtain ⟨i47, hi47, hz470, hz471, hz472⟩ := info_parts info47
  have H0 := hide (One.start (cs := cs) (cp := cp) hF hE hV)
  clear hF hE hV
  simp only [Fct.val]
  by_cases h6 : s.size ≤ 600
  · have e6 : decide ((600 : Int) < (s.size : Int)) = false := by simp; omega
    cases hv : validF F with
    | false =>
      have Hv := hide hv
      clear hv
      go_enter Tryz.func7, Tryz.ntmps7
      go_wp2_with fail
      refine Calls.mono (sanity_any _ H0.out.env H0.out.evs) ?_
      rintro e w1 ⟨rfl, hb⟩
      have H1 := hide (H0.out.next hb)
      obtain ⟨f0, f1, f2, f3⟩ := H1.out.cells
      clear hb
      go_wp2_with fail
      refine Calls.mono (valid_any w1 F As cs Ap cp H1.out.fa) ?_
      rintro e w2 ⟨rfl, hb⟩
      rw [Hv.out]
      have H2 := hide (H1.out.next hb)
      clear f0 f1 f2 f3 hb
      go_wp2
      go_ret
      exact ⟨rfl, H2.out.bel⟩
    | true =>
      have Hv := hide hv
      obtain ⟨b1, b2, b3⟩ := valid_bnds hv
      have B3 := hide b3
      clear hv b3
      go_enter Tryz.func7, Tryz.ntmps7
      go_wp2_with fail
      refine Calls.mono (sanity_any _ H0.out.env H0.out.evs) ?_
      rintro e w1 ⟨rfl, hb⟩
      have H1 := hide (H0.out.next hb)
      obtain ⟨f0, f1, f2, f3⟩ := H1.out.cells
      clear hb
      go_wp2_with fail
      refine Calls.mono (valid_any w1 F As cs Ap cp H1.out.fa) ?_
      rintro e w2 ⟨rfl, hb⟩
      rw [Hv.out]
      have H2 := hide (H1.out.next hb)
      clear f0 f1 f2 f3 hb
      go_wp2_with fail
      obtain ⟨er, her⟩ : ∃ er, (parseR s).1 = er := ⟨_, rfl⟩
      obtain ⟨nds, hnds⟩ : ∃ nds, (parseR s).2 = nds := ⟨_, rfl⟩
      have Her := hide her
      have Hnds := hide hnds
      refine Calls.mono (parse_any w2 s H2.out.env (by omega)) ?_
      rintro e w5 ⟨hb, A, c, rfl, hN, _, _⟩
      rw [her, hnds]
      rw [hnds] at hN
      have H5 := hide (H2.out.next hb)
      have HN := hide hN
      clear hb hN her hnds
      by_cases h0 : er = 0
      · subst h0
        obtain ⟨t, ts, hp⟩ := parsed Her.out
        have hnl := hp.length
        rw [Hnds.out] at hnl
        have HPt := hide hp
        clear hp
        obtain ⟨Z, hZ⟩ : ∃ Z, Z = w5.alloc (.cells #[.slice A nds.length c] 25) := ⟨_, rfl⟩
        obtain ⟨fb, fk, fs⟩ := fresh_facts hZ
        have H6 := hide (H5.out.next fb)
        have N6 := hide (Nodes.more (Nodes.below HN.out fb (Nat.le_refl _)) fb.size)
        have K6 := hide fk
        have l1 := World.lt_of_blk H5.out.f
        have HZ := hide hZ
        have Fs := hide fs
        clear fb fk fs hZ
        go_wp2_with fail
        rw [← HZ.out]
        have hpl := ptsF_length nds
        refine Calls.mono (points_any Z A c nds N6.out (by omega) (comp_ok _ (by omega))) ?_
        rintro e w7 ⟨hb, Aq, cq, ys, rfl, hpm, hso, hpr⟩
        have H7 := hide (H6.out.next hb)
        have N7 := hide (Nodes.more (Nodes.below N6.out hb (Nat.le_refl _)) hb.size)
        have k7 := (hb.block _ (World.lt_of_blk K6.out)).trans K6.out
        have K7 := hide k7
        have Hpm := hide hpm
        have Hpr := hide hpr
        have hsz7 : w5.heap.size < w7.heap.size := World.lt_of_blk k7
        have hsz1 : w.heap.size < w5.heap.size := l1
        have hdl : (dedupP ys).length ≤ 400 := by
          have := dedup_length ys
          have := hpm.length_eq
          omega
        obtain ⟨f0, f1, f2, f3⟩ := H7.out.cells
        clear hb hpm hso hpr k7
        obtain ⟨ps, hps⟩ : ∃ ps, dedupP ys = ps := ⟨_, rfl⟩
        rw [hps] at Hpr hdl ⊢
        have Hps := hide hps
        clear hps
        go_wp2
        obtain ⟨Wg, hWg⟩ : ∃ Wg, Wg = w7.alloc (.cells #[.int .i64 F.v, .int .i64 F.e, .slice As F.st.length cs, .slice none 0 0] 42) := ⟨_, rfl⟩
        obtain ⟨gb, gk, gs⟩ := fresh_facts hWg
        have HG := hide (show Gst w7.heap.size [.int .i64 F.v, .int .i64 F.e, .slice As F.st.length cs] w7 ps (noise z) F.pts 0 (.slice none 0 0) Wg from
          ⟨rfl, gk, ⟨[], rfl, World.ownsRow_nil _ _ _ _, fun r u p hr => by omega⟩, gb⟩)
        rw [← hWg]
        clear hWg gb gk gs f0 f1 f2 f3
        go_loopw [12] (fun iv wr => ∃ (i : Nat) (v : Value), i ≤ F.pts.length ∧ iv = .int .i64 i ∧ Hid (Gst w7.heap.size [.int .i64 F.v, .int .i64 F.e, .slice As F.st.length cs] w7 ps (noise z) F.pts i v wr)) (fun iv _ => F.pts.length - (intOf iv).toNat)
        case atStart => exact ⟨0, _, Nat.zero_le _, rfl, HG⟩
        case round =>
          obtain ⟨i, v, hi, rfl, HGi⟩ := hrel
          have Hr := hide (H7.out.next HGi.out.bel)
          obtain ⟨f0, f1, f2, f3⟩ := Hr.out.cells
          by_cases hlt : i < F.pts.length
          · obtain ⟨b4, off, Ao, co, rfl, hb4, c4, hI⟩ := Hr.out.fa.pts.at_ hlt
            have hpl2 := B3.out F.pts[i] (List.getElem_mem hlt)
            obtain ⟨p, hp⟩ : ∃ p, F.pts[i] = p := ⟨_, rfl⟩
            rw [hp] at c4 hI hpl2
            have Hp := hide hp
            have HI := hide hI
            have C4 := hide c4
            have Hb4 := hide hb4
            have F3 := hide f3
            have hltI : (i : Int) < (F.pts.length : Int) := by omega
            clear hp hI f0 f1 f2 c4 hb4
            go_wp2
            clear f3
            obtain ⟨wo, rfl⟩ : ∃ wo : World, wo = wr := ⟨_, rfl⟩
            have Hlo := hide (World.lt_of_blk Hr.out.f)
            go_loopw [13, 14] (fun ev kv wr => ∃ (k : Nat), k ≤ p.length ∧ kv = .int .i64 k ∧ Hid (wr.ownsRow wo.heap.size 3 1 ev k (((mixRow ps (noise z) i p).take k).map fun x => .int .i64 x)) ∧ Hid (Below wo.heap.size wo wr)) (fun _ kv _ => p.length - (intOf kv).toNat)
            case atStart => exact ⟨0, Nat.zero_le _, rfl, World.ownsRow_nil _ _ _ _, Below.refl _ _⟩
            case round =>
              obtain ⟨k, hk, rfl, HO, HB⟩ := hrel
              have f3 := (HB.out.cell (p := ⟨w.heap.size, 3, none⟩) Hlo.out).trans F3.out
              have c4 := (HB.out.cell (p := ⟨b4, off + i, none⟩) Hb4.out).trans C4.out
              by_cases hlt2 : k < p.length
              · obtain ⟨b2, off2, rfl, hb2, c2⟩ := HI.out.at_ hlt2
                have c2' := (HB.out.cell (p := ⟨b2, off2 + k, none⟩) hb2).trans c2
                have hlt2I : (k : Int) < (p.length : Int) := by omega
                clear c2 hb2
                have ht0 : -5 < z.tmod 5 := by have := Int.lt_tmod_of_pos z (show (0:Int) < 5 by omega); omega
                have ht1 : z.tmod 5 < 5 := Int.tmod_lt_of_pos z (by omega)
                rcases Int.lt_or_le (z.tmod 5 - 1) (-1) with hneg | hneg
                · go_wp2
                  have hq : z.tmod 5 - 1 + 5 = noise z := by unfold noise; rw [if_pos hneg]
                  rw [hq]
                  clear hq ht0 ht1 hneg
                  go_loop [15, 16] (fun xv jv => ∃ j : Nat, j ≤ ps.length ∧ jv = .int .i64 j ∧ xv = .int .i64 (mixVal (ps.take j) (noise z) i k p[k])) (fun _ jv => ps.length - (intOf jv).toNat)
                  case atStart => exact ⟨0, Nat.zero_le _, rfl, by simp [mixVal]⟩
                  case round =>
                    obtain ⟨j, hj, rfl, rfl⟩ := hrel
                    by_cases hlt3 : j < ps.length
                    · obtain ⟨b6, off6, rfl, hb6, d, d'⟩ := Hpr.out.at_ hlt3
                      obtain ⟨y, hy⟩ : ∃ y, ps[j] = y := ⟨_, rfl⟩
                      have hst := mixVal_take ps (noise z) i k p[k] j hlt3
                      rw [hy] at d d' hst
                      have Hst := hide hst
                      have e1 := (HB.out.cell (p := ⟨b6, off6 + j * 2, none⟩) (Nat.lt_of_lt_of_le hb6 HGi.out.bel.size)).trans ((HGi.out.bel.cell (p := ⟨b6, off6 + j * 2, none⟩) hb6).trans d)
                      have e2 := (HB.out.cell (p := ⟨b6, off6 + j * 2 + 1, none⟩) (Nat.lt_of_lt_of_le hb6 HGi.out.bel.size)).trans ((HGi.out.bel.cell (p := ⟨b6, off6 + j * 2 + 1, none⟩) hb6).trans d')
                      have hlt3I : (j : Int) < (ps.length : Int) := by omega
                      have hgd := guard50
                      clear d d' hy hb6 hst
                      obtain ⟨y1, y2⟩ := y
                      by_cases hyi : y1 = (i : Int)
                      · by_cases hyk : y2 = (k : Int)
                        · subst hyi
                          subst hyk
                          go_wp2
                          go_round
                          case rel => exact ⟨j + 1, by omega, by go_num, by rw [Hst.out, if_pos rfl]⟩
                          case measure => simp [intOf]; omega
                        · have hne : (y2 == (k : Int)) = false := by simpa using hyk
                          have Hne := hide hyk
                          clear hyk
                          subst hyi
                          go_wp2
                          go_round
                          case rel => exact ⟨j + 1, by omega, by go_num, by rw [Hst.out, if_neg (fun h => Hne.out (by injection h))]⟩
                          case measure => simp [intOf]; omega
                      · have hne : (y1 == (i : Int)) = false := by simpa using hyi
                        have Hne := hide hyi
                        clear hyi
                        go_wp2
                        go_round
                        case rel => exact ⟨j + 1, by omega, by go_num, by rw [Hst.out, if_neg (fun h => Hne.out (by injection h))]⟩
                        case measure => simp [intOf]; omega
                    · obtain rfl : j = ps.length := by omega
                      rw [List.take_length]
                      obtain ⟨xm, hxm⟩ : ∃ xm, mixVal ps (noise z) i k p[k] = xm := ⟨_, rfl⟩
                      rw [hxm]
                      have Hxm := hide hxm
                      have hsz := HB.out.size
                      clear hxm c2' f3 c4
                      go_wp2_with (at_builtin; refine wpList_append_lies _ rfl (.tmp 86) (.tmp 88) 47 rfl wo.heap.size 3 i3 _ 1 8 Tryz.underlying47 hi3 hz30 hz31 hz32 rfl (by decide) _ k _ rfl (HO.out.alloc _) ⟨_, 0, none⟩ 1 1 [.int .i64 xm] rfl rfl (World.news_of_block (cs := #[.int .i64 xm]) (t := 3) (heap_alloc_new _ _)) (by intro u hu; simp at hu; subst hu; rfl) (by decide) (by unfold maxLen; omega) (by omega) (by simp; omega) _ rfl ?_; intro g1 cap1 W1 hown1 hgr1 _ _; have HX := hide hown1; have HGr := hide hgr1; clear hown1 hgr1)
                      go_roundw
                      case rel =>
                        refine ⟨k + 1, by omega, by go_num, ?_, ?_⟩
                        · rw [mixRow_take _ _ _ _ _ hlt2, List.map_append, Hxm.out]
                          exact HX.out
                        · exact (HB.out.alloc hsz _).grown HGr.out (by simp; omega) (fun j hj => (HO.out.lt j hj).1)
                      case measure => simp [intOf]; omega
                · go_wp2
                  have hq : z.tmod 5 - 1 = noise z := by unfold noise; rw [if_neg (by omega)]
                  rw [hq]
                  clear hq ht0 ht1 hneg
                  go_loop [15, 16] (fun xv jv => ∃ j : Nat, j ≤ ps.length ∧ jv = .int .i64 j ∧ xv = .int .i64 (mixVal (ps.take j) (noise z) i k p[k])) (fun _ jv => ps.length - (intOf jv).toNat)
                  case atStart => exact ⟨0, Nat.zero_le _, rfl, by simp [mixVal]⟩
                  case round =>
                    obtain ⟨j, hj, rfl, rfl⟩ := hrel
                    by_cases hlt3 : j < ps.length
                    · obtain ⟨b6, off6, rfl, hb6, d, d'⟩ := Hpr.out.at_ hlt3
                      obtain ⟨y, hy⟩ : ∃ y, ps[j] = y := ⟨_, rfl⟩
                      have hst := mixVal_take ps (noise z) i k p[k] j hlt3
                      rw [hy] at d d' hst
                      have Hst := hide hst
                      have e1 := (HB.out.cell (p := ⟨b6, off6 + j * 2, none⟩) (Nat.lt_of_lt_of_le hb6 HGi.out.bel.size)).trans ((HGi.out.bel.cell (p := ⟨b6, off6 + j * 2, none⟩) hb6).trans d)
                      have e2 := (HB.out.cell (p := ⟨b6, off6 + j * 2 + 1, none⟩) (Nat.lt_of_lt_of_le hb6 HGi.out.bel.size)).trans ((HGi.out.bel.cell (p := ⟨b6, off6 + j * 2 + 1, none⟩) hb6).trans d')
                      have hlt3I : (j : Int) < (ps.length : Int) := by omega
                      have hgd := guard50
                      clear d d' hy hb6 hst
                      obtain ⟨y1, y2⟩ := y
                      by_cases hyi : y1 = (i : Int)
                      · by_cases hyk : y2 = (k : Int)
                        · subst hyi
                          subst hyk
                          go_wp2
                          go_round
                          case rel => exact ⟨j + 1, by omega, by go_num, by rw [Hst.out, if_pos rfl]⟩
                          case measure => simp [intOf]; omega
                        · have hne : (y2 == (k : Int)) = false := by simpa using hyk
                          have Hne := hide hyk
                          clear hyk
                          subst hyi
                          go_wp2
                          go_round
                          case rel => exact ⟨j + 1, by omega, by go_num, by rw [Hst.out, if_neg (fun h => Hne.out (by injection h))]⟩
                          case measure => simp [intOf]; omega
                      · have hne : (y1 == (i : Int)) = false := by simpa using hyi
                        have Hne := hide hyi
                        clear hyi
                        go_wp2
                        go_round
                        case rel => exact ⟨j + 1, by omega, by go_num, by rw [Hst.out, if_neg (fun h => Hne.out (by injection h))]⟩
                        case measure => simp [intOf]; omega
                    · obtain rfl : j = ps.length := by omega
                      rw [List.take_length]
                      obtain ⟨xm, hxm⟩ : ∃ xm, mixVal ps (noise z) i k p[k] = xm := ⟨_, rfl⟩
                      rw [hxm]
                      have Hxm := hide hxm
                      have hsz := HB.out.size
                      clear hxm c2' f3 c4
                      go_wp2_with (at_builtin; refine wpList_append_lies _ rfl (.tmp 86) (.tmp 88) 47 rfl wo.heap.size 3 i3 _ 1 8 Tryz.underlying47 hi3 hz30 hz31 hz32 rfl (by decide) _ k _ rfl (HO.out.alloc _) ⟨_, 0, none⟩ 1 1 [.int .i64 xm] rfl rfl (World.news_of_block (cs := #[.int .i64 xm]) (t := 3) (heap_alloc_new _ _)) (by intro u hu; simp at hu; subst hu; rfl) (by decide) (by unfold maxLen; omega) (by omega) (by simp; omega) _ rfl ?_; intro g1 cap1 W1 hown1 hgr1 _ _; have HX := hide hown1; have HGr := hide hgr1; clear hown1 hgr1)
                      go_roundw
                      case rel =>
                        refine ⟨k + 1, by omega, by go_num, ?_, ?_⟩
                        · rw [mixRow_take _ _ _ _ _ hlt2, List.map_append, Hxm.out]
                          exact HX.out
                        · exact (HB.out.alloc hsz _).grown HGr.out (by simp; omega) (fun j hj => (HO.out.lt j hj).1)
                      case measure => simp [intOf]; omega
              · obtain rfl : k = p.length := by omega
                obtain ⟨vs, hvs, hvo, hvb⟩ := HGi.out.own_lt
                have hsz := HB.out.size
                have hvo2 := own_below hvo HB.out
                have hgb := HGi.out.below HB.out
                have hO2 := HO.out
                rw [List.take_of_length_le (by rw [mixRow_length]; exact Nat.le_refl _)] at hO2
                have hr0 := RowIs.of_own hO2 (mixRow_length _ _ _ _)
                have c11 := hgb.cell
                have hpi : F.pts[i]? = some p := by rw [List.getElem?_eq_getElem hlt, Hp.out]
                have Hvo := hide hvo2
                have Hgb := hide hgb
                have Hr0 := hide hr0
                have Hpi := hide hpi
                obtain ⟨Ae, ce, hue, _⟩ := hr0.ints
                obtain ⟨ne, hne⟩ : ∃ ne, (mixRow ps (noise z) i p).length = ne := ⟨_, rfl⟩
                rw [hne] at hue
                subst hue
                have hv1 : ∀ u ∈ [Value.slice Ae ne ce], u.oneCell' = true := by intro u hu; simp at hu; subst hu; rfl
                clear hvo hvo2 hgb hO2 hr0 hpi hne
                go_wp2_with (at_builtin; refine wpList_append_lies _ rfl (.tmp 91) (.tmp 93) 40 rfl (w7.heap.size + 1) 47 i47 _ 1 24 Tryz.underlying40 hi47 hz470 hz471 hz472 rfl (by decide) _ i _ rfl (Hvo.out.alloc _) ⟨_, 0, none⟩ 1 1 [Value.slice Ae ne ce] rfl rfl (World.news_of_block (cs := #[Value.slice Ae ne ce]) (t := 47) (heap_alloc_new _ _)) hv1 (by decide) (by unfold maxLen; omega) (by omega) (by simp; omega) _ rfl ?_; intro g1 cap1 W1 hown1 hgr1 _ _; have HX := hide hown1; have HGr := hide hgr1; obtain ⟨cm, fm⟩ := (Hgb.out.below ((Below.refl _ _).alloc (Nat.le_refl _) _)).mid hgr1; clear hown1 hgr1)
                go_roundw
                case rel => exact ⟨i + 1, _, by omega, by go_num, Hgb.out.push Hpi.out Hr0.out hvs Hvo.out ((Below.refl _ _).alloc (Nat.le_refl _) _) HGr.out HX.out⟩
                case measure => simp [intOf]; omega
          · obtain rfl : i = F.pts.length := by omega
            obtain ⟨Aw, cw, hvw, hpw⟩ := HGi.out.pts
            have k8 := (HGi.out.bel.block _ hsz7).trans K7.out
            have kg : wr.heap[w7.heap.size]? = some (.cells #[.int .i64 F.v, .int .i64 F.e, .slice As F.st.length cs, v] 42 (0, 0)) := HGi.out.blk
            have Nr := Nodes.more (Nodes.below (Nodes.below N7.out HGi.out.bel (Nat.le_refl _)) (Below.refl _ _) (Nat.le_refl _)) HGi.out.bel.size
            have hfg : FctAt wr wr.heap.size (mixF ps (noise z) F) As Aw := ⟨Hr.out.fa.st, hpw⟩
            have hval : evalF (mixF ps (noise z) F) nds = evalF F nds := by
              rw [← Hnds.out, HPt.out.eval, HPt.out.eval, ← Hps.out]
              exact (mix_parsed HPt.out (by rw [Hnds.out]; exact Hpm.out) (noise z) F).symm
            have hev := fun W (F : Fct) As cs Ap cp (hN : Nodes W W.heap.size A nds) hst hF hV => eval_any W A c nds hN (fun i nd hi => HPt.out.ndok i nd (by rw [Hnds.out]; exact hi)) (by omega) F As cs Ap cp hst hF hV
            have Hev := hide hev
            have Hval := hide hval
            have HNr := hide Nr
            have Hfg := hide hfg
            have K8 := hide k8
            have Kg := hide kg
            have Hvw := hide hvw
            have HDr := hide (Below.refl wr.heap.size wr).drew
            clear hpw k8 kg Nr hfg hval hev f0 f1 f2 hvw
            go_wp2
            clear f3
            refine wp_region_held (S := fun W' => W'.heap[w5.heap.size]? = some (.cells #[.slice A nds.length c] 25 (0, 0)) ∧ W'.heap[w.heap.size]? = some (.cells #[.int .i64 F.v, .int .i64 F.e, .slice As F.st.length cs, .slice Ap F.pts.length cp] 42 (0, 0)) ∧ W'.heap[w7.heap.size]? = some (.cells #[.int .i64 F.v, .int .i64 F.e, .slice As F.st.length cs, v] 42 (0, 0))) (by kernel_rfl) ?_
            change wpAnyH _ _ _ _ _ _ _ _ (World.drew _)
            have HS := hide (show wr.drew.heap[w5.heap.size]? = some (.cells #[.slice A nds.length c] 25 (0, 0)) ∧ wr.drew.heap[w.heap.size]? = some (.cells #[.int .i64 F.v, .int .i64 F.e, .slice As F.st.length cs, .slice Ap F.pts.length cp] 42 (0, 0)) ∧ wr.drew.heap[w7.heap.size]? = some (.cells #[.int .i64 F.v, .int .i64 F.e, .slice As F.st.length cs, v] 42 (0, 0)) from ⟨K8.out, Hr.out.f, Kg.out⟩)
            refine takeHG (i := 0) (d := 96) (v := .bool true) rfl rfl (by kernel_rfl) (by kernel_rfl) (by kernel_rfl) (fun _ _ _ h => h) (by rfl) HS.out ?_ ?_
            · intro W' _; go_simp
            try simp only [Act.put, List.setIfInBounds_toArray, List.set_cons_zero, List.set_cons_succ]
            refine takeHG (i := 1) (d := 97) (v := .bool true) rfl rfl (by kernel_rfl) (by kernel_rfl) (by kernel_rfl) (fun _ _ _ h => h) (by rfl) HS.out ?_ ?_
            · intro W' _; go_simp
            try simp only [Act.put, List.setIfInBounds_toArray, List.set_cons_zero, List.set_cons_succ]
            refine takeHG (i := 2) (d := 98) (v := .agg #[.slice A nds.length c]) rfl rfl (by kernel_rfl) (by kernel_rfl) (by kernel_rfl) (fun _ _ _ h => h) (by rfl) HS.out ?_ ?_
            · intro W' hS; exact y_load1 25 (.tmp 8) rfl w5.heap.size rfl 25 _ (0, 0) _ hS.1 Tryz.underlying25 rfl (by kernel_rfl)
            try simp only [Act.put, List.setIfInBounds_toArray, List.set_cons_zero, List.set_cons_succ]
            refine takeHG (i := 3) (d := 99) (v := .agg #[.int .i64 F.v, .int .i64 F.e, .slice As F.st.length cs, .slice Ap F.pts.length cp]) rfl rfl (by kernel_rfl) (by kernel_rfl) (by kernel_rfl) (fun _ _ _ h => h) (by rfl) HS.out ?_ ?_
            · intro W' hS; exact y_load1 42 (.tmp 4) rfl w.heap.size rfl 42 _ (0, 0) _ hS.2.1 Tryz.underlying42 rfl (by kernel_rfl)
            try simp only [Act.put, List.setIfInBounds_toArray, List.set_cons_zero, List.set_cons_succ]
            refine takeHG (i := 5) (d := 101) (v := .agg #[.slice A nds.length c]) rfl rfl (by kernel_rfl) (by kernel_rfl) (by kernel_rfl) (fun _ _ _ h => h) (by rfl) HS.out ?_ ?_
            · intro W' hS; exact y_load1 25 (.tmp 8) rfl w5.heap.size rfl 25 _ (0, 0) _ hS.1 Tryz.underlying25 rfl (by kernel_rfl)
            try simp only [Act.put, List.setIfInBounds_toArray, List.set_cons_zero, List.set_cons_succ]
            refine takeHG (i := 6) (d := 102) (v := .agg #[.int .i64 F.v, .int .i64 F.e, .slice As F.st.length cs, v]) rfl rfl (by kernel_rfl) (by kernel_rfl) (by kernel_rfl) (fun _ _ _ h => h) (by rfl) HS.out ?_ ?_
            · intro W' hS; exact y_load1 42 (.tmp 11) rfl w7.heap.size rfl 42 _ (0, 0) _ hS.2.2 Tryz.underlying42 rfl (by kernel_rfl)
            try simp only [Act.put, List.setIfInBounds_toArray, List.set_cons_zero, List.set_cons_succ]
            refine wpAnyH_ready (rs := [4]) (by kernel_rfl) (by simp) ?_
            refine AllReadyH.cons rfl (fun K hK => ?_) AllReadyH.nil
            go_simp
            refine Calls.mono (Hev.out _ F As cs Ap cp (HNr.out.below HDr.out (Nat.le_refl _)) (by omega) (Hr.out.next HDr.out).fa (Hr.out.next HDr.out).evs) ?_
            rintro e wA ⟨rfl, hbA⟩
            have hA := HDr.out.trans hbA
            have HRA := hide (Hr.out.next hA)
            have hlw : w5.heap.size < wr.heap.size := World.lt_of_blk K8.out
            have hlg : w7.heap.size < wr.heap.size := World.lt_of_blk Kg.out
            have hSA := And.intro ((hA.block _ hlw).trans K8.out) (And.intro HRA.out.f ((hA.block _ hlg).trans Kg.out))
            have HA := hide hA
            clear hbA hA
            refine hK.out _ _ hSA (fun hSA' => ?_)
            have HSA := hide hSA'
            clear hSA hSA' hK K
            try simp only [Act.put, List.setIfInBounds_toArray, List.set_cons_zero, List.set_cons_succ]
            refine wpAnyH_ready (rs := [7]) (by kernel_rfl) (by simp) ?_
            refine AllReadyH.cons rfl (fun K hK => ?_) AllReadyH.nil
            have hvv := Hvw.out
            subst hvv
            go_simp
            refine Calls.mono (Hev.out _ (mixF ps (noise z) F) As cs Aw cw (Nodes.more (HNr.out.below HA.out (Nat.le_refl _)) HA.out.size) (by show F.st.length ≤ 1000000; omega) (Hfg.out.nxt HA.out) HRA.out.evs) ?_
            rintro e wB ⟨rfl, hbB⟩
            rw [Hval.out]
            generalize evalF F nds = r
            have hB := HA.out.trans (hbB.mono HA.out.size)
            have hSB := And.intro ((hB.block _ hlw).trans K8.out) (And.intro ((hB.block _ (World.lt_of_blk Hr.out.f)).trans Hr.out.f) ((hB.block _ hlg).trans Kg.out))
            have HBe := hide (Hr.out.next hB)
            clear hbB hB
            refine hK.out _ _ hSB (fun hSB' => ?_)
            have HSB := hide hSB'
            clear hSB hSB' hK K
            try simp only [Act.put, List.setIfInBounds_toArray, List.set_cons_zero, List.set_cons_succ]
            refine takeHG (i := 8) (d := 104) (v := .bool true) rfl rfl (by kernel_rfl) (by kernel_rfl) (by kernel_rfl) (fun _ _ _ h => h) (by rfl) HSB.out ?_ ?_
            · intro W' _; go_simp
            try simp only [Act.put, List.setIfInBounds_toArray, List.set_cons_zero, List.set_cons_succ]
            refine takeHG (i := 9) (d := 105) (v := .bool true) rfl rfl (by kernel_rfl) (by kernel_rfl) (by kernel_rfl) (fun _ _ _ h => h) (by rfl) HSB.out ?_ ?_
            · intro W' _; go_simp
            try simp only [Act.put, List.setIfInBounds_toArray, List.set_cons_zero, List.set_cons_succ]
            refine takeHG (i := 10) (d := 6) (v := .bool true) rfl rfl (by kernel_rfl) (by kernel_rfl) (by kernel_rfl) (fun _ _ _ h => h) (by rfl) HSB.out ?_ ?_
            · intro W' _; go_simp
            try simp only [Act.put, List.setIfInBounds_toArray, List.set_cons_zero, List.set_cons_succ]
            refine wpAnyH_done (by kernel_rfl) ?_ _
            go_wp2
            refine bodyPost_ret (v := .bool true) (by simp [results, Tryz.results7, go_sem]) rfl ?_
            exact ⟨rfl, HBe.out.bel⟩
      · have e9 : (er != 0) = true := by simpa using h0
        clear h0
        go_wp2
        go_ret
        exact ⟨rfl, H5.out.bel.alloc H5.out.bel.size _⟩
  · have e6 : decide ((600 : Int) < (s.size : Int)) = true := by simp; omega
    go_enter Tryz.func7, Tryz.ntmps7
    go_wp2_with fail
    refine Calls.mono (sanity_any _ H0.out.env H0.out.evs) ?_
    rintro e w1 ⟨rfl, hb⟩
    have H1 := hide (H0.out.next hb)
    obtain ⟨f0, f1, f2, f3⟩ := H1.out.cells
    clear hb
    go_wp2
    go_ret
    exact ⟨rfl, H1.out.bel⟩
end Go.Proofs.YtbojlnbdkaanmaaGreatDoor
