/-
  PolicyIsMonotone: its walk: it answers true, and nothing that stood is touched.
-/
import Derived.Test.YtbojlnbdkaanmaaGreatDoorSanB
import Derived.Test.YtbojlnbdkaanmaaGreatDoorRfn
import Derived.Test.YtbojlnbdkaanmaaGreatDoorPolT
import Derived.Outline
namespace Go.Proofs.YtbojlnbdkaanmaaGreatDoor
open Go.RowKit

/-- Two copies of facts in the blocks of a call, and the world behind them. -/
structure Two (w : World) (F G : Fct) (As Bs : Option Addr) (cs ds : Nat) (Ap Bp : Option Addr) (cp dp : Nat) (W : World) : Prop where
  f : W.heap[w.heap.size]? = some (.cells #[.int .i64 F.v, .int .i64 F.e, .slice As F.st.length cs, .slice Ap F.pts.length cp] 42 (0, 0))
  g : W.heap[w.heap.size + 1]? = some (.cells #[.int .i64 G.v, .int .i64 G.e, .slice Bs G.st.length ds, .slice Bp G.pts.length dp] 42 (0, 0))
  fa : FctAt W W.heap.size F As Ap
  ga : FctAt W W.heap.size G Bs Bp
  bel : Below w.heap.size w W
  env : Env W
  evs : Evs W
section
variable {w : World} {F G : Fct} {As Bs : Option Addr} {cs ds : Nat} {Ap Bp : Option Addr} {cp dp : Nat} {W W' : World}
theorem FctAt.next {F : Fct} {As Ap : Option Addr} (h : FctAt W W.heap.size F As Ap) (hb : Below W.heap.size W W') : FctAt W' W'.heap.size F As Ap :=
  ⟨(h.st.below hb (Nat.le_refl _)).more hb.size, h.pts.below2 hb⟩
theorem Two.next (h : Two w F G As Bs cs ds Ap Bp cp dp W) (hb : Below W.heap.size W W') : Two w F G As Bs cs ds Ap Bp cp dp W' :=
  ⟨(hb.block _ (World.lt_of_blk h.f)).trans h.f, (hb.block _ (World.lt_of_blk h.g)).trans h.g, h.fa.next hb, h.ga.next hb, h.bel.trans (hb.mono h.bel.size), h.env.below hb, h.evs.below hb⟩
theorem Two.cells (h : Two w F G As Bs cs ds Ap Bp cp dp W) :
    (W.cell? ⟨w.heap.size, 0, none⟩ = some (.int .i64 F.v) ∧ W.cell? ⟨w.heap.size, 1, none⟩ = some (.int .i64 F.e) ∧ W.cell? ⟨w.heap.size, 2, none⟩ = some (.slice As F.st.length cs) ∧ W.cell? ⟨w.heap.size, 3, none⟩ = some (.slice Ap F.pts.length cp)) ∧
    (W.cell? ⟨w.heap.size + 1, 0, none⟩ = some (.int .i64 G.v) ∧ W.cell? ⟨w.heap.size + 1, 1, none⟩ = some (.int .i64 G.e) ∧ W.cell? ⟨w.heap.size + 1, 2, none⟩ = some (.slice Bs G.st.length ds) ∧ W.cell? ⟨w.heap.size + 1, 3, none⟩ = some (.slice Bp G.pts.length dp)) := by
  refine ⟨⟨?_, ?_, ?_, ?_⟩, ⟨?_, ?_, ?_, ?_⟩⟩
  · rw [cell_of_row _ _ _ _ _ _ h.f]; rfl
  · rw [cell_of_row _ _ _ _ _ _ h.f]; rfl
  · rw [cell_of_row _ _ _ _ _ _ h.f]; rfl
  · rw [cell_of_row _ _ _ _ _ _ h.f]; rfl
  · rw [cell_of_row _ _ _ _ _ _ h.g]; rfl
  · rw [cell_of_row _ _ _ _ _ _ h.g]; rfl
  · rw [cell_of_row _ _ _ _ _ _ h.g]; rfl
  · rw [cell_of_row _ _ _ _ _ _ h.g]; rfl
theorem Two.start (hF : FctAt w w.heap.size F As Ap) (hG : FctAt w w.heap.size G Bs Bp) (hE : Env w) (hV : Evs w) :
    Two w F G As Bs cs ds Ap Bp cp dp ((w.alloc (.cells #[.int .i64 F.v, .int .i64 F.e, .slice As F.st.length cs, .slice Ap F.pts.length cp] 42)).alloc (.cells #[.int .i64 G.v, .int .i64 G.e, .slice Bs G.st.length ds, .slice Bp G.pts.length dp] 42)) := by
  obtain ⟨g1, g2, gb⟩ := two_new (W := w) (X := .cells #[.int .i64 F.v, .int .i64 F.e, .slice As F.st.length cs, .slice Ap F.pts.length cp] 42) (Y := .cells #[.int .i64 G.v, .int .i64 G.e, .slice Bs G.st.length ds, .slice Bp G.pts.length dp] 42) rfl
  exact ⟨g1, g2, hF.next gb, hG.next gb, gb, hE.below gb, hV.below gb⟩
end
theorem valid_bounds {F : Fct} (h : validF F = true) : F.st.length ≤ 10 ∧ F.pts.length ≤ 10 ∧ ∀ p ∈ F.pts, p.length ≤ 20 := by
  unfold validF at h
  simp only [Bool.and_eq_true, decide_eq_true_eq, List.all_eq_true] at h
  refine ⟨h.1, h.2.1, fun p hp => ?_⟩
  have := h.2.2 p hp
  unfold rowOk at this
  simp only [Bool.and_eq_true, decide_eq_true_eq] at this
  exact this.1
/-- All outcomes of a row are known. -/
def rowK (p : List Int) : Bool := p.all fun x => x != -1
def knownF (F : Fct) : Bool := F.pts.all rowK
theorem known_of {F : Fct} (h : knownF F = true) : Known F := by
  intro i p k x hp hx
  unfold knownF at h
  rw [List.all_eq_true] at h
  have h1 := h p (List.mem_of_getElem? hp)
  unfold rowK at h1
  rw [List.all_eq_true] at h1
  have := h1 x (List.mem_of_getElem? hx)
  simpa using this
theorem all_take_step {α : Type} (p : α → Bool) (l : List α) (k : Nat) (hk : k < l.length) : (l.take (k + 1)).all p = ((l.take k).all p && p l[k]) := by
  rw [List.take_add_one, List.getElem?_eq_getElem hk, Option.toList_some, List.all_append]
  simp

set_option maxRecDepth 100000 in
set_option maxHeartbeats 8000000 in
theorem law6 (w : World) (s : ByteArray) (hs : s.size ≤ maxLen) (F G : Fct) (As Bs : Option Addr) (cs ds : Nat) (Ap Bp : Option Addr) (cp dp : Nat) (hF : FctAt w w.heap.size F As Ap) (hG : FctAt w w.heap.size G Bs Bp) (hE : Env w) (hV : Evs w) :
    Calls Tryz.prog 6 #[.string s, F.val As cs Ap cp, G.val Bs ds Bp dp] w fun e w' => e = .returned (.bool true) ∧ Below w.heap.size w w' := by
  unfold maxLen at hs
  have H0 := hide (Two.start (cs := cs) (ds := ds) (cp := cp) (dp := dp) hF hG hE hV)
  clear hF hG hE hV
  simp only [Fct.val]
  by_cases h6 : s.size ≤ 600
  · have e6 : decide ((600 : Int) < (s.size : Int)) = false := by simp; omega
    cases hv : validF F with
    | false =>
      have Hv := hide hv
      clear hv
      go_enter Tryz.func6, Tryz.ntmps6
      go_wp2_with fail
      refine Calls.mono (sanity_any _ H0.out.env H0.out.evs) ?_
      rintro e w1 ⟨rfl, hb⟩
      have H1 := hide (H0.out.next hb)
      obtain ⟨⟨f0, f1, f2, f3⟩, ⟨g0, g1, g2, g3⟩⟩ := H1.out.cells
      clear hb
      go_wp2_with fail
      refine Calls.mono (valid_any w1 F As cs Ap cp H1.out.fa) ?_
      rintro e w2 ⟨rfl, hb⟩
      rw [Hv.out]
      have H2 := hide (H1.out.next hb)
      clear f0 f1 f2 f3 g0 g1 g2 g3 hb
      go_wp2
      go_ret
      exact ⟨rfl, H2.out.bel⟩
    | true =>
      cases hg : validF G with
      | false =>
        have Hv := hide hv
        have Hg := hide hg
        clear hv hg
        go_enter Tryz.func6, Tryz.ntmps6
        go_wp2_with fail
        refine Calls.mono (sanity_any _ H0.out.env H0.out.evs) ?_
        rintro e w1 ⟨rfl, hb⟩
        have H1 := hide (H0.out.next hb)
        obtain ⟨⟨f0, f1, f2, f3⟩, ⟨g0, g1, g2, g3⟩⟩ := H1.out.cells
        clear hb
        go_wp2_with fail
        refine Calls.mono (valid_any w1 F As cs Ap cp H1.out.fa) ?_
        rintro e w2 ⟨rfl, hb⟩
        rw [Hv.out]
        have H2 := hide (H1.out.next hb)
        clear f0 f1 f2 f3 g0 g1 g2 g3 hb
        obtain ⟨⟨f0, f1, f2, f3⟩, ⟨g0, g1, g2, g3⟩⟩ := H2.out.cells
        go_wp2_with fail
        refine Calls.mono (valid_any w2 G Bs ds Bp dp H2.out.ga) ?_
        rintro e w3 ⟨rfl, hb⟩
        rw [Hg.out]
        have H3 := hide (H2.out.next hb)
        clear f0 f1 f2 f3 g0 g1 g2 g3 hb
        go_wp2
        go_ret
        exact ⟨rfl, H3.out.bel⟩
      | true =>
        have Hv := hide hv
        have Hg := hide hg
        obtain ⟨b1, b2, b3⟩ := valid_bounds hv
        obtain ⟨d1, _, _⟩ := valid_bounds hg
        have B3 := hide b3
        clear hv hg b3
        go_enter Tryz.func6, Tryz.ntmps6
        go_wp2_with fail
        refine Calls.mono (sanity_any _ H0.out.env H0.out.evs) ?_
        rintro e w1 ⟨rfl, hb⟩
        have H1 := hide (H0.out.next hb)
        obtain ⟨⟨f0, f1, f2, f3⟩, ⟨g0, g1, g2, g3⟩⟩ := H1.out.cells
        clear hb
        go_wp2_with fail
        refine Calls.mono (valid_any w1 F As cs Ap cp H1.out.fa) ?_
        rintro e w2 ⟨rfl, hb⟩
        rw [Hv.out]
        have H2 := hide (H1.out.next hb)
        clear f0 f1 f2 f3 g0 g1 g2 g3 hb
        obtain ⟨⟨f0, f1, f2, f3⟩, ⟨g0, g1, g2, g3⟩⟩ := H2.out.cells
        go_wp2_with fail
        refine Calls.mono (valid_any w2 G Bs ds Bp dp H2.out.ga) ?_
        rintro e w3 ⟨rfl, hb⟩
        rw [Hg.out]
        have H3 := hide (H2.out.next hb)
        clear f0 f1 f2 f3 g0 g1 g2 g3 hb
        obtain ⟨⟨f0, f1, f2, f3⟩, ⟨g0, g1, g2, g3⟩⟩ := H3.out.cells
        go_wp2_with fail
        refine Calls.mono (refines_any w3 F G As Bs cs ds Ap Bp cp dp H3.out.fa H3.out.ga (by omega) (by omega) (fun p hp => by have := B3.out p hp; omega)) ?_
        rintro e w4 ⟨r, rfl, hr, hb⟩
        have H4 := hide (H3.out.next hb)
        clear f0 f1 f2 f3 g0 g1 g2 g3 hb
        obtain ⟨⟨f0, f1, f2, f3⟩, ⟨g0, g1, g2, g3⟩⟩ := H4.out.cells
        cases r with
        | false =>
          clear hr
          go_wp2
          go_ret
          exact ⟨rfl, H4.out.bel⟩
        | true =>
          have HR := hide (hr rfl)
          clear hr
          go_wp2_with fail
          obtain ⟨er, her⟩ : ∃ er, (parseR s).1 = er := ⟨_, rfl⟩
          obtain ⟨nds, hnds⟩ : ∃ nds, (parseR s).2 = nds := ⟨_, rfl⟩
          have Her := hide her
          have Hnds := hide hnds
          refine Calls.mono (parse_any w4 s H4.out.env (by omega)) ?_
          rintro e w5 ⟨hb, A, c, rfl, hN, _, _⟩
          rw [her, hnds]
          rw [hnds] at hN
          have H5 := hide (H4.out.next hb)
          have HN := hide hN
          clear f0 f1 f2 f3 g0 g1 g2 g3 hb hN her hnds
          by_cases h0 : er = 0
          · subst h0
            obtain ⟨t, ts, hp⟩ := parsed Her.out
            have hnl := hp.length
            rw [Hnds.out] at hnl
            have HPt := hide hp
            clear hp
            obtain ⟨Z, hZ⟩ : ∃ Z, Z = w5.alloc (.cells #[.slice A nds.length c] 25) := ⟨_, rfl⟩
            obtain ⟨fb, fk, fs⟩ := fresh_facts hZ
            have H6 := hide (H5.out.next fb)
            have N6 := hide (Nodes.more (Nodes.below HN.out fb (Nat.le_refl _)) fb.size)
            have K6 := hide fk
            obtain ⟨⟨f0, f1, f2, f3⟩, ⟨g0, g1, g2, g3⟩⟩ := H5.out.cells
            have l1 := World.lt_of_blk H5.out.f
            have l2 := World.lt_of_blk H5.out.g
            have HZ := hide hZ
            clear fb fk fs hZ
            go_wp2_with fail
            rw [← HZ.out]
            have hev := fun W (F : Fct) As cs Ap cp (hN : Nodes W W.heap.size A nds) hst hF hV => eval_any W A c nds hN (fun i nd hi => HPt.out.ndok i nd (by rw [Hnds.out]; exact hi)) (by omega) F As cs Ap cp hst hF hV
            have hval : ∀ F : Fct, evalF F nds = evalT F t := fun F => by rw [← Hnds.out]; exact HPt.out.eval F
            have Hev := hide hev
            have Hval := hide hval
            clear hev hval
            refine Calls.mono (Hev.out Z G Bs ds Bp dp N6.out (by omega) H6.out.ga H6.out.evs) ?_
            rintro e w7 ⟨rfl, hb⟩
            have H7 := hide (H6.out.next hb)
            have N7 := hide (Nodes.more (Nodes.below N6.out hb (Nat.le_refl _)) hb.size)
            have k7 := (hb.block _ (World.lt_of_blk K6.out)).trans K6.out
            have c7 : w7.cell? ⟨w5.heap.size, 0, none⟩ = some (.slice A nds.length c) := by rw [cell_of_row _ _ _ _ _ _ k7]; rfl
            clear f0 f1 f2 f3 g0 g1 g2 g3 hb l1 l2 k7
            obtain ⟨⟨f0, f1, f2, f3⟩, ⟨g0, g1, g2, g3⟩⟩ := H7.out.cells
            go_wp2_with fail
            refine Calls.mono (Hev.out w7 F As cs Ap cp N7.out (by omega) H7.out.fa H7.out.evs) ?_
            rintro e w8 ⟨rfl, hb⟩
            have H8 := hide (H7.out.next hb)
            clear f0 f1 f2 f3 g0 g1 g2 g3 hb c7
            rw [Hval.out, Hval.out]
            have hle := eval_le HR.out t HPt.out.ok
            have Hle := hide hle
            have Hkn := hide (fun h : Known F => eval_known h t HPt.out.ok)
            clear hle
            generalize evalT G t = a at Hle ⊢
            generalize evalT F t = b at Hle Hkn ⊢
            obtain ⟨⟨f0, f1, f2, f3⟩, _⟩ := H8.out.cells
            clear f0 f1 f2
            have HPp := hide H8.out.fa.pts
            go_wp2
            go_loop [12, 13, 14] (fun kn i _ => ∃ n : Nat, i = .int .i64 n ∧ n ≤ F.pts.length ∧ kn = .bool ((F.pts.take n).all rowK)) (fun _ i _ => F.pts.length - (intOf i).toNat)
            case atStart => exact ⟨0, rfl, Nat.zero_le _, rfl⟩
            case round =>
              obtain ⟨n, rfl, hn, rfl⟩ := hrel
              by_cases hlt : n < F.pts.length
              · obtain ⟨b4, off, Ao, co, rfl, hb, c4, hI⟩ := HPp.out.at_ hlt
                have hpl := B3.out F.pts[n] (List.getElem_mem hlt)
                obtain ⟨p, hp⟩ : ∃ p, F.pts[n] = p := ⟨_, rfl⟩
                rw [hp] at c4 hI hpl
                have Hp := hide hp
                have HI := hide hI
                have hltI : (n : Int) < (F.pts.length : Int) := by omega
                clear hp hI
                have hst := all_take_step rowK F.pts n hlt
                rw [Hp.out] at hst
                have Hst := hide hst
                clear hst
                generalize (F.pts.take n).all rowK = k0 at Hst ⊢
                go_wp2
                go_loop [12, 14] (fun kn i => ∃ k : Nat, i = .int .i64 k ∧ k ≤ p.length ∧ kn = .bool (k0 && (p.take k).all fun x => x != -1)) (fun _ i => p.length - (intOf i).toNat)
                case atStart => exact ⟨0, rfl, Nat.zero_le _, by simp⟩
                case round =>
                  obtain ⟨k, rfl, hk, rfl⟩ := hrel
                  by_cases hlt2 : k < p.length
                  · obtain ⟨b2, off2, rfl, hb2, c2⟩ := HI.out.at_ hlt2
                    have hs2 := all_take_step (fun x : Int => x != -1) p k hlt2
                    obtain ⟨x, hx⟩ : ∃ x, p[k] = x := ⟨_, rfl⟩
                    rw [hx] at c2 hs2
                    have Hs2 := hide hs2
                    have hlt2I : (k : Int) < (p.length : Int) := by omega
                    clear hx hs2
                    cases hq : (k0 && (p.take k).all fun x => x != -1) with
                    | false =>
                      have HQ := hide hq
                      clear hq
                      go_wp2
                      go_round
                      case rel => exact ⟨k + 1, by go_num, by omega, by rw [Hs2.out, ← Bool.and_assoc, HQ.out]; rfl⟩
                      case measure => simp [intOf]; omega
                    | true =>
                      have HQ := hide hq
                      clear hq
                      go_wp2
                      go_round
                      case rel => exact ⟨k + 1, by go_num, by omega, by rw [Hs2.out, ← Bool.and_assoc, HQ.out]; rfl⟩
                      case measure => simp [intOf]; omega
                  · obtain rfl : k = p.length := by omega
                    go_wp2
                    go_round
                    case rel => exact ⟨n + 1, by go_num, by omega, by rw [Hst.out, List.take_length]; rfl⟩
                    case measure => simp [intOf]; omega
              · obtain rfl : n = F.pts.length := by omega
                rw [List.take_length]
                cases hk : F.pts.all rowK with
                | false =>
                  rcases Hle.out with h | h
                  · have e1 : (a == -1) = true := by simpa using h
                    clear h hk
                    go_wp2
                    go_ret
                    exact ⟨rfl, H8.out.bel⟩
                  · by_cases h1 : a = -1
                    · have e1 : (a == -1) = true := by simpa using h1
                      clear h h1 hk
                      go_wp2
                      go_ret
                      exact ⟨rfl, H8.out.bel⟩
                    · have e1 : (a == -1) = false := by simpa using h1
                      have e2 : (a == b) = true := by simpa using h
                      clear h h1 hk
                      go_wp2
                      go_ret
                      exact ⟨rfl, H8.out.bel⟩
                | true =>
                  have hbit := Hkn.out (known_of hk)
                  have e1 : (a == -1) = true ∨ ((a == -1) = false ∧ (a == b) = true) := by
                    by_cases h1 : a = -1
                    · exact Or.inl (by simpa using h1)
                    · rcases Hle.out with h | h
                      · exact absurd h h1
                      · exact Or.inr ⟨by simpa using h1, by simpa using h⟩
                  have e3 : (b == 0) = true ∨ ((b == 0) = false ∧ (b == 1) = true) := by
                    rcases hbit with h | h
                    · exact Or.inl (by simpa using h)
                    · exact Or.inr ⟨by simp [h], by simpa using h⟩
                  clear hk hbit
                  rcases e1 with e1 | ⟨e1, e2⟩
                  · rcases e3 with e3 | ⟨e3, e4⟩
                    · go_wp2
                      go_ret
                      exact ⟨rfl, H8.out.bel⟩
                    · go_wp2
                      go_ret
                      exact ⟨rfl, H8.out.bel⟩
                  · rcases e3 with e3 | ⟨e3, e4⟩
                    · go_wp2
                      go_ret
                      exact ⟨rfl, H8.out.bel⟩
                    · go_wp2
                      go_ret
                      exact ⟨rfl, H8.out.bel⟩
          · have e9 : (er != 0) = true := by simpa using h0
            clear h0
            go_wp2
            go_ret
            exact ⟨rfl, H5.out.bel.alloc H5.out.bel.size _⟩
  · have e6 : decide ((600 : Int) < (s.size : Int)) = true := by simp; omega
    go_enter Tryz.func6, Tryz.ntmps6
    go_wp2_with fail
    refine Calls.mono (sanity_any _ H0.out.env H0.out.evs) ?_
    rintro e w1 ⟨rfl, hb⟩
    have H1 := hide (H0.out.next hb)
    obtain ⟨⟨f0, f1, f2, f3⟩, ⟨g0, g1, g2, g3⟩⟩ := H1.out.cells
    clear hb
    go_wp2
    go_ret
    exact ⟨rfl, H1.out.bel⟩
end Go.Proofs.YtbojlnbdkaanmaaGreatDoor
