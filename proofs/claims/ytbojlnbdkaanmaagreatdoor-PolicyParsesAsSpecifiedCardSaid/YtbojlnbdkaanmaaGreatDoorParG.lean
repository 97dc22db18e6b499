/-
  The program's parser of policies, part G: not, policy, by induction on the number of tokens.
-/
import Derived.Test.YtbojlnbdkaanmaaGreatDoorParF
set_option linter.unusedVariables false
set_option linter.unusedSimpArgs false
namespace Go.Proofs.YtbojlnbdkaanmaaGreatDoor
open Go.RowKit

/-- What not does, where fewer than n tokens are left. -/
def NotC (B pb n : Nat) : Prop :=
  ∀ w ts nds, ts.length < n → nds.length + ts.length ≤ 1000000 → PS B pb w ts nds → Calls Tryz.prog 73 #[.pointer (some ⟨pb, 0, none⟩)] w (PostP B pb w (notF n ts nds))

theorem PostP.fr {B pb : Nat} {w w0 w' : World} {r : PRes} {e : Ending} (h : PostP B pb w r e w') (h0 : Fr B w0 w) : PostP B pb w0 r e w' := by
  cases r with
  | none => exact ⟨h.1, h0.below.trans h.2⟩
  | some y => obtain ⟨a, ts, nds⟩ := y; exact ⟨h.1, h.2.1, h0.trans h.2.2⟩

set_option maxRecDepth 100000 in
set_option maxHeartbeats 1000000 in
theorem and_of (B pb b1 n : Nat) (hN : NotC B pb n) (w : World) (ts : List Tok) (nds : List Nd) (hn : ts.length < n) (hs : nds.length + ts.length ≤ 1000000) (hI : PS B pb w ts nds) (hcap : Cap b1 pb w) :
    Calls Tryz.prog 71 #[.pointer (some ⟨b1, 0, none⟩)] w (PostP B pb w (andF n ts nds)) := by
  have HC := hide (chain_not B pb n (notF n) (notF_len n) (notF_sum n) hN ⟨#[38, 38]⟩ [38, 38] (by simp) 9 n w ts nds hn (by omega) hs hI)
  have c0 := hcap.cell
  clear hN hI hcap
  go_enter Tryz.func71, Tryz.ntmps71
  go_wp2_with (go_at_call 72; (with_reducible refine Calls.mono HC.out ?_); rintro e w1 h; rcases PostP.elim h with ⟨hm1, rfl, hg1⟩ | ⟨a, r, nds1, hm1, rfl, hI1, hg1⟩ <;> (have H := hide h; clear h hm1 hg1))
  · exact ⟨rfl, H.out⟩
  · go_ret
    exact H.out

set_option maxRecDepth 100000 in
set_option maxHeartbeats 1000000 in
theorem pol_of (B pb n : Nat) (hN : NotC B pb n) (w : World) (ts : List Tok) (nds : List Nd) (hn : ts.length < n) (hs : nds.length + ts.length ≤ 1000000) (hI : PS B pb w ts nds) :
    Calls Tryz.prog 53 #[.pointer (some ⟨pb, 0, none⟩)] w (PostP B pb w (polF n ts nds)) := by
  have hB := hI.lt
  have hcap : Cap w.heap.size pb (w.alloc (.cells #[.pointer (some ⟨pb, 0, none⟩)] 92)) := heap_alloc_new w _
  have HC := hide (chain_and B pb w.heap.size n (andF n) (andF_len n) (andF_sum n) (and_of B pb w.heap.size n hN) ⟨#[124, 124]⟩ [124, 124] (by simp) 10 n (w.alloc (.cells #[.pointer (some ⟨pb, 0, none⟩)] 92)) ts nds hn (by omega) hs (hI.alloc _) hcap)
  have HF := hide ((Fr.refl B w).alloc (by omega) (.cells #[.pointer (some ⟨pb, 0, none⟩)] 92))
  clear hN hI hcap
  go_enter Tryz.func53, Tryz.ntmps53
  go_wp2_with (go_at_call 72; (with_reducible refine Calls.mono HC.out ?_); rintro e w1 h; rcases PostP.elim h with ⟨hm1, rfl, hg1⟩ | ⟨a, r, nds1, hm1, rfl, hI1, hg1⟩ <;> (have H := hide (PostP.fr h HF.out); clear h hm1 hg1))
  · exact ⟨rfl, H.out⟩
  · go_ret
    exact H.out

set_option maxRecDepth 100000 in
set_option maxHeartbeats 2000000 in
theorem not_step (B pb n : Nat) (hN : NotC B pb n) : NotC B pb (n + 1) := by
  intro w ts nds hn hs hI
  have hB := hI.lt
  have HN := hide (fun w ts nds h1 h2 h3 => (hN w ts nds h1 h2 h3).mono fun e w' h => PostP.elim h)
  have HP := hide (fun w ts nds h1 h2 h3 => (pol_of B pb n hN w ts nds h1 h2 h3).mono fun e w' h => PostP.elim h)
  have HI := hide hI
  clear hN hI
  go_enter Tryz.func73, Tryz.ntmps73
  go_wp2_with (first
    | (go_at_call 92; (with_reducible refine Calls.mono (accept_ps B pb _ ts nds 3 ⟨#[33]⟩ [33] (by simp) HI.out) ?_); rintro e w1 (⟨hm, rfl, hI1, hg⟩ | ⟨hm, rfl, hI1, hg⟩) <;> (have Hm1 := hide hm; have HG := hide hg; have HI1 := hide hI1; clear hm hg hI1) <;> try (obtain ⟨t, q, hts⟩ := isB_cons Hm1.out; subst hts))
    | (go_at_call 73; (with_reducible refine Calls.mono (HN.out _ _ nds (by simp at hn ⊢; omega) (by simp at hs ⊢; omega) HI1.out) ?_); rintro e w2 (⟨hm, rfl, hg⟩ | ⟨a, r, nds2, hm, rfl, hI2, hg⟩) <;> (have Hm2 := hide hm; have HG2 := hide hg; clear hm hg) <;> try (have HI2 := hide hI2; clear hI2; have hs2 : nds2.length ≤ 1000000 := by (have h1 := notF_sum n _ _ _ _ _ Hm2.out; simp at h1 hs; omega)))
    | (go_at_call 93; (with_reducible refine Calls.mono (add_op1 B pb _ _ _ _ _ HI2.out hs2) ?_); rintro e w4 ⟨rfl, hI4, hg4⟩; have HI4 := hide hI4; have HG4 := hide hg4; clear hI4 hg4)
    | (go_at_call 92; (with_reducible refine Calls.mono (accept_ps B pb _ ts nds 3 ⟨#[40]⟩ [40] (by simp) HI1.out) ?_); rintro e w3 (⟨hm, rfl, hI3, hg⟩ | ⟨hm, rfl, hI3, hg⟩) <;> (have Hm3 := hide hm; have HG3 := hide hg; have HI3 := hide hI3; clear hm hg hI3) <;> try (obtain ⟨t, q, hts⟩ := isB_cons Hm3.out; subst hts))
    | (go_at_call 53; (with_reducible refine Calls.mono (HP.out _ _ nds (by simp at hn ⊢; omega) (by simp at hs ⊢; omega) HI3.out) ?_); rintro e w2 (⟨hm, rfl, hg⟩ | ⟨a, r, nds2, hm, rfl, hI2, hg⟩) <;> (have Hm4 := hide hm; have HG4 := hide hg; clear hm hg) <;> try (have HI4 := hide hI2; clear hI2))
    | (go_at_call 94; (with_reducible refine Calls.mono (must_ps B pb _ _ _ 3 ⟨#[41]⟩ [41] (by simp) HI4.out) ?_); rintro e w5 (⟨hm, rfl, hg⟩ | ⟨t5, r5, hm, rfl, hI5, hg⟩) <;> (have Hm5 := hide hm; have HG5 := hide hg; clear hm hg) <;> try (have HI5 := hide hI5; clear hI5))
    | (go_at_call 95; (with_reducible refine Calls.mono (atom_ps B pb _ _ _ HI3.out) ?_); rintro e w5 (⟨hm, rfl, hg⟩ | ⟨x, r5, hm, rfl, hI5, hg⟩) <;> (have Hm6 := hide hm; have HG6 := hide hg; clear hm hg) <;> try (have HI6 := hide hI5; clear hI5))
    | (go_at_call 93; (with_reducible refine Calls.mono (add_atom B pb _ _ _ _ (atomF_of Hm6.out) HI6.out (by omega)) ?_); rintro e w7 ⟨rfl, hI7, hg7⟩; have HI7 := hide hI7; have HG7 := hide hg7; clear hI7 hg7))
  · have hr : notF (n + 1) ts nds = none := by simp [notF, Hm1.out, Hm3.out, Hm6.out]
    exact ⟨rfl, by rw [hr]; exact ⟨rfl, ((HG.out.trans HG3.out).trans HG6.out).below⟩⟩
  · have hr : notF (n + 1) ts nds = some ((nds.length : Int), r5, nds ++ [x]) := by simp [notF, Hm1.out, Hm3.out, Hm6.out]
    go_ret
    rw [hr]
    exact ⟨rfl, HI7.out, ((HG.out.trans HG3.out).trans HG6.out).trans HG7.out⟩
  · have Hm4' : chainF (chainF (notF n) [38, 38] 9 n) [124, 124] 10 n q nds = none := Hm4.out
    have hr : notF (n + 1) (t :: q) nds = none := by simp [notF, Hm1.out, Hm3.out, Hm4']
    exact ⟨rfl, by rw [hr]; exact ⟨rfl, ((HG.out.trans HG3.out).below.trans HG4.out)⟩⟩
  · have Hm4' : chainF (chainF (notF n) [38, 38] 9 n) [124, 124] 10 n q nds = some (a, r, nds2) := Hm4.out
    have hr : notF (n + 1) (t :: q) nds = none := by simp [notF, Hm1.out, Hm3.out, Hm4', Hm5.out]
    exact ⟨rfl, by rw [hr]; exact ⟨rfl, (((HG.out.trans HG3.out).trans HG4.out).trans HG5.out).below⟩⟩
  · have Hm4' : chainF (chainF (notF n) [38, 38] 9 n) [124, 124] 10 n q nds = some (a, r, nds2) := Hm4.out
    have hr : notF (n + 1) (t :: q) nds = some (a, r5, nds2) := by simp [notF, Hm1.out, Hm3.out, Hm4', Hm5.out]
    go_ret
    rw [hr]
    exact ⟨rfl, HI5.out, ((HG.out.trans HG3.out).trans HG4.out).trans HG5.out⟩
  · have Hm2' : notF n q nds = none := Hm2.out
    have hr : notF (n + 1) (t :: q) nds = none := by simp [notF, Hm1.out, Hm2']
    exact ⟨rfl, by rw [hr]; exact ⟨rfl, (HG.out.below.trans HG2.out)⟩⟩
  · have Hm2' : notF n q nds = some (a, r, nds2) := Hm2.out
    have hr : notF (n + 1) (t :: q) nds = some ((nds2.length : Int), r, nds2 ++ [mkO 8 [a]]) := by simp [notF, Hm1.out, Hm2']
    have hB2 := HI2.out.lt
    go_ret
    rw [hr]
    exact ⟨rfl, HI4.out, (HG.out.trans HG2.out).trans (((Fr.refl B _).alloc (by omega) _).trans HG4.out)⟩
theorem not_all (B pb : Nat) : ∀ n, NotC B pb n
  | 0 => fun w ts nds h => by omega
  | n + 1 => not_step B pb n (not_all B pb n)
/-- The whole parser. -/
theorem policy_any (B pb : Nat) (w : World) (ts : List Tok) (hs : ts.length ≤ 1000000) (hI : PS B pb w ts []) : Calls Tryz.prog 53 #[.pointer (some ⟨pb, 0, none⟩)] w (PostP B pb w (polF (ts.length + 1) ts [])) :=
  pol_of B pb _ (not_all B pb _) w ts [] (by omega) (by simpa using hs) hI
end Go.Proofs.YtbojlnbdkaanmaaGreatDoor
