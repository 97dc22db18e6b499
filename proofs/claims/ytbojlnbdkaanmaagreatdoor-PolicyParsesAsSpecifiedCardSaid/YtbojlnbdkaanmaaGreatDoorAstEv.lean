/-
  Evaluation on trees, in plain Lean: what the nodes evaluate to is the tree's value; unknown outcomes that become known; outcomes that no node names; the laws of negation.
-/
import Derived.Test.YtbojlnbdkaanmaaGreatDoorAst
import Derived.Test.YtbojlnbdkaanmaaGreatDoorEvB
set_option linter.unusedVariables false
set_option linter.unusedSimpArgs false
namespace Go.Proofs.YtbojlnbdkaanmaaGreatDoor

/-! ### What the parser's trees are like -/
def TokOk (ts : List Tok) : Prop := ∀ t ∈ ts, 0 ≤ t.n ∧ t.n < 65536
inductive Leaf : Nd → Prop where
  | any : Leaf (mkN 1 0 0 0)
  | num (k n : Int) (hk : 2 ≤ k ∧ k ≤ 5) (hn : 0 ≤ n ∧ n < 65536) : Leaf (mkN k n 0 0)
  | stage (n : Int) (d : Nat → Int) (hn : 0 ≤ n ∧ n < 65536) (hd : ∀ i, 0 ≤ d i ∧ d i < 256) (hz : ∀ i, 16 ≤ i → d i = 0) : Leaf ⟨6, n, 0, 0, d, []⟩
  | took (n m s : Int) (hn : 0 ≤ n ∧ n < 65536) (hm : 0 ≤ m ∧ m < 65536) (hs : s = 1 ∨ s = 2) : Leaf (mkN 7 n m s)
def Ast.Ok : Ast → Prop
  | .leaf x => Leaf x
  | .neg t => t.Ok
  | .bin k a b => (k = 9 ∨ k = 10) ∧ a.Ok ∧ b.Ok
theorem TokOk.tail_ {t : Tok} {r : List Tok} (h : TokOk (t :: r)) : TokOk r := fun x hx => h x (by simp [hx])
theorem mustF_ok {kd : Int} {tx : List UInt8} {ts : List Tok} {t : Tok} {r : List Tok} (ho : TokOk ts) (h : mustF kd tx ts = some (t, r)) : (0 ≤ t.n ∧ t.n < 65536) ∧ TokOk r := by
  obtain ⟨rfl, _⟩ := mustF_some.1 h
  exact ⟨ho t (by simp), ho.tail_⟩
theorem compareF_ok {eq al : Int} {ts : List Tok} {x : Nd} {r : List Tok} (ho : TokOk ts) (h1 : 2 ≤ eq ∧ eq ≤ 5) (h2 : 2 ≤ al ∧ al ≤ 5) (h : compareF eq al ts = some (x, r)) : Leaf x ∧ TokOk r := by
  unfold compareF at h
  by_cases hb : isB ts 3 [61, 61] = true
  · rw [if_pos hb] at h
    obtain ⟨t, q, rfl⟩ := isB_cons hb
    cases hm : mustF 2 [] q with
    | none => simp [hm] at h
    | some y =>
      obtain ⟨y1, y2⟩ := y
      simp [hm] at h
      obtain ⟨rfl, rfl⟩ := h
      have := mustF_ok ho.tail_ hm
      exact ⟨.num _ _ h1 this.1, this.2⟩
  · rw [if_neg hb] at h
    cases hm : mustF 3 [62, 61] ts with
    | none => simp [hm] at h
    | some y =>
      obtain ⟨y1, y2⟩ := y
      simp only [hm] at h
      cases hm2 : mustF 2 [] y2 with
      | none => simp [hm2] at h
      | some z =>
        obtain ⟨z1, z2⟩ := z
        simp [hm2] at h
        obtain ⟨rfl, rfl⟩ := h
        have := mustF_ok (mustF_ok ho hm).2 hm2
        exact ⟨.num _ _ h2 this.1, this.2⟩
theorem hexd_b {c v : Int} (h : hexd c = some v) : 0 ≤ v ∧ v ≤ 15 := by
  unfold hexd at h
  split at h
  · injection h; omega
  · split at h
    · injection h; omega
    · cases h
theorem byteF_b {l : List UInt8} {k : Nat} {v : Int} (h : byteF l k = some v) : 0 ≤ v ∧ v < 256 := by
  unfold byteF at h
  cases h1 : hexd (byteAt l (2 * k + 1)) with
  | none => simp [h1] at h
  | some a =>
    cases h2 : hexd (byteAt l (2 * k + 2)) with
    | none => simp [h1, h2] at h
    | some b =>
      simp [h1, h2] at h
      have := hexd_b h1
      have := hexd_b h2
      omega
def DigOk (d : Nat → Int) : Prop := (∀ i, 0 ≤ d i ∧ d i < 256) ∧ ∀ i, 16 ≤ i → d i = 0
theorem upd_ok {d : Nat → Int} {i : Nat} {v : Int} (h : DigOk d) (hi : i < 16) (hv : 0 ≤ v ∧ v < 256) : DigOk (upd d i v) := by
  refine ⟨fun j => ?_, fun j hj => ?_⟩
  · unfold upd
    split
    · exact hv
    · exact h.1 j
  · unfold upd
    rw [if_neg (by omega)]
    exact h.2 j hj
theorem inGo_ok {l : List UInt8} {i : Nat} (hi : i < 4) : ∀ (n k : Nat) (d d' : Nat → Int), k + n ≤ 4 → DigOk d → inGo l i n k d = some d' → DigOk d'
  | 0, k, d, d', _, hd, h => by simp [inGo] at h; rw [← h]; exact hd
  | n + 1, k, d, d', hk, hd, h => by
    unfold inGo at h
    cases hb : byteF l k with
    | none => simp [hb] at h
    | some v =>
      simp only [hb] at h
      exact inGo_ok hi n (k + 1) _ _ (by omega) (upd_ok hd (by omega) (byteF_b hb)) h
theorem digGo_ok : ∀ (n i : Nat) (d : Nat → Int) (ts : List Tok) (d' : Nat → Int) (r : List Tok), i + n ≤ 4 → TokOk ts → DigOk d → digGo n i d ts = some (d', r) → DigOk d' ∧ TokOk r
  | 0, i, d, ts, d', r, _, ho, hd, h => by
    simp [digGo] at h
    rw [← h.1, ← h.2]
    exact ⟨hd, ho⟩
  | n + 1, i, d, ts, d', r, hi, ho, hd, h => by
    unfold digGo at h
    cases hm : mustF 1 [] ts with
    | none => simp [hm] at h
    | some y =>
      obtain ⟨y1, y2⟩ := y
      simp only [hm] at h
      by_cases hw : wordOk y1.s.toList = true
      · rw [if_pos hw] at h
        cases hg : inGo y1.s.toList i 4 0 d with
        | none => simp [hg] at h
        | some e =>
          simp only [hg] at h
          exact digGo_ok n (i + 1) e y2 _ _ (by omega) (mustF_ok ho hm).2 (inGo_ok (by omega) 4 0 _ _ (by omega) hd hg) h
      · rw [if_neg hw] at h
        cases h
theorem stageF_ok {ts : List Tok} {x : Nd} {r : List Tok} (ho : TokOk ts) (h : stageF ts = some (x, r)) : Leaf x ∧ TokOk r := by
  unfold stageF at h
  cases hm : mustF 2 [] ts with
  | none => simp [hm] at h
  | some y =>
    obtain ⟨y1, y2⟩ := y
    simp only [hm] at h
    cases hm2 : mustF 1 tIs y2 with
    | none => simp [hm2] at h
    | some z =>
      obtain ⟨z1, z2⟩ := z
      simp only [hm2] at h
      cases hd : digestF z2 with
      | none => simp [hd] at h
      | some e =>
        obtain ⟨e1, e2⟩ := e
        simp [hd] at h
        obtain ⟨rfl, rfl⟩ := h
        have h1 := mustF_ok ho hm
        have h2 := mustF_ok h1.2 hm2
        have h3 := digGo_ok 4 0 _ _ _ _ (by omega) h2.2 ⟨fun _ => ⟨by omega, by omega⟩, fun _ _ => rfl⟩ hd
        exact ⟨.stage _ _ h1.1 h3.1.1 h3.1.2, h3.2⟩
theorem sideF_ok {ts : List Tok} {x : Int} {r : List Tok} (ho : TokOk ts) (h : sideF ts = some (x, r)) : (x = 1 ∨ x = 2) ∧ TokOk r := by
  unfold sideF at h
  by_cases hb : isB ts 1 tTrue = true
  · rw [if_pos hb] at h
    obtain ⟨t, q, rfl⟩ := isB_cons hb
    simp at h
    obtain ⟨rfl, rfl⟩ := h
    exact ⟨Or.inl rfl, ho.tail_⟩
  · rw [if_neg hb] at h
    cases hm : mustF 1 tFalse ts with
    | none => simp [hm] at h
    | some y =>
      obtain ⟨y1, y2⟩ := y
      simp [hm] at h
      obtain ⟨rfl, rfl⟩ := h
      exact ⟨Or.inr rfl, (mustF_ok ho hm).2⟩
theorem pointF_ok {ts : List Tok} {x : Nd} {r : List Tok} (ho : TokOk ts) (h : pointF ts = some (x, r)) : Leaf x ∧ TokOk r := by
  unfold pointF at h
  cases hm : mustF 2 [] ts with
  | none => simp [hm] at h
  | some y =>
    obtain ⟨y1, y2⟩ := y
    simp only [hm] at h
    cases hm2 : mustF 2 [] y2 with
    | none => simp [hm2] at h
    | some z =>
      obtain ⟨z1, z2⟩ := z
      simp only [hm2] at h
      cases hm3 : mustF 1 tTook z2 with
      | none => simp [hm3] at h
      | some v =>
        obtain ⟨v1, v2⟩ := v
        simp only [hm3] at h
        cases hd : sideF v2 with
        | none => simp [hd] at h
        | some e =>
          obtain ⟨e1, e2⟩ := e
          simp [hd] at h
          obtain ⟨rfl, rfl⟩ := h
          have h1 := mustF_ok ho hm
          have h2 := mustF_ok h1.2 hm2
          have h3 := sideF_ok (mustF_ok h2.2 hm3).2 hd
          exact ⟨.took _ _ _ h1.1 h2.1 h3.1, h3.2⟩
theorem atomF_ok {ts : List Tok} {x : Nd} {r : List Tok} (ho : TokOk ts) (h : atomF ts = some (x, r)) : Leaf x ∧ TokOk r := by
  unfold atomF at h
  cases hm : mustF 1 [] ts with
  | none => simp [hm] at h
  | some y =>
    obtain ⟨t, q⟩ := y
    simp only [hm] at h
    have h0 := (mustF_ok ho hm).2
    by_cases h1 : (t.s.toList == tAny) = true
    · rw [if_pos h1] at h
      simp at h
      obtain ⟨rfl, rfl⟩ := h
      exact ⟨.any, h0⟩
    · rw [if_neg h1] at h
      by_cases h2 : (t.s.toList == tVersion) = true
      · rw [if_pos h2] at h; exact compareF_ok h0 (by omega) (by omega) h
      · rw [if_neg h2] at h
        by_cases h3 : (t.s.toList == tEpoch) = true
        · rw [if_pos h3] at h; exact compareF_ok h0 (by omega) (by omega) h
        · rw [if_neg h3] at h
          by_cases h4 : (t.s.toList == tStage) = true
          · rw [if_pos h4] at h; exact stageF_ok h0 h
          · rw [if_neg h4] at h
            by_cases h5 : (t.s.toList == tPoint) = true
            · rw [if_pos h5] at h; exact pointF_ok h0 h
            · rw [if_neg h5] at h; cases h
def OkT (f : List Tok → TRes) : Prop := ∀ ts a r, TokOk ts → f ts = some (a, r) → a.Ok ∧ TokOk r
theorem chainGoT_ok {f : List Tok → TRes} (hf : OkT f) {sg : List UInt8} {kd : Int} (hk : kd = 9 ∨ kd = 10) :
    ∀ (m : Nat) (a : Ast) (ts : List Tok) (b : Ast) (r : List Tok), a.Ok → TokOk ts → chainGoT f sg kd m a ts = some (b, r) → b.Ok ∧ TokOk r
  | 0, a, ts, b, r, _, _, h => by simp [chainGoT] at h
  | m + 1, a, ts, b, r, ha, ho, h => by
    unfold chainGoT at h
    by_cases hb : isB ts 3 sg = true
    · rw [if_pos hb] at h
      obtain ⟨t, q, rfl⟩ := isB_cons hb
      cases hg : f q with
      | none => simp [hg] at h
      | some x =>
        obtain ⟨x1, x2⟩ := x
        simp [hg] at h
        have := hf q x1 x2 ho.tail_ hg
        exact chainGoT_ok hf hk m (.bin kd a x1) _ _ _ ⟨hk, ha, this.1⟩ this.2 h
    · rw [if_neg hb] at h
      simp at h
      rw [← h.1, ← h.2]
      exact ⟨ha, ho⟩
theorem chainT_ok {f : List Tok → TRes} (hf : OkT f) {sg : List UInt8} {kd : Int} (hk : kd = 9 ∨ kd = 10) {m : Nat} : OkT (chainT f sg kd m) := by
  intro ts a r ho h
  unfold chainT at h
  cases hg : f ts with
  | none => simp [hg] at h
  | some x =>
    obtain ⟨x1, x2⟩ := x
    simp [hg] at h
    have := hf ts x1 x2 ho hg
    exact chainGoT_ok hf hk m _ _ _ _ this.1 this.2 h
theorem notT_ok : ∀ (n : Nat), OkT (notT n)
  | 0 => fun ts a r _ h => by simp [notT] at h
  | n + 1 => by
    intro ts a r ho h
    unfold notT at h
    by_cases h1 : isB ts 3 [33] = true
    · rw [if_pos h1] at h
      obtain ⟨t, q, rfl⟩ := isB_cons h1
      cases hg : notT n q with
      | none => simp [hg] at h
      | some x =>
        obtain ⟨x1, x2⟩ := x
        simp [hg] at h
        obtain ⟨rfl, rfl⟩ := h
        exact notT_ok n q x1 x2 ho.tail_ hg
    · rw [if_neg h1] at h
      by_cases h2 : isB ts 3 [40] = true
      · rw [if_pos h2] at h
        obtain ⟨t, q, rfl⟩ := isB_cons h2
        cases hg : chainT (chainT (notT n) [38, 38] 9 n) [124, 124] 10 n q with
        | none => simp [hg] at h
        | some x =>
          obtain ⟨x1, x2⟩ := x
          simp [hg] at h
          have hx := chainT_ok (chainT_ok (notT_ok n) (Or.inl rfl)) (Or.inr rfl) q x1 x2 ho.tail_ hg
          cases hm : mustF 3 [41] x2 with
          | none => simp [hm] at h
          | some y =>
            obtain ⟨y1, y2⟩ := y
            simp [hm] at h
            obtain ⟨rfl, rfl⟩ := h
            exact ⟨hx.1, (mustF_ok hx.2 hm).2⟩
      · rw [if_neg h2] at h
        cases hg : atomF ts with
        | none => simp [hg] at h
        | some x =>
          obtain ⟨x1, x2⟩ := x
          simp [hg] at h
          obtain ⟨rfl, rfl⟩ := h
          exact atomF_ok ho hg
theorem treeT_ok {ts : List Tok} {t : Ast} (ho : TokOk ts) (h : treeT ts = some t) : t.Ok := by
  unfold treeT at h
  cases hg : polT (ts.length + 1) ts with
  | none => simp [hg] at h
  | some x =>
    obtain ⟨x1, x2⟩ := x
    have := chainT_ok (chainT_ok (notT_ok _) (Or.inl rfl)) (Or.inr rfl) ts x1 x2 ho hg
    simp [hg] at h
    rw [← h.2]
    exact this.1

/-! ### The nodes of such a tree -/
theorem Leaf.nd {x : Nd} (h : Leaf x) (i : Nat) : NdOk i x := by
  cases h with
  | any => exact ⟨by simp [mkN], by simp [mkN], by simp [mkN], by simp [mkN], by simp [mkN]⟩
  | num k n hk hn => exact ⟨by simp [mkN]; omega, by simp [mkN]; omega, by simp [mkN], by simp [mkN]; omega, by simp [mkN]; omega⟩
  | stage n d hn hd hz => exact ⟨by simp, by simp; omega, by simp, by simp, by simp⟩
  | took n m s hn hm hs => exact ⟨by simp [mkN], by simp [mkN]; omega, by simp [mkN]; omega, by simp [mkN], by simp [mkN]⟩
theorem emit_ok : ∀ (t : Ast) (b : Nat), t.Ok → ∀ i nd, (t.emit b)[i]? = some nd → NdOk (b + i) nd
  | .leaf x, b, h, i, nd, hi => by
    cases i with
    | zero => simp [Ast.emit] at hi; rw [← hi]; exact Leaf.nd h _
    | succ i => simp [Ast.emit] at hi
  | .neg t, b, h, i, nd, hi => by
    have hp := t.sz_pos
    have hl := t.emit_length b
    simp only [Ast.emit] at hi
    rcases Nat.lt_or_ge i t.sz with q | q
    · rw [List.getElem?_append_left (by omega)] at hi
      exact emit_ok t b h i nd hi
    · rw [List.getElem?_append_right (by omega), hl] at hi
      cases hj : i - t.sz with
      | zero =>
        rw [hj] at hi
        simp at hi
        subst hi
        refine ⟨by simp [mkO], by simp [mkO], by simp [mkO], fun _ => ⟨b + t.sz - 1, ?_, by omega⟩, by simp [mkO]⟩
        simp [mkO, lastI]
        omega
      | succ j => rw [hj] at hi; simp at hi
  | .bin k l r, b, h, i, nd, hi => by
    obtain ⟨hk, ha, hb⟩ := h
    have hp := l.sz_pos
    have hq := r.sz_pos
    have hl := l.emit_length b
    have hr := r.emit_length (b + l.sz)
    simp only [Ast.emit] at hi
    rcases Nat.lt_or_ge i l.sz with q | q
    · rw [List.append_assoc, List.getElem?_append_left (by omega)] at hi
      exact emit_ok l b ha i nd hi
    · rcases Nat.lt_or_ge i (l.sz + r.sz) with q2 | q2
      · rw [List.append_assoc, List.getElem?_append_right (by omega), List.getElem?_append_left (by omega), hl] at hi
        have := emit_ok r (b + l.sz) hb _ nd hi
        rw [show b + i = b + l.sz + (i - l.sz) by omega]
        exact this
      · rw [List.getElem?_append_right (by simp; omega)] at hi
        simp only [List.length_append, hl, hr] at hi
        cases hj : i - (l.sz + r.sz) with
        | zero =>
          rw [hj] at hi
          simp at hi
          subst hi
          refine ⟨by simp [mkO]; omega, by simp [mkO], by simp [mkO], fun e => by simp [mkO] at e; omega, fun _ => ⟨b + l.sz - 1, b + l.sz + r.sz - 1, ?_, by omega, by omega⟩⟩
          simp [mkO, lastI]
          omega
        | succ j => rw [hj] at hi; simp at hi

/-! ### The value of a tree -/
def orI (a b : Int) : Int := notI (andI (notI a) (notI b))
def evalT (F : Fct) : Ast → Int
  | .leaf x => evStep F [] x
  | .neg t => notI (evalT F t)
  | .bin k a b => if k = 9 then andI (evalT F a) (evalT F b) else orI (evalT F a) (evalT F b)
theorem evStep_leaf {F : Fct} {x : Nd} (h : Leaf x) (rs : List Int) : evStep F rs x = evStep F [] x := by
  cases h with
  | any => rfl
  | num k n hk hn =>
    have : k = 2 ∨ k = 3 ∨ k = 4 ∨ k = 5 := by omega
    rcases this with rfl | rfl | rfl | rfl <;> rfl
  | stage n d hn hd hz => rfl
  | took n m s hn hm hs => rfl
theorem atI_last (rs vs : List Int) (v : Int) (xs : List Int) (n : Nat) (hn : n = rs.length + (vs.length + 1)) : atI (rs ++ vs ++ [v] ++ xs) (some (lastI n)) = v := by
  subst hn
  unfold atI lastI
  simp only []
  rw [show (((rs.length + (vs.length + 1) : Nat) : Int) - 1).toNat = (rs ++ vs).length by simp; omega]
  rw [List.getD_eq_getElem?_getD, List.append_assoc (rs ++ vs), List.getElem?_append_right (Nat.le_refl _), Nat.sub_self]
  rfl
def evFold (F : Fct) (rs : List Int) (nds : List Nd) : List Int := nds.foldl (fun rs nd => rs ++ [evStep F rs nd]) rs
theorem evFold_emit (F : Fct) : ∀ (t : Ast), t.Ok → ∀ rs : List Int, ∃ vs, evFold F rs (t.emit rs.length) = rs ++ vs ++ [evalT F t] ∧ vs.length + 1 = t.sz
  | .leaf x, h, rs => ⟨[], by simp [evFold, Ast.emit, evalT, evStep_leaf h rs], rfl⟩
  | .neg t, h, rs => by
    obtain ⟨vs, h1, h2⟩ := evFold_emit F t h rs
    refine ⟨vs ++ [evalT F t], ?_, by simp [Ast.sz, h2]⟩
    unfold evFold at h1 ⊢
    simp only [Ast.emit, List.foldl_append, h1, List.foldl_cons, List.foldl_nil]
    have hs : evStep F (rs ++ vs ++ [evalT F t]) (mkO 8 [lastI (rs.length + t.sz)]) = evalT F (.neg t) := by
      show notI (atI (rs ++ vs ++ [evalT F t]) (some (lastI ((rs.length + t.sz : Nat))))) = _
      have := atI_last rs vs (evalT F t) [] (rs.length + t.sz) (by omega)
      rw [List.append_nil] at this
      rw [this]
      rfl
    rw [hs]
    simp
  | .bin k l r, h, rs => by
    obtain ⟨hk, ha, hb⟩ := h
    obtain ⟨vl, h1, h2⟩ := evFold_emit F l ha rs
    obtain ⟨vr, h3, h4⟩ := evFold_emit F r hb (rs ++ vl ++ [evalT F l])
    have hlen : (rs ++ vl ++ [evalT F l]).length = rs.length + l.sz := by simp; omega
    rw [hlen] at h3
    refine ⟨vl ++ [evalT F l] ++ vr ++ [evalT F r], ?_, by simp [Ast.sz]; omega⟩
    unfold evFold at h1 h3 ⊢
    simp only [Ast.emit, List.foldl_append, h1, h3, List.foldl_cons, List.foldl_nil]
    have hs : evStep F (rs ++ vl ++ [evalT F l] ++ vr ++ [evalT F r]) (mkO k [lastI (rs.length + l.sz), lastI (rs.length + l.sz + r.sz)]) = evalT F (.bin k l r) := by
      have e1 := atI_last rs vl (evalT F l) (vr ++ [evalT F r]) (rs.length + l.sz) (by omega)
      have e2 := atI_last (rs ++ vl ++ [evalT F l]) vr (evalT F r) [] (rs.length + l.sz + r.sz) (by rw [hlen]; omega)
      rw [List.append_nil] at e2
      rw [← List.append_assoc] at e1
      rcases hk with rfl | rfl
      · show andI (atI _ (some _)) (atI _ (some _)) = _
        rw [e1, e2]
        rfl
      · show notI (andI (notI (atI _ (some _))) (notI (atI _ (some _)))) = _
        rw [e1, e2]
        rfl
    rw [hs]
    simp
theorem evalF_emit (F : Fct) (t : Ast) (h : t.Ok) : evalF F (t.emit 0) = evalT F t := by
  obtain ⟨vs, h1, _⟩ := evFold_emit F t h []
  unfold evalF evAll
  unfold evFold at h1
  rw [List.length_nil] at h1
  rw [h1]
  simp [List.getLastD_eq_getLast?]
theorem evalT_b (F : Fct) : ∀ (t : Ast), -1 ≤ evalT F t ∧ evalT F t ≤ 1
  | .leaf x => evStep_b F [] x (by simp)
  | .neg t => notI_b (evalT_b F t)
  | .bin k a b => by
    unfold evalT
    split
    · exact andI_b (evalT_b F a) (evalT_b F b)
    · exact notI_b (andI_b (notI_b (evalT_b F a)) (notI_b (evalT_b F b)))

/-! ### Unknown outcomes that become known -/
/-- Whether a stage is a digest's. -/
def stageV (F : Fct) (n : Nat) (x : Nat → Int) : Int := match F.st[n]? with | none => 0 | some d => tru (sameD d x)
structure Refines (F G : Fct) : Prop where
  v : F.v = G.v
  e : F.e = G.e
  st : ∀ n x, stageV F n x = stageV G n x
  len : F.pts.length = G.pts.length
  row : ∀ (i : Nat) (p q : List Int), F.pts[i]? = some p → G.pts[i]? = some q → p.length = q.length
  out : ∀ (i : Nat) (p q : List Int) (k : Nat) (x y : Int), F.pts[i]? = some p → G.pts[i]? = some q → p[k]? = some x → q[k]? = some y → y = -1 ∨ x = y
/-- The one is unknown, or the other is the same. -/
def Le (a b : Int) : Prop := a = -1 ∨ a = b
theorem not_le {a b : Int} (h : Le a b) : Le (notI a) (notI b) := by
  rcases h with rfl | rfl
  · exact Or.inl rfl
  · exact Or.inr rfl
theorem and_le {a a' b b' : Int} (ha : -1 ≤ a ∧ a ≤ 1) (hb : -1 ≤ b ∧ b ≤ 1) (ha' : -1 ≤ a' ∧ a' ≤ 1) (hb' : -1 ≤ b' ∧ b' ≤ 1) (h : Le a a') (k : Le b b') : Le (andI a b) (andI a' b') := by
  unfold Le andI at *
  rcases h with rfl | rfl <;> rcases k with rfl | rfl
  · left; rfl
  · by_cases h0 : b = 0
    · subst h0; right; simp
    · left; rw [if_neg (by omega)]; omega
  · by_cases h0 : a = 0
    · subst h0; right; simp
    · left; rw [if_neg (by omega)]; omega
  · right; rfl
theorem took_le {F G : Fct} (h : Refines F G) (n m sd : Int) : Le (tookF G n m sd) (tookF F n m sd) := by
  unfold tookF
  cases hq : G.pts[n.toNat]? with
  | none =>
    have : F.pts[n.toNat]? = none := by rw [List.getElem?_eq_none_iff] at hq ⊢; have := h.len; omega
    rw [this]
    exact Or.inr rfl
  | some q =>
    obtain ⟨p, hp⟩ : ∃ p, F.pts[n.toNat]? = some p := by
      have := (List.getElem?_eq_some_iff.1 hq).1
      exact ⟨F.pts[n.toNat]'(by have := h.len; omega), List.getElem?_eq_getElem _⟩
    have hl := h.row _ p q hp hq
    rw [hp]
    simp only []
    cases hy : q[m.toNat]? with
    | none =>
      have : p[m.toNat]? = none := by rw [List.getElem?_eq_none_iff] at hy ⊢; omega
      rw [this]
      exact Or.inr rfl
    | some y =>
      obtain ⟨x, hx⟩ : ∃ x, p[m.toNat]? = some x := by
        have := (List.getElem?_eq_some_iff.1 hy).1
        exact ⟨p[m.toNat]'(by omega), List.getElem?_eq_getElem _⟩
      rw [hx]
      simp only []
      rcases h.out _ p q _ x y hp hq hx hy with rfl | rfl
      · rw [if_pos rfl]
        exact Or.inl rfl
      · exact Or.inr rfl
theorem step_le {F G : Fct} (h : Refines F G) (rs : List Int) {x : Nd} (hx : Leaf x) : Le (evStep G rs x) (evStep F rs x) := by
  cases hx with
  | any => exact Or.inr rfl
  | num k n hk hn =>
    right
    unfold evStep
    rw [h.v, h.e]
    have : k = 2 ∨ k = 3 ∨ k = 4 ∨ k = 5 := by omega
    rcases this with rfl | rfl | rfl | rfl <;> rfl
  | stage n d hn hd hz =>
    right
    exact (h.st n.toNat d).symm
  | took n m s hn hm hs => exact took_le h n m s
theorem eval_le {F G : Fct} (h : Refines F G) : ∀ (t : Ast), t.Ok → Le (evalT G t) (evalT F t)
  | .leaf x, hx => step_le h [] hx
  | .neg t, ht => not_le (eval_le h t ht)
  | .bin k a b, ht => by
    have ha := eval_le h a ht.2.1
    have hb := eval_le h b ht.2.2
    unfold evalT
    split
    · exact and_le (evalT_b G a) (evalT_b G b) (evalT_b F a) (evalT_b F b) ha hb
    · exact not_le (and_le (notI_b (evalT_b G a)) (notI_b (evalT_b G b)) (notI_b (evalT_b F a)) (notI_b (evalT_b F b)) (not_le ha) (not_le hb))
/-- All outcomes are known. -/
def Known (F : Fct) : Prop := ∀ (i : Nat) (p : List Int) (k : Nat) (x : Int), F.pts[i]? = some p → p[k]? = some x → x ≠ -1
theorem tru_bit (b : Bool) : tru b = 0 ∨ tru b = 1 := by cases b <;> simp [tru]
theorem not_bit {a : Int} (h : a = 0 ∨ a = 1) : notI a = 0 ∨ notI a = 1 := by rcases h with rfl | rfl <;> simp [notI]
theorem and_bit {a b : Int} (h : a = 0 ∨ a = 1) (k : b = 0 ∨ b = 1) : andI a b = 0 ∨ andI a b = 1 := by rcases h with rfl | rfl <;> rcases k with rfl | rfl <;> simp [andI]
theorem eval_known {F : Fct} (h : Known F) : ∀ (t : Ast), t.Ok → evalT F t = 0 ∨ evalT F t = 1
  | .leaf x, hx => by
    unfold evalT
    cases hx with
    | any => exact Or.inr rfl
    | num k n hk hn =>
      have : k = 2 ∨ k = 3 ∨ k = 4 ∨ k = 5 := by omega
      rcases this with rfl | rfl | rfl | rfl <;> exact tru_bit _
    | stage n d hn hd hz =>
      unfold evStep
      rw [if_neg (by simp), if_neg (by simp), if_neg (by simp), if_neg (by simp), if_neg (by simp), if_pos rfl]
      cases F.st[n.toNat]? with
      | none => exact Or.inl rfl
      | some e => exact tru_bit _
    | took n m s hn hm hs =>
      show tookF F n m s = 0 ∨ tookF F n m s = 1
      unfold tookF
      cases hp : F.pts[n.toNat]? with
      | none => exact Or.inl rfl
      | some p =>
        simp only []
        cases hx : p[m.toNat]? with
        | none => exact Or.inl rfl
        | some x =>
          simp only []
          rw [if_neg (h _ p _ x hp hx)]
          exact tru_bit _
  | .neg t, ht => not_bit (eval_known h t ht)
  | .bin k a b, ht => by
    have ha := eval_known h a ht.2.1
    have hb := eval_known h b ht.2.2
    unfold evalT
    split
    · exact and_bit ha hb
    · exact not_bit (and_bit (not_bit ha) (not_bit hb))

/-! ### Outcomes that no node names -/
structure Agree (nds : List Nd) (F G : Fct) : Prop where
  v : F.v = G.v
  e : F.e = G.e
  st : ∀ n x, stageV F n x = stageV G n x
  out : ∀ nd ∈ nds, nd.k = 7 → tookF F nd.n nd.m nd.sd = tookF G nd.n nd.m nd.sd
def Ast.leaves : Ast → List Nd
  | .leaf x => [x]
  | .neg t => t.leaves
  | .bin _ a b => a.leaves ++ b.leaves
theorem leaves_emit : ∀ (t : Ast) (b : Nat), ∀ x ∈ t.leaves, x ∈ t.emit b
  | .leaf x, b, y, h => h
  | .neg t, b, y, h => by simp only [Ast.emit, List.mem_append]; exact Or.inl (leaves_emit t b y h)
  | .bin k l r, b, y, h => by
    simp only [Ast.emit, List.mem_append]
    rcases List.mem_append.1 h with h | h
    · exact Or.inl (Or.inl (leaves_emit l b y h))
    · exact Or.inl (Or.inr (leaves_emit r _ y h))
theorem eval_agree {F G : Fct} : ∀ (t : Ast), t.Ok → Agree t.leaves F G → evalT F t = evalT G t
  | .leaf x, hx, h => by
    have hout := h.out x (by simp [Ast.leaves])
    unfold evalT
    cases hx with
    | any => rfl
    | num k n hk hn =>
      unfold evStep
      rw [h.v, h.e]
      have : k = 2 ∨ k = 3 ∨ k = 4 ∨ k = 5 := by omega
      rcases this with rfl | rfl | rfl | rfl <;> rfl
    | stage n d hn hd hz => exact h.st n.toNat d
    | took n m s hn hm hs => exact hout rfl
  | .neg t, ht, h => by
    unfold evalT
    rw [eval_agree t ht h]
  | .bin k a b, ht, h => by
    have h1 := eval_agree a ht.2.1 ⟨h.v, h.e, h.st, fun nd hn => h.out nd (by simp [Ast.leaves, hn])⟩
    have h2 := eval_agree b ht.2.2 ⟨h.v, h.e, h.st, fun nd hn => h.out nd (by simp [Ast.leaves, hn])⟩
    unfold evalT
    rw [h1, h2]

/-! ### Negation, conjunction, disjunction -/
theorem not_not {a : Int} (h : -1 ≤ a ∧ a ≤ 1) : notI (notI a) = a := by
  by_cases h0 : a < 0
  · simp [notI, h0]
  · simp [notI, h0]
    omega
theorem deMorgan1 (a b : Int) (ha : -1 ≤ a ∧ a ≤ 1) (hb : -1 ≤ b ∧ b ≤ 1) : notI (andI a b) = orI (notI a) (notI b) := by
  unfold orI
  rw [not_not ha, not_not hb]
theorem deMorgan2 (a b : Int) (ha : -1 ≤ a ∧ a ≤ 1) (hb : -1 ≤ b ∧ b ≤ 1) : notI (orI a b) = andI (notI a) (notI b) := by
  unfold orI
  rw [not_not (andI_b (notI_b ha) (notI_b hb))]
theorem and_one (a : Int) (ha : -1 ≤ a ∧ a ≤ 1) : andI a 1 = a := by
  unfold andI
  split
  · omega
  · omega
theorem or_one (a : Int) : orI a 1 = 1 := by
  unfold orI andI
  rw [if_pos (Or.inr (show notI 1 = 0 by decide))]
  decide
end Go.Proofs.YtbojlnbdkaanmaaGreatDoor
