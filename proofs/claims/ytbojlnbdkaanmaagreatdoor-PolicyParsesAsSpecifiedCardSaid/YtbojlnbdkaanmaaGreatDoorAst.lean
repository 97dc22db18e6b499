/-
  The plain side of the parser as trees: what the parser reads is a tree, and the nodes are the tree's own, laid in a row.
-/
import Derived.Test.YtbojlnbdkaanmaaGreatDoorPurB
set_option linter.unusedVariables false
set_option linter.unusedSimpArgs false
namespace Go.Proofs.YtbojlnbdkaanmaaGreatDoor

inductive Ast where
  | leaf (x : Nd)
  | neg (t : Ast)
  | bin (k : Int) (a b : Ast)

def Ast.sz : Ast → Nat
  | .leaf _ => 1
  | .neg t => t.sz + 1
  | .bin _ a b => a.sz + b.sz + 1
theorem Ast.sz_pos (t : Ast) : 0 < t.sz := by cases t <;> simp [Ast.sz]
/-- The place of the last node. -/
def lastI (n : Nat) : Int := (n : Int) - 1
/-- The nodes of a tree that stand behind b others. -/
def Ast.emit : Ast → Nat → List Nd
  | .leaf x, _ => [x]
  | .neg t, b => t.emit b ++ [mkO 8 [lastI (b + t.sz)]]
  | .bin k l r, b => l.emit b ++ r.emit (b + l.sz) ++ [mkO k [lastI (b + l.sz), lastI (b + l.sz + r.sz)]]
theorem Ast.emit_length : ∀ (t : Ast) (b : Nat), (t.emit b).length = t.sz
  | .leaf _, _ => rfl
  | .neg t, b => by simp [Ast.emit, Ast.sz, Ast.emit_length t b]
  | .bin k l r, b => by simp [Ast.emit, Ast.sz, Ast.emit_length l, Ast.emit_length r]; omega

abbrev TRes := Option (Ast × List Tok)
def chainGoT (f : List Tok → TRes) (sg : List UInt8) (kd : Int) : Nat → Ast → List Tok → TRes
  | 0, _, _ => none
  | m + 1, a, ts =>
    if isB ts 3 sg then
      match f ts.tail with
      | none => none
      | some (b, r) => chainGoT f sg kd m (.bin kd a b) r
    else some (a, ts)
def chainT (f : List Tok → TRes) (sg : List UInt8) (kd : Int) (m : Nat) (ts : List Tok) : TRes :=
  match f ts with
  | none => none
  | some (a, r) => chainGoT f sg kd m a r
def notT : Nat → List Tok → TRes
  | 0, _ => none
  | n + 1, ts =>
    if isB ts 3 [33] then
      match notT n ts.tail with
      | none => none
      | some (a, r) => some (.neg a, r)
    else if isB ts 3 [40] then
      match chainT (chainT (notT n) [38, 38] 9 n) [124, 124] 10 n ts.tail with
      | none => none
      | some (a, r) =>
        match mustF 3 [41] r with
        | none => none
        | some (_, r') => some (a, r')
    else
      match atomF ts with
      | none => none
      | some (x, r) => some (.leaf x, r)
def andT (n : Nat) : List Tok → TRes := chainT (notT n) [38, 38] 9 n
def polT (n : Nat) : List Tok → TRes := chainT (andT n) [124, 124] 10 n

/-! ### The nodes are the tree's -/
def emitR (nds : List Nd) : Ast × List Tok → Int × List Tok × List Nd := fun x => (lastI (nds.length + x.1.sz), x.2, nds ++ x.1.emit nds.length)
def Emits (f : List Tok → List Nd → PRes) (g : List Tok → TRes) : Prop := ∀ ts nds, f ts nds = (g ts).map (emitR nds)
theorem chainGo_emit {f : List Tok → List Nd → PRes} {g : List Tok → TRes} (h : Emits f g) (sg : List UInt8) (kd : Int) (nds : List Nd) :
    ∀ (m : Nat) (a : Ast) (ts : List Tok), chainGo f sg kd m (lastI (nds.length + a.sz)) ts (nds ++ a.emit nds.length) = (chainGoT g sg kd m a ts).map (emitR nds)
  | 0, _, _ => rfl
  | m + 1, a, ts => by
    unfold chainGo chainGoT
    by_cases hb : isB ts 3 sg = true
    · rw [if_pos hb, if_pos hb, h]
      cases hg : g ts.tail with
      | none => rfl
      | some x =>
        obtain ⟨b, r⟩ := x
        have := chainGo_emit h sg kd nds m (.bin kd a b) r
        simp only [Option.map_some, emitR, Ast.sz, Ast.emit, List.length_append, Ast.emit_length] at this ⊢
        rw [← this]
        congr 1
        · unfold lastI; omega
        · simp [List.append_assoc]
    · rw [if_neg hb, if_neg hb]
      rfl
theorem chain_emit {f : List Tok → List Nd → PRes} {g : List Tok → TRes} (h : Emits f g) (sg : List UInt8) (kd : Int) (m : Nat) : Emits (chainF f sg kd m) (chainT g sg kd m) := by
  intro ts nds
  unfold chainF chainT
  rw [h]
  cases g ts with
  | none => rfl
  | some x => exact chainGo_emit h sg kd nds m x.1 x.2
theorem notF_emit : ∀ (n : Nat), Emits (notF n) (notT n)
  | 0 => fun _ _ => rfl
  | n + 1 => by
    intro ts nds
    unfold notF notT
    by_cases h1 : isB ts 3 [33] = true
    · rw [if_pos h1, if_pos h1, notF_emit n]
      cases notT n ts.tail with
      | none => rfl
      | some x =>
        simp only [Option.map_some, emitR, Ast.sz, Ast.emit, List.length_append, Ast.emit_length, List.append_assoc]
        congr 2
        unfold lastI; omega
    · rw [if_neg h1, if_neg h1]
      by_cases h2 : isB ts 3 [40] = true
      · rw [if_pos h2, if_pos h2, chain_emit (chain_emit (notF_emit n) _ _ _) _ _ _]
        cases chainT (chainT (notT n) [38, 38] 9 n) [124, 124] 10 n ts.tail with
        | none => rfl
        | some x =>
          simp only [Option.map_some, emitR]
          cases mustF 3 [41] x.2 with
          | none => rfl
          | some y => rfl
      · rw [if_neg h2, if_neg h2]
        cases atomF ts with
        | none => rfl
        | some x =>
          simp only [Option.map_some, emitR, Ast.sz, Ast.emit]
          congr 2
          unfold lastI; omega
theorem andF_emit (n : Nat) : Emits (andF n) (andT n) := chain_emit (notF_emit n) _ _ _
theorem polF_emit (n : Nat) : Emits (polF n) (polT n) := chain_emit (andF_emit n) _ _ _
/-- The tree of a list of tokens. -/
def treeT (ts : List Tok) : Option Ast :=
  match polT (ts.length + 1) ts with
  | none => none
  | some (t, r) => if r.isEmpty then some t else none
theorem treeF_emit (ts : List Tok) : treeF ts = (treeT ts).map (·.emit 0) := by
  unfold treeF treeT
  rw [polF_emit]
  cases polT (ts.length + 1) ts with
  | none => rfl
  | some x =>
    simp only [Option.map_some, emitR, List.nil_append, List.length_nil]
    by_cases h : x.2.isEmpty = true
    · rw [if_pos h, if_pos h]; rfl
    · rw [if_neg h, if_neg h]; rfl

/-! ### How far a part reads, and that more rounds change nothing -/
def LenT (f : List Tok → TRes) : Prop := ∀ ts a r, f ts = some (a, r) → r.length < ts.length
theorem notT_len (n : Nat) : LenT (notT n) := by
  intro ts a r h
  have := notF_len n ts [] (emitR [] (a, r)).1 r (emitR [] (a, r)).2.2 (by rw [notF_emit, h]; rfl)
  exact this
theorem andT_len (n : Nat) : LenT (andT n) := by
  intro ts a r h
  exact andF_len n ts [] (emitR [] (a, r)).1 r (emitR [] (a, r)).2.2 (by rw [andF_emit, h]; rfl)
theorem chainGoT_len {f : List Tok → TRes} (hf : LenT f) {sg : List UInt8} {kd : Int} : ∀ (m : Nat) (a : Ast) (ts : List Tok) (b : Ast) (r : List Tok), chainGoT f sg kd m a ts = some (b, r) → r.length ≤ ts.length
  | 0, a, ts, b, r, h => by simp [chainGoT] at h
  | m + 1, a, ts, b, r, h => by
    unfold chainGoT at h
    by_cases hb : isB ts 3 sg = true
    · rw [if_pos hb] at h
      obtain ⟨t, q, rfl⟩ := isB_cons hb
      cases hg : f q with
      | none => simp [hg] at h
      | some x =>
        simp [hg] at h
        have h1 := chainGoT_len hf m _ _ _ _ h
        have h2 := hf q x.1 x.2 hg
        simp
        omega
    · rw [if_neg hb] at h
      simp at h
      rw [h.2]
      exact Nat.le_refl _
theorem chainT_len {f : List Tok → TRes} (hf : LenT f) {sg : List UInt8} {kd : Int} {m : Nat} : LenT (chainT f sg kd m) := by
  intro ts a r h
  unfold chainT at h
  cases hg : f ts with
  | none => simp [hg] at h
  | some x =>
    simp [hg] at h
    have := chainGoT_len hf _ _ _ _ _ h
    have := hf ts x.1 x.2 hg
    omega
theorem chainGoT_agree {f g : List Tok → TRes} (L : Nat) (hfg : ∀ ts, ts.length ≤ L → f ts = g ts) (hf : LenT f) (sg : List UInt8) (kd : Int) :
    ∀ (n m : Nat) (a : Ast) (ts : List Tok), ts.length ≤ L + 1 → ts.length < n → ts.length < m → chainGoT f sg kd n a ts = chainGoT g sg kd m a ts
  | 0, _, _, _, _, h, _ => by omega
  | n + 1, 0, _, _, _, _, h => by omega
  | n + 1, m + 1, a, ts, hL, hn, hm => by
    unfold chainGoT
    by_cases hb : isB ts 3 sg = true
    · rw [if_pos hb, if_pos hb]
      obtain ⟨t, q, rfl⟩ := isB_cons hb
      simp only [List.tail_cons, List.length_cons] at *
      rw [hfg q (by omega)]
      cases hg : g q with
      | none => rfl
      | some x =>
        have := hf q x.1 x.2 (by rw [hfg q (by omega), hg])
        exact chainGoT_agree L hfg hf sg kd n m _ _ (by omega) (by omega) (by omega)
    · rw [if_neg hb, if_neg hb]
theorem chainT_agree {f g : List Tok → TRes} (L : Nat) (hfg : ∀ ts, ts.length ≤ L → f ts = g ts) (hf : LenT f) (sg : List UInt8) (kd : Int) (n m : Nat) (ts : List Tok) (hL : ts.length ≤ L) (hn : ts.length ≤ n) (hm : ts.length ≤ m) :
    chainT f sg kd n ts = chainT g sg kd m ts := by
  unfold chainT
  rw [hfg ts hL]
  cases hg : g ts with
  | none => rfl
  | some x =>
    have := hf ts x.1 x.2 (by rw [hfg ts hL, hg])
    exact chainGoT_agree L hfg hf sg kd n m _ _ (by omega) (by omega) (by omega)
theorem notT_agree : ∀ (n m : Nat) (ts : List Tok), ts.length < n → ts.length < m → notT n ts = notT m ts
  | 0, _, _, h, _ => by omega
  | n + 1, 0, _, _, h => by omega
  | n + 1, m + 1, ts, hn, hm => by
    unfold notT
    by_cases h1 : isB ts 3 [33] = true
    · rw [if_pos h1, if_pos h1]
      obtain ⟨t, q, rfl⟩ := isB_cons h1
      simp only [List.tail_cons, List.length_cons] at *
      rw [notT_agree n m q (by omega) (by omega)]
    · rw [if_neg h1, if_neg h1]
      by_cases h2 : isB ts 3 [40] = true
      · rw [if_pos h2, if_pos h2]
        obtain ⟨t, q, rfl⟩ := isB_cons h2
        simp only [List.tail_cons, List.length_cons] at *
        rw [chainT_agree q.length (fun ts h => chainT_agree q.length (fun ts h => notT_agree n m ts (by omega) (by omega)) (notT_len n) _ _ n m ts h (by omega) (by omega)) (chainT_len (notT_len n)) _ _ n m q (Nat.le_refl _) (by omega) (by omega)]
      · rw [if_neg h2, if_neg h2]
theorem andT_agree (n m : Nat) (ts : List Tok) (hn : ts.length < n) (hm : ts.length < m) : andT n ts = andT m ts :=
  chainT_agree ts.length (fun q h => notT_agree n m q (by omega) (by omega)) (notT_len n) _ _ n m ts (Nat.le_refl _) (by omega) (by omega)
theorem polT_agree (n m : Nat) (ts : List Tok) (hn : ts.length < n) (hm : ts.length < m) : polT n ts = polT m ts :=
  chainT_agree ts.length (fun q h => andT_agree n m q (by omega) (by omega)) (andT_len n) _ _ n m ts (Nat.le_refl _) (by omega) (by omega)

/-! ### What stands behind changes nothing -/
/-- Tokens that end a policy. -/
def Stop (rest : List Tok) : Prop := isB rest 3 [38, 38] = false ∧ isB rest 3 [124, 124] = false
theorem isB_app {ts : List Tok} (rest : List Tok) (h : ts ≠ []) (kd : Int) (tx : List UInt8) : isB (ts ++ rest) kd tx = isB ts kd tx := by
  cases ts with
  | nil => exact absurd rfl h
  | cons t r => rfl
theorem mustF_app {ts : List Tok} (rest : List Tok) {kd : Int} {tx : List UInt8} {t : Tok} {r : List Tok} (h : mustF kd tx ts = some (t, r)) : mustF kd tx (ts ++ rest) = some (t, r ++ rest) := by
  rw [mustF_some] at h ⊢
  obtain ⟨rfl, h⟩ := h
  exact ⟨rfl, h⟩
theorem must_ne {ts : List Tok} {kd : Int} {tx : List UInt8} {x : Tok × List Tok} (h : mustF kd tx ts = some x) : ts ≠ [] := by
  intro e
  subst e
  simp [mustF] at h
theorem compareF_app {eq al : Int} {ts rest : List Tok} {x : Nd} {r : List Tok} (h : compareF eq al ts = some (x, r)) : compareF eq al (ts ++ rest) = some (x, r ++ rest) := by
  unfold compareF at h ⊢
  by_cases hb : isB ts 3 [61, 61] = true
  · obtain ⟨t, q, rfl⟩ := isB_cons hb
    rw [if_pos hb] at h
    rw [isB_app rest (by simp), if_pos hb]
    simp only [List.tail_cons, List.cons_append] at h ⊢
    cases hm : mustF 2 [] q with
    | none => simp [hm] at h
    | some y =>
      obtain ⟨y1, y2⟩ := y
      rw [hm] at h
      rw [mustF_app rest hm]
      simp only [Option.some.injEq, Prod.mk.injEq] at h ⊢
      rw [h.1, h.2]
      exact ⟨rfl, rfl⟩
  · rw [if_neg hb] at h
    cases hm : mustF 3 [62, 61] ts with
    | none => simp [hm] at h
    | some y =>
      obtain ⟨y1, y2⟩ := y
      rw [hm] at h
      rw [isB_app rest (must_ne hm), if_neg hb, mustF_app rest hm]
      simp only at h ⊢
      cases hm2 : mustF 2 [] y2 with
      | none => simp [hm2] at h
      | some z =>
        obtain ⟨z1, z2⟩ := z
        rw [hm2] at h
        rw [mustF_app rest hm2]
        simp only [Option.some.injEq, Prod.mk.injEq] at h ⊢
        rw [h.1, h.2]
        exact ⟨rfl, rfl⟩
theorem digGo_app {rest : List Tok} : ∀ (n i : Nat) (d : Nat → Int) (ts : List Tok) (d' : Nat → Int) (r : List Tok), digGo n i d ts = some (d', r) → digGo n i d (ts ++ rest) = some (d', r ++ rest)
  | 0, i, d, ts, d', r, h => by simp [digGo] at h ⊢; exact ⟨h.1, h.2⟩
  | n + 1, i, d, ts, d', r, h => by
    unfold digGo at h ⊢
    cases hm : mustF 1 [] ts with
    | none => simp [hm] at h
    | some y =>
      obtain ⟨y1, y2⟩ := y
      rw [hm] at h
      rw [mustF_app rest hm]
      simp only at h ⊢
      by_cases hw : wordOk y1.s.toList = true
      · rw [if_pos hw] at h ⊢
        cases hg : inGo y1.s.toList i 4 0 d with
        | none => simp [hg] at h
        | some e =>
          rw [hg] at h
          exact digGo_app n _ _ _ _ _ h
      · rw [if_neg hw] at h
        cases h
theorem stageF_app {ts rest : List Tok} {x : Nd} {r : List Tok} (h : stageF ts = some (x, r)) : stageF (ts ++ rest) = some (x, r ++ rest) := by
  unfold stageF at h ⊢
  cases hm : mustF 2 [] ts with
  | none => simp [hm] at h
  | some y =>
    obtain ⟨y1, y2⟩ := y
    rw [hm] at h
    rw [mustF_app rest hm]
    simp only at h ⊢
    cases hm2 : mustF 1 tIs y2 with
    | none => simp [hm2] at h
    | some z =>
      obtain ⟨z1, z2⟩ := z
      rw [hm2] at h
      rw [mustF_app rest hm2]
      simp only at h ⊢
      cases hd : digestF z2 with
      | none => simp [hd] at h
      | some e =>
        obtain ⟨e1, e2⟩ := e
        rw [hd] at h
        unfold digestF at hd ⊢
        rw [digGo_app _ _ _ _ _ _ hd]
        simp only [Option.some.injEq, Prod.mk.injEq] at h ⊢
        rw [h.1, h.2]
        exact ⟨rfl, rfl⟩
theorem sideF_app {ts rest : List Tok} {x : Int} {r : List Tok} (h : sideF ts = some (x, r)) : sideF (ts ++ rest) = some (x, r ++ rest) := by
  unfold sideF at h ⊢
  by_cases hb : isB ts 1 tTrue = true
  · obtain ⟨t, q, rfl⟩ := isB_cons hb
    rw [if_pos hb] at h
    rw [isB_app rest (by simp), if_pos hb]
    simp at h ⊢
    exact ⟨h.1, h.2⟩
  · rw [if_neg hb] at h
    cases hm : mustF 1 tFalse ts with
    | none => simp [hm] at h
    | some y =>
      obtain ⟨y1, y2⟩ := y
      rw [hm] at h
      rw [isB_app rest (must_ne hm), if_neg hb, mustF_app rest hm]
      simp only [Option.some.injEq, Prod.mk.injEq] at h ⊢
      rw [h.2]
      exact ⟨h.1, rfl⟩
theorem pointF_app {ts rest : List Tok} {x : Nd} {r : List Tok} (h : pointF ts = some (x, r)) : pointF (ts ++ rest) = some (x, r ++ rest) := by
  unfold pointF at h ⊢
  cases hm : mustF 2 [] ts with
  | none => simp [hm] at h
  | some y =>
    obtain ⟨y1, y2⟩ := y
    rw [hm] at h
    rw [mustF_app rest hm]
    simp only at h ⊢
    cases hm2 : mustF 2 [] y2 with
    | none => simp [hm2] at h
    | some z =>
      obtain ⟨z1, z2⟩ := z
      rw [hm2] at h
      rw [mustF_app rest hm2]
      simp only at h ⊢
      cases hm3 : mustF 1 tTook z2 with
      | none => simp [hm3] at h
      | some v =>
        obtain ⟨v1, v2⟩ := v
        rw [hm3] at h
        rw [mustF_app rest hm3]
        simp only at h ⊢
        cases hd : sideF v2 with
        | none => simp [hd] at h
        | some e =>
          obtain ⟨e1, e2⟩ := e
          rw [hd] at h
          rw [sideF_app hd]
          simp only [Option.some.injEq, Prod.mk.injEq] at h ⊢
          rw [h.1, h.2]
          exact ⟨rfl, rfl⟩
theorem atomF_app {ts rest : List Tok} {x : Nd} {r : List Tok} (h : atomF ts = some (x, r)) : atomF (ts ++ rest) = some (x, r ++ rest) := by
  unfold atomF at h ⊢
  cases hm : mustF 1 [] ts with
  | none => simp [hm] at h
  | some y =>
    obtain ⟨t, q⟩ := y
    rw [hm] at h
    rw [mustF_app rest hm]
    simp only at h ⊢
    by_cases h1 : (t.s.toList == tAny) = true
    · rw [if_pos h1] at h ⊢
      simp only [Option.some.injEq, Prod.mk.injEq] at h ⊢
      rw [h.1, h.2]
      exact ⟨rfl, rfl⟩
    · rw [if_neg h1] at h ⊢
      by_cases h2 : (t.s.toList == tVersion) = true
      · rw [if_pos h2] at h ⊢; exact compareF_app h
      · rw [if_neg h2] at h ⊢
        by_cases h3 : (t.s.toList == tEpoch) = true
        · rw [if_pos h3] at h ⊢; exact compareF_app h
        · rw [if_neg h3] at h ⊢
          by_cases h4 : (t.s.toList == tStage) = true
          · rw [if_pos h4] at h ⊢; exact stageF_app h
          · rw [if_neg h4] at h ⊢
            by_cases h5 : (t.s.toList == tPoint) = true
            · rw [if_pos h5] at h ⊢; exact pointF_app h
            · rw [if_neg h5] at h; cases h
theorem atom_ne {ts : List Tok} {x : Nd × List Tok} (h : atomF ts = some x) : ts ≠ [] := by
  intro e
  subst e
  simp [atomF, mustF] at h
def AppT (f : List Tok → TRes) : Prop := ∀ ts rest a r, Stop rest → f ts = some (a, r) → f (ts ++ rest) = some (a, r ++ rest)
theorem chainGoT_app {f : List Tok → TRes} (hf : AppT f) {sg : List UInt8} {kd : Int} (hsg : sg = [38, 38] ∨ sg = [124, 124]) {rest : List Tok} (hr : Stop rest) :
    ∀ (m : Nat) (a : Ast) (ts : List Tok) (b : Ast) (r : List Tok), chainGoT f sg kd m a ts = some (b, r) → chainGoT f sg kd m a (ts ++ rest) = some (b, r ++ rest)
  | 0, a, ts, b, r, h => by simp [chainGoT] at h
  | m + 1, a, ts, b, r, h => by
    unfold chainGoT at h ⊢
    by_cases hb : isB ts 3 sg = true
    · obtain ⟨t, q, rfl⟩ := isB_cons hb
      rw [if_pos hb] at h
      rw [isB_app rest (by simp), if_pos hb]
      simp only [List.tail_cons, List.cons_append] at h ⊢
      cases hg : f q with
      | none => simp [hg] at h
      | some x =>
        obtain ⟨x1, x2⟩ := x
        rw [hg] at h
        rw [hf q rest x1 x2 hr hg]
        exact chainGoT_app hf hsg hr m _ _ _ _ h
    · rw [if_neg hb] at h
      simp only [Option.some.injEq, Prod.mk.injEq] at h
      obtain ⟨rfl, rfl⟩ := h
      have : isB (ts ++ rest) 3 sg = false := by
        cases ts with
        | nil =>
          rcases hsg with rfl | rfl
          · exact hr.1
          · exact hr.2
        | cons t q => rw [isB_app rest (by simp)]; simpa using hb
      rw [this]
      simp
theorem chainT_app {f : List Tok → TRes} (hf : AppT f) {sg : List UInt8} {kd : Int} {m : Nat} (hsg : sg = [38, 38] ∨ sg = [124, 124]) : AppT (chainT f sg kd m) := by
  intro ts rest a r hr h
  unfold chainT at h ⊢
  cases hg : f ts with
  | none => simp [hg] at h
  | some x =>
    obtain ⟨x1, x2⟩ := x
    rw [hg] at h
    rw [hf ts rest x1 x2 hr hg]
    exact chainGoT_app hf hsg hr m _ _ _ _ h
theorem notT_app : ∀ (n : Nat), AppT (notT n)
  | 0 => fun ts rest a r _ h => by simp [notT] at h
  | n + 1 => by
    intro ts rest a r hr h
    unfold notT at h ⊢
    by_cases h1 : isB ts 3 [33] = true
    · obtain ⟨t, q, rfl⟩ := isB_cons h1
      rw [if_pos h1] at h
      rw [isB_app rest (by simp), if_pos h1]
      simp only [List.tail_cons, List.cons_append] at h ⊢
      cases hg : notT n q with
      | none => simp [hg] at h
      | some x =>
        obtain ⟨x1, x2⟩ := x
        rw [hg] at h
        rw [notT_app n q rest x1 x2 hr hg]
        simp only [Option.some.injEq, Prod.mk.injEq] at h ⊢
        rw [h.1, h.2]
        exact ⟨rfl, rfl⟩
    · rw [if_neg h1] at h
      by_cases h2 : isB ts 3 [40] = true
      · obtain ⟨t, q, rfl⟩ := isB_cons h2
        rw [if_pos h2] at h
        rw [isB_app rest (by simp), isB_app rest (by simp), if_neg h1, if_pos h2]
        simp only [List.tail_cons, List.cons_append] at h ⊢
        cases hg : chainT (chainT (notT n) [38, 38] 9 n) [124, 124] 10 n q with
        | none => simp [hg] at h
        | some x =>
          obtain ⟨x1, x2⟩ := x
          rw [hg] at h
          rw [chainT_app (chainT_app (notT_app n) (Or.inl rfl)) (Or.inr rfl) q rest x1 x2 hr hg]
          simp only at h ⊢
          cases hm : mustF 3 [41] x2 with
          | none => simp [hm] at h
          | some y =>
            obtain ⟨y1, y2⟩ := y
            rw [hm] at h
            rw [mustF_app rest hm]
            simp only [Option.some.injEq, Prod.mk.injEq] at h ⊢
            rw [h.1, h.2]
            exact ⟨rfl, rfl⟩
      · rw [if_neg h2] at h
        cases hg : atomF ts with
        | none => simp [hg] at h
        | some x =>
          obtain ⟨x1, x2⟩ := x
          rw [hg] at h
          rw [isB_app rest (atom_ne hg), isB_app rest (atom_ne hg), if_neg h1, if_neg h2, atomF_app hg]
          simp only [Option.some.injEq, Prod.mk.injEq] at h ⊢
          rw [h.1, h.2]
          exact ⟨rfl, rfl⟩
theorem andT_app (n : Nat) : AppT (andT n) := chainT_app (notT_app n) (Or.inl rfl)
theorem polT_app (n : Nat) : AppT (polT n) := chainT_app (andT_app n) (Or.inr rfl)
end Go.Proofs.YtbojlnbdkaanmaaGreatDoor
