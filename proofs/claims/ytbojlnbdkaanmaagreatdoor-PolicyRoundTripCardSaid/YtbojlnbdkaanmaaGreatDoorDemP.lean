/-
  The laws of negation over texts, in plain Lean: what the texts put together parse to.
-/
import Derived.Test.YtbojlnbdkaanmaaGreatDoorPolT
namespace Go.Proofs.YtbojlnbdkaanmaaGreatDoor
open Go.RowKit
set_option linter.unusedSimpArgs false
set_option linter.unusedVariables false

/-! ### Places do not matter to the parser -/
theorem isB_er (ts : List Tok) (kd : Int) (tx : List UInt8) : isB (ts.map er) kd tx = isB ts kd tx := by cases ts <;> rfl
theorem tail_er (ts : List Tok) : (ts.map er).tail = ts.tail.map er := by cases ts <;> rfl
theorem mustF_er (kd : Int) (tx : List UInt8) (ts : List Tok) : mustF kd tx (ts.map er) = (mustF kd tx ts).map fun x => (er x.1, x.2.map er) := by
  cases ts with
  | nil => rfl
  | cons t r =>
    simp only [List.map_cons, mustF]
    rw [show isB (er t :: r.map er) kd tx = isB (t :: r) kd tx from rfl]
    split <;> rfl
theorem compareF_er (eq al : Int) (ts : List Tok) : compareF eq al (ts.map er) = (compareF eq al ts).map fun x => (x.1, x.2.map er) := by
  unfold compareF
  rw [isB_er, tail_er, mustF_er, mustF_er]
  split
  · cases mustF 2 [] ts.tail <;> rfl
  · cases mustF 3 [62, 61] ts with
    | none => rfl
    | some y =>
      simp only [Option.map_some]
      rw [mustF_er]
      cases mustF 2 [] y.2 <;> rfl
theorem digGo_er : ∀ (n i : Nat) (d : Nat → Int) (ts : List Tok), digGo n i d (ts.map er) = (digGo n i d ts).map fun x => (x.1, x.2.map er)
  | 0, _, _, _ => rfl
  | n + 1, i, d, ts => by
    unfold digGo
    rw [mustF_er]
    cases mustF 1 [] ts with
    | none => rfl
    | some y =>
      simp only [Option.map_some]
      rw [show (er y.1).s = y.1.s from rfl]
      split
      · cases inGo y.1.s.toList i 4 0 d with
        | none => rfl
        | some e => exact digGo_er n _ _ _
      · rfl
theorem stageF_er (ts : List Tok) : stageF (ts.map er) = (stageF ts).map fun x => (x.1, x.2.map er) := by
  unfold stageF
  rw [mustF_er]
  cases mustF 2 [] ts with
  | none => rfl
  | some y =>
    simp only [Option.map_some]
    rw [mustF_er]
    cases mustF 1 tIs y.2 with
    | none => rfl
    | some z =>
      simp only [Option.map_some]
      unfold digestF
      rw [digGo_er]
      cases digGo 4 0 (fun _ => 0) z.2 <;> rfl
theorem sideF_er (ts : List Tok) : sideF (ts.map er) = (sideF ts).map fun x => (x.1, x.2.map er) := by
  unfold sideF
  rw [isB_er, tail_er, mustF_er]
  split
  · rfl
  · cases mustF 1 tFalse ts <;> rfl
theorem pointF_er (ts : List Tok) : pointF (ts.map er) = (pointF ts).map fun x => (x.1, x.2.map er) := by
  unfold pointF
  rw [mustF_er]
  cases mustF 2 [] ts with
  | none => rfl
  | some y =>
    simp only [Option.map_some]
    rw [mustF_er]
    cases mustF 2 [] y.2 with
    | none => rfl
    | some z =>
      simp only [Option.map_some]
      rw [mustF_er]
      cases mustF 1 tTook z.2 with
      | none => rfl
      | some v =>
        simp only [Option.map_some]
        rw [sideF_er]
        cases sideF v.2 <;> rfl
theorem atomF_er (ts : List Tok) : atomF (ts.map er) = (atomF ts).map fun x => (x.1, x.2.map er) := by
  unfold atomF
  rw [mustF_er]
  cases mustF 1 [] ts with
  | none => rfl
  | some y =>
    simp only [Option.map_some]
    rw [show (er y.1).s = y.1.s from rfl]
    split
    · rfl
    · split
      · exact compareF_er _ _ _
      · split
        · exact compareF_er _ _ _
        · split
          · exact stageF_er _
          · split
            · exact pointF_er _
            · rfl
def ErT (f : List Tok → TRes) : Prop := ∀ ts, f (ts.map er) = (f ts).map fun x => (x.1, x.2.map er)
theorem chainGoT_er {f : List Tok → TRes} (hf : ErT f) (sg : List UInt8) (kd : Int) : ∀ (m : Nat) (a : Ast) (ts : List Tok), chainGoT f sg kd m a (ts.map er) = (chainGoT f sg kd m a ts).map fun x => (x.1, x.2.map er)
  | 0, _, _ => rfl
  | m + 1, a, ts => by
    unfold chainGoT
    rw [isB_er, tail_er, hf]
    split
    · cases f ts.tail with
      | none => rfl
      | some x => exact chainGoT_er hf sg kd m _ _
    · rfl
theorem chainT_er {f : List Tok → TRes} (hf : ErT f) (sg : List UInt8) (kd : Int) (m : Nat) : ErT (chainT f sg kd m) := by
  intro ts
  unfold chainT
  rw [hf]
  cases f ts with
  | none => rfl
  | some x => exact chainGoT_er hf sg kd m _ _
theorem notT_er : ∀ (n : Nat), ErT (notT n)
  | 0 => fun _ => rfl
  | n + 1 => by
    intro ts
    unfold notT
    rw [isB_er, isB_er, tail_er, notT_er n, chainT_er (chainT_er (notT_er n) _ _ _) _ _ _, atomF_er]
    split
    · cases notT n ts.tail <;> rfl
    · split
      · cases chainT (chainT (notT n) [38, 38] 9 n) [124, 124] 10 n ts.tail with
        | none => rfl
        | some x =>
          simp only [Option.map_some]
          rw [mustF_er]
          cases mustF 3 [41] x.2 <;> rfl
      · cases atomF ts <;> rfl
theorem treeT_er (ts : List Tok) : treeT (ts.map er) = treeT ts := by
  unfold treeT polT andT
  rw [List.length_map, chainT_er (chainT_er (notT_er _) _ _ _) _ _ _]
  cases chainT (chainT (notT (ts.length + 1)) [38, 38] 9 (ts.length + 1)) [124, 124] 10 (ts.length + 1) ts with
  | none => rfl
  | some x =>
    simp only [Option.map_some]
    have : (x.2.map er).isEmpty = x.2.isEmpty := by cases x.2 <;> rfl
    rw [this]
/-- A text that parses, without places. -/
theorem Parsed.lexed {s : ByteArray} {t : Ast} {ts : List Tok} (h : Parsed s t ts) : lexL s.toList = some (ts.map er) ∧ treeT (ts.map er) = some t := by
  refine ⟨?_, by rw [treeT_er]; exact h.tree⟩
  rw [← lexF_er, h.lex]
  rfl
/-- What a text parses to is what its tokens without places do. -/
theorem Parsed.is {s : ByteArray} {t T : Ast} {ts us : List Tok} (h : Parsed s t ts) (hl : lexL s.toList = some us) (ht : treeT us = some T) : t = T := by
  obtain ⟨h1, h2⟩ := h.lexed
  rw [hl] at h1
  injection h1 with h1
  rw [← h1, ht] at h2
  injection h2 with h2
  exact h2.symm

/-! ### Parts put together -/
theorem pol_in {ua : List Tok} {A : Ast} (h : treeT ua = some A) {n : Nat} (hn : ua.length < n) {rest : List Tok} (hr : Stop rest) : polT n (ua ++ rest) = some (A, rest) := by
  unfold treeT at h
  cases hp : polT (ua.length + 1) ua with
  | none => simp [hp] at h
  | some x =>
    obtain ⟨x1, x2⟩ := x
    simp [hp] at h
    obtain ⟨h1, h2⟩ := h
    subst h1
    subst h2
    have := polT_app n ua rest x1 [] hr (by rw [polT_agree n (ua.length + 1) ua hn (by omega)]; exact hp)
    simpa using this
theorem stop_shut (rest : List Tok) : Stop (sgT [41] :: rest) := ⟨by simp [isB, sgT, toList_mk], by simp [isB, sgT, toList_mk]⟩
theorem stop_nil : Stop [] := ⟨rfl, rfl⟩
theorem not_paren {ua : List Tok} {A : Ast} (h : treeT ua = some A) {n : Nat} (hn : ua.length < n) (rest : List Tok) : notT (n + 1) (sgT [40] :: (ua ++ sgT [41] :: rest)) = some (A, rest) := by
  have hp := pol_in h hn (stop_shut rest)
  unfold polT andT at hp
  unfold notT
  rw [if_neg (by simp [isB, sgT, toList_mk]), if_pos (by simp [isB, sgT, toList_mk])]
  simp only [List.tail_cons]
  rw [hp]
  simp [mustF, isB, sgT, toList_mk]
theorem not_bang {t : Ast} {n : Nat} {ts rest : List Tok} (h : notT n ts = some (t, rest)) : notT (n + 1) (sgT [33] :: ts) = some (.neg t, rest) := by
  unfold notT
  rw [if_pos (by simp [isB, sgT, toList_mk])]
  simp only [List.tail_cons]
  rw [h]
theorem and_one_ {t : Ast} {n : Nat} {ts rest : List Tok} (hn : 0 < n) (h : notT n ts = some (t, rest)) (hr : isB rest 3 [38, 38] = false) : andT n ts = some (t, rest) := by
  unfold andT chainT
  rw [h]
  obtain ⟨m, rfl⟩ : ∃ m, n = m + 1 := ⟨n - 1, by omega⟩
  simp only []
  unfold chainGoT
  rw [if_neg (by rw [hr]; simp)]
theorem pol_one {t : Ast} {n : Nat} {ts rest : List Tok} (hn : 0 < n) (h : andT n ts = some (t, rest)) (hr : isB rest 3 [124, 124] = false) : polT n ts = some (t, rest) := by
  unfold polT chainT
  rw [h]
  obtain ⟨m, rfl⟩ : ∃ m, n = m + 1 := ⟨n - 1, by omega⟩
  simp only []
  unfold chainGoT
  rw [if_neg (by rw [hr]; simp)]
theorem and_two {a b : Ast} {n : Nat} {ts us rest : List Tok} (hn : 1 < n) (h : notT n ts = some (a, sgT [38, 38] :: us)) (k : notT n us = some (b, rest)) (hr : isB rest 3 [38, 38] = false) : andT n ts = some (.bin 9 a b, rest) := by
  unfold andT chainT
  rw [h]
  obtain ⟨m, rfl⟩ : ∃ m, n = m + 2 := ⟨n - 2, by omega⟩
  simp only []
  unfold chainGoT
  rw [if_pos (by simp [isB, sgT, toList_mk])]
  simp only [List.tail_cons]
  rw [k]
  simp only []
  unfold chainGoT
  rw [if_neg (by rw [hr]; simp)]
theorem pol_two {a b : Ast} {n : Nat} {ts us rest : List Tok} (hn : 1 < n) (h : andT n ts = some (a, sgT [124, 124] :: us)) (k : andT n us = some (b, rest)) (hr : isB rest 3 [124, 124] = false) : polT n ts = some (.bin 10 a b, rest) := by
  unfold polT chainT
  rw [h]
  obtain ⟨m, rfl⟩ : ∃ m, n = m + 2 := ⟨n - 2, by omega⟩
  simp only []
  unfold chainGoT
  rw [if_pos (by simp [isB, sgT, toList_mk])]
  simp only [List.tail_cons]
  rw [k]
  simp only []
  unfold chainGoT
  rw [if_neg (by rw [hr]; simp)]
theorem tree_of {us : List Tok} {T : Ast} (h : polT (us.length + 1) us = some (T, [])) : treeT us = some T := by
  unfold treeT
  rw [h]
  rfl
theorem nb_and (us : List Tok) : isB (sgT [38, 38] :: us) 3 [124, 124] = false := by simp [isB, sgT, toList_mk]
theorem nb_or (us : List Tok) : isB (sgT [124, 124] :: us) 3 [38, 38] = false := by simp [isB, sgT, toList_mk]
def leafAny : Ast := .leaf (mkN 1 0 0 0)
theorem not_any {n : Nat} (rest : List Tok) : notT (n + 1) (wdT tAny :: rest) = some (leafAny, rest) := by
  unfold notT
  rw [if_neg (by simp [isB, wdT, toList_mk]), if_neg (by simp [isB, wdT, toList_mk])]
  simp [atomF, mustF, isB, wdT, toList_mk, leafAny]

section
variable {ua ub : List Tok} {A B : Ast}
def cNotAnd (ua ub : List Tok) : List Tok := sgT [33] :: sgT [40] :: (sgT [40] :: (ua ++ sgT [41] :: sgT [38, 38] :: sgT [40] :: (ub ++ [sgT [41]])) ++ [sgT [41]])
def cNotOr (ua ub : List Tok) : List Tok := sgT [33] :: sgT [40] :: (sgT [40] :: (ua ++ sgT [41] :: sgT [124, 124] :: sgT [40] :: (ub ++ [sgT [41]])) ++ [sgT [41]])
def cNots (o : List UInt8) (ua ub : List Tok) : List Tok := sgT [33] :: sgT [40] :: (ua ++ sgT [41] :: sgT o :: sgT [33] :: sgT [40] :: (ub ++ [sgT [41]]))
def cNotNot (ua : List Tok) : List Tok := sgT [33] :: sgT [33] :: sgT [40] :: (ua ++ [sgT [41]])
def cAny (o : List UInt8) (ua : List Tok) : List Tok := sgT [40] :: (ua ++ [sgT [41], sgT o, wdT tAny])
theorem tree_and (ha : treeT ua = some A) (hb : treeT ub = some B) : treeT (sgT [40] :: (ua ++ sgT [41] :: sgT [38, 38] :: sgT [40] :: (ub ++ [sgT [41]]))) = some (.bin 9 A B) := by
  refine tree_of ?_
  simp only [List.length_cons, List.length_append, List.length_nil]
  refine pol_one (by omega) (and_two (by omega) (not_paren ha (by omega) _) (not_paren hb (by omega) _) rfl) rfl
theorem tree_or (ha : treeT ua = some A) (hb : treeT ub = some B) : treeT (sgT [40] :: (ua ++ sgT [41] :: sgT [124, 124] :: sgT [40] :: (ub ++ [sgT [41]]))) = some (.bin 10 A B) := by
  refine tree_of ?_
  simp only [List.length_cons, List.length_append, List.length_nil]
  refine pol_two (by omega) (and_one_ (by omega) (not_paren ha (by omega) _) (nb_or _)) (and_one_ (by omega) (not_paren hb (by omega) _) rfl) rfl
theorem tree_notAnd (ha : treeT ua = some A) (hb : treeT ub = some B) : treeT (cNotAnd ua ub) = some (.neg (.bin 9 A B)) := by
  refine tree_of ?_
  unfold cNotAnd
  simp only [List.length_cons, List.length_append, List.length_nil]
  refine pol_one (by omega) (and_one_ (by omega) (not_bang (not_paren (tree_and ha hb) (by simp only [List.length_cons, List.length_append, List.length_nil]; omega) [])) rfl) rfl
theorem tree_notOr (ha : treeT ua = some A) (hb : treeT ub = some B) : treeT (cNotOr ua ub) = some (.neg (.bin 10 A B)) := by
  refine tree_of ?_
  unfold cNotOr
  simp only [List.length_cons, List.length_append, List.length_nil]
  refine pol_one (by omega) (and_one_ (by omega) (not_bang (not_paren (tree_or ha hb) (by simp only [List.length_cons, List.length_append, List.length_nil]; omega) [])) rfl) rfl
theorem tree_nots_or (ha : treeT ua = some A) (hb : treeT ub = some B) : treeT (cNots [124, 124] ua ub) = some (.bin 10 (.neg A) (.neg B)) := by
  refine tree_of ?_
  unfold cNots
  simp only [List.length_cons, List.length_append, List.length_nil]
  refine pol_two (by omega) (and_one_ (by omega) (not_bang (not_paren ha (by omega) _)) (nb_or _)) (and_one_ (by omega) (not_bang (not_paren hb (by omega) _)) rfl) rfl
theorem tree_nots_and (ha : treeT ua = some A) (hb : treeT ub = some B) : treeT (cNots [38, 38] ua ub) = some (.bin 9 (.neg A) (.neg B)) := by
  refine tree_of ?_
  unfold cNots
  simp only [List.length_cons, List.length_append, List.length_nil]
  refine pol_one (by omega) (and_two (by omega) (not_bang (not_paren ha (by omega) _)) (not_bang (not_paren hb (by omega) _)) rfl) rfl
theorem tree_notNot (ha : treeT ua = some A) : treeT (cNotNot ua) = some (.neg (.neg A)) := by
  refine tree_of ?_
  unfold cNotNot
  simp only [List.length_cons, List.length_append, List.length_nil]
  refine pol_one (by omega) (and_one_ (by omega) (not_bang (not_bang (not_paren ha (by omega) _))) rfl) rfl
theorem tree_andAny (ha : treeT ua = some A) : treeT (cAny [38, 38] ua) = some (.bin 9 A leafAny) := by
  refine tree_of ?_
  unfold cAny
  simp only [List.length_cons, List.length_append, List.length_nil]
  refine pol_one (by omega) (and_two (by omega) (not_paren ha (by omega) _) (not_any []) rfl) rfl
theorem tree_orAny (ha : treeT ua = some A) : treeT (cAny [124, 124] ua) = some (.bin 10 A leafAny) := by
  refine tree_of ?_
  unfold cAny
  simp only [List.length_cons, List.length_append, List.length_nil]
  refine pol_two (by omega) (and_one_ (by omega) (not_paren ha (by omega) _) (nb_or _)) (and_one_ (by omega) (not_any []) rfl) rfl
theorem tree_any1 : treeT [wdT tAny] = some leafAny := by
  refine tree_of ?_
  exact pol_one (by omega) (and_one_ (by omega) (not_any []) rfl) rfl
end

/-! ### The texts -/
theorem toList_app (x y : ByteArray) : (x ++ y).toList = x.toList ++ y.toList := by
  rw [ByteArray.toList_eq, ByteArray.toList_eq, ByteArray.toList_eq, ByteArray.data_append, Array.toList_append]
theorem bnd_shut (l : List UInt8) : Bnd (41 :: l) := by
  intro c h
  simp at h
  subst h
  exact ⟨by decide, by decide, by decide, by decide⟩
theorem bnd_nil : Bnd [] := fun c h => by cases h
theorem lex_in {l : List UInt8} {ts : List Tok} (h : lexL l = some ts) (rest : List UInt8) : lexL (l ++ 41 :: rest) = (lexL rest).map fun r => ts ++ sgT [41] :: r := by
  rw [lexL_app l.length l ts _ (Nat.le_refl _) (bnd_shut rest) h, lexL_shut, Option.map_map]
  rfl
theorem lex_any1 : lexL [97, 110, 121] = some [wdT tAny] := by
  have := lexL_word 97 [110, 121] [] (by decide) (by decide) (by decide) bnd_nil
  rw [lexL_nil] at this
  exact this
section
variable {a b : List UInt8} {ua ub : List Tok}
theorem lex_notAnd (ha : lexL a = some ua) (hb : lexL b = some ub) : lexL (33 :: 40 :: 40 :: (a ++ 41 :: 32 :: 38 :: 38 :: 32 :: 40 :: (b ++ [41, 41]))) = some (cNotAnd ua ub) := by
  rw [lexL_bang, lexL_open, lexL_open, lex_in ha, lexL_sp, lexL_and, lexL_sp, lexL_open, lex_in hb, lexL_shut, lexL_nil]
  simp [cNotAnd]
theorem lex_notOr (ha : lexL a = some ua) (hb : lexL b = some ub) : lexL (33 :: 40 :: 40 :: (a ++ 41 :: 32 :: 124 :: 124 :: 32 :: 40 :: (b ++ [41, 41]))) = some (cNotOr ua ub) := by
  rw [lexL_bang, lexL_open, lexL_open, lex_in ha, lexL_sp, lexL_or, lexL_sp, lexL_open, lex_in hb, lexL_shut, lexL_nil]
  simp [cNotOr]
theorem lex_nots_or (ha : lexL a = some ua) (hb : lexL b = some ub) : lexL (33 :: 40 :: (a ++ 41 :: 32 :: 124 :: 124 :: 32 :: 33 :: 40 :: (b ++ [41]))) = some (cNots [124, 124] ua ub) := by
  rw [lexL_bang, lexL_open, lex_in ha, lexL_sp, lexL_or, lexL_sp, lexL_bang, lexL_open, lex_in hb, lexL_nil]
  simp [cNots]
theorem lex_nots_and (ha : lexL a = some ua) (hb : lexL b = some ub) : lexL (33 :: 40 :: (a ++ 41 :: 32 :: 38 :: 38 :: 32 :: 33 :: 40 :: (b ++ [41]))) = some (cNots [38, 38] ua ub) := by
  rw [lexL_bang, lexL_open, lex_in ha, lexL_sp, lexL_and, lexL_sp, lexL_bang, lexL_open, lex_in hb, lexL_nil]
  simp [cNots]
theorem lex_notNot (ha : lexL a = some ua) : lexL (33 :: 33 :: 40 :: (a ++ [41])) = some (cNotNot ua) := by
  rw [lexL_bang, lexL_bang, lexL_open, lex_in ha, lexL_nil]
  simp [cNotNot]
theorem lex_andAny (ha : lexL a = some ua) : lexL (40 :: (a ++ 41 :: 32 :: 38 :: 38 :: 32 :: [97, 110, 121])) = some (cAny [38, 38] ua) := by
  rw [lexL_open, lex_in ha, lexL_sp, lexL_and, lexL_sp, lex_any1]
  simp [cAny]
theorem lex_orAny (ha : lexL a = some ua) : lexL (40 :: (a ++ 41 :: 32 :: 124 :: 124 :: 32 :: [97, 110, 121])) = some (cAny [124, 124] ua) := by
  rw [lexL_open, lex_in ha, lexL_sp, lexL_or, lexL_sp, lex_any1]
  simp [cAny]
end
/-- The texts that the law puts together. -/
def leftS (a b : ByteArray) : List ByteArray := [⟨#[33, 40, 40]⟩ ++ a ++ ⟨#[41, 32, 38, 38, 32, 40]⟩ ++ b ++ ⟨#[41, 41]⟩, ⟨#[33, 33, 40]⟩ ++ a ++ ⟨#[41]⟩, ⟨#[40]⟩ ++ a ++ ⟨#[41, 32, 38, 38, 32, 97, 110, 121]⟩, ⟨#[40]⟩ ++ a ++ ⟨#[41, 32, 124, 124, 32, 97, 110, 121]⟩, ⟨#[33, 40, 40]⟩ ++ a ++ ⟨#[41, 32, 124, 124, 32, 40]⟩ ++ b ++ ⟨#[41, 41]⟩]
def rightS (a b : ByteArray) : List ByteArray := [⟨#[33, 40]⟩ ++ a ++ ⟨#[41, 32, 124, 124, 32, 33, 40]⟩ ++ b ++ ⟨#[41]⟩, a, a, ⟨#[97, 110, 121]⟩, ⟨#[33, 40]⟩ ++ a ++ ⟨#[41, 32, 38, 38, 32, 33, 40]⟩ ++ b ++ ⟨#[41]⟩]
theorem mk_list (l : List UInt8) : (⟨l.toArray⟩ : ByteArray).toList = l := toList_mk l
theorem deMorgan_eq {a b : ByteArray} {A B : Ast} {ta tb : List Tok} (ha : Parsed a A ta) (hb : Parsed b B tb) (i : Nat) (x y : ByteArray) (hx : (leftS a b)[i]? = some x) (hy : (rightS a b)[i]? = some y) {t u : Ast} {tx ty : List Tok} (px : Parsed x t tx) (py : Parsed y u ty) (F : Fct) : evalT F t = evalT F u := by
  obtain ⟨la, ea⟩ := ha.lexed
  obtain ⟨lb, eb⟩ := hb.lexed
  have hi : i < 5 := by
    have := (List.getElem?_eq_some_iff.1 hx).1
    simpa [leftS] using this
  have ba := evalT_b F A
  have bb := evalT_b F B
  have hany : evalT F leafAny = 1 := rfl
  have h5 : i = 0 ∨ i = 1 ∨ i = 2 ∨ i = 3 ∨ i = 4 := by omega
  rcases h5 with rfl | rfl | rfl | rfl | rfl
  · injection hx with hx
    injection hy with hy
    subst hx
    subst hy
    have e1 := px.is (T := .neg (.bin 9 A B)) (us := cNotAnd (ta.map er) (tb.map er)) (by simp only [toList_app]; rw [mk_list [33, 40, 40], mk_list [41, 32, 38, 38, 32, 40], mk_list [41, 41]]; simpa using lex_notAnd la lb) (tree_notAnd ea eb)
    have e2 := py.is (T := .bin 10 (.neg A) (.neg B)) (us := cNots [124, 124] (ta.map er) (tb.map er)) (by simp only [toList_app]; rw [mk_list [33, 40], mk_list [41, 32, 124, 124, 32, 33, 40], mk_list [41]]; simpa using lex_nots_or la lb) (tree_nots_or ea eb)
    subst e1
    subst e2
    exact deMorgan1 _ _ ba bb
  · injection hx with hx
    injection hy with hy
    subst hx
    subst hy
    have e1 := px.is (T := .neg (.neg A)) (us := cNotNot (ta.map er)) (by simp only [toList_app]; rw [mk_list [33, 33, 40], mk_list [41]]; simpa using lex_notNot la) (tree_notNot ea)
    have e2 := py.is la ea
    subst e1
    subst e2
    exact not_not ba
  · injection hx with hx
    injection hy with hy
    subst hx
    subst hy
    have e1 := px.is (T := .bin 9 A leafAny) (us := cAny [38, 38] (ta.map er)) (by simp only [toList_app]; rw [mk_list [40], mk_list [41, 32, 38, 38, 32, 97, 110, 121]]; simpa using lex_andAny la) (tree_andAny ea)
    have e2 := py.is la ea
    subst e1
    subst e2
    show andI (evalT F u) (evalT F leafAny) = _
    rw [hany]
    exact and_one _ ba
  · injection hx with hx
    injection hy with hy
    subst hx
    subst hy
    have e1 := px.is (T := .bin 10 A leafAny) (us := cAny [124, 124] (ta.map er)) (by simp only [toList_app]; rw [mk_list [40], mk_list [41, 32, 124, 124, 32, 97, 110, 121]]; simpa using lex_orAny la) (tree_orAny ea)
    have e2 := py.is (T := leafAny) (us := [wdT tAny]) (by rw [mk_list [97, 110, 121]]; exact lex_any1) tree_any1
    subst e1
    subst e2
    show orI (evalT F A) (evalT F leafAny) = _
    rw [hany]
    exact or_one _
  · injection hx with hx
    injection hy with hy
    subst hx
    subst hy
    have e1 := px.is (T := .neg (.bin 10 A B)) (us := cNotOr (ta.map er) (tb.map er)) (by simp only [toList_app]; rw [mk_list [33, 40, 40], mk_list [41, 32, 124, 124, 32, 40], mk_list [41, 41]]; simpa using lex_notOr la lb) (tree_notOr ea eb)
    have e2 := py.is (T := .bin 9 (.neg A) (.neg B)) (us := cNots [38, 38] (ta.map er) (tb.map er)) (by simp only [toList_app]; rw [mk_list [33, 40], mk_list [41, 32, 38, 38, 32, 33, 40], mk_list [41]]; simpa using lex_nots_and la lb) (tree_nots_and ea eb)
    subst e1
    subst e2
    exact deMorgan2 _ _ ba bb
end Go.Proofs.YtbojlnbdkaanmaaGreatDoor
