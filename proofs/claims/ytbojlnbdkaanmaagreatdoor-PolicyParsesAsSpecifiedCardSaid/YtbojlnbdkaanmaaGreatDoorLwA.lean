/-
  The laws of negation over texts, in plain Lean: what the texts put together parse to. The program's Parse at a text of any length. The round trip in plain Lean: the text of a tree is read back as the tree. The reference's Same: two policies of the same nodes are the same. The program's words: a digest written out in words. slices.Compact at points: equal neighbours are one: the plain law and the walk, at any length. PolicyRoundTrip: its walk: it answers true, and nothing that stood is touched.
-/
import Derived.Test.YtbojlnbdkaanmaaGreatDoorPolT
import Derived.Test.YtbojlnbdkaanmaaGreatDoorParse
import Derived.Test.YtbojlnbdkaanmaaGreatDoorTxtA
import Derived.Test.YtbojlnbdkaanmaaGreatDoorEqA
import Derived.Test.YtbojlnbdkaanmaaGreatDoorRef0
import Derived.Test.YtbojlnbdkaanmaaGreatDoorLoadAt
import Derived.Test.YtbojlnbdkaanmaaGreatDoorReg
import Derived.Test.YtbojlnbdkaanmaaGreatDoorEvC
import Derived.Test.YtbojlnbdkaanmaaGreatDoorPtsA
import Derived.Outline
import Derived.Test.YtbojlnbdkaanmaaGreatDoorTxtB
import Derived.Lib.AppendStr
import Derived.Test.YtbojlnbdkaanmaaGreatDoorPrs
import Derived.Test.YtbojlnbdkaanmaaGreatDoorTk
import Derived.Deep.MidRow
import Derived.Test.YtbojlnbdkaanmaaGreatDoorSanB
namespace Go.Proofs.YtbojlnbdkaanmaaGreatDoor
open Go.RowKit
set_option linter.unusedSimpArgs false
set_option linter.unusedVariables false

/-! ### Places do not matter to the parser -/
theorem isB_er (ts : List Tok) (kd : Int) (tx : List UInt8) : isB (ts.map er) kd tx = isB ts kd tx := by cases ts <;> rfl
theorem tail_er (ts : List Tok) : (ts.map er).tail = ts.tail.map er := by cases ts <;> rfl
theorem mustF_er (kd : Int) (tx : List UInt8) (ts : List Tok) : mustF kd tx (ts.map er) = (mustF kd tx ts).map fun x => (er x.1, x.2.map er) := by
  cases ts with
  | nil => rfl
  | cons t r =>
    simp only [List.map_cons, mustF]
    rw [show isB (er t :: r.map er) kd tx = isB (t :: r) kd tx from rfl]
    split <;> rfl
theorem compareF_er (eq al : Int) (ts : List Tok) : compareF eq al (ts.map er) = (compareF eq al ts).map fun x => (x.1, x.2.map er) := by
  unfold compareF
  rw [isB_er, tail_er, mustF_er, mustF_er]
  split
  · cases mustF 2 [] ts.tail <;> rfl
  · cases mustF 3 [62, 61] ts with
    | none => rfl
    | some y =>
      simp only [Option.map_some]
      rw [mustF_er]
      cases mustF 2 [] y.2 <;> rfl
theorem digGo_er : ∀ (n i : Nat) (d : Nat → Int) (ts : List Tok), digGo n i d (ts.map er) = (digGo n i d ts).map fun x => (x.1, x.2.map er)
  | 0, _, _, _ => rfl
  | n + 1, i, d, ts => by
    unfold digGo
    rw [mustF_er]
    cases mustF 1 [] ts with
    | none => rfl
    | some y =>
      simp only [Option.map_some]
      rw [show (er y.1).s = y.1.s from rfl]
      split
      · cases inGo y.1.s.toList i 4 0 d with
        | none => rfl
        | some e => exact digGo_er n _ _ _
      · rfl
theorem stageF_er (ts : List Tok) : stageF (ts.map er) = (stageF ts).map fun x => (x.1, x.2.map er) := by
  unfold stageF
  rw [mustF_er]
  cases mustF 2 [] ts with
  | none => rfl
  | some y =>
    simp only [Option.map_some]
    rw [mustF_er]
    cases mustF 1 tIs y.2 with
    | none => rfl
    | some z =>
      simp only [Option.map_some]
      unfold digestF
      rw [digGo_er]
      cases digGo 4 0 (fun _ => 0) z.2 <;> rfl
theorem sideF_er (ts : List Tok) : sideF (ts.map er) = (sideF ts).map fun x => (x.1, x.2.map er) := by
  unfold sideF
  rw [isB_er, tail_er, mustF_er]
  split
  · rfl
  · cases mustF 1 tFalse ts <;> rfl
theorem pointF_er (ts : List Tok) : pointF (ts.map er) = (pointF ts).map fun x => (x.1, x.2.map er) := by
  unfold pointF
  rw [mustF_er]
  cases mustF 2 [] ts with
  | none => rfl
  | some y =>
    simp only [Option.map_some]
    rw [mustF_er]
    cases mustF 2 [] y.2 with
    | none => rfl
    | some z =>
      simp only [Option.map_some]
      rw [mustF_er]
      cases mustF 1 tTook z.2 with
      | none => rfl
      | some v =>
        simp only [Option.map_some]
        rw [sideF_er]
        cases sideF v.2 <;> rfl
theorem atomF_er (ts : List Tok) : atomF (ts.map er) = (atomF ts).map fun x => (x.1, x.2.map er) := by
  unfold atomF
  rw [mustF_er]
  cases mustF 1 [] ts with
  | none => rfl
  | some y =>
    simp only [Option.map_some]
    rw [show (er y.1).s = y.1.s from rfl]
    split
    · rfl
    · split
      · exact compareF_er _ _ _
      · split
        · exact compareF_er _ _ _
        · split
          · exact stageF_er _
          · split
            · exact pointF_er _
            · rfl
def ErT (f : List Tok → TRes) : Prop := ∀ ts, f (ts.map er) = (f ts).map fun x => (x.1, x.2.map er)
theorem chainGoT_er {f : List Tok → TRes} (hf : ErT f) (sg : List UInt8) (kd : Int) : ∀ (m : Nat) (a : Ast) (ts : List Tok), chainGoT f sg kd m a (ts.map er) = (chainGoT f sg kd m a ts).map fun x => (x.1, x.2.map er)
  | 0, _, _ => rfl
  | m + 1, a, ts => by
    unfold chainGoT
    rw [isB_er, tail_er, hf]
    split
    · cases f ts.tail with
      | none => rfl
      | some x => exact chainGoT_er hf sg kd m _ _
    · rfl
theorem chainT_er {f : List Tok → TRes} (hf : ErT f) (sg : List UInt8) (kd : Int) (m : Nat) : ErT (chainT f sg kd m) := by
  intro ts
  unfold chainT
  rw [hf]
  cases f ts with
  | none => rfl
  | some x => exact chainGoT_er hf sg kd m _ _
theorem notT_er : ∀ (n : Nat), ErT (notT n)
  | 0 => fun _ => rfl
  | n + 1 => by
    intro ts
    unfold notT
    rw [isB_er, isB_er, tail_er, notT_er n, chainT_er (chainT_er (notT_er n) _ _ _) _ _ _, atomF_er]
    split
    · cases notT n ts.tail <;> rfl
    · split
      · cases chainT (chainT (notT n) [38, 38] 9 n) [124, 124] 10 n ts.tail with
        | none => rfl
        | some x =>
          simp only [Option.map_some]
          rw [mustF_er]
          cases mustF 3 [41] x.2 <;> rfl
      · cases atomF ts <;> rfl
theorem treeT_er (ts : List Tok) : treeT (ts.map er) = treeT ts := by
  unfold treeT polT andT
  rw [List.length_map, chainT_er (chainT_er (notT_er _) _ _ _) _ _ _]
  cases chainT (chainT (notT (ts.length + 1)) [38, 38] 9 (ts.length + 1)) [124, 124] 10 (ts.length + 1) ts with
  | none => rfl
  | some x =>
    simp only [Option.map_some]
    have : (x.2.map er).isEmpty = x.2.isEmpty := by cases x.2 <;> rfl
    rw [this]
/-- A text that parses, without places. -/
theorem Parsed.lexed {s : ByteArray} {t : Ast} {ts : List Tok} (h : Parsed s t ts) : lexL s.toList = some (ts.map er) ∧ treeT (ts.map er) = some t := by
  refine ⟨?_, by rw [treeT_er]; exact h.tree⟩
  rw [← lexF_er, h.lex]
  rfl
/-- What a text parses to is what its tokens without places do. -/
theorem Parsed.is {s : ByteArray} {t T : Ast} {ts us : List Tok} (h : Parsed s t ts) (hl : lexL s.toList = some us) (ht : treeT us = some T) : t = T := by
  obtain ⟨h1, h2⟩ := h.lexed
  rw [hl] at h1
  injection h1 with h1
  rw [← h1, ht] at h2
  injection h2 with h2
  exact h2.symm

/-! ### Parts put together -/
theorem pol_in {ua : List Tok} {A : Ast} (h : treeT ua = some A) {n : Nat} (hn : ua.length < n) {rest : List Tok} (hr : Stop rest) : polT n (ua ++ rest) = some (A, rest) := by
  unfold treeT at h
  cases hp : polT (ua.length + 1) ua with
  | none => simp [hp] at h
  | some x =>
    obtain ⟨x1, x2⟩ := x
    simp [hp] at h
    obtain ⟨h1, h2⟩ := h
    subst h1
    subst h2
    have := polT_app n ua rest x1 [] hr (by rw [polT_agree n (ua.length + 1) ua hn (by omega)]; exact hp)
    simpa using this
theorem stop_shut (rest : List Tok) : Stop (sgT [41] :: rest) := ⟨by simp [isB, sgT, toList_mk], by simp [isB, sgT, toList_mk]⟩
theorem stop_nil : Stop [] := ⟨rfl, rfl⟩
theorem not_paren {ua : List Tok} {A : Ast} (h : treeT ua = some A) {n : Nat} (hn : ua.length < n) (rest : List Tok) : notT (n + 1) (sgT [40] :: (ua ++ sgT [41] :: rest)) = some (A, rest) := by
  have hp := pol_in h hn (stop_shut rest)
  unfold polT andT at hp
  unfold notT
  rw [if_neg (by simp [isB, sgT, toList_mk]), if_pos (by simp [isB, sgT, toList_mk])]
  simp only [List.tail_cons]
  rw [hp]
  simp [mustF, isB, sgT, toList_mk]
theorem not_bang {t : Ast} {n : Nat} {ts rest : List Tok} (h : notT n ts = some (t, rest)) : notT (n + 1) (sgT [33] :: ts) = some (.neg t, rest) := by
  unfold notT
  rw [if_pos (by simp [isB, sgT, toList_mk])]
  simp only [List.tail_cons]
  rw [h]
theorem and_one_ {t : Ast} {n : Nat} {ts rest : List Tok} (hn : 0 < n) (h : notT n ts = some (t, rest)) (hr : isB rest 3 [38, 38] = false) : andT n ts = some (t, rest) := by
  unfold andT chainT
  rw [h]
  obtain ⟨m, rfl⟩ : ∃ m, n = m + 1 := ⟨n - 1, by omega⟩
  simp only []
  unfold chainGoT
  rw [if_neg (by rw [hr]; simp)]
theorem pol_one {t : Ast} {n : Nat} {ts rest : List Tok} (hn : 0 < n) (h : andT n ts = some (t, rest)) (hr : isB rest 3 [124, 124] = false) : polT n ts = some (t, rest) := by
  unfold polT chainT
  rw [h]
  obtain ⟨m, rfl⟩ : ∃ m, n = m + 1 := ⟨n - 1, by omega⟩
  simp only []
  unfold chainGoT
  rw [if_neg (by rw [hr]; simp)]
theorem and_two {a b : Ast} {n : Nat} {ts us rest : List Tok} (hn : 1 < n) (h : notT n ts = some (a, sgT [38, 38] :: us)) (k : notT n us = some (b, rest)) (hr : isB rest 3 [38, 38] = false) : andT n ts = some (.bin 9 a b, rest) := by
  unfold andT chainT
  rw [h]
  obtain ⟨m, rfl⟩ : ∃ m, n = m + 2 := ⟨n - 2, by omega⟩
  simp only []
  unfold chainGoT
  rw [if_pos (by simp [isB, sgT, toList_mk])]
  simp only [List.tail_cons]
  rw [k]
  simp only []
  unfold chainGoT
  rw [if_neg (by rw [hr]; simp)]
theorem pol_two {a b : Ast} {n : Nat} {ts us rest : List Tok} (hn : 1 < n) (h : andT n ts = some (a, sgT [124, 124] :: us)) (k : andT n us = some (b, rest)) (hr : isB rest 3 [124, 124] = false) : polT n ts = some (.bin 10 a b, rest) := by
  unfold polT chainT
  rw [h]
  obtain ⟨m, rfl⟩ : ∃ m, n = m + 2 := ⟨n - 2, by omega⟩
  simp only []
  unfold chainGoT
  rw [if_pos (by simp [isB, sgT, toList_mk])]
  simp only [List.tail_cons]
  rw [k]
  simp only []
  unfold chainGoT
  rw [if_neg (by rw [hr]; simp)]
theorem tree_of {us : List Tok} {T : Ast} (h : polT (us.length + 1) us = some (T, [])) : treeT us = some T := by
  unfold treeT
  rw [h]
  rfl
theorem nb_and (us : List Tok) : isB (sgT [38, 38] :: us) 3 [124, 124] = false := by simp [isB, sgT, toList_mk]
theorem nb_or (us : List Tok) : isB (sgT [124, 124] :: us) 3 [38, 38] = false := by simp [isB, sgT, toList_mk]
def leafAny : Ast := .leaf (mkN 1 0 0 0)
theorem not_any {n : Nat} (rest : List Tok) : notT (n + 1) (wdT tAny :: rest) = some (leafAny, rest) := by
  unfold notT
  rw [if_neg (by simp [isB, wdT, toList_mk]), if_neg (by simp [isB, wdT, toList_mk])]
  simp [atomF, mustF, isB, wdT, toList_mk, leafAny]

section
variable {ua ub : List Tok} {A B : Ast}
def cNotAnd (ua ub : List Tok) : List Tok := sgT [33] :: sgT [40] :: (sgT [40] :: (ua ++ sgT [41] :: sgT [38, 38] :: sgT [40] :: (ub ++ [sgT [41]])) ++ [sgT [41]])
def cNotOr (ua ub : List Tok) : List Tok := sgT [33] :: sgT [40] :: (sgT [40] :: (ua ++ sgT [41] :: sgT [124, 124] :: sgT [40] :: (ub ++ [sgT [41]])) ++ [sgT [41]])
def cNots (o : List UInt8) (ua ub : List Tok) : List Tok := sgT [33] :: sgT [40] :: (ua ++ sgT [41] :: sgT o :: sgT [33] :: sgT [40] :: (ub ++ [sgT [41]]))
def cNotNot (ua : List Tok) : List Tok := sgT [33] :: sgT [33] :: sgT [40] :: (ua ++ [sgT [41]])
def cAny (o : List UInt8) (ua : List Tok) : List Tok := sgT [40] :: (ua ++ [sgT [41], sgT o, wdT tAny])
theorem tree_and (ha : treeT ua = some A) (hb : treeT ub = some B) : treeT (sgT [40] :: (ua ++ sgT [41] :: sgT [38, 38] :: sgT [40] :: (ub ++ [sgT [41]]))) = some (.bin 9 A B) := by
  refine tree_of ?_
  simp only [List.length_cons, List.length_append, List.length_nil]
  refine pol_one (by omega) (and_two (by omega) (not_paren ha (by omega) _) (not_paren hb (by omega) _) rfl) rfl
theorem tree_or (ha : treeT ua = some A) (hb : treeT ub = some B) : treeT (sgT [40] :: (ua ++ sgT [41] :: sgT [124, 124] :: sgT [40] :: (ub ++ [sgT [41]]))) = some (.bin 10 A B) := by
  refine tree_of ?_
  simp only [List.length_cons, List.length_append, List.length_nil]
  refine pol_two (by omega) (and_one_ (by omega) (not_paren ha (by omega) _) (nb_or _)) (and_one_ (by omega) (not_paren hb (by omega) _) rfl) rfl
theorem tree_notAnd (ha : treeT ua = some A) (hb : treeT ub = some B) : treeT (cNotAnd ua ub) = some (.neg (.bin 9 A B)) := by
  refine tree_of ?_
  unfold cNotAnd
  simp only [List.length_cons, List.length_append, List.length_nil]
  refine pol_one (by omega) (and_one_ (by omega) (not_bang (not_paren (tree_and ha hb) (by simp only [List.length_cons, List.length_append, List.length_nil]; omega) [])) rfl) rfl
theorem tree_notOr (ha : treeT ua = some A) (hb : treeT ub = some B) : treeT (cNotOr ua ub) = some (.neg (.bin 10 A B)) := by
  refine tree_of ?_
  unfold cNotOr
  simp only [List.length_cons, List.length_append, List.length_nil]
  refine pol_one (by omega) (and_one_ (by omega) (not_bang (not_paren (tree_or ha hb) (by simp only [List.length_cons, List.length_append, List.length_nil]; omega) [])) rfl) rfl
theorem tree_nots_or (ha : treeT ua = some A) (hb : treeT ub = some B) : treeT (cNots [124, 124] ua ub) = some (.bin 10 (.neg A) (.neg B)) := by
  refine tree_of ?_
  unfold cNots
  simp only [List.length_cons, List.length_append, List.length_nil]
  refine pol_two (by omega) (and_one_ (by omega) (not_bang (not_paren ha (by omega) _)) (nb_or _)) (and_one_ (by omega) (not_bang (not_paren hb (by omega) _)) rfl) rfl
theorem tree_nots_and (ha : treeT ua = some A) (hb : treeT ub = some B) : treeT (cNots [38, 38] ua ub) = some (.bin 9 (.neg A) (.neg B)) := by
  refine tree_of ?_
  unfold cNots
  simp only [List.length_cons, List.length_append, List.length_nil]
  refine pol_one (by omega) (and_two (by omega) (not_bang (not_paren ha (by omega) _)) (not_bang (not_paren hb (by omega) _)) rfl) rfl
theorem tree_notNot (ha : treeT ua = some A) : treeT (cNotNot ua) = some (.neg (.neg A)) := by
  refine tree_of ?_
  unfold cNotNot
  simp only [List.length_cons, List.length_append, List.length_nil]
  refine pol_one (by omega) (and_one_ (by omega) (not_bang (not_bang (not_paren ha (by omega) _))) rfl) rfl
theorem tree_andAny (ha : treeT ua = some A) : treeT (cAny [38, 38] ua) = some (.bin 9 A leafAny) := by
  refine tree_of ?_
  unfold cAny
  simp only [List.length_cons, List.length_append, List.length_nil]
  refine pol_one (by omega) (and_two (by omega) (not_paren ha (by omega) _) (not_any []) rfl) rfl
theorem tree_orAny (ha : treeT ua = some A) : treeT (cAny [124, 124] ua) = some (.bin 10 A leafAny) := by
  refine tree_of ?_
  unfold cAny
  simp only [List.length_cons, List.length_append, List.length_nil]
  refine pol_two (by omega) (and_one_ (by omega) (not_paren ha (by omega) _) (nb_or _)) (and_one_ (by omega) (not_any []) rfl) rfl
theorem tree_any1 : treeT [wdT tAny] = some leafAny := by
  refine tree_of ?_
  exact pol_one (by omega) (and_one_ (by omega) (not_any []) rfl) rfl
end

/-! ### The texts -/
theorem toList_app (x y : ByteArray) : (x ++ y).toList = x.toList ++ y.toList := by
  rw [ByteArray.toList_eq, ByteArray.toList_eq, ByteArray.toList_eq, ByteArray.data_append, Array.toList_append]
theorem bnd_shut (l : List UInt8) : Bnd (41 :: l) := by
  intro c h
  simp at h
  subst h
  exact ⟨by decide, by decide, by decide, by decide⟩
theorem bnd_nil : Bnd [] := fun c h => by cases h
theorem lex_in {l : List UInt8} {ts : List Tok} (h : lexL l = some ts) (rest : List UInt8) : lexL (l ++ 41 :: rest) = (lexL rest).map fun r => ts ++ sgT [41] :: r := by
  rw [lexL_app l.length l ts _ (Nat.le_refl _) (bnd_shut rest) h, lexL_shut, Option.map_map]
  rfl
theorem lex_any1 : lexL [97, 110, 121] = some [wdT tAny] := by
  have := lexL_word 97 [110, 121] [] (by decide) (by decide) (by decide) bnd_nil
  rw [lexL_nil] at this
  exact this
section
variable {a b : List UInt8} {ua ub : List Tok}
theorem lex_notAnd (ha : lexL a = some ua) (hb : lexL b = some ub) : lexL (33 :: 40 :: 40 :: (a ++ 41 :: 32 :: 38 :: 38 :: 32 :: 40 :: (b ++ [41, 41]))) = some (cNotAnd ua ub) := by
  rw [lexL_bang, lexL_open, lexL_open, lex_in ha, lexL_sp, lexL_and, lexL_sp, lexL_open, lex_in hb, lexL_shut, lexL_nil]
  simp [cNotAnd]
theorem lex_notOr (ha : lexL a = some ua) (hb : lexL b = some ub) : lexL (33 :: 40 :: 40 :: (a ++ 41 :: 32 :: 124 :: 124 :: 32 :: 40 :: (b ++ [41, 41]))) = some (cNotOr ua ub) := by
  rw [lexL_bang, lexL_open, lexL_open, lex_in ha, lexL_sp, lexL_or, lexL_sp, lexL_open, lex_in hb, lexL_shut, lexL_nil]
  simp [cNotOr]
theorem lex_nots_or (ha : lexL a = some ua) (hb : lexL b = some ub) : lexL (33 :: 40 :: (a ++ 41 :: 32 :: 124 :: 124 :: 32 :: 33 :: 40 :: (b ++ [41]))) = some (cNots [124, 124] ua ub) := by
  rw [lexL_bang, lexL_open, lex_in ha, lexL_sp, lexL_or, lexL_sp, lexL_bang, lexL_open, lex_in hb, lexL_nil]
  simp [cNots]
theorem lex_nots_and (ha : lexL a = some ua) (hb : lexL b = some ub) : lexL (33 :: 40 :: (a ++ 41 :: 32 :: 38 :: 38 :: 32 :: 33 :: 40 :: (b ++ [41]))) = some (cNots [38, 38] ua ub) := by
  rw [lexL_bang, lexL_open, lex_in ha, lexL_sp, lexL_and, lexL_sp, lexL_bang, lexL_open, lex_in hb, lexL_nil]
  simp [cNots]
theorem lex_notNot (ha : lexL a = some ua) : lexL (33 :: 33 :: 40 :: (a ++ [41])) = some (cNotNot ua) := by
  rw [lexL_bang, lexL_bang, lexL_open, lex_in ha, lexL_nil]
  simp [cNotNot]
theorem lex_andAny (ha : lexL a = some ua) : lexL (40 :: (a ++ 41 :: 32 :: 38 :: 38 :: 32 :: [97, 110, 121])) = some (cAny [38, 38] ua) := by
  rw [lexL_open, lex_in ha, lexL_sp, lexL_and, lexL_sp, lex_any1]
  simp [cAny]
theorem lex_orAny (ha : lexL a = some ua) : lexL (40 :: (a ++ 41 :: 32 :: 124 :: 124 :: 32 :: [97, 110, 121])) = some (cAny [124, 124] ua) := by
  rw [lexL_open, lex_in ha, lexL_sp, lexL_or, lexL_sp, lex_any1]
  simp [cAny]
end
/-- The texts that the law puts together. -/
def leftS (a b : ByteArray) : List ByteArray := [⟨#[33, 40, 40]⟩ ++ a ++ ⟨#[41, 32, 38, 38, 32, 40]⟩ ++ b ++ ⟨#[41, 41]⟩, ⟨#[33, 33, 40]⟩ ++ a ++ ⟨#[41]⟩, ⟨#[40]⟩ ++ a ++ ⟨#[41, 32, 38, 38, 32, 97, 110, 121]⟩, ⟨#[40]⟩ ++ a ++ ⟨#[41, 32, 124, 124, 32, 97, 110, 121]⟩, ⟨#[33, 40, 40]⟩ ++ a ++ ⟨#[41, 32, 124, 124, 32, 40]⟩ ++ b ++ ⟨#[41, 41]⟩]
def rightS (a b : ByteArray) : List ByteArray := [⟨#[33, 40]⟩ ++ a ++ ⟨#[41, 32, 124, 124, 32, 33, 40]⟩ ++ b ++ ⟨#[41]⟩, a, a, ⟨#[97, 110, 121]⟩, ⟨#[33, 40]⟩ ++ a ++ ⟨#[41, 32, 38, 38, 32, 33, 40]⟩ ++ b ++ ⟨#[41]⟩]
theorem mk_list (l : List UInt8) : (⟨l.toArray⟩ : ByteArray).toList = l := toList_mk l
theorem deMorgan_eq {a b : ByteArray} {A B : Ast} {ta tb : List Tok} (ha : Parsed a A ta) (hb : Parsed b B tb) (i : Nat) (x y : ByteArray) (hx : (leftS a b)[i]? = some x) (hy : (rightS a b)[i]? = some y) {t u : Ast} {tx ty : List Tok} (px : Parsed x t tx) (py : Parsed y u ty) (F : Fct) : evalT F t = evalT F u := by
  obtain ⟨la, ea⟩ := ha.lexed
  obtain ⟨lb, eb⟩ := hb.lexed
  have hi : i < 5 := by
    have := (List.getElem?_eq_some_iff.1 hx).1
    simpa [leftS] using this
  have ba := evalT_b F A
  have bb := evalT_b F B
  have hany : evalT F leafAny = 1 := rfl
  have h5 : i = 0 ∨ i = 1 ∨ i = 2 ∨ i = 3 ∨ i = 4 := by omega
  rcases h5 with rfl | rfl | rfl | rfl | rfl
  · injection hx with hx
    injection hy with hy
    subst hx
    subst hy
    have e1 := px.is (T := .neg (.bin 9 A B)) (us := cNotAnd (ta.map er) (tb.map er)) (by simp only [toList_app]; rw [mk_list [33, 40, 40], mk_list [41, 32, 38, 38, 32, 40], mk_list [41, 41]]; simpa using lex_notAnd la lb) (tree_notAnd ea eb)
    have e2 := py.is (T := .bin 10 (.neg A) (.neg B)) (us := cNots [124, 124] (ta.map er) (tb.map er)) (by simp only [toList_app]; rw [mk_list [33, 40], mk_list [41, 32, 124, 124, 32, 33, 40], mk_list [41]]; simpa using lex_nots_or la lb) (tree_nots_or ea eb)
    subst e1
    subst e2
    exact deMorgan1 _ _ ba bb
  · injection hx with hx
    injection hy with hy
    subst hx
    subst hy
    have e1 := px.is (T := .neg (.neg A)) (us := cNotNot (ta.map er)) (by simp only [toList_app]; rw [mk_list [33, 33, 40], mk_list [41]]; simpa using lex_notNot la) (tree_notNot ea)
    have e2 := py.is la ea
    subst e1
    subst e2
    exact not_not ba
  · injection hx with hx
    injection hy with hy
    subst hx
    subst hy
    have e1 := px.is (T := .bin 9 A leafAny) (us := cAny [38, 38] (ta.map er)) (by simp only [toList_app]; rw [mk_list [40], mk_list [41, 32, 38, 38, 32, 97, 110, 121]]; simpa using lex_andAny la) (tree_andAny ea)
    have e2 := py.is la ea
    subst e1
    subst e2
    show andI (evalT F u) (evalT F leafAny) = _
    rw [hany]
    exact and_one _ ba
  · injection hx with hx
    injection hy with hy
    subst hx
    subst hy
    have e1 := px.is (T := .bin 10 A leafAny) (us := cAny [124, 124] (ta.map er)) (by simp only [toList_app]; rw [mk_list [40], mk_list [41, 32, 124, 124, 32, 97, 110, 121]]; simpa using lex_orAny la) (tree_orAny ea)
    have e2 := py.is (T := leafAny) (us := [wdT tAny]) (by rw [mk_list [97, 110, 121]]; exact lex_any1) tree_any1
    subst e1
    subst e2
    show orI (evalT F A) (evalT F leafAny) = _
    rw [hany]
    exact or_one _
  · injection hx with hx
    injection hy with hy
    subst hx
    subst hy
    have e1 := px.is (T := .neg (.bin 10 A B)) (us := cNotOr (ta.map er) (tb.map er)) (by simp only [toList_app]; rw [mk_list [33, 40, 40], mk_list [41, 32, 124, 124, 32, 40], mk_list [41, 41]]; simpa using lex_notOr la lb) (tree_notOr ea eb)
    have e2 := py.is (T := .bin 9 (.neg A) (.neg B)) (us := cNots [38, 38] (ta.map er) (tb.map er)) (by simp only [toList_app]; rw [mk_list [33, 40], mk_list [41, 32, 38, 38, 32, 33, 40], mk_list [41]]; simpa using lex_nots_and la lb) (tree_nots_and ea eb)
    subst e1
    subst e2
    exact deMorgan2 _ _ ba bb
end Go.Proofs.YtbojlnbdkaanmaaGreatDoor
namespace Go.Proofs.YtbojlnbdkaanmaaGreatDoor
open Go.RowKit
set_option linter.unusedSimpArgs false
set_option linter.unusedVariables false

set_option maxRecDepth 100000 in
set_option maxHeartbeats 4000000 in
theorem tokens_big (w : World) (s : ByteArray) (hbig : 1500 < s.size) : Calls Tryz.prog 25 #[.string s] w fun e w' => e = .returned (.tuple #[.slice none 0 0, .int .i64 2]) ∧ w = w' := by
  go_enter Tryz.func25, Tryz.ntmps25
  go_wp2
  go_step3
  go_wp2
  try rw [Exit.noGoto_ret]
  exact bodyPost_ret (results_tmp2 Tryz.results25 _ _ _) rfl ⟨rfl, rfl⟩
set_option maxRecDepth 100000 in
set_option maxHeartbeats 4000000 in
theorem parse_big (w : World) (s : ByteArray) (hbig : 1500 < s.size) : Calls Tryz.prog 10 #[.string s] w (PostR w (parseR s)) := by
  have hp : parseR s = (2, []) := by
    have : lexR s = (2, []) := by rw [lexR, if_pos hbig]
    rw [parseR, this]
    rfl
  rw [hp]
  go_enter Tryz.func10, Tryz.ntmps10
  go_wp2_with (go_at_call 25; (with_reducible refine Calls.mono (tokens_big _ _ hbig) ?_); rintro e w1 ⟨rfl, rfl⟩)
  refine bodyPost_ret (results_row_tmp Tryz.results10 _ _ w.heap.size _ rfl (load25 _ _ _ 25 (heap_alloc_new _ _))) rfl ?_
  exact PostR.none_ ((Below.refl _ w).alloc (Nat.le_refl _) _)
theorem parse_all (w : World) (s : ByteArray) (hE : Env w) : Calls Tryz.prog 10 #[.string s] w (PostR w (parseR s)) := by
  by_cases h : s.size ≤ 1000000
  · exact parse_any w s hE h
  · exact parse_big w s (by omega)
end Go.Proofs.YtbojlnbdkaanmaaGreatDoor
namespace Go.Proofs.YtbojlnbdkaanmaaGreatDoor
open Go.RowKit
set_option linter.unusedSimpArgs false
set_option linter.unusedVariables false

/-! ### The text of a tree -/
def textT : Ast → List UInt8
  | .leaf x => (textStep [] x).toList
  | .neg t => 33 :: textT t
  | .bin k a b => 40 :: (textT a ++ ((if k = 9 then [32, 38, 38, 32] else [32, 124, 124, 32]) ++ (textT b ++ [41])))
theorem textStep_leaf {x : Nd} (h : Leaf x) (ts : List ByteArray) : textStep ts x = textStep [] x := by
  cases h with
  | any => rfl
  | num k n hk hn =>
    have : k = 2 ∨ k = 3 ∨ k = 4 ∨ k = 5 := by omega
    rcases this with rfl | rfl | rfl | rfl <;> rfl
  | stage n d hn hd hz => rfl
  | took n m s hn hm hs => rfl
theorem atS_last (rs vs : List ByteArray) (v : ByteArray) (xs : List ByteArray) (n : Nat) (hn : n = rs.length + (vs.length + 1)) : atS (rs ++ vs ++ [v] ++ xs) (some (lastI n)) = v := by
  subst hn
  unfold atS lastI
  simp only []
  rw [show (((rs.length + (vs.length + 1) : Nat) : Int) - 1).toNat = (rs ++ vs).length by simp; omega]
  rw [List.getD_eq_getElem?_getD, List.append_assoc (rs ++ vs), List.getElem?_append_right (Nat.le_refl _), Nat.sub_self]
  rfl
def textFold (rs : List ByteArray) (nds : List Nd) : List ByteArray := nds.foldl (fun ts nd => ts ++ [textStep ts nd]) rs
theorem list_ext {a b : ByteArray} (h : a.toList = b.toList) : a = b := by rw [← mk_toList a, ← mk_toList b, h]
theorem textFold_emit : ∀ (t : Ast), t.Ok → ∀ rs : List ByteArray, ∃ vs, textFold rs (t.emit rs.length) = rs ++ vs ++ [⟨(textT t).toArray⟩] ∧ vs.length + 1 = t.sz
  | .leaf x, h, rs => ⟨[], by simp [textFold, Ast.emit, textT, textStep_leaf h rs, mk_toList], rfl⟩
  | .neg t, h, rs => by
    obtain ⟨vs, h1, h2⟩ := textFold_emit t h rs
    refine ⟨vs ++ [⟨(textT t).toArray⟩], ?_, by simp [Ast.sz, h2]⟩
    unfold textFold at h1 ⊢
    simp only [Ast.emit, List.foldl_append, h1, List.foldl_cons, List.foldl_nil]
    have hs : textStep (rs ++ vs ++ [⟨(textT t).toArray⟩]) (mkO 8 [lastI (rs.length + t.sz)]) = ⟨(textT (.neg t)).toArray⟩ := by
      show (⟨#[33]⟩ : ByteArray) ++ (atS (rs ++ vs ++ [⟨(textT t).toArray⟩]) (some (lastI ((rs.length + t.sz : Nat))))) = _
      have := atS_last rs vs ⟨(textT t).toArray⟩ [] (rs.length + t.sz) (by omega)
      rw [List.append_nil] at this
      rw [this]
      refine list_ext ?_
      rw [toList_app, mk_list [33], mk_list, mk_list]
      rfl
    rw [hs]
    simp
  | .bin k l r, h, rs => by
    obtain ⟨hk, ha, hb⟩ := h
    obtain ⟨vl, h1, h2⟩ := textFold_emit l ha rs
    obtain ⟨vr, h3, h4⟩ := textFold_emit r hb (rs ++ vl ++ [⟨(textT l).toArray⟩])
    have hlen : (rs ++ vl ++ [(⟨(textT l).toArray⟩ : ByteArray)]).length = rs.length + l.sz := by simp; omega
    rw [hlen] at h3
    refine ⟨vl ++ [⟨(textT l).toArray⟩] ++ vr ++ [⟨(textT r).toArray⟩], ?_, by simp [Ast.sz]; omega⟩
    unfold textFold at h1 h3 ⊢
    simp only [Ast.emit, List.foldl_append, h1, h3, List.foldl_cons, List.foldl_nil]
    have hs : textStep (rs ++ vl ++ [⟨(textT l).toArray⟩] ++ vr ++ [⟨(textT r).toArray⟩]) (mkO k [lastI (rs.length + l.sz), lastI (rs.length + l.sz + r.sz)]) = ⟨(textT (.bin k l r)).toArray⟩ := by
      have e1 := atS_last rs vl ⟨(textT l).toArray⟩ (vr ++ [⟨(textT r).toArray⟩]) (rs.length + l.sz) (by omega)
      have e2 := atS_last (rs ++ vl ++ [⟨(textT l).toArray⟩]) vr ⟨(textT r).toArray⟩ [] (rs.length + l.sz + r.sz) (by rw [hlen]; omega)
      rw [List.append_nil] at e2
      rw [← List.append_assoc] at e1
      rcases hk with rfl | rfl
      · show (⟨#[40]⟩ : ByteArray) ++ atS _ (some _) ++ (⟨#[32, 38, 38, 32]⟩ : ByteArray) ++ atS _ (some _) ++ (⟨#[41]⟩ : ByteArray) = _
        rw [e1, e2]
        refine list_ext ?_
        simp only [toList_app]
        rw [mk_list [40], mk_list (textT l), mk_list [32, 38, 38, 32], mk_list (textT r), mk_list [41], mk_list]
        simp [textT]
      · show (⟨#[40]⟩ : ByteArray) ++ atS _ (some _) ++ (⟨#[32, 124, 124, 32]⟩ : ByteArray) ++ atS _ (some _) ++ (⟨#[41]⟩ : ByteArray) = _
        rw [e1, e2]
        refine list_ext ?_
        simp only [toList_app]
        rw [mk_list [40], mk_list (textT l), mk_list [32, 124, 124, 32], mk_list (textT r), mk_list [41], mk_list]
        simp [textT]
    rw [hs]
    simp
theorem textF_emit (t : Ast) (h : t.Ok) : textF (t.emit 0) = ⟨(textT t).toArray⟩ := by
  obtain ⟨vs, h1, _⟩ := textFold_emit t h []
  unfold textF textAll
  unfold textFold at h1
  rw [List.length_nil] at h1
  rw [h1]
  simp [List.getLastD_eq_getLast?]

/-! ### Its tokens -/
def wordW (d : Nat → Int) (i : Nat) : List UInt8 := [120, hexC (d (4 * i) / 16), hexC (d (4 * i) % 16), hexC (d (4 * i + 1) / 16), hexC (d (4 * i + 1) % 16), hexC (d (4 * i + 2) / 16), hexC (d (4 * i + 2) % 16), hexC (d (4 * i + 3) / 16), hexC (d (4 * i + 3) % 16)]
def toksN (x : Nd) : List Tok :=
  if x.k = 1 then [wdT tAny]
  else if x.k = 2 then [wdT tVersion, sgT [61, 61], nmT x.n.toNat]
  else if x.k = 3 then [wdT tVersion, sgT [62, 61], nmT x.n.toNat]
  else if x.k = 4 then [wdT tEpoch, sgT [61, 61], nmT x.n.toNat]
  else if x.k = 5 then [wdT tEpoch, sgT [62, 61], nmT x.n.toNat]
  else if x.k = 6 then [wdT tStage, nmT x.n.toNat, wdT tIs, wdT (wordW x.d 0), wdT (wordW x.d 1), wdT (wordW x.d 2), wdT (wordW x.d 3)]
  else [wdT tPoint, nmT x.n.toNat, nmT x.m.toNat, wdT tTook, wdT (if x.sd = 1 then tTrue else tFalse)]
def toksT : Ast → List Tok
  | .leaf x => toksN x
  | .neg t => sgT [33] :: toksT t
  | .bin k a b => sgT [40] :: (toksT a ++ (sgT (if k = 9 then [38, 38] else [124, 124]) :: (toksT b ++ [sgT [41]])))
theorem itoaS_list {n : Int} (h : 0 ≤ n) : (itoaS n).toList = Lib.decDigits n.toNat := by
  obtain ⟨m, rfl⟩ : ∃ m : Nat, n = m := ⟨n.toNat, by omega⟩
  unfold itoaS Lib.itoa
  rw [if_neg (by omega), mk_list]
theorem bnd_sp (l : List UInt8) : Bnd (32 :: l) := by
  intro c h
  simp at h
  subst h
  exact ⟨by decide, by decide, by decide, by decide⟩
theorem hexC_wit {v : Int} (h : 0 ≤ v ∧ v ≤ 15) : isWit (hexC v).toNat = true := by
  have : v = 0 ∨ v = 1 ∨ v = 2 ∨ v = 3 ∨ v = 4 ∨ v = 5 ∨ v = 6 ∨ v = 7 ∨ v = 8 ∨ v = 9 ∨ v = 10 ∨ v = 11 ∨ v = 12 ∨ v = 13 ∨ v = 14 ∨ v = 15 := by omega
  rcases this with rfl | rfl | rfl | rfl | rfl | rfl | rfl | rfl | rfl | rfl | rfl | rfl | rfl | rfl | rfl | rfl <;> decide
theorem hexd_hexC {v : Int} (h : 0 ≤ v ∧ v ≤ 15) : hexd ((hexC v).toNat : Int) = some v := by
  have : v = 0 ∨ v = 1 ∨ v = 2 ∨ v = 3 ∨ v = 4 ∨ v = 5 ∨ v = 6 ∨ v = 7 ∨ v = 8 ∨ v = 9 ∨ v = 10 ∨ v = 11 ∨ v = 12 ∨ v = 13 ∨ v = 14 ∨ v = 15 := by omega
  rcases this with rfl | rfl | rfl | rfl | rfl | rfl | rfl | rfl | rfl | rfl | rfl | rfl | rfl | rfl | rfl | rfl <;> decide
theorem nib {v : Int} (h : 0 ≤ v ∧ v < 256) : (0 ≤ v / 16 ∧ v / 16 ≤ 15) ∧ (0 ≤ v % 16 ∧ v % 16 ≤ 15) ∧ 16 * (v / 16) + v % 16 = v := by omega
theorem lex_wordW {d : Nat → Int} (hd : ∀ i, 0 ≤ d i ∧ d i < 256) (i : Nat) (rest : List UInt8) (hb : Bnd rest) : lexL (wordW d i ++ rest) = (lexL rest).map (wdT (wordW d i) :: ·) := by
  unfold wordW
  refine lexL_word 120 _ rest (by decide) ?_ (by simp) hb
  intro x hx
  simp only [List.mem_cons, List.not_mem_nil, or_false] at hx
  rcases hx with rfl | rfl | rfl | rfl | rfl | rfl | rfl | rfl | rfl
  · decide
  · exact hexC_wit (nib (hd _)).1
  · exact hexC_wit (nib (hd _)).2.1
  · exact hexC_wit (nib (hd _)).1
  · exact hexC_wit (nib (hd _)).2.1
  · exact hexC_wit (nib (hd _)).1
  · exact hexC_wit (nib (hd _)).2.1
  · exact hexC_wit (nib (hd _)).1
  · exact hexC_wit (nib (hd _)).2.1
theorem wordsL_eq (d : Nat → Int) : wordsL d 16 = 32 :: (wordW d 0 ++ (32 :: (wordW d 1 ++ (32 :: (wordW d 2 ++ (32 :: wordW d 3)))))) := by
  simp [wordsL, wordW]
theorem lex_w (o : List UInt8) (rest : List UInt8) (hb : Bnd rest) (h : ∃ c r, o = c :: r ∧ isLet c.toNat = true) (hw : ∀ x ∈ o, isWit x.toNat = true) (hl : o.length ≤ 12) : lexL (o ++ rest) = (lexL rest).map (wdT o :: ·) := by
  obtain ⟨c, r, rfl, hc⟩ := h
  exact lexL_word c r rest hc hw hl hb
theorem lex_leaf {x : Nd} (h : Leaf x) (rest : List UInt8) (hb : Bnd rest) : lexL ((textStep [] x).toList ++ rest) = (lexL rest).map (toksN x ++ ·) := by
  have wAny := fun r hr => lex_w tAny r hr ⟨_, _, rfl, by decide⟩ (by decide) (by decide)
  have wVer := fun r hr => lex_w tVersion r hr ⟨_, _, rfl, by decide⟩ (by decide) (by decide)
  have wEpo := fun r hr => lex_w tEpoch r hr ⟨_, _, rfl, by decide⟩ (by decide) (by decide)
  have wSta := fun r hr => lex_w tStage r hr ⟨_, _, rfl, by decide⟩ (by decide) (by decide)
  have wIs := fun r hr => lex_w tIs r hr ⟨_, _, rfl, by decide⟩ (by decide) (by decide)
  have wPoi := fun r hr => lex_w tPoint r hr ⟨_, _, rfl, by decide⟩ (by decide) (by decide)
  have wToo := fun r hr => lex_w tTook r hr ⟨_, _, rfl, by decide⟩ (by decide) (by decide)
  have wTru := fun r hr => lex_w tTrue r hr ⟨_, _, rfl, by decide⟩ (by decide) (by decide)
  have wFal := fun r hr => lex_w tFalse r hr ⟨_, _, rfl, by decide⟩ (by decide) (by decide)
  cases h with
  | any =>
    show lexL ((⟨#[97, 110, 121]⟩ : ByteArray).toList ++ rest) = _
    rw [mk_list [97, 110, 121]]
    exact wAny rest hb
  | num k n hk hn =>
    have hnum := lexL_num n.toNat rest (by omega) hb
    have h4 : k = 2 ∨ k = 3 ∨ k = 4 ∨ k = 5 := by omega
    rcases h4 with rfl | rfl | rfl | rfl
    · show lexL (((⟨#[118, 101, 114, 115, 105, 111, 110, 32, 61, 61, 32]⟩ : ByteArray) ++ itoaS n).toList ++ rest) = _
      rw [toList_app, mk_list [118, 101, 114, 115, 105, 111, 110, 32, 61, 61, 32], itoaS_list hn.1, List.append_assoc]
      show lexL (tVersion ++ (32 :: 61 :: 61 :: 32 :: (Lib.decDigits n.toNat ++ rest))) = _
      rw [wVer _ (bnd_sp _), lexL_sp, lexL_eqq, lexL_sp, hnum]
      simp [Option.map_map, Function.comp_def, toksN, mkN]
    · show lexL (((⟨#[118, 101, 114, 115, 105, 111, 110, 32, 62, 61, 32]⟩ : ByteArray) ++ itoaS n).toList ++ rest) = _
      rw [toList_app, mk_list [118, 101, 114, 115, 105, 111, 110, 32, 62, 61, 32], itoaS_list hn.1, List.append_assoc]
      show lexL (tVersion ++ (32 :: 62 :: 61 :: 32 :: (Lib.decDigits n.toNat ++ rest))) = _
      rw [wVer _ (bnd_sp _), lexL_sp, lexL_ge, lexL_sp, hnum]
      simp [Option.map_map, Function.comp_def, toksN, mkN]
    · show lexL (((⟨#[101, 112, 111, 99, 104, 32, 61, 61, 32]⟩ : ByteArray) ++ itoaS n).toList ++ rest) = _
      rw [toList_app, mk_list [101, 112, 111, 99, 104, 32, 61, 61, 32], itoaS_list hn.1, List.append_assoc]
      show lexL (tEpoch ++ (32 :: 61 :: 61 :: 32 :: (Lib.decDigits n.toNat ++ rest))) = _
      rw [wEpo _ (bnd_sp _), lexL_sp, lexL_eqq, lexL_sp, hnum]
      simp [Option.map_map, Function.comp_def, toksN, mkN]
    · show lexL (((⟨#[101, 112, 111, 99, 104, 32, 62, 61, 32]⟩ : ByteArray) ++ itoaS n).toList ++ rest) = _
      rw [toList_app, mk_list [101, 112, 111, 99, 104, 32, 62, 61, 32], itoaS_list hn.1, List.append_assoc]
      show lexL (tEpoch ++ (32 :: 62 :: 61 :: 32 :: (Lib.decDigits n.toNat ++ rest))) = _
      rw [wEpo _ (bnd_sp _), lexL_sp, lexL_ge, lexL_sp, hnum]
      simp [Option.map_map, Function.comp_def, toksN, mkN]
  | stage n d hn hd hz =>
    show lexL (((⟨#[115, 116, 97, 103, 101, 32]⟩ : ByteArray) ++ itoaS n ++ (⟨#[32, 105, 115]⟩ : ByteArray) ++ wordsS d).toList ++ rest) = _
    simp only [toList_app]
    rw [mk_list [115, 116, 97, 103, 101, 32], mk_list [32, 105, 115], itoaS_list hn.1]
    unfold wordsS
    rw [mk_list, wordsL_eq]
    simp only [List.append_assoc, List.cons_append, List.nil_append]
    show lexL (tStage ++ (32 :: (Lib.decDigits n.toNat ++ (32 :: (tIs ++ (32 :: (wordW d 0 ++ (32 :: (wordW d 1 ++ (32 :: (wordW d 2 ++ (32 :: (wordW d 3 ++ rest))))))))))))) = _
    rw [wSta _ (bnd_sp _), lexL_sp, lexL_num n.toNat _ (by omega) (bnd_sp _), lexL_sp, wIs _ (bnd_sp _), lexL_sp, lex_wordW hd 0 _ (bnd_sp _), lexL_sp, lex_wordW hd 1 _ (bnd_sp _), lexL_sp, lex_wordW hd 2 _ (bnd_sp _), lexL_sp, lex_wordW hd 3 _ hb]
    simp [Option.map_map, Function.comp_def, toksN]
  | took n m s hn hm hs =>
    show lexL (((⟨#[112, 111, 105, 110, 116, 32]⟩ : ByteArray) ++ itoaS n ++ (⟨#[32]⟩ : ByteArray) ++ itoaS m ++ (⟨#[32, 116, 111, 111, 107, 32]⟩ : ByteArray) ++ boolS (s == 1)).toList ++ rest) = _
    simp only [toList_app]
    rw [mk_list [112, 111, 105, 110, 116, 32], mk_list [32], mk_list [32, 116, 111, 111, 107, 32], itoaS_list hn.1, itoaS_list hm.1]
    have hbool : (boolS (s == 1)).toList = if s = 1 then tTrue else tFalse := by
      rcases hs with rfl | rfl
      · exact mk_list tTrue
      · exact mk_list tFalse
    rw [hbool]
    simp only [List.append_assoc, List.cons_append, List.nil_append]
    show lexL (tPoint ++ (32 :: (Lib.decDigits n.toNat ++ (32 :: (Lib.decDigits m.toNat ++ (32 :: (tTook ++ (32 :: ((if s = 1 then tTrue else tFalse) ++ rest))))))))) = _
    rw [wPoi _ (bnd_sp _), lexL_sp, lexL_num n.toNat _ (by omega) (bnd_sp _), lexL_sp, lexL_num m.toNat _ (by omega) (bnd_sp _), lexL_sp, wToo _ (bnd_sp _), lexL_sp]
    rcases hs with rfl | rfl
    · rw [if_pos rfl, wTru _ hb]
      simp [Option.map_map, Function.comp_def, toksN, mkN]
    · rw [if_neg (by decide), wFal _ hb]
      simp [Option.map_map, Function.comp_def, toksN, mkN]
theorem lex_text : ∀ (t : Ast), t.Ok → ∀ (rest : List UInt8), Bnd rest → lexL (textT t ++ rest) = (lexL rest).map (toksT t ++ ·)
  | .leaf x, h, rest, hb => lex_leaf h rest hb
  | .neg t, h, rest, hb => by
    show lexL (33 :: (textT t ++ rest)) = _
    rw [lexL_bang, lex_text t h rest hb]
    simp [Option.map_map, Function.comp_def, toksT]
  | .bin k a b, h, rest, hb => by
    obtain ⟨hk, ha, hb'⟩ := h
    rcases hk with rfl | rfl
    · have e : textT (.bin 9 a b) ++ rest = 40 :: (textT a ++ (32 :: 38 :: 38 :: 32 :: (textT b ++ (41 :: rest)))) := by simp [textT]
      rw [e, lexL_open, lex_text a ha _ (bnd_sp _), lexL_sp, lexL_and, lexL_sp, lex_text b hb' _ (bnd_shut _), lexL_shut]
      simp [Option.map_map, Function.comp_def, toksT]
    · have e : textT (.bin 10 a b) ++ rest = 40 :: (textT a ++ (32 :: 124 :: 124 :: 32 :: (textT b ++ (41 :: rest)))) := by simp [textT]
      rw [e, lexL_open, lex_text a ha _ (bnd_sp _), lexL_sp, lexL_or, lexL_sp, lex_text b hb' _ (bnd_shut _), lexL_shut]
      simp [Option.map_map, Function.comp_def, toksT]

/-! ### Its tree -/
theorem byteF_word {d : Nat → Int} (hd : ∀ i, 0 ≤ d i ∧ d i < 256) (i k : Nat) (hk : k < 4) : byteF (wordW d i) k = some (d (4 * i + k)) := by
  have key : ∀ v : Int, 0 ≤ v ∧ v < 256 → (match hexd ((hexC (v / 16)).toNat : Int) with
      | none => none
      | some a => match hexd ((hexC (v % 16)).toNat : Int) with
        | none => none
        | some b => some (16 * a + b)) = some v := by
    intro v hv
    rw [hexd_hexC (nib hv).1, hexd_hexC (nib hv).2.1]
    simp only []
    rw [(nib hv).2.2]
  have h4 : k = 0 ∨ k = 1 ∨ k = 2 ∨ k = 3 := by omega
  rcases h4 with rfl | rfl | rfl | rfl
  · exact key _ (hd _)
  · exact key _ (hd _)
  · exact key _ (hd _)
  · exact key _ (hd _)
theorem inGo_word {d : Nat → Int} (hd : ∀ i, 0 ≤ d i ∧ d i < 256) (i : Nat) (e : Nat → Int) : inGo (wordW d i) i 4 0 e = some (upd (upd (upd (upd e (4 * i) (d (4 * i))) (4 * i + 1) (d (4 * i + 1))) (4 * i + 2) (d (4 * i + 2))) (4 * i + 3) (d (4 * i + 3))) := by
  simp [inGo, byteF_word hd]
theorem wordOk_word (d : Nat → Int) (i : Nat) : wordOk (wordW d i) = true := by
  simp [wordOk, wordW]
theorem must_wd (o : List UInt8) (rest : List Tok) : mustF 1 o (wdT o :: rest) = some (wdT o, rest) := by
  have : isB (wdT o :: rest) 1 o = true := by simp [isB, wdT, toList_mk]
  simp [mustF, this]
theorem must_wd0 (o : List UInt8) (rest : List Tok) : mustF 1 [] (wdT o :: rest) = some (wdT o, rest) := by
  have : isB (wdT o :: rest) 1 [] = true := by simp [isB, wdT]
  simp [mustF, this]
theorem must_nm (n : Nat) (rest : List Tok) : mustF 2 [] (nmT n :: rest) = some (nmT n, rest) := by
  have : isB (nmT n :: rest) 2 [] = true := by simp [isB, nmT]
  simp [mustF, this]
theorem must_sg (o : List UInt8) (rest : List Tok) : mustF 3 o (sgT o :: rest) = some (sgT o, rest) := by
  have : isB (sgT o :: rest) 3 o = true := by simp [isB, sgT, toList_mk]
  simp [mustF, this]
theorem wd_list (o : List UInt8) : (wdT o).s.toList = o := by simp [wdT, toList_mk]
theorem digest_words {d : Nat → Int} (hd : ∀ i, 0 ≤ d i ∧ d i < 256) (hz : ∀ i, 16 ≤ i → d i = 0) (rest : List Tok) : digestF (wdT (wordW d 0) :: wdT (wordW d 1) :: wdT (wordW d 2) :: wdT (wordW d 3) :: rest) = some (d, rest) := by
  unfold digestF
  simp only [digGo, must_wd0, wd_list, wordOk_word, if_true, inGo_word hd]
  congr 1
  refine Prod.ext ?_ rfl
  funext i
  by_cases h : i < 16
  · have h16 : i = 0 ∨ i = 1 ∨ i = 2 ∨ i = 3 ∨ i = 4 ∨ i = 5 ∨ i = 6 ∨ i = 7 ∨ i = 8 ∨ i = 9 ∨ i = 10 ∨ i = 11 ∨ i = 12 ∨ i = 13 ∨ i = 14 ∨ i = 15 := by omega
    rcases h16 with rfl | rfl | rfl | rfl | rfl | rfl | rfl | rfl | rfl | rfl | rfl | rfl | rfl | rfl | rfl | rfl <;> simp [upd]
  · show _ = d i
    rw [hz i (by omega)]
    simp only [upd]
    rw [if_neg (by omega), if_neg (by omega), if_neg (by omega), if_neg (by omega), if_neg (by omega), if_neg (by omega), if_neg (by omega), if_neg (by omega), if_neg (by omega), if_neg (by omega), if_neg (by omega), if_neg (by omega), if_neg (by omega), if_neg (by omega), if_neg (by omega), if_neg (by omega)]
theorem nm_n {n : Int} (h : 0 ≤ n) : (nmT n.toNat).n = n := by
  show ((n.toNat : Nat) : Int) = n
  exact Int.toNat_of_nonneg h
theorem isB_sg (o p : List UInt8) (rest : List Tok) : isB (sgT o :: rest) 3 p = (p.isEmpty || o == p) := by simp [isB, sgT, toList_mk]
theorem atom_leaf {x : Nd} (h : Leaf x) (rest : List Tok) : atomF (toksN x ++ rest) = some (x, rest) := by
  cases h with
  | any => simp [toksN, mkN, atomF, must_wd0, wd_list]
  | num k n hk hn =>
    have h4 : k = 2 ∨ k = 3 ∨ k = 4 ∨ k = 5 := by omega
    rcases h4 with rfl | rfl | rfl | rfl
    · show atomF (wdT tVersion :: sgT [61, 61] :: nmT n.toNat :: rest) = _
      unfold atomF
      rw [must_wd0]
      simp only [wd_list]
      rw [if_neg (by decide), if_pos (by decide)]
      unfold compareF
      rw [isB_sg, if_pos (by decide), List.tail_cons, must_nm]
      simp only []
      rw [nm_n hn.1]
    · show atomF (wdT tVersion :: sgT [62, 61] :: nmT n.toNat :: rest) = _
      unfold atomF
      rw [must_wd0]
      simp only [wd_list]
      rw [if_neg (by decide), if_pos (by decide)]
      unfold compareF
      rw [isB_sg, if_neg (by decide), must_sg]
      simp only []
      rw [must_nm]
      simp only []
      rw [nm_n hn.1]
    · show atomF (wdT tEpoch :: sgT [61, 61] :: nmT n.toNat :: rest) = _
      unfold atomF
      rw [must_wd0]
      simp only [wd_list]
      rw [if_neg (by decide), if_neg (by decide), if_pos (by decide)]
      unfold compareF
      rw [isB_sg, if_pos (by decide), List.tail_cons, must_nm]
      simp only []
      rw [nm_n hn.1]
    · show atomF (wdT tEpoch :: sgT [62, 61] :: nmT n.toNat :: rest) = _
      unfold atomF
      rw [must_wd0]
      simp only [wd_list]
      rw [if_neg (by decide), if_neg (by decide), if_pos (by decide)]
      unfold compareF
      rw [isB_sg, if_neg (by decide), must_sg]
      simp only []
      rw [must_nm]
      simp only []
      rw [nm_n hn.1]
  | stage n d hn hd hz =>
    show atomF (wdT tStage :: nmT n.toNat :: wdT tIs :: wdT (wordW d 0) :: wdT (wordW d 1) :: wdT (wordW d 2) :: wdT (wordW d 3) :: rest) = _
    unfold atomF
    rw [must_wd0]
    simp only [wd_list]
    rw [if_neg (by decide), if_neg (by decide), if_neg (by decide), if_pos (by decide)]
    unfold stageF
    rw [must_nm]
    simp only []
    rw [must_wd]
    simp only []
    rw [digest_words hd hz]
    simp only []
    rw [nm_n hn.1]
  | took n m s hn hm hs =>
    show atomF (wdT tPoint :: nmT n.toNat :: nmT m.toNat :: wdT tTook :: wdT (if s = 1 then tTrue else tFalse) :: rest) = _
    unfold atomF
    rw [must_wd0]
    simp only [wd_list]
    rw [if_neg (by decide), if_neg (by decide), if_neg (by decide), if_neg (by decide), if_pos (by decide)]
    unfold pointF
    rw [must_nm]
    simp only []
    rw [must_nm]
    simp only []
    rw [must_wd]
    simp only []
    rcases hs with rfl | rfl
    · rw [if_pos rfl]
      have : sideF (wdT tTrue :: rest) = some (1, rest) := by
        unfold sideF
        rw [if_pos (by simp [isB, wdT, toList_mk]), List.tail_cons]
      rw [this]
      simp only []
      rw [nm_n hn.1, nm_n hm.1]
    · rw [if_neg (by decide)]
      have : sideF (wdT tFalse :: rest) = some (2, rest) := by
        unfold sideF
        rw [if_neg (by simp [isB, wdT, toList_mk, tTrue, tFalse]), must_wd]
      rw [this]
      simp only []
      rw [nm_n hn.1, nm_n hm.1]
theorem toksN_head {x : Nd} (h : Leaf x) : ∃ o r, toksN x = wdT o :: r := by
  cases h with
  | any => exact ⟨_, _, rfl⟩
  | num k n hk hn =>
    have h4 : k = 2 ∨ k = 3 ∨ k = 4 ∨ k = 5 := by omega
    rcases h4 with rfl | rfl | rfl | rfl <;> exact ⟨_, _, rfl⟩
  | stage n d hn hd hz => exact ⟨_, _, rfl⟩
  | took n m s hn hm hs => exact ⟨_, _, rfl⟩
theorem not_toks : ∀ (t : Ast), t.Ok → ∀ (n : Nat) (rest : List Tok), (toksT t).length < n → notT n (toksT t ++ rest) = some (t, rest)
  | .leaf x, h, n, rest, hn => by
    obtain ⟨m, rfl⟩ : ∃ m, n = m + 1 := ⟨n - 1, by omega⟩
    obtain ⟨o, r, ho⟩ := toksN_head h
    have ha := atom_leaf h rest
    show notT (m + 1) (toksN x ++ rest) = _
    rw [ho] at ha ⊢
    simp only [List.cons_append] at ha ⊢
    unfold notT
    rw [if_neg (by simp [isB, wdT]), if_neg (by simp [isB, wdT]), ha]
  | .neg t, h, n, rest, hn => by
    obtain ⟨m, rfl⟩ : ∃ m, n = m + 1 := ⟨n - 1, by omega⟩
    exact not_bang (not_toks t h m rest (by simp only [toksT, List.length_cons] at hn; omega))
  | .bin k a b, h, n, rest, hn => by
    obtain ⟨hk, ha, hb⟩ := h
    obtain ⟨m, rfl⟩ : ∃ m, n = m + 1 := ⟨n - 1, by omega⟩
    simp only [toksT, List.length_cons, List.length_append, List.length_nil] at hn
    have key : polT m (toksT a ++ (sgT (if k = 9 then [38, 38] else [124, 124]) :: (toksT b ++ (sgT [41] :: rest)))) = some (.bin k a b, sgT [41] :: rest) := by
      have na := not_toks a ha m (sgT (if k = 9 then [38, 38] else [124, 124]) :: (toksT b ++ (sgT [41] :: rest))) (by omega)
      have nb := not_toks b hb m (sgT [41] :: rest) (by omega)
      have hs := stop_shut rest
      rcases hk with rfl | rfl
      · rw [if_pos rfl] at na ⊢
        exact pol_one (by omega) (and_two (by omega) na nb (by simp [isB, sgT, toList_mk])) (by simp [isB, sgT, toList_mk])
      · rw [if_neg (by decide)] at na ⊢
        exact pol_two (by omega) (and_one_ (by omega) na (nb_or _)) (and_one_ (by omega) nb (by simp [isB, sgT, toList_mk])) (by simp [isB, sgT, toList_mk])
    have e : toksT (.bin k a b) ++ rest = sgT [40] :: (toksT a ++ (sgT (if k = 9 then [38, 38] else [124, 124]) :: (toksT b ++ (sgT [41] :: rest)))) := by simp [toksT]
    rw [e]
    unfold polT andT at key
    unfold notT
    rw [if_neg (by simp [isB, sgT, toList_mk]), if_pos (by simp [isB, sgT, toList_mk])]
    simp only [List.tail_cons]
    rw [key]
    simp [mustF, isB, sgT, toList_mk]
theorem tree_toks (t : Ast) (h : t.Ok) : treeT (toksT t) = some t := by
  refine tree_of ?_
  have := not_toks t h ((toksT t).length + 1) [] (by omega)
  rw [List.append_nil] at this
  exact pol_one (by omega) (and_one_ (by omega) this rfl) rfl
/-- The text of a tree is read back as the tree, but where it is too long or too deep. -/
theorem round_trip (t : Ast) (h : t.Ok) (hsz : t.sz ≤ 400) : parseR ⟨(textT t).toArray⟩ = (2, []) ∨ parseR ⟨(textT t).toArray⟩ = (0, t.emit 0) := by
  obtain ⟨s, hs⟩ : ∃ s : ByteArray, s = ⟨(textT t).toArray⟩ := ⟨_, rfl⟩
  rw [← hs]
  by_cases hl : 1500 < s.size
  · left
    have : lexR s = (2, []) := by rw [lexR, if_pos hl]
    rw [parseR, this]
    rfl
  · have hlx : lexL s.toList = some (toksT t) := by
      have := lex_text t h [] bnd_nil
      rw [List.append_nil, lexL_nil] at this
      rw [hs, mk_list, this]
      simp
    have he := lexF_er s
    rw [hlx] at he
    cases hf : lexF s with
    | none => rw [hf] at he; cases he
    | some ts =>
      rw [hf] at he
      injection he with he
      have he : ts.map er = toksT t := he
      have htr : treeT ts = some t := by rw [← treeT_er, he]; exact tree_toks t h
      have hlr : lexR s = (0, ts) := by rw [lexR, if_neg hl, hf]
      rw [parseR, hlr]
      simp only [if_true]
      unfold parseT
      by_cases hd : 30 < depthF ts
      · left
        rw [if_pos hd]
      · right
        rw [if_neg hd, treeF_emit, htr]
        simp only [Option.map_some]
        rw [if_neg (by rw [Ast.emit_length]; omega)]

/-! ### Bounds: what the program's Text asks of the nodes of a parsed policy -/

structure NumOk (nd : Nd) : Prop where
  n : nd.n < 65536
  m : nd.m < 65536
  d : nd.k = 6 → ∀ i, 0 ≤ nd.d i ∧ nd.d i < 256
  of : nd.of.length ≤ 2
theorem leaf_num {x : Nd} (h : Leaf x) : NumOk x := by
  cases h with
  | any => exact ⟨by decide, by decide, fun h => by simp [mkN] at h, by simp [mkN]⟩
  | num k n hk hn => exact ⟨hn.2, by simp [mkN], fun h => by simp [mkN] at h; omega, by simp [mkN]⟩
  | stage n d hn hd hz => exact ⟨hn.2, by simp, fun _ => hd, by simp⟩
  | took n m s hn hm hs => exact ⟨hn.2, hm.2, fun h => by simp [mkN] at h, by simp [mkN]⟩
theorem emit_num : ∀ (t : Ast), t.Ok → ∀ (b : Nat), ∀ nd ∈ t.emit b, NumOk nd
  | .leaf x, h, b, nd, hnd => by
    simp [Ast.emit] at hnd
    subst hnd
    exact leaf_num h
  | .neg t, h, b, nd, hnd => by
    rcases List.mem_append.1 hnd with hnd | hnd
    · exact emit_num t h b nd hnd
    · simp at hnd
      subst hnd
      exact ⟨by simp [mkO], by simp [mkO], fun h => by simp [mkO] at h, by simp [mkO]⟩
  | .bin k l r, h, b, nd, hnd => by
    rcases List.mem_append.1 hnd with hnd | hnd
    · rcases List.mem_append.1 hnd with hnd | hnd
      · exact emit_num l h.2.1 b nd hnd
      · exact emit_num r h.2.2 _ nd hnd
    · simp at hnd
      subst hnd
      refine ⟨by simp [mkO], by simp [mkO], fun h6 => ?_, by simp [mkO]⟩
      have := h.1
      simp [mkO] at h6
      omega
theorem leaf_len {x : Nd} (h : Leaf x) : (textStep [] x).toList.length ≤ 100 := by
  have hi : ∀ n : Int, 0 ≤ n ∧ n < 65536 → (itoaS n).toList.length ≤ 6 := fun n hn => by rw [toList_len]; exact itoaS_size hn.1 hn.2
  have hw := fun d => wordsS_size d
  cases h with
  | any => show ((⟨#[97, 110, 121]⟩ : ByteArray)).toList.length ≤ 100; rw [mk_list [97, 110, 121]]; decide
  | num k n hk hn =>
    have h4 : k = 2 ∨ k = 3 ∨ k = 4 ∨ k = 5 := by omega
    have := hi n hn
    rcases h4 with rfl | rfl | rfl | rfl
    · show ((⟨#[118, 101, 114, 115, 105, 111, 110, 32, 61, 61, 32]⟩ : ByteArray) ++ itoaS n).toList.length ≤ 100
      rw [toList_app, mk_list [118, 101, 114, 115, 105, 111, 110, 32, 61, 61, 32], List.length_append]
      simp only [List.length_cons, List.length_nil]
      omega
    · show ((⟨#[118, 101, 114, 115, 105, 111, 110, 32, 62, 61, 32]⟩ : ByteArray) ++ itoaS n).toList.length ≤ 100
      rw [toList_app, mk_list [118, 101, 114, 115, 105, 111, 110, 32, 62, 61, 32], List.length_append]
      simp only [List.length_cons, List.length_nil]
      omega
    · show ((⟨#[101, 112, 111, 99, 104, 32, 61, 61, 32]⟩ : ByteArray) ++ itoaS n).toList.length ≤ 100
      rw [toList_app, mk_list [101, 112, 111, 99, 104, 32, 61, 61, 32], List.length_append]
      simp only [List.length_cons, List.length_nil]
      omega
    · show ((⟨#[101, 112, 111, 99, 104, 32, 62, 61, 32]⟩ : ByteArray) ++ itoaS n).toList.length ≤ 100
      rw [toList_app, mk_list [101, 112, 111, 99, 104, 32, 62, 61, 32], List.length_append]
      simp only [List.length_cons, List.length_nil]
      omega
  | stage n d hn hd hz =>
    have := hi n hn
    have h2 := hw d
    rw [← toList_len] at h2
    show ((⟨#[115, 116, 97, 103, 101, 32]⟩ : ByteArray) ++ itoaS n ++ (⟨#[32, 105, 115]⟩ : ByteArray) ++ wordsS d).toList.length ≤ 100
    simp only [toList_app]
    rw [mk_list [115, 116, 97, 103, 101, 32], mk_list [32, 105, 115]]
    simp only [List.length_append, List.length_cons, List.length_nil]
    omega
  | took n m s hn hm hs =>
    have h1 := hi n hn
    have h2 := hi m hm
    have h3 := boolS_size (s == 1)
    rw [← toList_len] at h3
    show ((⟨#[112, 111, 105, 110, 116, 32]⟩ : ByteArray) ++ itoaS n ++ (⟨#[32]⟩ : ByteArray) ++ itoaS m ++ (⟨#[32, 116, 111, 111, 107, 32]⟩ : ByteArray) ++ boolS (s == 1)).toList.length ≤ 100
    simp only [toList_app]
    rw [mk_list [112, 111, 105, 110, 116, 32], mk_list [32], mk_list [32, 116, 111, 111, 107, 32]]
    simp only [List.length_append, List.length_cons, List.length_nil]
    omega
theorem textT_len : ∀ (t : Ast), t.Ok → (textT t).length ≤ 100 * t.sz
  | .leaf x, h => by
    have := leaf_len h
    simp only [textT, Ast.sz]
    omega
  | .neg t, h => by
    have := textT_len t h
    simp only [textT, Ast.sz, List.length_cons]
    omega
  | .bin k a b, h => by
    have h1 := textT_len a h.2.1
    have h2 := textT_len b h.2.2
    have h3 : (if k = 9 then [32, 38, 38, 32] else [32, 124, 124, 32] : List UInt8).length = 4 := by split <;> rfl
    simp only [textT, Ast.sz, List.length_cons, List.length_append, List.length_nil, h3]
    omega
theorem textFold_snoc (rs : List ByteArray) (l : List Nd) (y : Nd) : textFold rs (l ++ [y]) = textFold rs l ++ [textStep (textFold rs l) y] := by simp [textFold]
theorem textFold_app (rs : List ByteArray) (l m : List Nd) : textFold rs (l ++ m) = textFold (textFold rs l) m := by simp [textFold]
theorem textFold_len (rs : List ByteArray) (l : List Nd) : (textFold rs l).length = rs.length + l.length := textFold_length l rs
theorem last_eq {α : Type} {a b : List α} {x y : α} (h : a ++ [x] = b ++ [y]) : x = y := by
  have := congrArg List.getLast? h
  simpa using this
theorem mk_size (l : List UInt8) : (⟨l.toArray⟩ : ByteArray).size = l.length := by simp [ByteArray.size]
theorem texts_bound : ∀ (t : Ast), t.Ok → ∀ (rs : List ByteArray) (M : Nat), (∀ x ∈ rs, x.size ≤ M) → 100 * t.sz ≤ M → ∀ x ∈ textFold rs (t.emit rs.length), x.size ≤ M
  | .leaf y, h, rs, M, hr, hM, x, hx => by
    have hl := textT_len (.leaf y) h
    obtain ⟨vs, e, hv⟩ := textFold_emit (.leaf y) h rs
    have hv0 : vs = [] := by
      simp only [Ast.sz] at hv
      exact List.eq_nil_of_length_eq_zero (by omega)
    subst hv0
    rw [e] at hx
    simp at hx
    rcases hx with hx | rfl
    · exact hr x hx
    · rw [mk_size]
      omega
  | .neg t, h, rs, M, hr, hM, x, hx => by
    have hl := textT_len (.neg t) h
    obtain ⟨vs, e, hv⟩ := textFold_emit (.neg t) h rs
    simp only [Ast.sz] at hM
    have ih := texts_bound t h rs M hr (by omega)
    simp only [Ast.emit] at hx e
    rw [textFold_snoc] at hx e
    have hz := last_eq e
    rcases List.mem_append.1 hx with hx | hx
    · exact ih x hx
    · simp only [List.mem_singleton] at hx
      rw [hx, hz, mk_size]
      simp only [Ast.sz] at hl
      omega
  | .bin k l r, h, rs, M, hr, hM, x, hx => by
    have hl := textT_len (.bin k l r) h
    obtain ⟨vs, e, hv⟩ := textFold_emit (.bin k l r) h rs
    simp only [Ast.sz] at hM hl
    have ih1 := texts_bound l h.2.1 rs M hr (by omega)
    have hn : (textFold rs (l.emit rs.length)).length = rs.length + l.sz := by rw [textFold_len, Ast.emit_length]
    have ih2 := texts_bound r h.2.2 (textFold rs (l.emit rs.length)) M ih1 (by omega)
    rw [hn] at ih2
    simp only [Ast.emit] at hx e
    rw [textFold_snoc, textFold_app] at hx e
    have hz := last_eq e
    rcases List.mem_append.1 hx with hx | hx
    · exact ih2 x hx
    · simp only [List.mem_singleton] at hx
      rw [hx, hz, mk_size]
      omega
end Go.Proofs.YtbojlnbdkaanmaaGreatDoor
namespace Go.Proofs.YtbojlnbdkaanmaaGreatDoor
open Go.RowKit
set_option linter.unusedSimpArgs false
set_option linter.unusedVariables false

theorem nd_all {w : World} {g : Nat} {nd : Nd} {o : Value} (h : w.heap[g]? = some (.cells (nd.cells o).toArray 67 (0, 0))) :
    w.cell? ⟨g, 0, none⟩ = some (.int .i64 nd.k) ∧ w.cell? ⟨g, 1, none⟩ = some (.int .i64 nd.n) ∧ w.cell? ⟨g, 2, none⟩ = some (.int .i64 nd.m) ∧ w.cell? ⟨g, 3, none⟩ = some (.int .i64 nd.sd) ∧ w.cell? ⟨g, 4, none⟩ = some (.int .u8 (nd.d 0)) ∧ w.cell? ⟨g, 5, none⟩ = some (.int .u8 (nd.d 1)) ∧ w.cell? ⟨g, 6, none⟩ = some (.int .u8 (nd.d 2)) ∧ w.cell? ⟨g, 7, none⟩ = some (.int .u8 (nd.d 3)) ∧ w.cell? ⟨g, 8, none⟩ = some (.int .u8 (nd.d 4)) ∧ w.cell? ⟨g, 9, none⟩ = some (.int .u8 (nd.d 5)) ∧ w.cell? ⟨g, 10, none⟩ = some (.int .u8 (nd.d 6)) ∧ w.cell? ⟨g, 11, none⟩ = some (.int .u8 (nd.d 7)) ∧ w.cell? ⟨g, 12, none⟩ = some (.int .u8 (nd.d 8)) ∧ w.cell? ⟨g, 13, none⟩ = some (.int .u8 (nd.d 9)) ∧ w.cell? ⟨g, 14, none⟩ = some (.int .u8 (nd.d 10)) ∧ w.cell? ⟨g, 15, none⟩ = some (.int .u8 (nd.d 11)) ∧ w.cell? ⟨g, 16, none⟩ = some (.int .u8 (nd.d 12)) ∧ w.cell? ⟨g, 17, none⟩ = some (.int .u8 (nd.d 13)) ∧ w.cell? ⟨g, 18, none⟩ = some (.int .u8 (nd.d 14)) ∧ w.cell? ⟨g, 19, none⟩ = some (.int .u8 (nd.d 15)) := by
  refine ⟨?_, ?_, ?_, ?_, ?_, ?_, ?_, ?_, ?_, ?_, ?_, ?_, ?_, ?_, ?_, ?_, ?_, ?_, ?_, ?_⟩ <;> (rw [cell_of_row _ _ _ _ _ _ h]; rfl)
set_option maxRecDepth 100000 in
set_option maxHeartbeats 8000000 in
theorem same_any (w : World) (A B : Option Addr) (ca cb : Nat) (nds : List Nd) (hA : Nodes w w.heap.size A nds) (hB : Nodes w w.heap.size B nds) (hl : nds.length ≤ 1000000) (hof : ∀ nd ∈ nds, nd.of.length ≤ 1000000) :
    Calls Tryz.prog 13 #[.agg #[.slice A nds.length ca], .agg #[.slice B nds.length cb]] w fun e w' => e = .returned (.bool true) ∧ Below w.heap.size w w' := by
  have HA := hide hA
  have HB := hide hB
  have Hof := hide hof
  have hgd := guard65
  clear hA hB hof
  go_enter Tryz.func13, Tryz.ntmps13
  obtain ⟨W0, hW0⟩ : ∃ W0, W0 = (w.alloc (.cells #[.slice A nds.length ca] 25)).alloc (.cells #[.slice B nds.length cb] 25) := ⟨_, rfl⟩
  have g1 : W0.heap[w.heap.size]? = some (.cells #[.slice A nds.length ca] 25 (0, 0)) := by rw [hW0]; exact (heap_alloc_old _ _ (by simp)).trans (heap_alloc_new w _)
  have g2 : W0.heap[w.heap.size + 1]? = some (.cells #[.slice B nds.length cb] 25 (0, 0)) := by rw [hW0]; exact heap_alloc2_new w _ _
  have gb : Below w.heap.size w W0 := by rw [hW0]; exact ((Below.refl _ w).alloc (Nat.le_refl _) _).alloc (by simp) _
  have G1 := hide g1
  have G2 := hide g2
  have GB := hide gb
  have l2 : w.heap.size + 1 < W0.heap.size := World.lt_of_blk g2
  have C1 := hide (show W0.cell? ⟨w.heap.size, 0, none⟩ = some (.slice A nds.length ca) by rw [cell_of_row _ _ _ _ _ _ g1]; rfl)
  have C2 := hide (show W0.cell? ⟨w.heap.size + 1, 0, none⟩ = some (.slice B nds.length cb) by rw [cell_of_row _ _ _ _ _ _ g2]; rfl)
  have HW0 := hide hW0
  clear g1 g2 gb hW0
  go_wp2
  rw [← HW0.out]
  go_loopw [5] (fun iv wr => ∃ k : Nat, k ≤ nds.length ∧ iv = .int .i64 k ∧ Hid (Below W0.heap.size W0 wr)) (fun iv _ => nds.length - (intOf iv).toNat)
  case atStart => exact ⟨0, Nat.zero_le _, rfl, Below.refl _ _⟩
  case round =>
    obtain ⟨k, hk, rfl, HR⟩ := hrel
    have c1 := (HR.out.cell (p := ⟨w.heap.size, 0, none⟩) (show w.heap.size < W0.heap.size by omega)).trans C1.out
    have c2 := (HR.out.cell (p := ⟨w.heap.size + 1, 0, none⟩) l2).trans C2.out
    by_cases hlt : k < nds.length
    · have hbr := GB.out.trans (HR.out.mono GB.out.size)
      obtain ⟨b, off, Ao, co, rfl, hbl, hat, hof⟩ := HA.out.at_ hlt
      obtain ⟨b2, off2, Bo, co2, rfl, hbl2, hat2, hof2⟩ := HB.out.at_ hlt
      have hofl := Hof.out nds[k] (List.getElem_mem hlt)
      obtain ⟨nd, hnd⟩ : ∃ nd, nds[k] = nd := ⟨_, rfl⟩
      rw [hnd] at hat hof hat2 hof2 hofl
      have hltI : (k : Int) < (nds.length : Int) := by omega
      have Hat := hide (hat.below hbr hbl).read
      obtain ⟨W1, hW1⟩ : ∃ W, W = wr.alloc (.cells (nd.cells (.slice Ao nd.of.length co)).toArray 67) := ⟨_, rfl⟩
      obtain ⟨b1, k1, s1⟩ := fresh_facts hW1
      have Hat2 := hide ((hat2.below (hbr.trans (b1.mono hbr.size)) hbl2).read)
      have c2' := (b1.cell (p := ⟨w.heap.size + 1, 0, none⟩) (Nat.lt_of_lt_of_le l2 HR.out.size)).trans c2
      obtain ⟨W2, hW2⟩ : ∃ W, W = W1.alloc (.cells (nd.cells (.slice Bo nd.of.length co2)).toArray 67) := ⟨_, rfl⟩
      obtain ⟨b3, k2, s2⟩ := fresh_facts hW2
      have k12 := (b3.block _ (World.lt_of_blk k1)).trans k1
      have hb2 := b1.trans (b3.mono b1.size)
      have hbw2 := hbr.trans (hb2.mono hbr.size)
      have hof' := (hof.below hbw2 (Nat.le_refl _)).more hbw2.size
      have hof2' := (hof2.below hbw2 (Nat.le_refl _)).more hbw2.size
      have hints := ints_any W2 Ao Bo co co2 nd.of nd.of (by omega) hof' hof2'
      have Hints := hide hints
      have d1 : W2.cell? ⟨wr.heap.size, 20, none⟩ = some (.slice Ao nd.of.length co) := by rw [cell_of_row _ _ _ _ _ _ k12]; rfl
      have d2 : W2.cell? ⟨W1.heap.size, 20, none⟩ = some (.slice Bo nd.of.length co2) := by rw [cell_of_row _ _ _ _ _ _ k2]; rfl
      have HW1 := hide hW1
      have HW2 := hide hW2
      have K12 := hide k12
      have K2 := hide k2
      have HB2 := hide (HR.out.trans (hb2.mono HR.out.size))
      clear hat hof hat2 hof2 hnd hofl hbr hW1 b1 k1 s1 hW2 b3 k2 s2 k12 hb2 hbw2 hof' hof2' hints hbl hbl2
      go_wp2_with (first
        | (with_reducible refine wpList_load_at rfl 67 (.tmp 26) rfl ⟨b, off + k * 21, none⟩ rfl _ _ Hat.out Tryz.underlying67 rfl (by kernel_rfl) ?_)
        | (with_reducible refine wpList_store_fresh rfl 67 (.tmp 6) (.tmp 27) rfl (.agg (nd.cells (.slice Ao nd.of.length co)).toArray) rfl rfl rfl (by kernel_rfl) (nd_one rfl) HW1.out ?_)
        | (with_reducible refine wpList_load_at rfl 67 (.tmp 31) rfl ⟨b2, off2 + k * 21, none⟩ rfl _ _ Hat2.out Tryz.underlying67 rfl (by kernel_rfl) ?_)
        | (with_reducible refine wpList_store_fresh rfl 67 (.tmp 7) (.tmp 32) rfl (.agg (nd.cells (.slice Bo nd.of.length co2)).toArray) rfl rfl rfl (by kernel_rfl) (nd_one rfl) HW2.out ?_)
        | (go_at_call 31; (with_reducible refine Calls.mono Hints.out ?_); rintro e w3 ⟨rfl, hb3⟩; have HB3 := hide (HB2.out.trans (hb3.mono HB2.out.size)); have m1 := (hb3.block _ (World.lt_of_blk K12.out)).trans K12.out; have m2 := (hb3.block _ (World.lt_of_blk K2.out)).trans K2.out; obtain ⟨x0, x1, x2, x3, x4, x5, x6, x7, x8, x9, x10, x11, x12, x13, x14, x15, x16, x17, x18, x19⟩ := nd_all m1; obtain ⟨y0, y1, y2, y3, y4, y5, y6, y7, y8, y9, y10, y11, y12, y13, y14, y15, y16, y17, y18, y19⟩ := nd_all m2; clear hb3 m1 m2 d1 d2 c1 c2 c2'))
      go_roundw
      case rel => exact ⟨k + 1, by omega, by go_num, HB3.out⟩
      case measure => simp [intOf]; omega
    · obtain rfl : k = nds.length := by omega
      go_wp2
      go_ret
      exact ⟨rfl, GB.out.trans (HR.out.mono GB.out.size)⟩
end Go.Proofs.YtbojlnbdkaanmaaGreatDoor
namespace Go.Proofs.YtbojlnbdkaanmaaGreatDoor
open Go.RowKit
set_option linter.unusedSimpArgs false
set_option linter.unusedVariables false

def bytV (l : List UInt8) : List Value := l.map fun b => Value.int .u8 (b.toNat : Int)
theorem info5 : (Tryz.prog.info? 5).map (fun i => (i.zero, i.size, i.bytes)) = some (some (.int .u8 0), 1, 1) := by kernel_rfl
theorem index65 (w : World) (D : Array Value) (k : Nat) (hk : k < 16) (x : Int) (hg : D[k]? = some (.int .u8 x)) : (Instr.index 65 (.agg D) (.int .i64 (k : Int))).run Tryz.prog w = .ok (.int .u8 x) w := by
  have h1 : (0 : Int) ≤ k ∧ (k : Int) < 16 := by omega
  have hz : ∀ w, (sizeOf 5).run Tryz.prog w = .ok 1 w := Tryz.sizeOf5
  have hp : ∀ w, (part 5 D (k * 1)).run Tryz.prog w = .ok (.int .u8 x) w := by
    intro w
    simp [part, isAgg, run_underlying Tryz.underlying5, hg]
  simp [Instr.index, run_underlying Tryz.underlying65, asIntOf, go_sem, hz, hp, h1]
  rw [if_pos hk, hg]
  rfl
theorem shr4 (q : Int) (h : 0 ≤ q ∧ q < 256) : q / 2 ^ 4 = q / 16 := by
  have e : (2 : Int) ^ 4 = 16 := by decide
  rw [e]
theorem and15 (q : Int) (h : 0 ≤ q ∧ q < 256) : bits .and .u8 q 15 = q % 16 := by
  have key : ∀ n : Fin 256, bits .and .u8 ((n.val : Nat) : Int) 15 = ((n.val : Nat) : Int) % 16 := by decide +kernel
  have := key ⟨q.toNat, by omega⟩
  simp only [] at this
  rw [Int.toNat_of_nonneg h.1] at this
  exact this
theorem hexIdx (o : Oper) (a : Act) (y : Operand) (ho : o.op = .index 9 (.const (.string ⟨#[48, 49, 50, 51, 52, 53, 54, 55, 56, 57, 97, 98, 99, 100, 101, 102]⟩)) y) (v : Int) (hv : 0 ≤ v ∧ v ≤ 15) (hy : a.eval y = .int .u8 v) (W : World) :
    (execOp a.eval o).run Tryz.prog W = .ok (.value (.int .u8 ((hexC v).toNat : Int))) W := by
  have h16 : v = 0 ∨ v = 1 ∨ v = 2 ∨ v = 3 ∨ v = 4 ∨ v = 5 ∨ v = 6 ∨ v = 7 ∨ v = 8 ∨ v = 9 ∨ v = 10 ∨ v = 11 ∨ v = 12 ∨ v = 13 ∨ v = 14 ∨ v = 15 := by omega
  unfold execOp
  simp only [ho, hy]
  rcases h16 with rfl | rfl | rfl | rfl | rfl | rfl | rfl | rfl | rfl | rfl | rfl | rfl | rfl | rfl | rfl | rfl <;> (simp [Act.eval, Instr.index, run_underlying Tryz.underlying9, asIntOf, go_sem]; decide)
theorem words_step (d : Nat → Int) (i : Nat) : wordsL d (i + 1) = wordsL d i ++ (if i % 4 = 0 then [32, 120] else []) ++ [hexC (d i / 16), hexC (d i % 16)] := rfl
set_option maxRecDepth 100000 in
set_option maxHeartbeats 4000000 in
theorem words_any (d : Nat → Int) (hd : ∀ i, 0 ≤ d i ∧ d i < 256) : WordsOk d := by
  intro w
  obtain ⟨i5, hi5, hz0, hz1, hz2⟩ := info_parts info5
  obtain ⟨D, hD⟩ : ∃ D, (dCells d).toArray = D := ⟨_, rfl⟩
  have hDs : D.size = 16 := by rw [← hD]; rfl
  have hDg : ∀ i, i < 16 → D[i]? = some (.int .u8 (d i)) := by
    intro i hi
    rw [← hD]
    have h16 : i = 0 ∨ i = 1 ∨ i = 2 ∨ i = 3 ∨ i = 4 ∨ i = 5 ∨ i = 6 ∨ i = 7 ∨ i = 8 ∨ i = 9 ∨ i = 10 ∨ i = 11 ∨ i = 12 ∨ i = 13 ∨ i = 14 ∨ i = 15 := by omega
    rcases h16 with rfl | rfl | rfl | rfl | rfl | rfl | rfl | rfl | rfl | rfl | rfl | rfl | rfl | rfl | rfl | rfl <;> rfl
  rw [hD]
  have HDg := hide hDg
  obtain ⟨fb, fk, fs⟩ := fresh_facts (w := w) (W := w.alloc (.cells D 65)) rfl
  have HB0 := hide fb
  have K0 := hide fk
  have Hd := hide hd
  clear fb fk fs hd hDg hD
  go_enter Tryz.func33, Tryz.ntmps33
  go_wp2_with (with_reducible refine wpList_load_row rfl 65 (.tmp 1) rfl w.heap.size rfl 65 D (0, 0) _ K0.out Tryz.underlying65 rfl (by rw [hDs]; kernel_rfl) ?_)
  obtain ⟨W0, hW0⟩ : ∃ W0, w.alloc (.cells D 65) = W0 := ⟨_, rfl⟩
  rw [hW0]
  rw [hW0] at HB0 K0
  clear hW0
  go_loopw [3, 7] (fun v kv wr => ∃ k : Nat, k ≤ 16 ∧ kv = .int .i64 k ∧ Hid (wr.ownsRow W0.heap.size 5 1 v (wordsL d k).length (bytV (wordsL d k))) ∧ Hid (Below W0.heap.size W0 wr)) (fun _ kv _ => 16 - (intOf kv).toNat)
  case atStart => exact ⟨0, by omega, rfl, World.ownsRow_nil _ _ _ _, Below.refl _ _⟩
  case round =>
    obtain ⟨k, hk, rfl, HO, HB⟩ := hrel
    by_cases hlt : k < 16
    · have hg := HDg.out k hlt
      have hwl := wordsL_length d k
      have hix := fun w => index65 w D k hlt (d k) hg
      obtain ⟨q, hq⟩ : ∃ q, d k = q := ⟨_, rfl⟩
      have hqb := Hd.out k
      rw [hq] at hix hqb
      have Hq := hide hq
      have hws := words_step d k
      have Hws := hide hws
      have hlw : W0.heap.size ≤ wr.heap.size := HB.out.size
      clear hg hq hws

      have hs2 : (⟨#[32, 120]⟩ : ByteArray).size = 2 := rfl
      by_cases h4 : k % 4 = 0
      · have hk4 : ((k : Int) % 4 == 0) = true := by simp; omega
        go_wp2_with (at_builtin; refine Lib.wpList_append_own_string _ rfl (.tmp 14) (.const (.string ⟨#[32, 120]⟩)) 99 9 rfl W0.heap.size 5 i5 Tryz.underlying99 Tryz.underlying9 hi5 hz0 hz1 hz2 _ (wordsL d k).length _ rfl HO.out ⟨#[32, 120]⟩ rfl (by rw [hs2]; unfold maxLen; omega) (by rw [hs2]; omega) (by omega) ?_; intro v1 W1 hown1 hgr1 _; have HX := hide hown1; have HGr := hide hgr1; clear hown1 hgr1)
        have HB1 := hide (HB.out.grown HGr.out hlw (fun j hj => (HO.out.lt j hj).1))
        obtain ⟨v0, hv0⟩ : ∃ v0, v1 = v0 := ⟨_, rfl⟩
        rw [hv0] at HX ⊢
        refine wp_region_held (S := fun _ => True) (by kernel_rfl) ?_
        change wpAnyH _ _ _ _ _ _ _ _ (World.drew _)
        have HS := hide (show (World.drew W1).ownsRow W0.heap.size 5 1 v0 ((wordsL d k).length + (⟨#[32, 120]⟩ : ByteArray).size) (bytV (wordsL d k) ++ Lib.strCells ⟨#[32, 120]⟩) ∧ Below W0.heap.size W0 (World.drew W1) from ⟨own_below HX.out (Below.refl _ _).drew, HB1.out.trans ((Below.refl _ _).drew)⟩)
        refine takeH (i := 0) (d := 16) (v := v0) rfl rfl (by kernel_rfl) (by kernel_rfl) (by kernel_rfl) (fun _ _ _ h => h) rfl trivial ?_ ?_
        · intro W' _; go_simp
        try simp only [Act.put, List.setIfInBounds_toArray, List.set_cons_zero, List.set_cons_succ]
        refine takeH (i := 1) (d := 17) (v := .int .u8 q) rfl rfl (by kernel_rfl) (by kernel_rfl) (by kernel_rfl) (fun _ _ _ h => h) rfl trivial ?_ ?_
        · intro W' _; go_simp
        try simp only [Act.put, List.setIfInBounds_toArray, List.set_cons_zero, List.set_cons_succ]
        refine takeH (i := 2) (d := 18) (v := .int .u8 (q / 16)) rfl rfl (by kernel_rfl) (by kernel_rfl) (by kernel_rfl) (fun _ _ _ h => h) rfl trivial ?_ ?_
        · intro W' _; rw [← shr4 q hqb]; go_simp
        try simp only [Act.put, List.setIfInBounds_toArray, List.set_cons_zero, List.set_cons_succ]
        refine takeH (i := 3) (d := 19) (v := .int .u8 ((hexC (q / 16)).toNat : Int)) rfl rfl (by kernel_rfl) (by kernel_rfl) (by kernel_rfl) (fun _ _ _ h => h) rfl trivial ?_ ?_
        · intro W' _; exact hexIdx _ _ (.tmp 18) rfl (q / 16) (by omega) rfl W'
        try simp only [Act.put, List.setIfInBounds_toArray, List.set_cons_zero, List.set_cons_succ]
        refine takeH (i := 4) (d := 20) (v := .int .u8 q) rfl rfl (by kernel_rfl) (by kernel_rfl) (by kernel_rfl) (fun _ _ _ h => h) rfl trivial ?_ ?_
        · intro W' _; go_simp
        try simp only [Act.put, List.setIfInBounds_toArray, List.set_cons_zero, List.set_cons_succ]
        refine takeH (i := 5) (d := 21) (v := .int .u8 (q % 16)) rfl rfl (by kernel_rfl) (by kernel_rfl) (by kernel_rfl) (fun _ _ _ h => h) rfl trivial ?_ ?_
        · intro W' _; rw [← and15 q hqb]; go_simp
        try simp only [Act.put, List.setIfInBounds_toArray, List.set_cons_zero, List.set_cons_succ]
        refine takeH (i := 6) (d := 22) (v := .int .u8 ((hexC (q % 16)).toNat : Int)) rfl rfl (by kernel_rfl) (by kernel_rfl) (by kernel_rfl) (fun _ _ _ h => h) rfl trivial ?_ ?_
        · intro W' _; exact hexIdx _ _ (.tmp 21) rfl (q % 16) (by omega) rfl W'
        try simp only [Act.put, List.setIfInBounds_toArray, List.set_cons_zero, List.set_cons_succ]
        refine wpAnyH_ready (rs := [7]) (by kernel_rfl) (by simp) ?_
        refine AllReadyH.cons rfl (fun K hK => ?_) AllReadyH.nil
        go_simp
        have hdz : W0.heap.size ≤ (World.drew W1).heap.size := HS.out.2.size
        refine hK.out _ _ trivial (fun _ => ?_)
        have HS2 := hide (And.intro (HS.out.1.alloc (.cells #[.int .u8 ((hexC (q / 16)).toNat : Int), .int .u8 ((hexC (q % 16)).toNat : Int)] 5)) (HS.out.2.alloc hdz (.cells #[.int .u8 ((hexC (q / 16)).toNat : Int), .int .u8 ((hexC (q % 16)).toNat : Int)] 5)))
        clear hK K
        try simp only [Act.put, List.setIfInBounds_toArray, List.set_cons_zero, List.set_cons_succ]
        refine wpAnyH_ready (rs := [8]) (by kernel_rfl) (by simp) ?_
        refine AllReadyH.cons rfl (fun K hK => ?_) AllReadyH.nil
        refine step_append_lies _ rfl (.tmp 16) (.tmp 23) 99 rfl W0.heap.size 5 i5 _ 1 1 Tryz.underlying99 hi5 hz0 hz1 hz2 rfl (by decide) v0 ((wordsL d k).length + (⟨#[32, 120]⟩ : ByteArray).size) _ (by simp [Act.eval, Act.put]) HS2.out.1 ⟨_, 0, none⟩ 2 2 [.int .u8 ((hexC (q / 16)).toNat : Int), .int .u8 ((hexC (q % 16)).toNat : Int)] (by simp [Act.eval, Act.put]) rfl (World.news_of_block (cs := #[.int .u8 ((hexC (q / 16)).toNat : Int), .int .u8 ((hexC (q % 16)).toNat : Int)]) (t := 5) (heap_alloc_new _ _)) (by intro u hu; simp at hu; rcases hu with rfl | rfl <;> rfl) (by decide) (by first | (rw [hs2]; unfold maxLen; omega) | (unfold maxLen; omega)) (by first | (rw [hs2]; omega) | omega) HS2.out.2.size _ rfl ?_
        intro g2 cap2 W2 hown2 hgr2 _ _
        have HX2 := hide hown2
        have HB2 := hide (HS2.out.2.grown hgr2 HS2.out.2.size (fun j hj => (HS2.out.1.lt j hj).1))
        clear hown2 hgr2
        refine hK.out _ _ trivial (fun _ => ?_)
        clear hK K
        try simp only [Act.put, List.setIfInBounds_toArray, List.set_cons_zero, List.set_cons_succ]
        refine takeH (i := 9) (d := 3) (v := .slice (some ⟨g2, 0, none⟩) ((wordsL d k).length + (⟨#[32, 120]⟩ : ByteArray).size + 2) cap2) rfl rfl (by kernel_rfl) (by kernel_rfl) (by kernel_rfl) (fun _ _ _ h => h) rfl trivial ?_ ?_
        · intro W' _; go_simp
        try simp only [Act.put, List.setIfInBounds_toArray, List.set_cons_zero, List.set_cons_succ]
        refine wpAnyH_done (by kernel_rfl) ?_ _
        go_wp2
        go_roundw
        case rel =>
          refine ⟨k + 1, by omega, by go_num, ?_, HB2.out⟩
          have hx := HX2.out
          have e1 : bytV (wordsL d (k + 1)) = bytV (wordsL d k) ++ Lib.strCells ⟨#[32, 120]⟩ ++ [.int .u8 ((hexC (q / 16)).toNat : Int), .int .u8 ((hexC (q % 16)).toNat : Int)] := by
            rw [Hws.out, if_pos h4, Hq.out]
            simp [bytV, Lib.strCells]
          have e2 : (wordsL d (k + 1)).length = (wordsL d k).length + (⟨#[32, 120]⟩ : ByteArray).size + 2 := by
            rw [Hws.out, if_pos h4]
            simp; rfl
          rw [e1, e2]
          exact hx
        case measure => simp [intOf]; omega
      · have hk4 : ((k : Int) % 4 == 0) = false := by simp; omega
        go_wp2
        refine wp_region_held (S := fun _ => True) (by kernel_rfl) ?_
        change wpAnyH _ _ _ _ _ _ _ _ (World.drew _)
        have HS := hide (show (World.drew wr).ownsRow W0.heap.size 5 1 u3 ((wordsL d k).length) (bytV (wordsL d k)) ∧ Below W0.heap.size W0 (World.drew wr) from ⟨own_below HO.out (Below.refl _ _).drew, HB.out.trans ((Below.refl _ _).drew)⟩)
        refine takeH (i := 0) (d := 16) (v := u3) rfl rfl (by kernel_rfl) (by kernel_rfl) (by kernel_rfl) (fun _ _ _ h => h) rfl trivial ?_ ?_
        · intro W' _; go_simp
        try simp only [Act.put, List.setIfInBounds_toArray, List.set_cons_zero, List.set_cons_succ]
        refine takeH (i := 1) (d := 17) (v := .int .u8 q) rfl rfl (by kernel_rfl) (by kernel_rfl) (by kernel_rfl) (fun _ _ _ h => h) rfl trivial ?_ ?_
        · intro W' _; go_simp
        try simp only [Act.put, List.setIfInBounds_toArray, List.set_cons_zero, List.set_cons_succ]
        refine takeH (i := 2) (d := 18) (v := .int .u8 (q / 16)) rfl rfl (by kernel_rfl) (by kernel_rfl) (by kernel_rfl) (fun _ _ _ h => h) rfl trivial ?_ ?_
        · intro W' _; rw [← shr4 q hqb]; go_simp
        try simp only [Act.put, List.setIfInBounds_toArray, List.set_cons_zero, List.set_cons_succ]
        refine takeH (i := 3) (d := 19) (v := .int .u8 ((hexC (q / 16)).toNat : Int)) rfl rfl (by kernel_rfl) (by kernel_rfl) (by kernel_rfl) (fun _ _ _ h => h) rfl trivial ?_ ?_
        · intro W' _; exact hexIdx _ _ (.tmp 18) rfl (q / 16) (by omega) rfl W'
        try simp only [Act.put, List.setIfInBounds_toArray, List.set_cons_zero, List.set_cons_succ]
        refine takeH (i := 4) (d := 20) (v := .int .u8 q) rfl rfl (by kernel_rfl) (by kernel_rfl) (by kernel_rfl) (fun _ _ _ h => h) rfl trivial ?_ ?_
        · intro W' _; go_simp
        try simp only [Act.put, List.setIfInBounds_toArray, List.set_cons_zero, List.set_cons_succ]
        refine takeH (i := 5) (d := 21) (v := .int .u8 (q % 16)) rfl rfl (by kernel_rfl) (by kernel_rfl) (by kernel_rfl) (fun _ _ _ h => h) rfl trivial ?_ ?_
        · intro W' _; rw [← and15 q hqb]; go_simp
        try simp only [Act.put, List.setIfInBounds_toArray, List.set_cons_zero, List.set_cons_succ]
        refine takeH (i := 6) (d := 22) (v := .int .u8 ((hexC (q % 16)).toNat : Int)) rfl rfl (by kernel_rfl) (by kernel_rfl) (by kernel_rfl) (fun _ _ _ h => h) rfl trivial ?_ ?_
        · intro W' _; exact hexIdx _ _ (.tmp 21) rfl (q % 16) (by omega) rfl W'
        try simp only [Act.put, List.setIfInBounds_toArray, List.set_cons_zero, List.set_cons_succ]
        refine wpAnyH_ready (rs := [7]) (by kernel_rfl) (by simp) ?_
        refine AllReadyH.cons rfl (fun K hK => ?_) AllReadyH.nil
        go_simp
        have hdz : W0.heap.size ≤ (World.drew wr).heap.size := HS.out.2.size
        refine hK.out _ _ trivial (fun _ => ?_)
        have HS2 := hide (And.intro (HS.out.1.alloc (.cells #[.int .u8 ((hexC (q / 16)).toNat : Int), .int .u8 ((hexC (q % 16)).toNat : Int)] 5)) (HS.out.2.alloc hdz (.cells #[.int .u8 ((hexC (q / 16)).toNat : Int), .int .u8 ((hexC (q % 16)).toNat : Int)] 5)))
        clear hK K
        try simp only [Act.put, List.setIfInBounds_toArray, List.set_cons_zero, List.set_cons_succ]
        refine wpAnyH_ready (rs := [8]) (by kernel_rfl) (by simp) ?_
        refine AllReadyH.cons rfl (fun K hK => ?_) AllReadyH.nil
        refine step_append_lies _ rfl (.tmp 16) (.tmp 23) 99 rfl W0.heap.size 5 i5 _ 1 1 Tryz.underlying99 hi5 hz0 hz1 hz2 rfl (by decide) u3 ((wordsL d k).length) _ (by simp [Act.eval, Act.put]) HS2.out.1 ⟨_, 0, none⟩ 2 2 [.int .u8 ((hexC (q / 16)).toNat : Int), .int .u8 ((hexC (q % 16)).toNat : Int)] (by simp [Act.eval, Act.put]) rfl (World.news_of_block (cs := #[.int .u8 ((hexC (q / 16)).toNat : Int), .int .u8 ((hexC (q % 16)).toNat : Int)]) (t := 5) (heap_alloc_new _ _)) (by intro u hu; simp at hu; rcases hu with rfl | rfl <;> rfl) (by decide) (by first | (rw [hs2]; unfold maxLen; omega) | (unfold maxLen; omega)) (by first | (rw [hs2]; omega) | omega) HS2.out.2.size _ rfl ?_
        intro g2 cap2 W2 hown2 hgr2 _ _
        have HX2 := hide hown2
        have HB2 := hide (HS2.out.2.grown hgr2 HS2.out.2.size (fun j hj => (HS2.out.1.lt j hj).1))
        clear hown2 hgr2
        refine hK.out _ _ trivial (fun _ => ?_)
        clear hK K
        try simp only [Act.put, List.setIfInBounds_toArray, List.set_cons_zero, List.set_cons_succ]
        refine takeH (i := 9) (d := 3) (v := .slice (some ⟨g2, 0, none⟩) ((wordsL d k).length + 2) cap2) rfl rfl (by kernel_rfl) (by kernel_rfl) (by kernel_rfl) (fun _ _ _ h => h) rfl trivial ?_ ?_
        · intro W' _; go_simp
        try simp only [Act.put, List.setIfInBounds_toArray, List.set_cons_zero, List.set_cons_succ]
        refine wpAnyH_done (by kernel_rfl) ?_ _
        go_wp2
        go_roundw
        case rel =>
          refine ⟨k + 1, by omega, by go_num, ?_, HB2.out⟩
          have hx := HX2.out
          have e1 : bytV (wordsL d (k + 1)) = bytV (wordsL d k) ++ [.int .u8 ((hexC (q / 16)).toNat : Int), .int .u8 ((hexC (q % 16)).toNat : Int)] := by
            rw [Hws.out, if_neg h4, Hq.out]
            simp [bytV, Lib.strCells]
          have e2 : (wordsL d (k + 1)).length = (wordsL d k).length + 2 := by
            rw [Hws.out, if_neg h4]
            simp
          rw [e1, e2]
          exact hx
        case measure => simp [intOf]; omega
    · obtain rfl : k = 16 := by omega
      have hpos : 0 < (wordsL d 16).length := by
        show 0 < (wordsL d (15 + 1)).length
        rw [words_step]
        simp
      have hW : wordsS d = ⟨(wordsL d 16).toArray⟩ := rfl
      have HW := hide hW
      obtain ⟨l, hl⟩ : ∃ l, wordsL d 16 = l := ⟨_, rfl⟩
      rw [hl] at HO hpos HW
      rcases HO.out.2 with ⟨e, h0⟩ | ⟨g, cap, cur, rfl, hb, hgg, hn, hm, hs, ht⟩
      · omega
      · have hO := HO.out
        have hcv : (convert 99 9 (.slice (some ⟨g, 0, none⟩) l.length cap)).run Tryz.prog wr = .ok (.string ⟨l.toArray⟩) wr :=
          run_convert_bytes_back wr 99 9 5 ⟨g, 0, none⟩ cap l Tryz.underlying99 Tryz.underlying5 Tryz.underlying9 (fun j hj => by
            have := hO.cellAt j (by omega)
            have e : ((⟨g, 0, none⟩ : Addr).add j) = ⟨g, j, none⟩ := by unfold Addr.add; split <;> simp_all
            rw [e, this]
            simp [bytV, List.getElem?_eq_getElem hj])
        clear hO hgg hn hm hs ht hb hl hW
        go_wp2
        refine bodyPost_ret (v := .string ⟨l.toArray⟩) (by simp [results, Tryz.results33, go_sem]) rfl ?_
        exact ⟨by rw [HW.out], HB0.out.trans (HB.out.mono HB0.out.size)⟩
end Go.Proofs.YtbojlnbdkaanmaaGreatDoor
namespace Go.Proofs.YtbojlnbdkaanmaaGreatDoor
open Go.RowKit
set_option linter.unusedSimpArgs false
set_option linter.unusedVariables false


/-! ### Plain -/
theorem dedup_snoc2 : ∀ (l : List (Int × Int)) (x y : Int × Int), dedupP (l ++ [x, y]) = if x = y then dedupP (l ++ [x]) else dedupP (l ++ [x]) ++ [y]
  | [], x, y => by
    by_cases h : x = y <;> simp [dedupP, h]
  | [a], x, y => by
    have ih := dedup_snoc2 [] x y
    simp only [List.nil_append] at ih
    show dedupP (a :: x :: [y]) = if x = y then dedupP (a :: x :: []) else dedupP (a :: x :: []) ++ [y]
    unfold dedupP
    by_cases ha : a = x
    · rw [if_pos ha, if_pos ha, ih]
    · rw [if_neg ha, if_neg ha, ih]
      by_cases h : x = y <;> simp [h]
  | a :: b :: l, x, y => by
    have ih := dedup_snoc2 (b :: l) x y
    show dedupP (a :: b :: (l ++ [x, y])) = if x = y then dedupP (a :: b :: (l ++ [x])) else dedupP (a :: b :: (l ++ [x])) ++ [y]
    unfold dedupP
    have e1 : b :: (l ++ [x, y]) = (b :: l) ++ [x, y] := rfl
    have e2 : b :: (l ++ [x]) = (b :: l) ++ [x] := rfl
    rw [e1, e2, ih]
    by_cases ha : a = b
    · rw [if_pos ha, if_pos ha]
    · rw [if_neg ha, if_neg ha]
      by_cases h : x = y <;> simp [h]
theorem dedup_take (ys : List (Int × Int)) (i : Nat) (h1 : i + 1 < ys.length) : dedupP (ys.take (i + 2)) = if ys[i] = ys[i + 1] then dedupP (ys.take (i + 1)) else dedupP (ys.take (i + 1)) ++ [ys[i + 1]] := by
  have e2 : ys.take (i + 2) = ys.take i ++ [ys[i], ys[i + 1]] := by
    rw [show i + 2 = (i + 1) + 1 from rfl, List.take_add_one (i := i + 1), List.getElem?_eq_getElem h1, Option.toList_some, List.take_add_one (i := i), List.getElem?_eq_getElem (by omega), Option.toList_some, List.append_assoc]
    rfl
  have e1 : ys.take (i + 1) = ys.take i ++ [ys[i]] := by
    rw [List.take_add_one, List.getElem?_eq_getElem (by omega), Option.toList_some]
  rw [e2, e1, dedup_snoc2]
/-- No two neighbours are equal below k. -/
def Diff (ys : List (Int × Int)) (k : Nat) : Prop := ∀ (j : Nat) a b, j + 1 < k → ys[j]? = some a → ys[j + 1]? = some b → a ≠ b
theorem dedup_diff {ys : List (Int × Int)} : ∀ (k : Nat), k ≤ ys.length → Diff ys k → dedupP (ys.take k) = ys.take k
  | 0, _, _ => rfl
  | 1, h, _ => by
    cases ys with
    | nil => rfl
    | cons a l => rfl
  | k + 2, h, hd => by
    have ih := dedup_diff (k + 1) (by omega) (fun j a b hj => hd j a b (by omega))
    rw [dedup_take ys k (by omega), if_neg (hd k _ _ (by omega) (List.getElem?_eq_getElem (by omega)) (List.getElem?_eq_getElem (by omega))), ih]
    conv => rhs; rw [List.take_add_one, List.getElem?_eq_getElem (show k + 1 < ys.length by omega), Option.toList_some]
/-- A point stored into a row of points. -/
theorem flatP_set (zs : List (Int × Int)) (k : Nat) (x : Int × Int) (hk : k < zs.length) : ((flatP zs).set (k * 2) (.int .i64 x.1)).set (k * 2 + 1) (.int .i64 x.2) = flatP (zs.set k x) := by
  apply List.ext_getElem?
  intro t
  have hl : (flatP zs).length = zs.length * 2 := flatP_length zs
  have hl2 : (flatP (zs.set k x)).length = zs.length * 2 := by rw [flatP_length, List.length_set]
  by_cases ht : t < zs.length * 2
  · have hi : t / 2 < zs.length := by omega
    have hg := flatP_get zs (t / 2) hi
    have hg2 := flatP_get (zs.set k x) (t / 2) (by rw [List.length_set]; exact hi)
    rw [List.getElem?_set, List.getElem?_set]
    by_cases hkk : t / 2 = k
    · have e : (zs.set k x)[t / 2]'(by rw [List.length_set]; exact hi) = x := by
        subst hkk
        simp
      rw [e] at hg2
      rcases Nat.mod_two_eq_zero_or_one t with q | q
      · have e1 : t = k * 2 := by omega
        have e2 : t / 2 * 2 = t := by omega
        rw [e2] at hg2
        rw [if_neg (by omega), if_pos (by omega), hg2.1]
        simp [hl, ht, e1]
        omega
      · have e1 : t = k * 2 + 1 := by omega
        have e2 : t / 2 * 2 + 1 = t := by omega
        rw [e2] at hg2
        rw [if_pos (by omega), hg2.2]
        simp [hl]
        omega
    · have e : (zs.set k x)[t / 2]'(by rw [List.length_set]; exact hi) = zs[t / 2] := by
        rw [List.getElem_set_ne (fun h => hkk h.symm)]
      rw [e] at hg2
      rw [if_neg (by omega), if_neg (by omega)]
      rcases Nat.mod_two_eq_zero_or_one t with q | q
      · have e2 : t / 2 * 2 = t := by omega
        rw [e2] at hg hg2
        rw [hg.1, hg2.1]
      · have e2 : t / 2 * 2 + 1 = t := by omega
        rw [e2] at hg hg2
        rw [hg.2, hg2.2]
  · rw [List.getElem?_eq_none (by simp; omega), List.getElem?_eq_none (by omega)]
/-- The state of the second loop: k points are written, i are read. -/
structure Cst (ys zs : List (Int × Int)) (k i : Nat) : Prop where
  len : zs.length = ys.length
  head : zs.take k = dedupP (ys.take i)
  rest : ∀ j, i ≤ j + 1 → zs[j]? = ys[j]?
  klt : k < i
  kpos : 0 < k
  ile : i ≤ ys.length
theorem Cst.len_k {ys zs : List (Int × Int)} {k i : Nat} (h : Cst ys zs k i) : (dedupP (ys.take i)).length = k := by
  rw [← h.head, List.length_take, h.len]
  have := h.klt
  have := h.ile
  omega
theorem Cst.same {ys zs : List (Int × Int)} {k i : Nat} (h : Cst ys zs k (i + 1)) (hi : i + 1 < ys.length) (he : ys[i] = ys[i + 1]) : Cst ys zs k (i + 2) := by
  refine ⟨h.len, ?_, fun j hj => h.rest j (by omega), by have := h.klt; omega, h.kpos, by omega⟩
  rw [dedup_take ys i hi, if_pos he]
  exact h.head
theorem Cst.other {ys zs : List (Int × Int)} {k i : Nat} (h : Cst ys zs k (i + 1)) (hi : i + 1 < ys.length) (he : ys[i] ≠ ys[i + 1]) : Cst ys (zs.set k ys[i + 1]) (k + 1) (i + 2) := by
  have hk := h.klt
  have hkl : k < zs.length := by rw [h.len]; omega
  refine ⟨by rw [List.length_set]; exact h.len, ?_, fun j hj => ?_, by omega, by omega, by omega⟩
  · rw [dedup_take ys i hi, if_neg he, ← h.head]
    rw [List.take_add_one, List.getElem?_set, if_pos rfl, if_pos hkl, Option.toList_some, List.take_set_of_le (Nat.le_refl _)]
  · rw [List.getElem?_set, if_neg (by omega)]
    exact h.rest j (by omega)

/-! ### clear -/
theorem run_clear36 (w : World) (ty : TypeId) (b o n c : Nat) (hn : 0 < n) (hc : ∀ j, j < n * 2 → (w.cell? ⟨b, o + j, none⟩).isSome = true) (hf : ∀ j, j < n * 2 → w.frozen? ⟨b, o + j, none⟩ = false) :
    (Builtin.clear_ #[36] ty #[.slice (some ⟨b, o, none⟩) n c]).run Tryz.prog w = .ok (.tuple #[]) (w.setCells b o (List.replicate (n * 2) (.int .i64 0))) := by
  have hzc : (Builtin.zeroCells (Value.agg #[.int .i64 0, .int .i64 0]).cells n).toList = List.replicate (n * 2) (.int .i64 0) := by
    simp only [Builtin.zeroCells, Value.cells]
    apply List.ext_getElem
    · simp
    · intro i h1 h2
      simp
      rcases Nat.mod_two_eq_zero_or_one i with q | q <;> simp [q]
  have hst := run_storeCells_cells (P := Tryz.prog) b o (List.replicate (n * 2) (.int .i64 0)) 0 w (by simpa using hc) (by simpa using hf) (by intro v hv'; rw [List.eq_of_mem_replicate hv']; rfl)
  simp only [Nat.add_zero] at hst
  obtain ⟨m, rfl⟩ : ∃ m, n = m + 1 := ⟨n - 1, by omega⟩
  have hv : ∀ w, (zeroValue 50).run Tryz.prog w = .ok (.agg #[.int .i64 0, .int .i64 0]) w := Tryz.zeroValue50
  simp [Builtin.clear_, run_underlying Tryz.underlying36, hv, hzc, hst]


/-! ### What a run of cells written leaves -/
theorem setCells_far {g : Nat} : ∀ (vs : List Value) (o : Nat) {w : World} (k : Nat), k ≠ g → (w.setCells g o vs).heap[k]? = w.heap[k]?
  | [], _, _, _, _ => rfl
  | v :: r, o, w, k, hk => by
    rw [World.setCells, setCells_far r (o + 1) k hk]
    exact Below.heap_setCell w ⟨g, o, none⟩ v k hk
theorem setCells_same (g : Nat) : ∀ (vs : List Value) (o : Nat) (w : World), (w.setCells g o vs).os = w.os ∧ (w.setCells g o vs).tape = w.tape ∧ (w.setCells g o vs).output = w.output ∧ (w.setCells g o vs).heap.size = w.heap.size
  | [], _, _ => ⟨rfl, rfl, rfl, rfl⟩
  | v :: r, o, w => by
    obtain ⟨h1, h2, h3, h4⟩ := setCells_same g r (o + 1) (w.setCell ⟨g, o, none⟩ v)
    rw [World.setCells]
    exact ⟨h1, h2, h3, by rw [h4]; simp [World.setCell]⟩
theorem blk_set1 {w : World} {g : Nat} {cur : Array Value} {e : TypeId} (h : w.heap[g]? = some (.cells cur e (0, 0))) (o : Nat) (v : Value) : (w.setCell ⟨g, o, none⟩ v).heap[g]? = some (.cells (cur.setIfInBounds o v) e (0, 0)) := by
  simp [World.setCell, Array.getElem?_modify, h]
theorem setCells_row {g : Nat} {e : TypeId} : ∀ (vs : List Value) (o : Nat) (w : World) (cur : Array Value), w.heap[g]? = some (.cells cur e (0, 0)) → o + vs.length ≤ cur.size →
    ∃ cur', (w.setCells g o vs).heap[g]? = some (.cells cur' e (0, 0)) ∧ cur'.size = cur.size ∧ cur'.toList = cur.toList.take o ++ vs ++ cur.toList.drop (o + vs.length)
  | [], o, w, cur, h, _ => ⟨cur, h, rfl, by simp⟩
  | v :: r, o, w, cur, h, hl => by
    have h2 := blk_set1 h o v
    simp only [List.length_cons] at hl
    obtain ⟨cur', h3, h4, h5⟩ := setCells_row r (o + 1) (w.setCell ⟨g, o, none⟩ v) _ h2 (by simp; omega)
    refine ⟨cur', h3, by rw [h4]; simp, ?_⟩
    rw [h5, Array.toList_setIfInBounds]
    have ho : o < cur.toList.length := by rw [Array.length_toList]; omega
    rw [List.take_set, List.drop_set_of_lt (by omega)]
    simp only [List.length_cons]
    rw [show o + 1 + r.length = o + (r.length + 1) by omega]
    congr 1
    rw [List.take_succ_eq_append_getElem ho, List.set_append_right _ _ (by rw [List.length_take]; omega)]
    have ho' : o < cur.size := by omega
    simp [Nat.min_eq_left (Nat.le_of_lt ho')]
theorem below_cells {B g : Nat} (hg : B ≤ g) (vs : List Value) (o : Nat) (w : World) : Below B w (w.setCells g o vs) := by
  obtain ⟨h1, h2, h3, h4⟩ := setCells_same g vs o w
  exact ⟨h1, h2, h3, by omega, fun k hk => setCells_far vs o k (by omega)⟩

/-! ### A row of points of the call's own -/
def Own (w : World) (base g n cap : Nat) (zs : List (Int × Int)) : Prop := zs.length = n ∧ w.ownsRow base 50 2 (.slice (some ⟨g, 0, none⟩) n cap) n (flatP zs)
theorem Own.at_ {w : World} {base g n cap : Nat} {zs : List (Int × Int)} (h : Own w base g n cap zs) {k : Nat} {x : Int × Int} (hk : zs[k]? = some x) : w.cell? ⟨g, k * 2, none⟩ = some (.int .i64 x.1) ∧ w.cell? ⟨g, k * 2 + 1, none⟩ = some (.int .i64 x.2) := by
  obtain ⟨hl, h⟩ := h
  obtain ⟨hlt, hx⟩ := List.getElem?_eq_some_iff.1 hk
  obtain ⟨h1, h2⟩ := flatP_get zs k hlt
  rw [hx] at h1 h2
  have a1 := h.cellAt (k * 2) (by rw [hl] at hlt; omega)
  have a2 := h.cellAt (k * 2 + 1) (by rw [hl] at hlt; omega)
  rw [h1] at a1
  rw [h2] at a2
  exact ⟨a1, a2⟩
theorem Own.there_ {w : World} {base g n cap : Nat} {zs : List (Int × Int)} (h : Own w base g n cap zs) (o m : Nat) (ho : o + m ≤ n * 2) : w.there g o m := by
  obtain ⟨hl, h⟩ := h
  intro j hj
  have a := h.cellAt (o + j) (by omega)
  have hq : (flatP zs)[o + j]?.isSome = true := by
    rw [List.getElem?_eq_getElem (by rw [flatP_length]; omega)]
    rfl
  exact ⟨by rw [a]; exact hq, h.frozenAt _⟩
theorem Own.cells {w : World} {base g n cap : Nat} {zs ys : List (Int × Int)} {o : Nat} {vs : List Value} (h : Own w base g n cap zs) (hy : ys.length = n) (ho : o + vs.length ≤ n * 2) (he : flatP ys = (flatP zs).take o ++ vs ++ (flatP zs).drop (o + vs.length)) :
    Own (w.setCells g o vs) base g n cap ys ∧ base ≤ g := by
  obtain ⟨hl, h⟩ := h
  rcases h.2 with ⟨e0, _⟩ | ⟨g', cap', cur, e0, hb, hg, hn, hm, hs, ht⟩
  · cases e0
  · injection e0 with e1 _ e3
    injection e1 with e1
    injection e1 with e1
    subst e1; subst e3
    obtain ⟨cur', h3, h4, h5⟩ := setCells_row vs o w cur hg (by omega)
    refine ⟨⟨hy, by rw [flatP_length, hy], .inr ⟨g, cap, cur', rfl, hb, h3, hn, hm, by omega, ?_⟩⟩, hb⟩
    rw [h5, he, ← ht]
    have hcl : cur.toList.length = cur.size := Array.length_toList
    rw [List.take_take, Nat.min_eq_left (by omega), List.drop_take]
    have e1 : (cur.toList.take o).length = o := by rw [List.length_take]; omega
    rw [List.take_append, List.take_append, List.length_append, e1, List.take_of_length_le (by omega : (cur.toList.take o).length ≤ n * 2), List.take_of_length_le (by omega : vs.length ≤ n * 2 - o)]
theorem Own.below {w w' : World} {base g n cap : Nat} {zs : List (Int × Int)} (h : Own w base g n cap zs) (hb : Below w.heap.size w w') : Own w' base g n cap zs := ⟨h.1, own_below h.2 hb⟩
theorem set_two (l : List Value) (o : Nat) (a b : Value) (h : o + 2 ≤ l.length) : (l.set o a).set (o + 1) b = l.take o ++ [a, b] ++ l.drop (o + 2) := by
  apply List.ext_getElem?
  intro t
  have e1 : (l.take o).length = o := by rw [List.length_take]; omega
  rw [List.getElem?_set, List.getElem?_set]
  by_cases h1 : t < o
  · rw [if_neg (by omega), if_neg (by omega), List.append_assoc, List.getElem?_append_left (by omega), List.getElem?_take, if_pos h1]
  · by_cases h2 : t = o
    · subst h2
      rw [if_neg (by omega), if_pos rfl, if_pos (by omega), List.append_assoc, List.getElem?_append_right (by omega), e1]
      simp
    · by_cases h3 : t = o + 1
      · subst h3
        rw [if_pos rfl, if_pos (by rw [List.length_set]; omega), List.append_assoc, List.getElem?_append_right (by omega), e1]
        simp
      · rw [if_neg (by omega), if_neg (by omega), List.getElem?_append_right (by simp; omega), List.getElem?_drop]
        congr 1
        simp
        omega
theorem Own.set_ {w : World} {base g n cap : Nat} {zs : List (Int × Int)} (h : Own w base g n cap zs) (k : Nat) (x : Int × Int) (hk : k < n) :
    Own (w.setCells g (k * 2) [.int .i64 x.1, .int .i64 x.2]) base g n cap (zs.set k x) ∧ Below base w (w.setCells g (k * 2) [.int .i64 x.1, .int .i64 x.2]) := by
  have hl := h.1
  have := h.cells (ys := zs.set k x) (o := k * 2) (vs := [.int .i64 x.1, .int .i64 x.2]) (by rw [List.length_set, hl]) (by simp; omega)
    (by rw [← flatP_set zs k x (by omega), set_two _ _ _ _ (by rw [flatP_length]; omega)]; rfl)
  exact ⟨this.1, below_cells this.2 _ _ _⟩
theorem flatP_take (zs : List (Int × Int)) (k : Nat) : flatP (zs.take k) = (flatP zs).take (k * 2) := by
  induction zs generalizing k with
  | nil => simp [flatP]
  | cons a l ih =>
    cases k with
    | zero => simp [flatP]
    | succ k =>
      rw [List.take_succ_cons]
      have e1 : flatP (a :: l.take k) = .int .i64 a.1 :: .int .i64 a.2 :: flatP (l.take k) := rfl
      have e2 : flatP (a :: l) = .int .i64 a.1 :: .int .i64 a.2 :: flatP l := rfl
      rw [e1, e2, show (k + 1) * 2 = k * 2 + 1 + 1 by omega, List.take_succ_cons, List.take_succ_cons, ih]
theorem Own.clear_ {w : World} {base g n cap : Nat} {zs : List (Int × Int)} (h : Own w base g n cap zs) (k : Nat) (hk : k ≤ n) :
    Own (w.setCells g (k * 2) (List.replicate ((n - k) * 2) (.int .i64 0))) base g n cap (zs.take k ++ List.replicate (n - k) (0, 0)) ∧ Below base w (w.setCells g (k * 2) (List.replicate ((n - k) * 2) (.int .i64 0))) := by
  have hl := h.1
  have hr : ∀ m, flatP (List.replicate m (0, 0)) = List.replicate (m * 2) (.int .i64 0) := by
    intro m
    induction m with
    | zero => rfl
    | succ m ih =>
      rw [List.replicate_succ]
      have e1 : flatP ((0, 0) :: List.replicate m (0, 0)) = .int .i64 0 :: .int .i64 0 :: flatP (List.replicate m (0, 0)) := rfl
      rw [e1, ih, show (m + 1) * 2 = m * 2 + 1 + 1 by omega, List.replicate_succ, List.replicate_succ]
  have happ : flatP (zs.take k ++ List.replicate (n - k) (0, 0)) = flatP (zs.take k) ++ flatP (List.replicate (n - k) (0, 0)) := by simp [flatP]
  have := h.cells (ys := zs.take k ++ List.replicate (n - k) (0, 0)) (o := k * 2) (vs := List.replicate ((n - k) * 2) (.int .i64 0)) (by simp; omega) (by simp; omega)
    (by
      rw [happ, hr, flatP_take]
      rw [List.drop_of_length_le (by rw [flatP_length, List.length_replicate]; omega), List.append_nil])
  exact ⟨this.1, below_cells this.2 _ _ _⟩
theorem Own.cap_ {w : World} {base g n cap : Nat} {zs : List (Int × Int)} (h : Own w base g n cap zs) : n ≤ cap := by
  rcases h.2.2 with ⟨e0, _⟩ | ⟨g', cap', cur, e0, hb, hg, hn, hm, hs, ht⟩
  · cases e0
  · injection e0 with e1 _ e3
    subst e3
    exact hn
theorem Own.base_ {w : World} {base g n cap : Nat} {zs : List (Int × Int)} (h : Own w base g n cap zs) : base ≤ w.heap.size := by
  have := h.2.lt g rfl
  omega
theorem Own.prs {w : World} {base g n cap : Nat} {zs : List (Int × Int)} (h : Own w base g n cap zs) : Prs w w.heap.size (some ⟨g, 0, none⟩) zs := prs_of_own h.1 h.2
theorem Prs.take {w : World} {B : Nat} {A : Option Addr} {zs : List (Int × Int)} (h : Prs w B A zs) (k : Nat) : Prs w B A (zs.take k) := by
  intro i cs hi
  refine h i cs ?_
  rw [List.map_take, List.getElem?_take] at hi
  split at hi
  · exact hi
  · cases hi


set_option maxRecDepth 100000 in
set_option maxHeartbeats 4000000 in
theorem compact_any (n : Nat) (hn : 2 ≤ n) (hm : n ≤ 1000000) : CompOk n := by
  intro W base g cap ys hy h
  have HO := hide (show Own W base g n cap ys from ⟨hy, h⟩)
  have Hy := hide hy
  have hnI : ¬ ((n : Int) < 2) := by omega
  have hgd := guard50
  have hcap := HO.out.cap_
  clear h hy
  go_enter Tryz.func40, Tryz.ntmps40
  go_wp2
  go_loopw [3] (fun i wr => ∃ j : Nat, j + 1 ≤ n ∧ i = .int .i64 ((j : Int) + 1) ∧ Hid (Diff ys (j + 1)) ∧ Hid (Below W.heap.size W wr)) (fun i _ => n - (intOf i).toNat)
  case atStart => exact ⟨0, by omega, rfl, fun j a b h => by omega, Below.refl _ _⟩
  case round =>
    obtain ⟨j, hj, rfl, HD, HB⟩ := hrel
    by_cases hlt : j + 1 < n
    · have hyl := Hy.out
      obtain ⟨x, hx⟩ : ∃ x, ys[j]? = some x := ⟨_, List.getElem?_eq_getElem (by omega)⟩
      obtain ⟨y, hyy⟩ : ∃ y, ys[j + 1]? = some y := ⟨_, List.getElem?_eq_getElem (by omega)⟩
      have HOr := hide (HO.out.below HB.out)
      obtain ⟨c, c'⟩ := HOr.out.at_ hx
      obtain ⟨d, d'⟩ := HOr.out.at_ hyy
      have Hx := hide hx
      have Hyy := hide hyy
      have hlI : (j : Int) + 1 < (n : Int) := by omega
      have hcj : ¬ cap = j + 1 := by omega
      clear hyl hx hyy
      obtain ⟨x1, x2⟩ := x
      obtain ⟨y1, y2⟩ := y
      by_cases he : (x1, x2) = (y1, y2)
      · injection he with he1 he2
        subst he1
        subst he2
        go_wp2
        go_quiet (fail)
        go_wp2
        obtain ⟨wo, hwo⟩ : ∃ wo : World, wo = wr.drewN nq := ⟨_, rfl⟩
        go_loopw [3, 5] (fun k i wi => ∃ (K I : Nat) (zs : List (Int × Int)), k = .int .i64 K ∧ i = .int .i64 ((I : Int) + 1) ∧ j + 1 + I + 1 ≤ n ∧ Hid (Cst ys zs K (j + 1 + I + 1)) ∧ Hid (Own wi base g n cap zs) ∧ Hid (Below base W wi)) (fun _ i _ => n - (intOf i).toNat)
        case atStart =>
          have hyl := Hy.out
          refine ⟨j + 1, 0, ys, by go_num, by go_num, by omega, ⟨rfl, ?_, fun j hj => rfl, by omega, by omega, by omega⟩, HOr.out.below (below_drewN (Below.refl _ _) _), (below_drewN HB.out _).mono HO.out.base_⟩
          obtain ⟨hx1, hx2⟩ := List.getElem?_eq_some_iff.1 Hx.out
          obtain ⟨hy1, hy2⟩ := List.getElem?_eq_some_iff.1 Hyy.out
          rw [dedup_take ys j (by omega), if_pos (by rw [hx2, hy2]), dedup_diff (j + 1) (by omega) HD.out]
        case round =>
          clear c c' d d'
          obtain ⟨K, I, zs, rfl, rfl, hI, HC, HZ, HBz⟩ := hrel
          have hKi := HC.out.klt
          by_cases hlt2 : j + 1 + I + 1 < n
          · have hyl := Hy.out
            obtain ⟨u, hu⟩ : ∃ u, ys[j + 1 + I]? = some u := ⟨_, List.getElem?_eq_getElem (by omega)⟩
            obtain ⟨v, hv⟩ : ∃ v, ys[j + 1 + I + 1]? = some v := ⟨_, List.getElem?_eq_getElem (by omega)⟩
            have hzu := (HC.out.rest (j + 1 + I) (by omega)).trans hu
            have hzv := (HC.out.rest (j + 1 + I + 1) (by omega)).trans hv
            obtain ⟨c, c'⟩ := HZ.out.at_ hzu
            obtain ⟨d, d'⟩ := HZ.out.at_ hzv
            rw [show (j + 1 + I) * 2 = (j + 1) * 2 + I * 2 by omega] at c c'
            rw [show (j + 1 + I + 1) * 2 = (j + 1) * 2 + (I + 1) * 2 by omega] at d d'
            have Hu := hide hu
            have Hv := hide hv
            clear hyl hu hv hzu hzv
            obtain ⟨u1, u2⟩ := u
            obtain ⟨v1, v2⟩ := v
            by_cases hf : (u1, u2) = (v1, v2)
            · injection hf with hf1 hf2
              subst hf1
              subst hf2
              go_wp2
              go_quiet (fail)
              go_wp2
              go_roundw
              case rel =>
                obtain ⟨hx1, hx2⟩ := List.getElem?_eq_some_iff.1 Hu.out
                obtain ⟨hy1, hy2⟩ := List.getElem?_eq_some_iff.1 Hv.out
                exact ⟨K, I + 1, zs, rfl, by go_num, by omega, HC.out.same (i := j + 1 + I) (by have := Hy.out; omega) (by rw [hx2, hy2]), HZ.out.below (below_drewN (Below.refl _ _) _), (HBz.out.trans (below_drewN (Below.refl _ _) _))⟩
              case measure => simp [intOf]; omega
            · have hne : (!v1 == u1 || !v2 == u2) = true := by
                by_cases h1 : v1 = u1
                · have : v2 ≠ u2 := fun h => hf (by rw [h1, h])
                  simp [this]
                · simp [h1]
              have Hne := hide hne
              have Hf := hide hf
              clear hf hne
              go_wp2
              go_quiet (fail)
              rw [Hne.out]
              have HZ2 := hide fun q : Nat => HZ.out.below (below_drewN (Below.refl _ _) q)
              have hKn : K < n := by omega
              obtain ⟨z, hz⟩ : ∃ z, zs[K]? = some z := ⟨_, List.getElem?_eq_getElem (by rw [HZ.out.1]; exact hKn)⟩
              obtain ⟨e, e'⟩ := HZ.out.at_ hz
              have f := (HZ.out.there_ (K * 2) 2 (by omega) 0 (by omega)).2
              have f' := (HZ.out.there_ (K * 2) 2 (by omega) 1 (by omega)).2
              rw [Nat.add_zero] at f
              clear hz
              go_wp2
              go_roundw
              case rel =>
                obtain ⟨hx1, hx2⟩ := List.getElem?_eq_some_iff.1 Hu.out
                obtain ⟨hy1, hy2⟩ := List.getElem?_eq_some_iff.1 Hv.out
                have hs := (HZ2.out ‹_›).set_ K (v1, v2) hKn
                refine ⟨K + 1, I + 1, zs.set K (v1, v2), by go_num, by go_num, by omega, ?_, hs.1, (HBz.out.trans (below_drewN (Below.refl _ _) _)).trans hs.2⟩
                have := HC.out.other (i := j + 1 + I) (by have := Hy.out; omega) (by rw [hx2, hy2]; exact Hf.out)
                rw [hy2] at this
                exact this
              case measure => simp [intOf]; omega
          · have hIn : j + 1 + I + 1 = n := by omega
            have hKn : K < n := by omega
            have hcK : ¬ cap = K := by omega
            have hzl := HZ.out.1
            have hcl : ∀ ty, (Builtin.clear_ #[36] ty #[.slice (some ⟨g, K * 2, none⟩) (n - K) (cap - K)]).run Tryz.prog wr = .ok (.tuple #[]) (wr.setCells g (K * 2) (List.replicate ((n - K) * 2) (.int .i64 0))) := fun ty =>
              run_clear36 wr ty g (K * 2) (n - K) (cap - K) (by omega) (fun j hj => (HZ.out.there_ (K * 2) ((n - K) * 2) (by omega) j hj).1) (fun j hj => (HZ.out.there_ (K * 2) ((n - K) * 2) (by omega) j hj).2)
            have HE := hide hIn
            have HZl := hide hzl
            clear hIn hzl
            go_wp2
            refine bodyPost_ret (v := .slice (some ⟨g, 0, none⟩) K cap) (by simp [results, Tryz.results40, go_sem]) rfl ?_
            have hc := HZ.out.clear_ K (by omega)
            have hk := HC.out.len_k
            have hhd := HC.out.head
            rw [HE.out, ← Hy.out, List.take_length] at hk hhd
            refine ⟨HBz.out.trans hc.2, by rw [hk], ?_⟩
            have := hc.1.prs.take K
            rw [List.take_append_of_le_length (by rw [List.length_take, HZl.out]; omega), List.take_take, Nat.min_self, hhd] at this
            exact this
      · have hne : (y1 == x1 && y2 == x2) = false := by
          by_cases h1 : y1 = x1
          · have : y2 ≠ x2 := fun h => he (by rw [h1, h])
            simp [this]
          · simp [h1]
        have He := hide he
        have Hne := hide hne
        clear he hne
        go_wp2
        go_quiet (fail)
        rw [Hne.out]
        go_wp2
        go_roundw
        case rel =>
          refine ⟨j + 1, by omega, by go_num, ?_, below_drewN HB.out _⟩
          intro q a b hq ha hb
          by_cases hqj : q = j
          · subst hqj
            rw [Hx.out] at ha
            rw [Hyy.out] at hb
            injection ha with ha
            injection hb with hb
            subst ha
            subst hb
            exact He.out
          · exact HD.out q a b (by omega) ha hb
        case measure => simp [intOf]; omega
    · obtain rfl : j + 1 = n := by omega
      go_wp2
      refine bodyPost_ret (v := .slice (some ⟨g, 0, none⟩) (j + 1) cap) (by simp [results, Tryz.results40, go_sem]) rfl ?_
      have hdd := dedup_diff (j + 1) (by rw [Hy.out]; exact Nat.le_refl _) HD.out
      rw [← Hy.out, List.take_length] at hdd
      refine ⟨HB.out.mono HO.out.base_, by rw [hdd, Hy.out], ?_⟩
      rw [hdd]
      exact (HO.out.below HB.out).prs
/-- Compact's contract at any length. -/
theorem comp_ok (n : Nat) (hm : n ≤ 1000000) : CompOk n := by
  by_cases h : n < 2
  · exact compact_small n h
  · exact compact_any n (by omega) hm
end Go.Proofs.YtbojlnbdkaanmaaGreatDoor
namespace Go.Proofs.YtbojlnbdkaanmaaGreatDoor
open Go.RowKit
set_option linter.unusedSimpArgs false
set_option linter.unusedVariables false

theorem takeHG {P : Program} {ops : Array Oper} {Q : Exit → Act → World → Prop} {md : Region.Mode} {S : World → Prop} {i : Nat} {d : Tmp} {oi : Oper} {v : Value} {fuel : Nat} {listed : Array Bool} {a : Act} {w : World} (hi : ops[i]? = some oi) (hd : oi.dst = some d)
    (hs : Region.noSelect ops = true) (hf : Region.free md ops listed i = true) (hr : (Region.ready md ops listed).contains i = true)
    (hQ : ∀ c a w, Q (.panic c) (a.put (some d) v) w → Q (.panic c) a w) (hg : Region.wanted oi (yielded ops a.tmps) = true) (hS : S w) (hy : ∀ W, S W → (execOp a.eval oi).run P W = .ok (.value v) W)
    (h : wpAnyH P md ops Q S fuel (listed.setIfInBounds i true) (a.put (some d) v) w) : wpAnyH P md ops Q S (fuel + 1) listed a w :=
  wpAnyH_take hi hs hf hr (fun c a w => by rw [hd]; exact hQ c a w) (Or.inl ⟨hg, hy⟩) hS (by rw [hd]; exact h)
/-- What is read of the package's variables, in a world behind the call's start. -/
structure Std (w W : World) : Prop where
  bel : Below w.heap.size w W
  env : Env W
  evs : Evs W
theorem Std.next {w W W' : World} (h : Std w W) (hb : Below W.heap.size W W') : Std w W' := ⟨h.bel.trans (hb.mono h.bel.size), h.env.below hb, h.evs.below hb⟩
/-- The program's Text at a parsed policy. -/
theorem text_parsed {s : ByteArray} {t : Ast} {ts : List Tok} (h : Parsed s t ts) {nds : List Nd} (hn : (parseR s).2 = nds) (w : World) (A : Option Addr) (c : Nat) (hN : Nodes w w.heap.size A nds) (hE : Env w) :
    Calls Tryz.prog 16 #[.agg #[.slice A nds.length c]] w fun e w' => e = .returned (.string ⟨(textT t).toArray⟩) ∧ Below w.heap.size w w' := by
  have hl := h.length
  rw [hn] at hl
  have he : nds = t.emit 0 := by rw [← hn, h.nds]
  have hT := textF_emit t h.ok
  rw [← he] at hT
  rw [← hT]
  have hnum : ∀ nd ∈ nds, NumOk nd := fun nd hnd => emit_num t h.ok 0 nd (by rw [← he]; exact hnd)
  refine text_any w A c nds hN (fun i nd hi => h.ndok i nd (by rw [hn]; exact hi)) (fun nd hnd => ⟨(hnum nd hnd).n, (hnum nd hnd).m⟩) (by omega) (fun x hx => ?_) (fun nd hnd h6 => words_any nd.d ((hnum nd hnd).d h6)) hE
  have hb := texts_bound t h.ok [] 40000 (fun x hx => by cases hx) (by have := h.len; omega) x (by
    rw [List.length_nil, ← he]
    exact hx)
  omega

set_option maxRecDepth 100000 in
set_option maxHeartbeats 8000000 in
theorem law5 (w : World) (s : ByteArray) (hs : s.size ≤ maxLen) (hE : Env w) (hV : Evs w) :
    Calls Tryz.prog 5 #[.string s] w fun e w' => e = .returned (.bool true) ∧ Below w.heap.size w w' := by
  unfold maxLen at hs
  have H0 := hide (show Std w w from ⟨Below.refl _ _, hE, hV⟩)
  clear hE hV
  by_cases h6 : s.size ≤ 200
  · have e6 : decide ((200 : Int) < (s.size : Int)) = false := by simp; omega
    go_enter Tryz.func5, Tryz.ntmps5
    go_wp2_with fail
    refine Calls.mono (sanity_any _ H0.out.env H0.out.evs) ?_
    rintro e w1 ⟨rfl, hb⟩
    have H1 := hide (H0.out.next hb)
    clear hb
    go_wp2_with fail
    obtain ⟨er, her⟩ : ∃ er, (parseR s).1 = er := ⟨_, rfl⟩
    obtain ⟨nds, hnds⟩ : ∃ nds, (parseR s).2 = nds := ⟨_, rfl⟩
    have Her := hide her
    have Hnds := hide hnds
    refine Calls.mono (parse_all w1 s H1.out.env) ?_
    rintro e w2 ⟨hb, A, c, rfl, hN, _, _⟩
    rw [her, hnds]
    rw [hnds] at hN
    have H2 := hide (H1.out.next hb)
    have HN := hide hN
    clear hb hN her hnds
    by_cases h0 : er = 0
    · subst h0
      obtain ⟨t, ts, hp⟩ := parsed Her.out
      have hnl := hp.length
      rw [Hnds.out] at hnl
      have HPt := hide hp
      have hrt := round_trip t hp.ok hp.len
      have hne : nds = t.emit 0 := by rw [← Hnds.out, hp.nds]
      rw [← hne] at hrt
      obtain ⟨T, hT⟩ : ∃ T : ByteArray, (⟨(textT t).toArray⟩ : ByteArray) = T := ⟨_, rfl⟩
      rw [hT] at hrt
      have htx := fun W A c hN hE => text_parsed hp Hnds.out W A c hN hE
      rw [hT] at htx
      have Htx := hide htx
      have Hrt := hide hrt
      have hofs : ∀ nd ∈ nds, nd.of.length ≤ 1000000 := fun nd hnd => by
        have := (emit_num t hp.ok 0 nd (by rw [← hne]; exact hnd)).of
        omega
      have Hofs := hide hofs
      clear hp hne hrt htx hT hofs
      obtain ⟨Z, hZ⟩ : ∃ Z, Z = w2.alloc (.cells #[.slice A nds.length c] 25) := ⟨_, rfl⟩
      obtain ⟨fb, fk, fs⟩ := fresh_facts hZ
      have H3 := hide (H2.out.next fb)
      have N3 := hide (Nodes.more (Nodes.below HN.out fb (Nat.le_refl _)) fb.size)
      have K3 := hide fk
      have HZ := hide hZ
      clear fb fk fs hZ
      go_wp2_with fail
      rw [← HZ.out]
      refine Calls.mono (Htx.out Z A c N3.out H3.out.env) ?_
      rintro e w5 ⟨rfl, hb⟩
      have H5 := hide (H3.out.next hb)
      have N5 := hide (Nodes.more (Nodes.below N3.out hb (Nat.le_refl _)) hb.size)
      have K5 := hide ((hb.block _ (World.lt_of_blk K3.out)).trans K3.out)
      clear hb
      go_wp2_with fail
      refine Calls.mono (parse_all w5 T H5.out.env) ?_
      rintro e w6 ⟨hb, A2, c2, rfl, hN2, _, _⟩
      have H6 := hide (H5.out.next hb)
      have N6 := hide (Nodes.more (Nodes.below N5.out hb (Nat.le_refl _)) hb.size)
      have K6 := hide ((hb.block _ (World.lt_of_blk K5.out)).trans K5.out)
      clear hb
      rcases Hrt.out with hr | hr
      · rw [hr]
        clear hr
        go_wp2
        go_ret
        exact ⟨rfl, H6.out.bel.alloc H6.out.bel.size _⟩
      · rw [hr]
        rw [hr] at hN2
        have HN2 := hide hN2
        clear hr hN2
        obtain ⟨Y, hY⟩ : ∃ Y, Y = w6.alloc (.cells #[.slice A2 nds.length c2] 25) := ⟨_, rfl⟩
        obtain ⟨fb, fk, fs⟩ := fresh_facts hY
        have H7 := hide (H6.out.next fb)
        have N7 := hide (Nodes.more (Nodes.below N6.out fb (Nat.le_refl _)) fb.size)
        have M7 := hide (Nodes.more (Nodes.below HN2.out fb (Nat.le_refl _)) fb.size)
        have K7 := hide ((fb.block _ (World.lt_of_blk K6.out)).trans K6.out)
        have L7 := hide fk
        have HY := hide hY
        clear fb fk fs hY
        have e2 : ((0 : Int) == 2) = false := by decide
        go_wp2
        have HDr := hide (Below.refl Y.heap.size Y).drew
        rw [← HY.out]
        refine wp_region_held (S := fun W' => W'.heap[w2.heap.size]? = some (.cells #[.slice A nds.length c] 25 (0, 0)) ∧ W'.heap[w6.heap.size]? = some (.cells #[.slice A2 nds.length c2] 25 (0, 0))) (by kernel_rfl) ?_
        change wpAnyH _ _ _ _ _ _ _ _ (World.drew _)
        have HS := hide (show Y.drew.heap[w2.heap.size]? = some (.cells #[.slice A nds.length c] 25 (0, 0)) ∧ Y.drew.heap[w6.heap.size]? = some (.cells #[.slice A2 nds.length c2] 25 (0, 0)) from ⟨K7.out, L7.out⟩)
        refine takeHG (i := 0) (d := 30) (v := .bool true) rfl rfl (by kernel_rfl) (by kernel_rfl) (by kernel_rfl) (fun _ _ _ h => h) (by rfl) HS.out ?_ ?_
        · intro W' _; go_simp
        try simp only [Act.put, List.setIfInBounds_toArray, List.set_cons_zero, List.set_cons_succ]
        refine takeHG (i := 1) (d := 31) (v := .bool true) rfl rfl (by kernel_rfl) (by kernel_rfl) (by kernel_rfl) (fun _ _ _ h => h) (by rfl) HS.out ?_ ?_
        · intro W' _; go_simp
        try simp only [Act.put, List.setIfInBounds_toArray, List.set_cons_zero, List.set_cons_succ]
        refine takeHG (i := 2) (d := 32) (v := .int .i64 0) rfl rfl (by kernel_rfl) (by kernel_rfl) (by kernel_rfl) (fun _ _ _ h => h) (by rfl) HS.out ?_ ?_
        · intro W' _; go_simp
        try simp only [Act.put, List.setIfInBounds_toArray, List.set_cons_zero, List.set_cons_succ]
        refine takeHG (i := 3) (d := 33) (v := .bool true) rfl rfl (by kernel_rfl) (by kernel_rfl) (by kernel_rfl) (fun _ _ _ h => h) (by rfl) HS.out ?_ ?_
        · intro W' _; go_simp
        try simp only [Act.put, List.setIfInBounds_toArray, List.set_cons_zero, List.set_cons_succ]
        refine takeHG (i := 4) (d := 34) (v := .bool true) rfl rfl (by kernel_rfl) (by kernel_rfl) (by kernel_rfl) (fun _ _ _ h => h) (by rfl) HS.out ?_ ?_
        · intro W' _; go_simp
        try simp only [Act.put, List.setIfInBounds_toArray, List.set_cons_zero, List.set_cons_succ]
        refine takeHG (i := 5) (d := 35) (v := .bool true) rfl rfl (by kernel_rfl) (by kernel_rfl) (by kernel_rfl) (fun _ _ _ h => h) (by rfl) HS.out ?_ ?_
        · intro W' _; go_simp
        try simp only [Act.put, List.setIfInBounds_toArray, List.set_cons_zero, List.set_cons_succ]
        refine takeHG (i := 6) (d := 36) (v := .agg #[.slice A nds.length c]) rfl rfl (by kernel_rfl) (by kernel_rfl) (by kernel_rfl) (fun _ _ _ h => h) (by rfl) HS.out ?_ ?_
        · intro W' hS; exact y_load1 25 (.tmp 4) rfl w2.heap.size rfl 25 _ (0, 0) _ hS.1 Tryz.underlying25 rfl (by kernel_rfl)
        try simp only [Act.put, List.setIfInBounds_toArray, List.set_cons_zero, List.set_cons_succ]
        refine takeHG (i := 7) (d := 37) (v := .agg #[.slice A2 nds.length c2]) rfl rfl (by kernel_rfl) (by kernel_rfl) (by kernel_rfl) (fun _ _ _ h => h) (by rfl) HS.out ?_ ?_
        · intro W' hS; exact y_load1 25 (.tmp 6) rfl w6.heap.size rfl 25 _ (0, 0) _ hS.2 Tryz.underlying25 rfl (by kernel_rfl)
        try simp only [Act.put, List.setIfInBounds_toArray, List.set_cons_zero, List.set_cons_succ]
        refine wpAnyH_ready (rs := [8]) (by kernel_rfl) (by simp) ?_
        refine AllReadyH.cons rfl (fun K hK => ?_) AllReadyH.nil
        go_simp
        refine Calls.mono (same_any _ A A2 c c2 nds (Nodes.more (Nodes.below N7.out HDr.out (Nat.le_refl _)) HDr.out.size) (Nodes.more (Nodes.below M7.out HDr.out (Nat.le_refl _)) HDr.out.size) (by omega) Hofs.out) ?_
        rintro e wa ⟨rfl, hb⟩
        have Da := hide (HDr.out.trans (hb.mono HDr.out.size))
        clear hb
        have Ea := hide (H7.out.next Da.out)
        have Pa := hide (Nodes.more (Nodes.below N7.out Da.out (Nat.le_refl _)) Da.out.size)
        have Qa := hide (Nodes.more (Nodes.below M7.out Da.out (Nat.le_refl _)) Da.out.size)
        have Sa := hide (And.intro ((Da.out.block _ (World.lt_of_blk K7.out)).trans K7.out) ((Da.out.block _ (World.lt_of_blk L7.out)).trans L7.out))
        refine hK.out _ _ Sa.out (fun _ => ?_)
        clear hK K
        try simp only [Act.put, List.setIfInBounds_toArray, List.set_cons_zero, List.set_cons_succ]
        refine takeHG (i := 9) (d := 39) (v := .bool true) rfl rfl (by kernel_rfl) (by kernel_rfl) (by kernel_rfl) (fun _ _ _ h => h) (by rfl) Sa.out ?_ ?_
        · intro W' _; go_simp
        try simp only [Act.put, List.setIfInBounds_toArray, List.set_cons_zero, List.set_cons_succ]
        refine takeHG (i := 10) (d := 40) (v := .bool true) rfl rfl (by kernel_rfl) (by kernel_rfl) (by kernel_rfl) (fun _ _ _ h => h) (by rfl) Sa.out ?_ ?_
        · intro W' _; go_simp
        try simp only [Act.put, List.setIfInBounds_toArray, List.set_cons_zero, List.set_cons_succ]
        refine takeHG (i := 11) (d := 41) (v := .agg #[.slice A2 nds.length c2]) rfl rfl (by kernel_rfl) (by kernel_rfl) (by kernel_rfl) (fun _ _ _ h => h) (by rfl) Sa.out ?_ ?_
        · intro W' hS; exact y_load1 25 (.tmp 6) rfl w6.heap.size rfl 25 _ (0, 0) _ hS.2 Tryz.underlying25 rfl (by kernel_rfl)
        try simp only [Act.put, List.setIfInBounds_toArray, List.set_cons_zero, List.set_cons_succ]
        refine takeHG (i := 13) (d := 43) (v := .agg #[.slice A nds.length c]) rfl rfl (by kernel_rfl) (by kernel_rfl) (by kernel_rfl) (fun _ _ _ h => h) (by rfl) Sa.out ?_ ?_
        · intro W' hS; exact y_load1 25 (.tmp 4) rfl w2.heap.size rfl 25 _ (0, 0) _ hS.1 Tryz.underlying25 rfl (by kernel_rfl)
        try simp only [Act.put, List.setIfInBounds_toArray, List.set_cons_zero, List.set_cons_succ]
        refine wpAnyH_ready (rs := [12]) (by kernel_rfl) (by simp) ?_
        refine AllReadyH.cons rfl (fun K hK => ?_) AllReadyH.nil
        go_simp
        refine Calls.mono (Htx.out _ A2 c2 Qa.out Ea.out.env) ?_
        rintro e wb ⟨rfl, hb⟩
        have Db := hide (Da.out.trans (hb.mono Da.out.size))
        clear hb
        have Eb := hide (H7.out.next Db.out)
        have Pb := hide (Nodes.more (Nodes.below N7.out Db.out (Nat.le_refl _)) Db.out.size)
        have Qb := hide (Nodes.more (Nodes.below M7.out Db.out (Nat.le_refl _)) Db.out.size)
        have Sb := hide (And.intro ((Db.out.block _ (World.lt_of_blk K7.out)).trans K7.out) ((Db.out.block _ (World.lt_of_blk L7.out)).trans L7.out))
        refine hK.out _ _ Sb.out (fun _ => ?_)
        clear hK K
        try simp only [Act.put, List.setIfInBounds_toArray, List.set_cons_zero, List.set_cons_succ]
        refine wpAnyH_ready (rs := [14]) (by kernel_rfl) (by simp) ?_
        refine AllReadyH.cons rfl (fun K hK => ?_) AllReadyH.nil
        go_simp
        refine Calls.mono (Htx.out _ A c Pb.out Eb.out.env) ?_
        rintro e wd ⟨rfl, hb⟩
        have Dd := hide (Db.out.trans (hb.mono Db.out.size))
        clear hb
        have Ed := hide (H7.out.next Dd.out)
        have Pd := hide (Nodes.more (Nodes.below N7.out Dd.out (Nat.le_refl _)) Dd.out.size)
        have Qd := hide (Nodes.more (Nodes.below M7.out Dd.out (Nat.le_refl _)) Dd.out.size)
        have Sd := hide (And.intro ((Dd.out.block _ (World.lt_of_blk K7.out)).trans K7.out) ((Dd.out.block _ (World.lt_of_blk L7.out)).trans L7.out))
        refine hK.out _ _ Sd.out (fun _ => ?_)
        clear hK K
        try simp only [Act.put, List.setIfInBounds_toArray, List.set_cons_zero, List.set_cons_succ]
        refine takeHG (i := 15) (d := 45) (v := .bool true) rfl rfl (by kernel_rfl) (by kernel_rfl) (by kernel_rfl) (fun _ _ _ h => h) (by rfl) Sd.out ?_ ?_
        · intro W' _; go_simp
        try simp only [Act.put, List.setIfInBounds_toArray, List.set_cons_zero, List.set_cons_succ]
        refine takeHG (i := 16) (d := 46) (v := .bool true) rfl rfl (by kernel_rfl) (by kernel_rfl) (by kernel_rfl) (fun _ _ _ h => h) (by rfl) Sd.out ?_ ?_
        · intro W' _; go_simp
        try simp only [Act.put, List.setIfInBounds_toArray, List.set_cons_zero, List.set_cons_succ]
        refine takeHG (i := 17) (d := 2) (v := .bool true) rfl rfl (by kernel_rfl) (by kernel_rfl) (by kernel_rfl) (fun _ _ _ h => h) (by rfl) Sd.out ?_ ?_
        · intro W' _; go_simp
        try simp only [Act.put, List.setIfInBounds_toArray, List.set_cons_zero, List.set_cons_succ]
        refine wpAnyH_done (by kernel_rfl) ?_ _
        go_wp2
        refine bodyPost_ret (v := .bool true) (by simp [results, Tryz.results5, go_sem]) rfl ?_
        exact ⟨rfl, Ed.out.bel⟩
    · have e9 : (er != 0) = true := by simpa using h0
      clear h0
      go_wp2
      go_ret
      exact ⟨rfl, H2.out.bel.alloc H2.out.bel.size _⟩
  · have e6 : decide ((200 : Int) < (s.size : Int)) = true := by simp; omega
    go_enter Tryz.func5, Tryz.ntmps5
    go_wp2_with fail
    refine Calls.mono (sanity_any _ H0.out.env H0.out.evs) ?_
    rintro e w1 ⟨rfl, hb⟩
    have H1 := hide (H0.out.next hb)
    clear hb
    go_wp2
    go_ret
    exact ⟨rfl, H1.out.bel⟩
end Go.Proofs.YtbojlnbdkaanmaaGreatDoor
