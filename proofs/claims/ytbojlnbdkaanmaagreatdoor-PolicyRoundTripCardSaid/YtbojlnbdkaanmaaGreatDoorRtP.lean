/-
  The round trip in plain Lean: the text of a tree is read back as the tree.
-/
import Derived.Test.YtbojlnbdkaanmaaGreatDoorDemP
import Derived.Test.YtbojlnbdkaanmaaGreatDoorTxtA
namespace Go.Proofs.YtbojlnbdkaanmaaGreatDoor
open Go.RowKit
set_option linter.unusedSimpArgs false
set_option linter.unusedVariables false

/-! ### The text of a tree -/
def textT : Ast → List UInt8
  | .leaf x => (textStep [] x).toList
  | .neg t => 33 :: textT t
  | .bin k a b => 40 :: (textT a ++ ((if k = 9 then [32, 38, 38, 32] else [32, 124, 124, 32]) ++ (textT b ++ [41])))
theorem textStep_leaf {x : Nd} (h : Leaf x) (ts : List ByteArray) : textStep ts x = textStep [] x := by
  cases h with
  | any => rfl
  | num k n hk hn =>
    have : k = 2 ∨ k = 3 ∨ k = 4 ∨ k = 5 := by omega
    rcases this with rfl | rfl | rfl | rfl <;> rfl
  | stage n d hn hd hz => rfl
  | took n m s hn hm hs => rfl
theorem atS_last (rs vs : List ByteArray) (v : ByteArray) (xs : List ByteArray) (n : Nat) (hn : n = rs.length + (vs.length + 1)) : atS (rs ++ vs ++ [v] ++ xs) (some (lastI n)) = v := by
  subst hn
  unfold atS lastI
  simp only []
  rw [show (((rs.length + (vs.length + 1) : Nat) : Int) - 1).toNat = (rs ++ vs).length by simp; omega]
  rw [List.getD_eq_getElem?_getD, List.append_assoc (rs ++ vs), List.getElem?_append_right (Nat.le_refl _), Nat.sub_self]
  rfl
def textFold (rs : List ByteArray) (nds : List Nd) : List ByteArray := nds.foldl (fun ts nd => ts ++ [textStep ts nd]) rs
theorem list_ext {a b : ByteArray} (h : a.toList = b.toList) : a = b := by rw [← mk_toList a, ← mk_toList b, h]
theorem textFold_emit : ∀ (t : Ast), t.Ok → ∀ rs : List ByteArray, ∃ vs, textFold rs (t.emit rs.length) = rs ++ vs ++ [⟨(textT t).toArray⟩] ∧ vs.length + 1 = t.sz
  | .leaf x, h, rs => ⟨[], by simp [textFold, Ast.emit, textT, textStep_leaf h rs, mk_toList], rfl⟩
  | .neg t, h, rs => by
    obtain ⟨vs, h1, h2⟩ := textFold_emit t h rs
    refine ⟨vs ++ [⟨(textT t).toArray⟩], ?_, by simp [Ast.sz, h2]⟩
    unfold textFold at h1 ⊢
    simp only [Ast.emit, List.foldl_append, h1, List.foldl_cons, List.foldl_nil]
    have hs : textStep (rs ++ vs ++ [⟨(textT t).toArray⟩]) (mkO 8 [lastI (rs.length + t.sz)]) = ⟨(textT (.neg t)).toArray⟩ := by
      show (⟨#[33]⟩ : ByteArray) ++ (atS (rs ++ vs ++ [⟨(textT t).toArray⟩]) (some (lastI ((rs.length + t.sz : Nat))))) = _
      have := atS_last rs vs ⟨(textT t).toArray⟩ [] (rs.length + t.sz) (by omega)
      rw [List.append_nil] at this
      rw [this]
      refine list_ext ?_
      rw [toList_app, mk_list [33], mk_list, mk_list]
      rfl
    rw [hs]
    simp
  | .bin k l r, h, rs => by
    obtain ⟨hk, ha, hb⟩ := h
    obtain ⟨vl, h1, h2⟩ := textFold_emit l ha rs
    obtain ⟨vr, h3, h4⟩ := textFold_emit r hb (rs ++ vl ++ [⟨(textT l).toArray⟩])
    have hlen : (rs ++ vl ++ [(⟨(textT l).toArray⟩ : ByteArray)]).length = rs.length + l.sz := by simp; omega
    rw [hlen] at h3
    refine ⟨vl ++ [⟨(textT l).toArray⟩] ++ vr ++ [⟨(textT r).toArray⟩], ?_, by simp [Ast.sz]; omega⟩
    unfold textFold at h1 h3 ⊢
    simp only [Ast.emit, List.foldl_append, h1, h3, List.foldl_cons, List.foldl_nil]
    have hs : textStep (rs ++ vl ++ [⟨(textT l).toArray⟩] ++ vr ++ [⟨(textT r).toArray⟩]) (mkO k [lastI (rs.length + l.sz), lastI (rs.length + l.sz + r.sz)]) = ⟨(textT (.bin k l r)).toArray⟩ := by
      have e1 := atS_last rs vl ⟨(textT l).toArray⟩ (vr ++ [⟨(textT r).toArray⟩]) (rs.length + l.sz) (by omega)
      have e2 := atS_last (rs ++ vl ++ [⟨(textT l).toArray⟩]) vr ⟨(textT r).toArray⟩ [] (rs.length + l.sz + r.sz) (by rw [hlen]; omega)
      rw [List.append_nil] at e2
      rw [← List.append_assoc] at e1
      rcases hk with rfl | rfl
      · show (⟨#[40]⟩ : ByteArray) ++ atS _ (some _) ++ (⟨#[32, 38, 38, 32]⟩ : ByteArray) ++ atS _ (some _) ++ (⟨#[41]⟩ : ByteArray) = _
        rw [e1, e2]
        refine list_ext ?_
        simp only [toList_app]
        rw [mk_list [40], mk_list (textT l), mk_list [32, 38, 38, 32], mk_list (textT r), mk_list [41], mk_list]
        simp [textT]
      · show (⟨#[40]⟩ : ByteArray) ++ atS _ (some _) ++ (⟨#[32, 124, 124, 32]⟩ : ByteArray) ++ atS _ (some _) ++ (⟨#[41]⟩ : ByteArray) = _
        rw [e1, e2]
        refine list_ext ?_
        simp only [toList_app]
        rw [mk_list [40], mk_list (textT l), mk_list [32, 124, 124, 32], mk_list (textT r), mk_list [41], mk_list]
        simp [textT]
    rw [hs]
    simp
theorem textF_emit (t : Ast) (h : t.Ok) : textF (t.emit 0) = ⟨(textT t).toArray⟩ := by
  obtain ⟨vs, h1, _⟩ := textFold_emit t h []
  unfold textF textAll
  unfold textFold at h1
  rw [List.length_nil] at h1
  rw [h1]
  simp [List.getLastD_eq_getLast?]

/-! ### Its tokens -/
def wordW (d : Nat → Int) (i : Nat) : List UInt8 := [120, hexC (d (4 * i) / 16), hexC (d (4 * i) % 16), hexC (d (4 * i + 1) / 16), hexC (d (4 * i + 1) % 16), hexC (d (4 * i + 2) / 16), hexC (d (4 * i + 2) % 16), hexC (d (4 * i + 3) / 16), hexC (d (4 * i + 3) % 16)]
def toksN (x : Nd) : List Tok :=
  if x.k = 1 then [wdT tAny]
  else if x.k = 2 then [wdT tVersion, sgT [61, 61], nmT x.n.toNat]
  else if x.k = 3 then [wdT tVersion, sgT [62, 61], nmT x.n.toNat]
  else if x.k = 4 then [wdT tEpoch, sgT [61, 61], nmT x.n.toNat]
  else if x.k = 5 then [wdT tEpoch, sgT [62, 61], nmT x.n.toNat]
  else if x.k = 6 then [wdT tStage, nmT x.n.toNat, wdT tIs, wdT (wordW x.d 0), wdT (wordW x.d 1), wdT (wordW x.d 2), wdT (wordW x.d 3)]
  else [wdT tPoint, nmT x.n.toNat, nmT x.m.toNat, wdT tTook, wdT (if x.sd = 1 then tTrue else tFalse)]
def toksT : Ast → List Tok
  | .leaf x => toksN x
  | .neg t => sgT [33] :: toksT t
  | .bin k a b => sgT [40] :: (toksT a ++ (sgT (if k = 9 then [38, 38] else [124, 124]) :: (toksT b ++ [sgT [41]])))
theorem itoaS_list {n : Int} (h : 0 ≤ n) : (itoaS n).toList = Lib.decDigits n.toNat := by
  obtain ⟨m, rfl⟩ : ∃ m : Nat, n = m := ⟨n.toNat, by omega⟩
  unfold itoaS Lib.itoa
  rw [if_neg (by omega), mk_list]
theorem bnd_sp (l : List UInt8) : Bnd (32 :: l) := by
  intro c h
  simp at h
  subst h
  exact ⟨by decide, by decide, by decide, by decide⟩
theorem hexC_wit {v : Int} (h : 0 ≤ v ∧ v ≤ 15) : isWit (hexC v).toNat = true := by
  have : v = 0 ∨ v = 1 ∨ v = 2 ∨ v = 3 ∨ v = 4 ∨ v = 5 ∨ v = 6 ∨ v = 7 ∨ v = 8 ∨ v = 9 ∨ v = 10 ∨ v = 11 ∨ v = 12 ∨ v = 13 ∨ v = 14 ∨ v = 15 := by omega
  rcases this with rfl | rfl | rfl | rfl | rfl | rfl | rfl | rfl | rfl | rfl | rfl | rfl | rfl | rfl | rfl | rfl <;> decide
theorem hexd_hexC {v : Int} (h : 0 ≤ v ∧ v ≤ 15) : hexd ((hexC v).toNat : Int) = some v := by
  have : v = 0 ∨ v = 1 ∨ v = 2 ∨ v = 3 ∨ v = 4 ∨ v = 5 ∨ v = 6 ∨ v = 7 ∨ v = 8 ∨ v = 9 ∨ v = 10 ∨ v = 11 ∨ v = 12 ∨ v = 13 ∨ v = 14 ∨ v = 15 := by omega
  rcases this with rfl | rfl | rfl | rfl | rfl | rfl | rfl | rfl | rfl | rfl | rfl | rfl | rfl | rfl | rfl | rfl <;> decide
theorem nib {v : Int} (h : 0 ≤ v ∧ v < 256) : (0 ≤ v / 16 ∧ v / 16 ≤ 15) ∧ (0 ≤ v % 16 ∧ v % 16 ≤ 15) ∧ 16 * (v / 16) + v % 16 = v := by omega
theorem lex_wordW {d : Nat → Int} (hd : ∀ i, 0 ≤ d i ∧ d i < 256) (i : Nat) (rest : List UInt8) (hb : Bnd rest) : lexL (wordW d i ++ rest) = (lexL rest).map (wdT (wordW d i) :: ·) := by
  unfold wordW
  refine lexL_word 120 _ rest (by decide) ?_ (by simp) hb
  intro x hx
  simp only [List.mem_cons, List.not_mem_nil, or_false] at hx
  rcases hx with rfl | rfl | rfl | rfl | rfl | rfl | rfl | rfl | rfl
  · decide
  · exact hexC_wit (nib (hd _)).1
  · exact hexC_wit (nib (hd _)).2.1
  · exact hexC_wit (nib (hd _)).1
  · exact hexC_wit (nib (hd _)).2.1
  · exact hexC_wit (nib (hd _)).1
  · exact hexC_wit (nib (hd _)).2.1
  · exact hexC_wit (nib (hd _)).1
  · exact hexC_wit (nib (hd _)).2.1
theorem wordsL_eq (d : Nat → Int) : wordsL d 16 = 32 :: (wordW d 0 ++ (32 :: (wordW d 1 ++ (32 :: (wordW d 2 ++ (32 :: wordW d 3)))))) := by
  simp [wordsL, wordW]
theorem lex_w (o : List UInt8) (rest : List UInt8) (hb : Bnd rest) (h : ∃ c r, o = c :: r ∧ isLet c.toNat = true) (hw : ∀ x ∈ o, isWit x.toNat = true) (hl : o.length ≤ 12) : lexL (o ++ rest) = (lexL rest).map (wdT o :: ·) := by
  obtain ⟨c, r, rfl, hc⟩ := h
  exact lexL_word c r rest hc hw hl hb
theorem lex_leaf {x : Nd} (h : Leaf x) (rest : List UInt8) (hb : Bnd rest) : lexL ((textStep [] x).toList ++ rest) = (lexL rest).map (toksN x ++ ·) := by
  have wAny := fun r hr => lex_w tAny r hr ⟨_, _, rfl, by decide⟩ (by decide) (by decide)
  have wVer := fun r hr => lex_w tVersion r hr ⟨_, _, rfl, by decide⟩ (by decide) (by decide)
  have wEpo := fun r hr => lex_w tEpoch r hr ⟨_, _, rfl, by decide⟩ (by decide) (by decide)
  have wSta := fun r hr => lex_w tStage r hr ⟨_, _, rfl, by decide⟩ (by decide) (by decide)
  have wIs := fun r hr => lex_w tIs r hr ⟨_, _, rfl, by decide⟩ (by decide) (by decide)
  have wPoi := fun r hr => lex_w tPoint r hr ⟨_, _, rfl, by decide⟩ (by decide) (by decide)
  have wToo := fun r hr => lex_w tTook r hr ⟨_, _, rfl, by decide⟩ (by decide) (by decide)
  have wTru := fun r hr => lex_w tTrue r hr ⟨_, _, rfl, by decide⟩ (by decide) (by decide)
  have wFal := fun r hr => lex_w tFalse r hr ⟨_, _, rfl, by decide⟩ (by decide) (by decide)
  cases h with
  | any =>
    show lexL ((⟨#[97, 110, 121]⟩ : ByteArray).toList ++ rest) = _
    rw [mk_list [97, 110, 121]]
    exact wAny rest hb
  | num k n hk hn =>
    have hnum := lexL_num n.toNat rest (by omega) hb
    have h4 : k = 2 ∨ k = 3 ∨ k = 4 ∨ k = 5 := by omega
    rcases h4 with rfl | rfl | rfl | rfl
    · show lexL (((⟨#[118, 101, 114, 115, 105, 111, 110, 32, 61, 61, 32]⟩ : ByteArray) ++ itoaS n).toList ++ rest) = _
      rw [toList_app, mk_list [118, 101, 114, 115, 105, 111, 110, 32, 61, 61, 32], itoaS_list hn.1, List.append_assoc]
      show lexL (tVersion ++ (32 :: 61 :: 61 :: 32 :: (Lib.decDigits n.toNat ++ rest))) = _
      rw [wVer _ (bnd_sp _), lexL_sp, lexL_eqq, lexL_sp, hnum]
      simp [Option.map_map, Function.comp_def, toksN, mkN]
    · show lexL (((⟨#[118, 101, 114, 115, 105, 111, 110, 32, 62, 61, 32]⟩ : ByteArray) ++ itoaS n).toList ++ rest) = _
      rw [toList_app, mk_list [118, 101, 114, 115, 105, 111, 110, 32, 62, 61, 32], itoaS_list hn.1, List.append_assoc]
      show lexL (tVersion ++ (32 :: 62 :: 61 :: 32 :: (Lib.decDigits n.toNat ++ rest))) = _
      rw [wVer _ (bnd_sp _), lexL_sp, lexL_ge, lexL_sp, hnum]
      simp [Option.map_map, Function.comp_def, toksN, mkN]
    · show lexL (((⟨#[101, 112, 111, 99, 104, 32, 61, 61, 32]⟩ : ByteArray) ++ itoaS n).toList ++ rest) = _
      rw [toList_app, mk_list [101, 112, 111, 99, 104, 32, 61, 61, 32], itoaS_list hn.1, List.append_assoc]
      show lexL (tEpoch ++ (32 :: 61 :: 61 :: 32 :: (Lib.decDigits n.toNat ++ rest))) = _
      rw [wEpo _ (bnd_sp _), lexL_sp, lexL_eqq, lexL_sp, hnum]
      simp [Option.map_map, Function.comp_def, toksN, mkN]
    · show lexL (((⟨#[101, 112, 111, 99, 104, 32, 62, 61, 32]⟩ : ByteArray) ++ itoaS n).toList ++ rest) = _
      rw [toList_app, mk_list [101, 112, 111, 99, 104, 32, 62, 61, 32], itoaS_list hn.1, List.append_assoc]
      show lexL (tEpoch ++ (32 :: 62 :: 61 :: 32 :: (Lib.decDigits n.toNat ++ rest))) = _
      rw [wEpo _ (bnd_sp _), lexL_sp, lexL_ge, lexL_sp, hnum]
      simp [Option.map_map, Function.comp_def, toksN, mkN]
  | stage n d hn hd hz =>
    show lexL (((⟨#[115, 116, 97, 103, 101, 32]⟩ : ByteArray) ++ itoaS n ++ (⟨#[32, 105, 115]⟩ : ByteArray) ++ wordsS d).toList ++ rest) = _
    simp only [toList_app]
    rw [mk_list [115, 116, 97, 103, 101, 32], mk_list [32, 105, 115], itoaS_list hn.1]
    unfold wordsS
    rw [mk_list, wordsL_eq]
    simp only [List.append_assoc, List.cons_append, List.nil_append]
    show lexL (tStage ++ (32 :: (Lib.decDigits n.toNat ++ (32 :: (tIs ++ (32 :: (wordW d 0 ++ (32 :: (wordW d 1 ++ (32 :: (wordW d 2 ++ (32 :: (wordW d 3 ++ rest))))))))))))) = _
    rw [wSta _ (bnd_sp _), lexL_sp, lexL_num n.toNat _ (by omega) (bnd_sp _), lexL_sp, wIs _ (bnd_sp _), lexL_sp, lex_wordW hd 0 _ (bnd_sp _), lexL_sp, lex_wordW hd 1 _ (bnd_sp _), lexL_sp, lex_wordW hd 2 _ (bnd_sp _), lexL_sp, lex_wordW hd 3 _ hb]
    simp [Option.map_map, Function.comp_def, toksN]
  | took n m s hn hm hs =>
    show lexL (((⟨#[112, 111, 105, 110, 116, 32]⟩ : ByteArray) ++ itoaS n ++ (⟨#[32]⟩ : ByteArray) ++ itoaS m ++ (⟨#[32, 116, 111, 111, 107, 32]⟩ : ByteArray) ++ boolS (s == 1)).toList ++ rest) = _
    simp only [toList_app]
    rw [mk_list [112, 111, 105, 110, 116, 32], mk_list [32], mk_list [32, 116, 111, 111, 107, 32], itoaS_list hn.1, itoaS_list hm.1]
    have hbool : (boolS (s == 1)).toList = if s = 1 then tTrue else tFalse := by
      rcases hs with rfl | rfl
      · exact mk_list tTrue
      · exact mk_list tFalse
    rw [hbool]
    simp only [List.append_assoc, List.cons_append, List.nil_append]
    show lexL (tPoint ++ (32 :: (Lib.decDigits n.toNat ++ (32 :: (Lib.decDigits m.toNat ++ (32 :: (tTook ++ (32 :: ((if s = 1 then tTrue else tFalse) ++ rest))))))))) = _
    rw [wPoi _ (bnd_sp _), lexL_sp, lexL_num n.toNat _ (by omega) (bnd_sp _), lexL_sp, lexL_num m.toNat _ (by omega) (bnd_sp _), lexL_sp, wToo _ (bnd_sp _), lexL_sp]
    rcases hs with rfl | rfl
    · rw [if_pos rfl, wTru _ hb]
      simp [Option.map_map, Function.comp_def, toksN, mkN]
    · rw [if_neg (by decide), wFal _ hb]
      simp [Option.map_map, Function.comp_def, toksN, mkN]
theorem lex_text : ∀ (t : Ast), t.Ok → ∀ (rest : List UInt8), Bnd rest → lexL (textT t ++ rest) = (lexL rest).map (toksT t ++ ·)
  | .leaf x, h, rest, hb => lex_leaf h rest hb
  | .neg t, h, rest, hb => by
    show lexL (33 :: (textT t ++ rest)) = _
    rw [lexL_bang, lex_text t h rest hb]
    simp [Option.map_map, Function.comp_def, toksT]
  | .bin k a b, h, rest, hb => by
    obtain ⟨hk, ha, hb'⟩ := h
    rcases hk with rfl | rfl
    · have e : textT (.bin 9 a b) ++ rest = 40 :: (textT a ++ (32 :: 38 :: 38 :: 32 :: (textT b ++ (41 :: rest)))) := by simp [textT]
      rw [e, lexL_open, lex_text a ha _ (bnd_sp _), lexL_sp, lexL_and, lexL_sp, lex_text b hb' _ (bnd_shut _), lexL_shut]
      simp [Option.map_map, Function.comp_def, toksT]
    · have e : textT (.bin 10 a b) ++ rest = 40 :: (textT a ++ (32 :: 124 :: 124 :: 32 :: (textT b ++ (41 :: rest)))) := by simp [textT]
      rw [e, lexL_open, lex_text a ha _ (bnd_sp _), lexL_sp, lexL_or, lexL_sp, lex_text b hb' _ (bnd_shut _), lexL_shut]
      simp [Option.map_map, Function.comp_def, toksT]

/-! ### Its tree -/
theorem byteF_word {d : Nat → Int} (hd : ∀ i, 0 ≤ d i ∧ d i < 256) (i k : Nat) (hk : k < 4) : byteF (wordW d i) k = some (d (4 * i + k)) := by
  have key : ∀ v : Int, 0 ≤ v ∧ v < 256 → (match hexd ((hexC (v / 16)).toNat : Int) with
      | none => none
      | some a => match hexd ((hexC (v % 16)).toNat : Int) with
        | none => none
        | some b => some (16 * a + b)) = some v := by
    intro v hv
    rw [hexd_hexC (nib hv).1, hexd_hexC (nib hv).2.1]
    simp only []
    rw [(nib hv).2.2]
  have h4 : k = 0 ∨ k = 1 ∨ k = 2 ∨ k = 3 := by omega
  rcases h4 with rfl | rfl | rfl | rfl
  · exact key _ (hd _)
  · exact key _ (hd _)
  · exact key _ (hd _)
  · exact key _ (hd _)
theorem inGo_word {d : Nat → Int} (hd : ∀ i, 0 ≤ d i ∧ d i < 256) (i : Nat) (e : Nat → Int) : inGo (wordW d i) i 4 0 e = some (upd (upd (upd (upd e (4 * i) (d (4 * i))) (4 * i + 1) (d (4 * i + 1))) (4 * i + 2) (d (4 * i + 2))) (4 * i + 3) (d (4 * i + 3))) := by
  simp [inGo, byteF_word hd]
theorem wordOk_word (d : Nat → Int) (i : Nat) : wordOk (wordW d i) = true := by
  simp [wordOk, wordW]
theorem must_wd (o : List UInt8) (rest : List Tok) : mustF 1 o (wdT o :: rest) = some (wdT o, rest) := by
  have : isB (wdT o :: rest) 1 o = true := by simp [isB, wdT, toList_mk]
  simp [mustF, this]
theorem must_wd0 (o : List UInt8) (rest : List Tok) : mustF 1 [] (wdT o :: rest) = some (wdT o, rest) := by
  have : isB (wdT o :: rest) 1 [] = true := by simp [isB, wdT]
  simp [mustF, this]
theorem must_nm (n : Nat) (rest : List Tok) : mustF 2 [] (nmT n :: rest) = some (nmT n, rest) := by
  have : isB (nmT n :: rest) 2 [] = true := by simp [isB, nmT]
  simp [mustF, this]
theorem must_sg (o : List UInt8) (rest : List Tok) : mustF 3 o (sgT o :: rest) = some (sgT o, rest) := by
  have : isB (sgT o :: rest) 3 o = true := by simp [isB, sgT, toList_mk]
  simp [mustF, this]
theorem wd_list (o : List UInt8) : (wdT o).s.toList = o := by simp [wdT, toList_mk]
theorem digest_words {d : Nat → Int} (hd : ∀ i, 0 ≤ d i ∧ d i < 256) (hz : ∀ i, 16 ≤ i → d i = 0) (rest : List Tok) : digestF (wdT (wordW d 0) :: wdT (wordW d 1) :: wdT (wordW d 2) :: wdT (wordW d 3) :: rest) = some (d, rest) := by
  unfold digestF
  simp only [digGo, must_wd0, wd_list, wordOk_word, if_true, inGo_word hd]
  congr 1
  refine Prod.ext ?_ rfl
  funext i
  by_cases h : i < 16
  · have h16 : i = 0 ∨ i = 1 ∨ i = 2 ∨ i = 3 ∨ i = 4 ∨ i = 5 ∨ i = 6 ∨ i = 7 ∨ i = 8 ∨ i = 9 ∨ i = 10 ∨ i = 11 ∨ i = 12 ∨ i = 13 ∨ i = 14 ∨ i = 15 := by omega
    rcases h16 with rfl | rfl | rfl | rfl | rfl | rfl | rfl | rfl | rfl | rfl | rfl | rfl | rfl | rfl | rfl | rfl <;> simp [upd]
  · show _ = d i
    rw [hz i (by omega)]
    simp only [upd]
    rw [if_neg (by omega), if_neg (by omega), if_neg (by omega), if_neg (by omega), if_neg (by omega), if_neg (by omega), if_neg (by omega), if_neg (by omega), if_neg (by omega), if_neg (by omega), if_neg (by omega), if_neg (by omega), if_neg (by omega), if_neg (by omega), if_neg (by omega), if_neg (by omega)]
theorem nm_n {n : Int} (h : 0 ≤ n) : (nmT n.toNat).n = n := by
  show ((n.toNat : Nat) : Int) = n
  exact Int.toNat_of_nonneg h
theorem isB_sg (o p : List UInt8) (rest : List Tok) : isB (sgT o :: rest) 3 p = (p.isEmpty || o == p) := by simp [isB, sgT, toList_mk]
theorem atom_leaf {x : Nd} (h : Leaf x) (rest : List Tok) : atomF (toksN x ++ rest) = some (x, rest) := by
  cases h with
  | any => simp [toksN, mkN, atomF, must_wd0, wd_list]
  | num k n hk hn =>
    have h4 : k = 2 ∨ k = 3 ∨ k = 4 ∨ k = 5 := by omega
    rcases h4 with rfl | rfl | rfl | rfl
    · show atomF (wdT tVersion :: sgT [61, 61] :: nmT n.toNat :: rest) = _
      unfold atomF
      rw [must_wd0]
      simp only [wd_list]
      rw [if_neg (by decide), if_pos (by decide)]
      unfold compareF
      rw [isB_sg, if_pos (by decide), List.tail_cons, must_nm]
      simp only []
      rw [nm_n hn.1]
    · show atomF (wdT tVersion :: sgT [62, 61] :: nmT n.toNat :: rest) = _
      unfold atomF
      rw [must_wd0]
      simp only [wd_list]
      rw [if_neg (by decide), if_pos (by decide)]
      unfold compareF
      rw [isB_sg, if_neg (by decide), must_sg]
      simp only []
      rw [must_nm]
      simp only []
      rw [nm_n hn.1]
    · show atomF (wdT tEpoch :: sgT [61, 61] :: nmT n.toNat :: rest) = _
      unfold atomF
      rw [must_wd0]
      simp only [wd_list]
      rw [if_neg (by decide), if_neg (by decide), if_pos (by decide)]
      unfold compareF
      rw [isB_sg, if_pos (by decide), List.tail_cons, must_nm]
      simp only []
      rw [nm_n hn.1]
    · show atomF (wdT tEpoch :: sgT [62, 61] :: nmT n.toNat :: rest) = _
      unfold atomF
      rw [must_wd0]
      simp only [wd_list]
      rw [if_neg (by decide), if_neg (by decide), if_pos (by decide)]
      unfold compareF
      rw [isB_sg, if_neg (by decide), must_sg]
      simp only []
      rw [must_nm]
      simp only []
      rw [nm_n hn.1]
  | stage n d hn hd hz =>
    show atomF (wdT tStage :: nmT n.toNat :: wdT tIs :: wdT (wordW d 0) :: wdT (wordW d 1) :: wdT (wordW d 2) :: wdT (wordW d 3) :: rest) = _
    unfold atomF
    rw [must_wd0]
    simp only [wd_list]
    rw [if_neg (by decide), if_neg (by decide), if_neg (by decide), if_pos (by decide)]
    unfold stageF
    rw [must_nm]
    simp only []
    rw [must_wd]
    simp only []
    rw [digest_words hd hz]
    simp only []
    rw [nm_n hn.1]
  | took n m s hn hm hs =>
    show atomF (wdT tPoint :: nmT n.toNat :: nmT m.toNat :: wdT tTook :: wdT (if s = 1 then tTrue else tFalse) :: rest) = _
    unfold atomF
    rw [must_wd0]
    simp only [wd_list]
    rw [if_neg (by decide), if_neg (by decide), if_neg (by decide), if_neg (by decide), if_pos (by decide)]
    unfold pointF
    rw [must_nm]
    simp only []
    rw [must_nm]
    simp only []
    rw [must_wd]
    simp only []
    rcases hs with rfl | rfl
    · rw [if_pos rfl]
      have : sideF (wdT tTrue :: rest) = some (1, rest) := by
        unfold sideF
        rw [if_pos (by simp [isB, wdT, toList_mk]), List.tail_cons]
      rw [this]
      simp only []
      rw [nm_n hn.1, nm_n hm.1]
    · rw [if_neg (by decide)]
      have : sideF (wdT tFalse :: rest) = some (2, rest) := by
        unfold sideF
        rw [if_neg (by simp [isB, wdT, toList_mk, tTrue, tFalse]), must_wd]
      rw [this]
      simp only []
      rw [nm_n hn.1, nm_n hm.1]
theorem toksN_head {x : Nd} (h : Leaf x) : ∃ o r, toksN x = wdT o :: r := by
  cases h with
  | any => exact ⟨_, _, rfl⟩
  | num k n hk hn =>
    have h4 : k = 2 ∨ k = 3 ∨ k = 4 ∨ k = 5 := by omega
    rcases h4 with rfl | rfl | rfl | rfl <;> exact ⟨_, _, rfl⟩
  | stage n d hn hd hz => exact ⟨_, _, rfl⟩
  | took n m s hn hm hs => exact ⟨_, _, rfl⟩
theorem not_toks : ∀ (t : Ast), t.Ok → ∀ (n : Nat) (rest : List Tok), (toksT t).length < n → notT n (toksT t ++ rest) = some (t, rest)
  | .leaf x, h, n, rest, hn => by
    obtain ⟨m, rfl⟩ : ∃ m, n = m + 1 := ⟨n - 1, by omega⟩
    obtain ⟨o, r, ho⟩ := toksN_head h
    have ha := atom_leaf h rest
    show notT (m + 1) (toksN x ++ rest) = _
    rw [ho] at ha ⊢
    simp only [List.cons_append] at ha ⊢
    unfold notT
    rw [if_neg (by simp [isB, wdT]), if_neg (by simp [isB, wdT]), ha]
  | .neg t, h, n, rest, hn => by
    obtain ⟨m, rfl⟩ : ∃ m, n = m + 1 := ⟨n - 1, by omega⟩
    exact not_bang (not_toks t h m rest (by simp only [toksT, List.length_cons] at hn; omega))
  | .bin k a b, h, n, rest, hn => by
    obtain ⟨hk, ha, hb⟩ := h
    obtain ⟨m, rfl⟩ : ∃ m, n = m + 1 := ⟨n - 1, by omega⟩
    simp only [toksT, List.length_cons, List.length_append, List.length_nil] at hn
    have key : polT m (toksT a ++ (sgT (if k = 9 then [38, 38] else [124, 124]) :: (toksT b ++ (sgT [41] :: rest)))) = some (.bin k a b, sgT [41] :: rest) := by
      have na := not_toks a ha m (sgT (if k = 9 then [38, 38] else [124, 124]) :: (toksT b ++ (sgT [41] :: rest))) (by omega)
      have nb := not_toks b hb m (sgT [41] :: rest) (by omega)
      have hs := stop_shut rest
      rcases hk with rfl | rfl
      · rw [if_pos rfl] at na ⊢
        exact pol_one (by omega) (and_two (by omega) na nb (by simp [isB, sgT, toList_mk])) (by simp [isB, sgT, toList_mk])
      · rw [if_neg (by decide)] at na ⊢
        exact pol_two (by omega) (and_one_ (by omega) na (nb_or _)) (and_one_ (by omega) nb (by simp [isB, sgT, toList_mk])) (by simp [isB, sgT, toList_mk])
    have e : toksT (.bin k a b) ++ rest = sgT [40] :: (toksT a ++ (sgT (if k = 9 then [38, 38] else [124, 124]) :: (toksT b ++ (sgT [41] :: rest)))) := by simp [toksT]
    rw [e]
    unfold polT andT at key
    unfold notT
    rw [if_neg (by simp [isB, sgT, toList_mk]), if_pos (by simp [isB, sgT, toList_mk])]
    simp only [List.tail_cons]
    rw [key]
    simp [mustF, isB, sgT, toList_mk]
theorem tree_toks (t : Ast) (h : t.Ok) : treeT (toksT t) = some t := by
  refine tree_of ?_
  have := not_toks t h ((toksT t).length + 1) [] (by omega)
  rw [List.append_nil] at this
  exact pol_one (by omega) (and_one_ (by omega) this rfl) rfl
/-- The text of a tree is read back as the tree, but where it is too long or too deep. -/
theorem round_trip (t : Ast) (h : t.Ok) (hsz : t.sz ≤ 400) : parseR ⟨(textT t).toArray⟩ = (2, []) ∨ parseR ⟨(textT t).toArray⟩ = (0, t.emit 0) := by
  obtain ⟨s, hs⟩ : ∃ s : ByteArray, s = ⟨(textT t).toArray⟩ := ⟨_, rfl⟩
  rw [← hs]
  by_cases hl : 1500 < s.size
  · left
    have : lexR s = (2, []) := by rw [lexR, if_pos hl]
    rw [parseR, this]
    rfl
  · have hlx : lexL s.toList = some (toksT t) := by
      have := lex_text t h [] bnd_nil
      rw [List.append_nil, lexL_nil] at this
      rw [hs, mk_list, this]
      simp
    have he := lexF_er s
    rw [hlx] at he
    cases hf : lexF s with
    | none => rw [hf] at he; cases he
    | some ts =>
      rw [hf] at he
      injection he with he
      have he : ts.map er = toksT t := he
      have htr : treeT ts = some t := by rw [← treeT_er, he]; exact tree_toks t h
      have hlr : lexR s = (0, ts) := by rw [lexR, if_neg hl, hf]
      rw [parseR, hlr]
      simp only [if_true]
      unfold parseT
      by_cases hd : 30 < depthF ts
      · left
        rw [if_pos hd]
      · right
        rw [if_neg hd, treeF_emit, htr]
        simp only [Option.map_some]
        rw [if_neg (by rw [Ast.emit_length]; omega)]

/-! ### Bounds: what the program's Text asks of the nodes of a parsed policy -/

structure NumOk (nd : Nd) : Prop where
  n : nd.n < 65536
  m : nd.m < 65536
  d : nd.k = 6 → ∀ i, 0 ≤ nd.d i ∧ nd.d i < 256
  of : nd.of.length ≤ 2
theorem leaf_num {x : Nd} (h : Leaf x) : NumOk x := by
  cases h with
  | any => exact ⟨by decide, by decide, fun h => by simp [mkN] at h, by simp [mkN]⟩
  | num k n hk hn => exact ⟨hn.2, by simp [mkN], fun h => by simp [mkN] at h; omega, by simp [mkN]⟩
  | stage n d hn hd hz => exact ⟨hn.2, by simp, fun _ => hd, by simp⟩
  | took n m s hn hm hs => exact ⟨hn.2, hm.2, fun h => by simp [mkN] at h, by simp [mkN]⟩
theorem emit_num : ∀ (t : Ast), t.Ok → ∀ (b : Nat), ∀ nd ∈ t.emit b, NumOk nd
  | .leaf x, h, b, nd, hnd => by
    simp [Ast.emit] at hnd
    subst hnd
    exact leaf_num h
  | .neg t, h, b, nd, hnd => by
    rcases List.mem_append.1 hnd with hnd | hnd
    · exact emit_num t h b nd hnd
    · simp at hnd
      subst hnd
      exact ⟨by simp [mkO], by simp [mkO], fun h => by simp [mkO] at h, by simp [mkO]⟩
  | .bin k l r, h, b, nd, hnd => by
    rcases List.mem_append.1 hnd with hnd | hnd
    · rcases List.mem_append.1 hnd with hnd | hnd
      · exact emit_num l h.2.1 b nd hnd
      · exact emit_num r h.2.2 _ nd hnd
    · simp at hnd
      subst hnd
      refine ⟨by simp [mkO], by simp [mkO], fun h6 => ?_, by simp [mkO]⟩
      have := h.1
      simp [mkO] at h6
      omega
theorem leaf_len {x : Nd} (h : Leaf x) : (textStep [] x).toList.length ≤ 100 := by
  have hi : ∀ n : Int, 0 ≤ n ∧ n < 65536 → (itoaS n).toList.length ≤ 6 := fun n hn => by rw [toList_len]; exact itoaS_size hn.1 hn.2
  have hw := fun d => wordsS_size d
  cases h with
  | any => show ((⟨#[97, 110, 121]⟩ : ByteArray)).toList.length ≤ 100; rw [mk_list [97, 110, 121]]; decide
  | num k n hk hn =>
    have h4 : k = 2 ∨ k = 3 ∨ k = 4 ∨ k = 5 := by omega
    have := hi n hn
    rcases h4 with rfl | rfl | rfl | rfl
    · show ((⟨#[118, 101, 114, 115, 105, 111, 110, 32, 61, 61, 32]⟩ : ByteArray) ++ itoaS n).toList.length ≤ 100
      rw [toList_app, mk_list [118, 101, 114, 115, 105, 111, 110, 32, 61, 61, 32], List.length_append]
      simp only [List.length_cons, List.length_nil]
      omega
    · show ((⟨#[118, 101, 114, 115, 105, 111, 110, 32, 62, 61, 32]⟩ : ByteArray) ++ itoaS n).toList.length ≤ 100
      rw [toList_app, mk_list [118, 101, 114, 115, 105, 111, 110, 32, 62, 61, 32], List.length_append]
      simp only [List.length_cons, List.length_nil]
      omega
    · show ((⟨#[101, 112, 111, 99, 104, 32, 61, 61, 32]⟩ : ByteArray) ++ itoaS n).toList.length ≤ 100
      rw [toList_app, mk_list [101, 112, 111, 99, 104, 32, 61, 61, 32], List.length_append]
      simp only [List.length_cons, List.length_nil]
      omega
    · show ((⟨#[101, 112, 111, 99, 104, 32, 62, 61, 32]⟩ : ByteArray) ++ itoaS n).toList.length ≤ 100
      rw [toList_app, mk_list [101, 112, 111, 99, 104, 32, 62, 61, 32], List.length_append]
      simp only [List.length_cons, List.length_nil]
      omega
  | stage n d hn hd hz =>
    have := hi n hn
    have h2 := hw d
    rw [← toList_len] at h2
    show ((⟨#[115, 116, 97, 103, 101, 32]⟩ : ByteArray) ++ itoaS n ++ (⟨#[32, 105, 115]⟩ : ByteArray) ++ wordsS d).toList.length ≤ 100
    simp only [toList_app]
    rw [mk_list [115, 116, 97, 103, 101, 32], mk_list [32, 105, 115]]
    simp only [List.length_append, List.length_cons, List.length_nil]
    omega
  | took n m s hn hm hs =>
    have h1 := hi n hn
    have h2 := hi m hm
    have h3 := boolS_size (s == 1)
    rw [← toList_len] at h3
    show ((⟨#[112, 111, 105, 110, 116, 32]⟩ : ByteArray) ++ itoaS n ++ (⟨#[32]⟩ : ByteArray) ++ itoaS m ++ (⟨#[32, 116, 111, 111, 107, 32]⟩ : ByteArray) ++ boolS (s == 1)).toList.length ≤ 100
    simp only [toList_app]
    rw [mk_list [112, 111, 105, 110, 116, 32], mk_list [32], mk_list [32, 116, 111, 111, 107, 32]]
    simp only [List.length_append, List.length_cons, List.length_nil]
    omega
theorem textT_len : ∀ (t : Ast), t.Ok → (textT t).length ≤ 100 * t.sz
  | .leaf x, h => by
    have := leaf_len h
    simp only [textT, Ast.sz]
    omega
  | .neg t, h => by
    have := textT_len t h
    simp only [textT, Ast.sz, List.length_cons]
    omega
  | .bin k a b, h => by
    have h1 := textT_len a h.2.1
    have h2 := textT_len b h.2.2
    have h3 : (if k = 9 then [32, 38, 38, 32] else [32, 124, 124, 32] : List UInt8).length = 4 := by split <;> rfl
    simp only [textT, Ast.sz, List.length_cons, List.length_append, List.length_nil, h3]
    omega
theorem textFold_snoc (rs : List ByteArray) (l : List Nd) (y : Nd) : textFold rs (l ++ [y]) = textFold rs l ++ [textStep (textFold rs l) y] := by simp [textFold]
theorem textFold_app (rs : List ByteArray) (l m : List Nd) : textFold rs (l ++ m) = textFold (textFold rs l) m := by simp [textFold]
theorem textFold_len (rs : List ByteArray) (l : List Nd) : (textFold rs l).length = rs.length + l.length := textFold_length l rs
theorem last_eq {α : Type} {a b : List α} {x y : α} (h : a ++ [x] = b ++ [y]) : x = y := by
  have := congrArg List.getLast? h
  simpa using this
theorem mk_size (l : List UInt8) : (⟨l.toArray⟩ : ByteArray).size = l.length := by simp [ByteArray.size]
theorem texts_bound : ∀ (t : Ast), t.Ok → ∀ (rs : List ByteArray) (M : Nat), (∀ x ∈ rs, x.size ≤ M) → 100 * t.sz ≤ M → ∀ x ∈ textFold rs (t.emit rs.length), x.size ≤ M
  | .leaf y, h, rs, M, hr, hM, x, hx => by
    have hl := textT_len (.leaf y) h
    obtain ⟨vs, e, hv⟩ := textFold_emit (.leaf y) h rs
    have hv0 : vs = [] := by
      simp only [Ast.sz] at hv
      exact List.eq_nil_of_length_eq_zero (by omega)
    subst hv0
    rw [e] at hx
    simp at hx
    rcases hx with hx | rfl
    · exact hr x hx
    · rw [mk_size]
      omega
  | .neg t, h, rs, M, hr, hM, x, hx => by
    have hl := textT_len (.neg t) h
    obtain ⟨vs, e, hv⟩ := textFold_emit (.neg t) h rs
    simp only [Ast.sz] at hM
    have ih := texts_bound t h rs M hr (by omega)
    simp only [Ast.emit] at hx e
    rw [textFold_snoc] at hx e
    have hz := last_eq e
    rcases List.mem_append.1 hx with hx | hx
    · exact ih x hx
    · simp only [List.mem_singleton] at hx
      rw [hx, hz, mk_size]
      simp only [Ast.sz] at hl
      omega
  | .bin k l r, h, rs, M, hr, hM, x, hx => by
    have hl := textT_len (.bin k l r) h
    obtain ⟨vs, e, hv⟩ := textFold_emit (.bin k l r) h rs
    simp only [Ast.sz] at hM hl
    have ih1 := texts_bound l h.2.1 rs M hr (by omega)
    have hn : (textFold rs (l.emit rs.length)).length = rs.length + l.sz := by rw [textFold_len, Ast.emit_length]
    have ih2 := texts_bound r h.2.2 (textFold rs (l.emit rs.length)) M ih1 (by omega)
    rw [hn] at ih2
    simp only [Ast.emit] at hx e
    rw [textFold_snoc, textFold_app] at hx e
    have hz := last_eq e
    rcases List.mem_append.1 hx with hx | hx
    · exact ih2 x hx
    · simp only [List.mem_singleton] at hx
      rw [hx, hz, mk_size]
      omega
end Go.Proofs.YtbojlnbdkaanmaaGreatDoor
