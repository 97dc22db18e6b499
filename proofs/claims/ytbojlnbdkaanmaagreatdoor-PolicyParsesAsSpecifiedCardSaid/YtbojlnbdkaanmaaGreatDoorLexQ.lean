/-
  The lexer without places, in plain Lean: a text in front of a sign or a blank is read by itself; single signs, words and numbers.
-/
import Derived.Test.YtbojlnbdkaanmaaGreatDoorLexC
set_option linter.unusedVariables false
set_option linter.unusedSimpArgs false
namespace Go.Proofs.YtbojlnbdkaanmaaGreatDoor

/-- A token without its place. -/
def er (t : Tok) : Tok := ⟨t.k, t.s, t.n, 0⟩
def lexQ : Nat → List UInt8 → Option (List Tok)
  | 0, _ => none
  | f + 1, l =>
    if trimF l = [] then some []
    else match stepF 0 (trimF l) with
      | none => none
      | some t => (lexQ f ((trimF l).drop t.s.size)).map (t :: ·)
theorem stepF_er (st : Int) (l : List UInt8) : (stepF st l).map er = stepF 0 l := by
  unfold stepF
  cases l with
  | nil => rfl
  | cons c r =>
    simp only []
    by_cases h1 : isLet c.toNat = true
    · rw [if_pos h1, if_pos h1]
      split <;> rfl
    · rw [if_neg h1, if_neg h1]
      by_cases h2 : isDig c.toNat = true
      · rw [if_pos h2, if_pos h2]
        split <;> rfl
      · rw [if_neg h2, if_neg h2, Option.map_map]
        rfl
theorem lexGo_er : ∀ (f n : Nat) (l : List UInt8) (acc : List Tok), (lexGo f n l acc).map (·.map er) = (lexQ f l).map (acc.map er ++ ·)
  | 0, _, _, _ => rfl
  | f + 1, n, l, acc => by
    unfold lexGo lexQ
    by_cases h : trimF l = []
    · rw [if_pos h, if_pos h]
      simp
    · rw [if_neg h, if_neg h]
      have hs := stepF_er ((n - (trimF l).length : Nat) : Int) (trimF l)
      cases hx : stepF ((n - (trimF l).length : Nat) : Int) (trimF l) with
      | none =>
        rw [hx] at hs
        rw [← hs]
        rfl
      | some t =>
        rw [hx] at hs
        rw [← hs]
        simp only [Option.map_some]
        rw [lexGo_er f n _ _, Option.map_map]
        congr 1
        funext q
        simp
theorem lexQ_agree : ∀ (f g : Nat) (l : List UInt8), l.length < f → l.length < g → lexQ f l = lexQ g l
  | 0, _, _, h, _ => by omega
  | f + 1, 0, _, _, h => by omega
  | f + 1, g + 1, l, hf, hg => by
    unfold lexQ
    by_cases h : trimF l = []
    · rw [if_pos h, if_pos h]
    · rw [if_neg h, if_neg h]
      cases hx : stepF 0 (trimF l) with
      | none => rfl
      | some t =>
        have h1 := stepF_facts hx
        have h2 := trimF_le l
        simp only []
        rw [lexQ_agree f g _ (by rw [List.length_drop]; omega) (by rw [List.length_drop]; omega)]
/-- The tokens of a text, without places. -/
def lexL (l : List UInt8) : Option (List Tok) := lexQ (l.length + 1) l
theorem lexL_eq (l : List UInt8) : lexL l = if trimF l = [] then some [] else match stepF 0 (trimF l) with | none => none | some t => (lexL ((trimF l).drop t.s.size)).map (t :: ·) := by
  conv => lhs; unfold lexL lexQ
  by_cases h : trimF l = []
  · rw [if_pos h, if_pos h]
  · rw [if_neg h, if_neg h]
    cases hx : stepF 0 (trimF l) with
    | none => rfl
    | some t =>
      have h1 := stepF_facts hx
      have h2 := trimF_le l
      simp only []
      unfold lexL
      rw [lexQ_agree l.length _ _ (by rw [List.length_drop]; omega) (Nat.lt_succ_self _)]
theorem lexF_er (s : ByteArray) : (lexF s).map (·.map er) = lexL s.toList := by
  unfold lexF lexL
  rw [lexGo_er, toList_len]
  simp

/-! ### What stands behind -/
/-- What may stand behind a token without changing it. -/
def Bnd (rest : List UInt8) : Prop := ∀ c, rest.head? = some c → isWit c.toNat = false ∧ c ≠ 61 ∧ c ≠ 38 ∧ c ≠ 124
theorem pre_app (p : Int → Bool) (l rest : List UInt8) (h : ∀ c, rest.head? = some c → p c.toNat = false) : pre p (l ++ rest) = pre p l := by
  unfold pre
  induction l with
  | nil =>
    cases rest with
    | nil => rfl
    | cons c r => simp [h c rfl]
  | cons a l ih =>
    simp only [List.cons_append, List.takeWhile_cons]
    split
    · simp only [List.length_cons]
      rw [ih]
    · rfl
theorem wit_of_dig {c : Int} (h : isWit c = false) : isDig c = false := by
  unfold isWit at h
  simp only [Bool.or_eq_false_iff] at h
  exact h.1.2
theorem wit_of_let {c : Int} (h : isWit c = false) : isLet c = false := by
  unfold isWit at h
  simp only [Bool.or_eq_false_iff] at h
  exact h.1.1
theorem prefix1 (a : UInt8) (x : List UInt8) (rest : List UInt8) (hx : x ≠ []) : [a].isPrefixOf (x ++ rest) = [a].isPrefixOf x := by
  cases x with
  | nil => exact absurd rfl hx
  | cons c r => simp [List.isPrefixOf]
theorem prefix2 (a b : UInt8) (x : List UInt8) (rest : List UInt8) (hx : x ≠ []) (h : rest.head? ≠ some b) : [a, b].isPrefixOf (x ++ rest) = [a, b].isPrefixOf x := by
  cases x with
  | nil => exact absurd rfl hx
  | cons c r =>
    cases r with
    | cons d r => simp [List.isPrefixOf]
    | nil =>
      cases rest with
      | nil => rfl
      | cons e q =>
        have : b ≠ e := fun q => h (by rw [q]; rfl)
        simp [List.isPrefixOf, this]
theorem find_congr {α : Type} (p q : α → Bool) : ∀ (l : List α), (∀ x ∈ l, p x = q x) → l.find? p = l.find? q
  | [], _ => rfl
  | a :: l, h => by
    rw [List.find?_cons, List.find?_cons, h a (by simp), find_congr p q l (fun x hx => h x (by simp [hx]))]
theorem ops_app {x rest : List UInt8} (hx : x ≠ []) (hb : Bnd rest) : ops.find? (·.isPrefixOf (x ++ rest)) = ops.find? (·.isPrefixOf x) := by
  refine find_congr _ _ _ fun o ho => ?_
  have h1 : rest.head? ≠ some 61 := fun h => (hb _ h).2.1 rfl
  have h2 : rest.head? ≠ some 38 := fun h => (hb _ h).2.2.1 rfl
  have h3 : rest.head? ≠ some 124 := fun h => (hb _ h).2.2.2 rfl
  simp only [ops, List.mem_cons, List.not_mem_nil, or_false] at ho
  rcases ho with rfl | rfl | rfl | rfl | rfl | rfl | rfl | rfl | rfl | rfl | rfl | rfl | rfl | rfl | rfl
  all_goals first | exact prefix1 _ _ _ hx | exact prefix2 _ _ _ _ hx (by assumption)
theorem stepF_app {x rest : List UInt8} (hx : x ≠ []) (hb : Bnd rest) (st : Int) : stepF st (x ++ rest) = stepF st x := by
  have hl : pre isWit (x ++ rest) = pre isWit x := pre_app _ _ _ fun c h => (hb c h).1
  have hd : pre isDig (x ++ rest) = pre isDig x := pre_app _ _ _ fun c h => wit_of_dig (hb c h).1
  have ho := ops_app hx hb
  have t1 : (x ++ rest).take (pre isWit x) = x.take (pre isWit x) := List.take_append_of_le_length (pre_le _ _)
  have t2 : (x ++ rest).take (pre isDig x) = x.take (pre isDig x) := List.take_append_of_le_length (pre_le _ _)
  have t3 : follows ((x ++ rest).drop (pre isDig x)) = follows (x.drop (pre isDig x)) := by
    rw [List.drop_append_of_le_length (pre_le _ _)]
    cases x.drop (pre isDig x) with
    | cons c r => rfl
    | nil =>
      cases rest with
      | nil => rfl
      | cons c r => exact (hb c rfl).1
  cases x with
  | nil => exact absurd rfl hx
  | cons c r =>
    simp only [List.cons_append] at *
    unfold stepF
    simp only [] at *
    rw [hl, hd, ho, t1, t2, t3]
theorem trimF_app {l : List UInt8} (rest : List UInt8) (h : trimF l ≠ []) : trimF (l ++ rest) = trimF l ++ rest := by
  unfold trimF at *
  induction l with
  | nil => exact absurd rfl h
  | cons a l ih =>
    simp only [List.cons_append, List.dropWhile_cons] at h ⊢
    split
    · rename_i hb
      rw [if_pos hb] at h
      exact ih h
    · rfl
theorem trimF_blank {l : List UInt8} (rest : List UInt8) (h : trimF l = []) : trimF (l ++ rest) = trimF rest := by
  unfold trimF at *
  induction l with
  | nil => rfl
  | cons a l ih =>
    simp only [List.cons_append, List.dropWhile_cons] at h ⊢
    split
    · rename_i hb
      rw [if_pos hb] at h
      exact ih h
    · rename_i hb
      rw [if_neg hb] at h
      cases h
theorem lexL_trim {l l' : List UInt8} (h : trimF l = trimF l') : lexL l = lexL l' := by rw [lexL_eq, lexL_eq l', h]
theorem lexL_app (n : Nat) : ∀ (l : List UInt8) (ts : List Tok) (rest : List UInt8), l.length ≤ n → Bnd rest → lexL l = some ts → lexL (l ++ rest) = (lexL rest).map (ts ++ ·) := by
  induction n with
  | zero =>
    intro l ts rest hl hb h
    obtain rfl := List.eq_nil_of_length_eq_zero (Nat.le_zero.1 hl)
    rw [lexL_eq] at h
    rw [if_pos (show trimF [] = [] from rfl)] at h
    injection h with h
    subst h
    simp
  | succ n ih =>
    intro l ts rest hl hb h
    rw [lexL_eq] at h
    by_cases ht : trimF l = []
    · rw [if_pos ht] at h
      injection h with h
      subst h
      rw [lexL_trim (trimF_blank rest ht)]
      simp
    · rw [if_neg ht] at h
      cases hx : stepF 0 (trimF l) with
      | none => rw [hx] at h; cases h
      | some t =>
        rw [hx] at h
        have h1 := stepF_facts hx
        have h2 := trimF_le l
        cases hq : lexL ((trimF l).drop t.s.size) with
        | none => simp [hq] at h
        | some q =>
          simp [hq] at h
          have h3 := ih _ q rest (by rw [List.length_drop]; omega) hb hq
          rw [lexL_eq (l ++ rest), trimF_app rest ht, if_neg (by simp [ht]), stepF_app ht hb, hx]
          simp only []
          rw [List.drop_append_of_le_length (by omega), h3, Option.map_map, ← h]
          rfl

/-! ### Signs, blanks, words and numbers -/
def sgT (o : List UInt8) : Tok := ⟨3, ⟨o.toArray⟩, 0, 0⟩
def wdT (o : List UInt8) : Tok := ⟨1, ⟨o.toArray⟩, 0, 0⟩
def nmT (n : Nat) : Tok := ⟨2, ⟨(Lib.decDigits n).toArray⟩, n, 0⟩
theorem lexL_nil : lexL [] = some [] := by rw [lexL_eq, if_pos (show trimF [] = [] from rfl)]
theorem lexL_sp (l : List UInt8) : lexL (32 :: l) = lexL l := lexL_trim rfl
theorem lexL_step {o l : List UInt8} {t : Tok} (hb : trimF (o ++ l) = o ++ l) (hne : o ≠ []) (hs : stepF 0 (o ++ l) = some t) (hz : t.s.size = o.length) : lexL (o ++ l) = (lexL l).map (t :: ·) := by
  rw [lexL_eq, hb, if_neg (by simp [hne]), hs]
  simp only []
  rw [hz, List.drop_left]
theorem lexL_bang (l : List UInt8) : lexL (33 :: l) = (lexL l).map (sgT [33] :: ·) := lexL_step (o := [33]) rfl (by simp) rfl rfl
theorem lexL_open (l : List UInt8) : lexL (40 :: l) = (lexL l).map (sgT [40] :: ·) := lexL_step (o := [40]) rfl (by simp) rfl rfl
theorem lexL_shut (l : List UInt8) : lexL (41 :: l) = (lexL l).map (sgT [41] :: ·) := lexL_step (o := [41]) rfl (by simp) rfl rfl
theorem lexL_and (l : List UInt8) : lexL (38 :: 38 :: l) = (lexL l).map (sgT [38, 38] :: ·) := lexL_step (o := [38, 38]) rfl (by simp) rfl rfl
theorem lexL_or (l : List UInt8) : lexL (124 :: 124 :: l) = (lexL l).map (sgT [124, 124] :: ·) := lexL_step (o := [124, 124]) rfl (by simp) rfl rfl
theorem lexL_eqq (l : List UInt8) : lexL (61 :: 61 :: l) = (lexL l).map (sgT [61, 61] :: ·) := lexL_step (o := [61, 61]) rfl (by simp) rfl rfl
theorem lexL_ge (l : List UInt8) : lexL (62 :: 61 :: l) = (lexL l).map (sgT [62, 61] :: ·) := lexL_step (o := [62, 61]) rfl (by simp) rfl rfl
theorem pre_full (p : Int → Bool) : ∀ (l : List UInt8), (∀ c ∈ l, p c.toNat = true) → pre p l = l.length
  | [], _ => rfl
  | a :: l, h => by
    have := pre_full p l (fun c hc => h c (by simp [hc]))
    unfold pre at *
    rw [List.takeWhile_cons, if_pos (h a (by simp)), List.length_cons, this, List.length_cons]
theorem blank_let {c : UInt8} (h : isLet c.toNat = true) : blank c = false := by
  unfold isLet at h
  unfold blank
  simp only [List.contains_cons, List.contains_nil, Bool.or_false, Bool.or_eq_false_iff, beq_eq_false_iff_ne]
  refine ⟨?_, ?_, ?_⟩ <;> (rintro rfl; revert h; decide)
theorem blank_dig {c : UInt8} (h : isDig c.toNat = true) : blank c = false := by
  unfold isDig at h
  unfold blank
  simp only [List.contains_cons, List.contains_nil, Bool.or_false, Bool.or_eq_false_iff, beq_eq_false_iff_ne]
  refine ⟨?_, ?_, ?_⟩ <;> (rintro rfl; revert h; decide)
theorem lexL_word (c : UInt8) (r rest : List UInt8) (h0 : isLet c.toNat = true) (h : ∀ x ∈ c :: r, isWit x.toNat = true) (hl : (c :: r).length ≤ 12) (hb : Bnd rest) : lexL ((c :: r) ++ rest) = (lexL rest).map (wdT (c :: r) :: ·) := by
  refine lexL_step ?_ (by simp) ?_ (by simp [wdT, ByteArray.size])
  · unfold trimF
    rw [List.cons_append, List.dropWhile_cons, blank_let h0]
    rfl
  · rw [stepF_app (by simp) hb]
    unfold stepF
    simp only []
    rw [if_pos h0, pre_full _ _ h, if_neg (by omega), List.take_length]
    rfl
theorem decDigits_dig : ∀ (n : Nat), ∀ c ∈ Lib.decDigits n, isDig c.toNat = true := by
  intro n
  induction n using Nat.strongRecOn with
  | _ n ih =>
    intro c hc
    have key : ∀ k : Nat, k < 10 → isDig (UInt8.ofNat (48 + k)).toNat = true := by
      intro k hk
      have : (UInt8.ofNat (48 + k)).toNat = 48 + k := by simp; omega
      rw [this]
      simp [isDig]
      omega
    rw [Lib.decDigits] at hc
    split at hc
    · rw [List.mem_singleton.1 hc]
      exact key n (by omega)
    · rcases List.mem_append.1 hc with h | h
      · exact ih (n / 10) (by omega) c h
      · rw [List.mem_singleton.1 h]
        exact key (n % 10) (by omega)
theorem dig_val (k : Nat) (h : k < 10) : (UInt8.ofNat (48 + k)).toNat - 48 = k := by
  have : (UInt8.ofNat (48 + k)).toNat = 48 + k := by simp; omega
  omega
theorem decV_decDigits (n : Nat) : decV (Lib.decDigits n) = n := by
  induction n using Nat.strongRecOn with
  | _ n ih =>
    rw [Lib.decDigits]
    by_cases h : n < 10
    · rw [dif_pos h]
      show 0 * 10 + ((UInt8.ofNat (48 + n)).toNat - 48) = n
      rw [dig_val n h]
      omega
    · rw [dif_neg h, decV_snoc, ih (n / 10) (by omega), dig_val (n % 10) (by omega)]
      omega
theorem decDigits_short : ∀ (k n : Nat), n < 10 ^ (k + 1) → (Lib.decDigits n).length ≤ k + 1
  | 0, n, h => by
    rw [Lib.decDigits]
    split
    · simp
    · simp at h; omega
  | k + 1, n, h => by
    rw [Lib.decDigits]
    split
    · simp
    · have := decDigits_short k (n / 10) (by rw [Nat.pow_succ] at h; omega)
      simp
      omega
theorem numOk_dec {n : Nat} (h : n < 65536) : numOk (Lib.decDigits n) = true := by
  have h5 : (Lib.decDigits n).length ≤ 5 := decDigits_short 4 n (by omega)
  have hne : Lib.decDigits n ≠ [] := by
    intro e
    have := decDigits_len n
    rw [e] at this
    simp at this
  rw [numOk_eq hne (decDigits_dig n) h5, decV_decDigits, decide_eq_true h]
  unfold Lib.itoa
  rw [if_neg (by omega)]
  simp
theorem lexL_num (n : Nat) (rest : List UInt8) (h : n < 65536) (hb : Bnd rest) : lexL (Lib.decDigits n ++ rest) = (lexL rest).map (nmT n :: ·) := by
  have hd := decDigits_dig n
  have hv := decV_decDigits n
  have ho := numOk_dec h
  have hp := decDigits_len n
  refine lexL_step ?_ (fun e => by rw [e] at hp; simp at hp) ?_ (by simp [nmT, ByteArray.size])
  · cases hx : Lib.decDigits n with
    | nil => rw [hx] at hp; simp at hp
    | cons c r =>
      unfold trimF
      rw [List.cons_append, List.dropWhile_cons, blank_dig (hd c (by rw [hx]; simp))]
      rfl
  · rw [stepF_app (fun e => by rw [e] at hp; simp at hp) hb]
    have hpa := pre_full isDig _ hd
    have hsame : (Lib.decDigits n).take (Lib.decDigits n).length = Lib.decDigits n := List.take_length
    unfold nmT
    cases hx : Lib.decDigits n with
    | nil => rw [hx] at hp; simp at hp
    | cons c r =>
      have hc := hd c (by rw [hx]; simp)
      have hnl : isLet c.toNat = false := by
        unfold isDig at hc
        unfold isLet
        simp only [Bool.and_eq_true, decide_eq_true_eq] at hc
        simp only [Bool.or_eq_false_iff, Bool.and_eq_false_iff, decide_eq_false_iff_not]
        omega
      rw [hx] at hpa hsame ho hv
      unfold stepF
      simp only []
      rw [hnl, if_neg (by simp), if_pos hc, hpa, hsame, List.drop_length, ho, hv]
      rfl
end Go.Proofs.YtbojlnbdkaanmaaGreatDoor
