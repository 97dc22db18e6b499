/-
  The reference's lexer, part A: class, sign, number. The reference's lexer, part B: number. The reference's lexer, part C: Tokens: what it leaves, in plain Lean. The reference's Tokens: the walk. The reference's Eval. The reference's Eval at a policy, Depth, digit. The reference's Depth.
-/
import Derived.Test.YtbojlnbdkaanmaaGreatDoorLexD
import Derived.Outline
import Derived.Test.YtbojlnbdkaanmaaGreatDoorEvC
import Derived.Test.YtbojlnbdkaanmaaGreatDoorRef0
import Derived.Test.YtbojlnbdkaanmaaGreatDoorTk
import Derived.Test.YtbojlnbdkaanmaaGreatDoorDig
import Derived.Test.YtbojlnbdkaanmaaGreatDoorSanB
import Derived.Test.YtbojlnbdkaanmaaGreatDoorDep
namespace Go.Proofs.YtbojlnbdkaanmaaGreatDoor
open Go.RowKit
set_option linter.unusedSimpArgs false
set_option linter.unusedVariables false

def classF (c : Int) : Int := if isLet c then 1 else if isDig c then 2 else if c = 95 then 3 else if c = 9 ∨ c = 10 ∨ c = 32 then 4 else 0
theorem class_let {c : Int} (h : (97 ≤ c ∧ c ≤ 122) ∨ (65 ≤ c ∧ c ≤ 90)) : classF c = 1 := by
  have : isLet c = true := by simp [isLet]; omega
  rw [classF, if_pos this]
theorem not_let {c : Int} (h : ¬ ((97 ≤ c ∧ c ≤ 122) ∨ (65 ≤ c ∧ c ≤ 90))) : isLet c = false := by
  simp [isLet]
  omega
theorem class_dig {c : Int} (h : 48 ≤ c ∧ c ≤ 57) : classF c = 2 := by
  rw [classF, not_let (by omega)]
  simp [isDig, h]
theorem class_und {c : Int} (h : c = 95) : classF c = 3 := by
  subst h
  rfl
theorem class_bl {c : Int} (h : c = 9 ∨ c = 10 ∨ c = 32) : classF c = 4 := by
  rcases h with rfl | rfl | rfl <;> rfl
theorem class_no {c : Int} (h : ¬ ((97 ≤ c ∧ c ≤ 122) ∨ (65 ≤ c ∧ c ≤ 90)) ∧ ¬ (48 ≤ c ∧ c ≤ 57) ∧ c ≠ 95 ∧ c ≠ 9 ∧ c ≠ 10 ∧ c ≠ 32) : classF c = 0 := by
  rw [classF, not_let h.1]
  have h2 : isDig c = false := by simp [isDig]; omega
  rw [h2]
  simp only [Bool.false_eq_true, if_false]
  rw [if_neg h.2.2.1, if_neg (by omega)]
set_option maxHeartbeats 1000000 in
theorem class_any (w : World) (c : Int) : Calls Tryz.prog 28 #[.int .u8 c] w fun e w' => e = .returned (.int .i64 (classF c)) ∧ w = w' := by
  go_enter Tryz.func28, Tryz.ntmps28
  go_wp2
  all_goals go_ret
  all_goals refine ⟨?_, rfl⟩
  all_goals (try simp only [beq_iff_eq, beq_eq_false_iff_ne, ne_eq] at *)
  all_goals first
    | (rw [class_let (by omega)]; rfl)
    | (rw [class_dig (by omega)]; rfl)
    | (rw [class_und (by omega)]; rfl)
    | (rw [class_bl (by omega)]; rfl)
    | (rw [class_no (by omega)]; rfl)
def singles : List UInt8 := [123, 125, 40, 41, 59, 61, 43, 45, 42, 60, 33]
def signF (l : List UInt8) : Int := match ops.find? (·.isPrefixOf l) with | none => 0 | some o => (o.length : Int)
theorem take2 {l : List UInt8} {a b : UInt8} (h : l.take 2 = [a, b]) : ∃ r, l = a :: b :: r := by
  match l, h with
  | x :: y :: r, h =>
    simp at h
    obtain ⟨rfl, rfl⟩ := h
    exact ⟨r, rfl⟩
theorem sign_two {l : List UInt8} (h : l.take 2 = [61, 61] ∨ l.take 2 = [38, 38] ∨ l.take 2 = [124, 124] ∨ l.take 2 = [62, 61]) : signF l = 2 := by
  rcases h with h | h | h | h <;> (obtain ⟨r, rfl⟩ := take2 h; rfl)
theorem sign_one {c : UInt8} {r : List UInt8} (h : r.head? ≠ some 61 ∨ c ≠ 61) (hc : c ∈ singles) : signF (c :: r) = 1 := by
  simp only [singles, List.mem_cons, List.not_mem_nil, or_false] at hc
  rcases hc with rfl | rfl | rfl | rfl | rfl | rfl | rfl | rfl | rfl | rfl | rfl
  case inr.inr.inr.inr.inr.inl =>
    have h1 : r.head? ≠ some 61 := by
      rcases h with h | h
      · exact h
      · exact absurd rfl h
    match r, h1 with
    | [], _ => rfl
    | d :: r, h1 =>
      have : d ≠ 61 := fun e => h1 (by rw [e]; rfl)
      have h2 : ((61 : UInt8) == d) = false := by simpa using fun e => this e.symm
      simp [signF, ops, List.find?, List.isPrefixOf, h2]
  all_goals rfl
theorem sign_no {c : UInt8} {r : List UInt8} (h2 : ∀ o ∈ [[61, 61], [38, 38], [124, 124], [62, 61]], (c :: r).take 2 ≠ o) (hc : c ∉ singles) : signF (c :: r) = 0 := by
  have hf : ops.find? (·.isPrefixOf (c :: r)) = none := by
    rw [List.find?_eq_none]
    intro o ho hp
    have hp : o.isPrefixOf (c :: r) = true := hp
    rw [List.isPrefixOf_iff_prefix] at hp
    obtain ⟨q, hq⟩ := hp
    simp only [ops, List.mem_cons, List.not_mem_nil, or_false] at ho
    rcases ho with rfl | rfl | rfl | rfl | rfl | rfl | rfl | rfl | rfl | rfl | rfl | rfl | rfl | rfl | rfl
    · exact h2 [61, 61] (by simp) (by rw [← hq]; rfl)
    · exact h2 [38, 38] (by simp) (by rw [← hq]; rfl)
    · exact h2 [124, 124] (by simp) (by rw [← hq]; rfl)
    · exact h2 [62, 61] (by simp) (by rw [← hq]; rfl)
    all_goals (injection hq with hq _; subst hq; exact hc (by decide))
  rw [signF, hf]
theorem u8_of {c : UInt8} {k : Nat} (h : ((c.toNat : Int) == (k : Int)) = true) (hk : k < 256) : c = UInt8.ofNat k := by
  have : c.toNat = k := by
    have := beq_iff_eq.1 h
    omega
  rw [← this]
  simp
theorem u8_ne {c : UInt8} {k : Nat} (h : ((c.toNat : Int) == (k : Int)) = false) (hk : k < 256) : c ≠ UInt8.ofNat k := by
  intro e
  subst e
  simp at h
  omega
set_option maxHeartbeats 8000000 in
theorem sign_any (w : World) (s : ByteArray) (at_ : Nat) (h : at_ < s.size) (hs : s.size ≤ 1000000) : Calls Tryz.prog 29 #[.string s, .int .i64 (at_ : Int)] w fun e w' => e = .returned (.int .i64 (signF (s.toList.drop at_))) ∧ w = w' := by
  have hlI : (at_ : Int) < (s.size : Int) := by omega
  obtain ⟨r, hr⟩ : ∃ r, s.toList.drop at_ = s[at_]'h :: r := ⟨s.toList.drop (at_ + 1), by
    rw [List.drop_eq_getElem_cons (by rw [toList_len]; exact h)]
    congr 1
    have := get_toList s at_ h
    rw [List.getElem?_eq_getElem (by rw [toList_len]; exact h)] at this
    simpa using this⟩
  obtain ⟨L, hL⟩ : ∃ L, s.toList.drop at_ = L := ⟨_, rfl⟩
  rw [hL] at hr ⊢
  have Hr := hide hr
  by_cases h2 : at_ + 2 ≤ s.size
  · have h2I : (at_ : Int) + 2 ≤ (s.size : Int) := by omega
    obtain ⟨x, hx⟩ : ∃ x, s.extract at_ (at_ + 2) = x := ⟨_, rfl⟩
    have hxl : x.toList = L.take 2 := by
      rw [← hx, toList_extract, ← hL, List.drop_take]
      congr 1
      omega
    have Hxl := hide hxl
    clear hL hxl
    cases x0 : (x.toList == [61, 61]) with
    | true =>
      have hS : signF L = 2 := sign_two (Or.inl (by rw [← Hxl.out]; simpa using x0))
      rw [hS]
      clear hr hS
      go_enter Tryz.func29, Tryz.ntmps29
      go_wp2
      go_ret
      exact ⟨rfl, rfl⟩
    | false =>
      cases x1 : (x.toList == [38, 38]) with
      | true =>
        have hS : signF L = 2 := sign_two (Or.inr (Or.inl (by rw [← Hxl.out]; simpa using x1)))
        rw [hS]
        clear hr hS
        go_enter Tryz.func29, Tryz.ntmps29
        go_wp2
        go_ret
        exact ⟨rfl, rfl⟩
      | false =>
        cases x2 : (x.toList == [124, 124]) with
        | true =>
          have hS : signF L = 2 := sign_two (Or.inr (Or.inr (Or.inl (by rw [← Hxl.out]; simpa using x2))))
          rw [hS]
          clear hr hS
          go_enter Tryz.func29, Tryz.ntmps29
          go_wp2
          go_ret
          exact ⟨rfl, rfl⟩
        | false =>
          cases x3 : (x.toList == [62, 61]) with
          | true =>
            have hS : signF L = 2 := sign_two (Or.inr (Or.inr (Or.inr (by rw [← Hxl.out]; simpa using x3))))
            rw [hS]
            clear hr hS
            go_enter Tryz.func29, Tryz.ntmps29
            go_wp2
            go_ret
            exact ⟨rfl, rfl⟩
          | false =>
            have hno : ∀ o ∈ [[61, 61], [38, 38], [124, 124], [62, 61]], L.take 2 ≠ o := by
              intro o ho
              simp only [List.mem_cons, List.not_mem_nil, or_false] at ho
              rw [← Hxl.out]
              rcases ho with rfl | rfl | rfl | rfl
              · simpa using x0
              · simpa using x1
              · simpa using x2
              · simpa using x3
            have Hno := hide hno
            clear hno
            cases g123 : (((s[at_]'h).toNat : Int) == 123) with
            | true =>
              have hS : signF L = 1 := by
                rw [Hr.out, u8_of (k := 123) g123 (by decide)]
                exact sign_one (Or.inr (by decide)) (by decide)
              rw [hS]
              clear hr hS
              go_enter Tryz.func29, Tryz.ntmps29
              go_wp2
              go_ret
              exact ⟨rfl, rfl⟩
            | false =>
              cases g125 : (((s[at_]'h).toNat : Int) == 125) with
              | true =>
                have hS : signF L = 1 := by
                  rw [Hr.out, u8_of (k := 125) g125 (by decide)]
                  exact sign_one (Or.inr (by decide)) (by decide)
                rw [hS]
                clear hr hS
                go_enter Tryz.func29, Tryz.ntmps29
                go_wp2
                go_ret
                exact ⟨rfl, rfl⟩
              | false =>
                cases g40 : (((s[at_]'h).toNat : Int) == 40) with
                | true =>
                  have hS : signF L = 1 := by
                    rw [Hr.out, u8_of (k := 40) g40 (by decide)]
                    exact sign_one (Or.inr (by decide)) (by decide)
                  rw [hS]
                  clear hr hS
                  go_enter Tryz.func29, Tryz.ntmps29
                  go_wp2
                  go_ret
                  exact ⟨rfl, rfl⟩
                | false =>
                  cases g41 : (((s[at_]'h).toNat : Int) == 41) with
                  | true =>
                    have hS : signF L = 1 := by
                      rw [Hr.out, u8_of (k := 41) g41 (by decide)]
                      exact sign_one (Or.inr (by decide)) (by decide)
                    rw [hS]
                    clear hr hS
                    go_enter Tryz.func29, Tryz.ntmps29
                    go_wp2
                    go_ret
                    exact ⟨rfl, rfl⟩
                  | false =>
                    cases g59 : (((s[at_]'h).toNat : Int) == 59) with
                    | true =>
                      have hS : signF L = 1 := by
                        rw [Hr.out, u8_of (k := 59) g59 (by decide)]
                        exact sign_one (Or.inr (by decide)) (by decide)
                      rw [hS]
                      clear hr hS
                      go_enter Tryz.func29, Tryz.ntmps29
                      go_wp2
                      go_ret
                      exact ⟨rfl, rfl⟩
                    | false =>
                      cases g61 : (((s[at_]'h).toNat : Int) == 61) with
                      | true =>
                        have h61 : r.head? ≠ some 61 := by
                          intro e
                          have ht : (61 :: r).take 2 = [61, 61] := by
                            cases r with
                            | nil => simp at e
                            | cons d r =>
                              simp at e
                              subst e
                              rfl
                          refine Hno.out [61, 61] (by simp) ?_
                          rw [Hr.out, u8_of (k := 61) g61 (by decide)]
                          exact ht
                        have hS : signF L = 1 := by
                          rw [Hr.out, u8_of (k := 61) g61 (by decide)]
                          exact sign_one (Or.inl h61) (by decide)
                        rw [hS]
                        clear hr hS
                        go_enter Tryz.func29, Tryz.ntmps29
                        go_wp2
                        go_ret
                        exact ⟨rfl, rfl⟩
                      | false =>
                        cases g43 : (((s[at_]'h).toNat : Int) == 43) with
                        | true =>
                          have hS : signF L = 1 := by
                            rw [Hr.out, u8_of (k := 43) g43 (by decide)]
                            exact sign_one (Or.inr (by decide)) (by decide)
                          rw [hS]
                          clear hr hS
                          go_enter Tryz.func29, Tryz.ntmps29
                          go_wp2
                          go_ret
                          exact ⟨rfl, rfl⟩
                        | false =>
                          cases g45 : (((s[at_]'h).toNat : Int) == 45) with
                          | true =>
                            have hS : signF L = 1 := by
                              rw [Hr.out, u8_of (k := 45) g45 (by decide)]
                              exact sign_one (Or.inr (by decide)) (by decide)
                            rw [hS]
                            clear hr hS
                            go_enter Tryz.func29, Tryz.ntmps29
                            go_wp2
                            go_ret
                            exact ⟨rfl, rfl⟩
                          | false =>
                            cases g42 : (((s[at_]'h).toNat : Int) == 42) with
                            | true =>
                              have hS : signF L = 1 := by
                                rw [Hr.out, u8_of (k := 42) g42 (by decide)]
                                exact sign_one (Or.inr (by decide)) (by decide)
                              rw [hS]
                              clear hr hS
                              go_enter Tryz.func29, Tryz.ntmps29
                              go_wp2
                              go_ret
                              exact ⟨rfl, rfl⟩
                            | false =>
                              cases g60 : (((s[at_]'h).toNat : Int) == 60) with
                              | true =>
                                have hS : signF L = 1 := by
                                  rw [Hr.out, u8_of (k := 60) g60 (by decide)]
                                  exact sign_one (Or.inr (by decide)) (by decide)
                                rw [hS]
                                clear hr hS
                                go_enter Tryz.func29, Tryz.ntmps29
                                go_wp2
                                go_ret
                                exact ⟨rfl, rfl⟩
                              | false =>
                                cases g33 : (((s[at_]'h).toNat : Int) == 33) with
                                | true =>
                                  have hS : signF L = 1 := by
                                    rw [Hr.out, u8_of (k := 33) g33 (by decide)]
                                    exact sign_one (Or.inr (by decide)) (by decide)
                                  rw [hS]
                                  clear hr hS
                                  go_enter Tryz.func29, Tryz.ntmps29
                                  go_wp2
                                  go_ret
                                  exact ⟨rfl, rfl⟩
                                | false =>
                                  have hS : signF L = 0 := by
                                    rw [Hr.out]
                                    refine sign_no (by rw [← Hr.out]; exact Hno.out) ?_
                                    intro hm
                                    simp only [singles, List.mem_cons, List.not_mem_nil, or_false] at hm
                                    rcases hm with e | e | e | e | e | e | e | e | e | e | e
                                    · exact u8_ne (k := 123) g123 (by decide) e
                                    · exact u8_ne (k := 125) g125 (by decide) e
                                    · exact u8_ne (k := 40) g40 (by decide) e
                                    · exact u8_ne (k := 41) g41 (by decide) e
                                    · exact u8_ne (k := 59) g59 (by decide) e
                                    · exact u8_ne (k := 61) g61 (by decide) e
                                    · exact u8_ne (k := 43) g43 (by decide) e
                                    · exact u8_ne (k := 45) g45 (by decide) e
                                    · exact u8_ne (k := 42) g42 (by decide) e
                                    · exact u8_ne (k := 60) g60 (by decide) e
                                    · exact u8_ne (k := 33) g33 (by decide) e
                                  rw [hS]
                                  clear hr hS
                                  go_enter Tryz.func29, Tryz.ntmps29
                                  go_wp2
                                  go_ret
                                  exact ⟨rfl, rfl⟩
  · have h2I : ¬ ((at_ : Int) + 2 ≤ (s.size : Int)) := by omega
    have hl1 : L.length = 1 := by rw [← hL, List.length_drop, toList_len]; omega
    have hr0 : r = [] := by
      rw [hr] at hl1
      simpa using hl1
    subst hr0
    clear hL
    cases g123 : (((s[at_]'h).toNat : Int) == 123) with
    | true =>
      have hS : signF L = 1 := by
        rw [Hr.out, u8_of (k := 123) g123 (by decide)]
        exact sign_one (Or.inr (by decide)) (by decide)
      rw [hS]
      clear hr hS
      go_enter Tryz.func29, Tryz.ntmps29
      go_wp2
      go_ret
      exact ⟨rfl, rfl⟩
    | false =>
      cases g125 : (((s[at_]'h).toNat : Int) == 125) with
      | true =>
        have hS : signF L = 1 := by
          rw [Hr.out, u8_of (k := 125) g125 (by decide)]
          exact sign_one (Or.inr (by decide)) (by decide)
        rw [hS]
        clear hr hS
        go_enter Tryz.func29, Tryz.ntmps29
        go_wp2
        go_ret
        exact ⟨rfl, rfl⟩
      | false =>
        cases g40 : (((s[at_]'h).toNat : Int) == 40) with
        | true =>
          have hS : signF L = 1 := by
            rw [Hr.out, u8_of (k := 40) g40 (by decide)]
            exact sign_one (Or.inr (by decide)) (by decide)
          rw [hS]
          clear hr hS
          go_enter Tryz.func29, Tryz.ntmps29
          go_wp2
          go_ret
          exact ⟨rfl, rfl⟩
        | false =>
          cases g41 : (((s[at_]'h).toNat : Int) == 41) with
          | true =>
            have hS : signF L = 1 := by
              rw [Hr.out, u8_of (k := 41) g41 (by decide)]
              exact sign_one (Or.inr (by decide)) (by decide)
            rw [hS]
            clear hr hS
            go_enter Tryz.func29, Tryz.ntmps29
            go_wp2
            go_ret
            exact ⟨rfl, rfl⟩
          | false =>
            cases g59 : (((s[at_]'h).toNat : Int) == 59) with
            | true =>
              have hS : signF L = 1 := by
                rw [Hr.out, u8_of (k := 59) g59 (by decide)]
                exact sign_one (Or.inr (by decide)) (by decide)
              rw [hS]
              clear hr hS
              go_enter Tryz.func29, Tryz.ntmps29
              go_wp2
              go_ret
              exact ⟨rfl, rfl⟩
            | false =>
              cases g61 : (((s[at_]'h).toNat : Int) == 61) with
              | true =>
                have hS : signF L = 1 := by
                  rw [Hr.out, u8_of (k := 61) g61 (by decide)]
                  exact sign_one (Or.inl (by simp)) (by decide)
                rw [hS]
                clear hr hS
                go_enter Tryz.func29, Tryz.ntmps29
                go_wp2
                go_ret
                exact ⟨rfl, rfl⟩
              | false =>
                cases g43 : (((s[at_]'h).toNat : Int) == 43) with
                | true =>
                  have hS : signF L = 1 := by
                    rw [Hr.out, u8_of (k := 43) g43 (by decide)]
                    exact sign_one (Or.inr (by decide)) (by decide)
                  rw [hS]
                  clear hr hS
                  go_enter Tryz.func29, Tryz.ntmps29
                  go_wp2
                  go_ret
                  exact ⟨rfl, rfl⟩
                | false =>
                  cases g45 : (((s[at_]'h).toNat : Int) == 45) with
                  | true =>
                    have hS : signF L = 1 := by
                      rw [Hr.out, u8_of (k := 45) g45 (by decide)]
                      exact sign_one (Or.inr (by decide)) (by decide)
                    rw [hS]
                    clear hr hS
                    go_enter Tryz.func29, Tryz.ntmps29
                    go_wp2
                    go_ret
                    exact ⟨rfl, rfl⟩
                  | false =>
                    cases g42 : (((s[at_]'h).toNat : Int) == 42) with
                    | true =>
                      have hS : signF L = 1 := by
                        rw [Hr.out, u8_of (k := 42) g42 (by decide)]
                        exact sign_one (Or.inr (by decide)) (by decide)
                      rw [hS]
                      clear hr hS
                      go_enter Tryz.func29, Tryz.ntmps29
                      go_wp2
                      go_ret
                      exact ⟨rfl, rfl⟩
                    | false =>
                      cases g60 : (((s[at_]'h).toNat : Int) == 60) with
                      | true =>
                        have hS : signF L = 1 := by
                          rw [Hr.out, u8_of (k := 60) g60 (by decide)]
                          exact sign_one (Or.inr (by decide)) (by decide)
                        rw [hS]
                        clear hr hS
                        go_enter Tryz.func29, Tryz.ntmps29
                        go_wp2
                        go_ret
                        exact ⟨rfl, rfl⟩
                      | false =>
                        cases g33 : (((s[at_]'h).toNat : Int) == 33) with
                        | true =>
                          have hS : signF L = 1 := by
                            rw [Hr.out, u8_of (k := 33) g33 (by decide)]
                            exact sign_one (Or.inr (by decide)) (by decide)
                          rw [hS]
                          clear hr hS
                          go_enter Tryz.func29, Tryz.ntmps29
                          go_wp2
                          go_ret
                          exact ⟨rfl, rfl⟩
                        | false =>
                          have hS : signF L = 0 := by
                            rw [Hr.out]
                            refine sign_no (by rw [← Hr.out]; rw [Hr.out]; simp) ?_
                            intro hm
                            simp only [singles, List.mem_cons, List.not_mem_nil, or_false] at hm
                            rcases hm with e | e | e | e | e | e | e | e | e | e | e
                            · exact u8_ne (k := 123) g123 (by decide) e
                            · exact u8_ne (k := 125) g125 (by decide) e
                            · exact u8_ne (k := 40) g40 (by decide) e
                            · exact u8_ne (k := 41) g41 (by decide) e
                            · exact u8_ne (k := 59) g59 (by decide) e
                            · exact u8_ne (k := 61) g61 (by decide) e
                            · exact u8_ne (k := 43) g43 (by decide) e
                            · exact u8_ne (k := 45) g45 (by decide) e
                            · exact u8_ne (k := 42) g42 (by decide) e
                            · exact u8_ne (k := 60) g60 (by decide) e
                            · exact u8_ne (k := 33) g33 (by decide) e
                          rw [hS]
                          clear hr hS
                          go_enter Tryz.func29, Tryz.ntmps29
                          go_wp2
                          go_ret
                          exact ⟨rfl, rfl⟩
end Go.Proofs.YtbojlnbdkaanmaaGreatDoor
namespace Go.Proofs.YtbojlnbdkaanmaaGreatDoor
open Go.RowKit
set_option linter.unusedSimpArgs false
set_option linter.unusedVariables false

def numF (l : List UInt8) : Int := if numOk l then (decV l : Nat) else -1
theorem decV_take (l : List UInt8) (k : Nat) (hk : k < l.length) : decV (l.take (k + 1)) = decV (l.take k) * 10 + (l[k].toNat - 48) := by
  rw [List.take_add_one, List.getElem?_eq_getElem hk, Option.toList_some, decV_snoc]
set_option maxHeartbeats 2000000 in
theorem rnumber_any (w : World) (s : ByteArray) (h0 : 0 < s.size) (hd : ∀ c ∈ s.toList, isDig c.toNat = true) (hs : s.size ≤ 1000000) : Calls Tryz.prog 30 #[.string s] w fun e w' => e = .returned (.int .i64 (numF s.toList)) ∧ w = w' := by
  have hl : s.toList.length = s.size := toList_len s
  have hh : s.toList.head? = some (s[0]'h0) := by
    rw [List.head?_eq_getElem?]
    exact get_toList s 0 h0
  have h0I : (0 : Int) < (s.size : Int) := by omega
  by_cases h5 : 5 < s.size
  · have hn : numF s.toList = -1 := by
      rw [numF, if_neg]
      simp [numOk]
      omega
    have h5I : decide ((5 : Int) < (s.size : Int)) = true := by simp; omega
    rw [hn]
    go_enter Tryz.func30, Tryz.ntmps30
    go_wp2
    go_ret
    exact ⟨rfl, rfl⟩
  · have h5I : decide ((5 : Int) < (s.size : Int)) = false := by simp; omega
    by_cases hz : ((s[0]'h0).toNat : Int) == 48 ∧ 1 < s.size
    · obtain ⟨z1, z2⟩ := hz
      have z2I : decide ((1 : Int) < (s.size : Int)) = true := by simp; omega
      have hn : numF s.toList = -1 := by
        have hc : s[0]'h0 = 48 := u8_of (k := 48) z1 (by decide)
        rw [numF, if_neg]
        simp [numOk, hh, hc]
        omega
      rw [hn]
      go_enter Tryz.func30, Tryz.ntmps30
      go_wp2
      go_ret
      exact ⟨rfl, rfl⟩
    · have hb : ∀ k, k ≤ s.size → decV (s.toList.take k) < 100000 := fun k hk => decV_lt (fun c hc => hd c (List.mem_of_mem_take hc)) (by rw [List.length_take]; omega)
      have Hb := hide hb
      have hok : numOk s.toList = decide (decV s.toList < 65536) := by
        unfold numOk
        have e1 : decide (s.toList.length ≤ 5) = true := by simp; omega
        rw [e1]
        have e2 : (decide (s.toList.length = 1) || decide (s.toList.head? ≠ some 48)) = true := by
          by_cases h1 : s.size = 1
          · simp [hl, h1]
          · rw [hh]
            have : (s[0]'h0) ≠ 48 := fun e => hz ⟨by rw [e]; rfl, by omega⟩
            simp [this]
        rw [e2]
        simp
      have Hok := hide hok
      have Hd := hide hd
      have Hl := hide hl
      have hz2 : ((s[0]'h0).toNat : Int) == 48 ∧ s.size = 1 ∨ (((s[0]'h0).toNat : Int) == 48) = false := by
        cases hq : (((s[0]'h0).toNat : Int) == 48) with
        | true => exact Or.inl ⟨rfl, by
            have : ¬ 1 < s.size := fun h => hz ⟨hq, h⟩
            omega⟩
        | false => exact Or.inr rfl
      clear hb hok hd hl hh hz
      rcases hz2 with ⟨z1, z2⟩ | z1
      · have z2I : decide ((1 : Int) < (s.size : Int)) = false := by simp; omega
        go_enter Tryz.func30, Tryz.ntmps30
        go_wp2
        go_loop [3, 4] (fun nv iv => ∃ k : Nat, k ≤ s.size ∧ iv = .int .i64 k ∧ nv = .int .i64 (decV (s.toList.take k) : Nat)) (fun _ iv => s.size - (intOf iv).toNat)
        case atStart => exact ⟨0, Nat.zero_le _, rfl, rfl⟩
        case round =>
          obtain ⟨k, hk, rfl, rfl⟩ := hrel
          by_cases hlt : k < s.size
          · have hstep := decV_take s.toList k (by rw [Hl.out]; exact hlt)
            have hbk := Hb.out k (by omega)
            have hg : s.toList[k]'(by rw [Hl.out]; exact hlt) = s[k]'hlt := by
              have := get_toList s k hlt
              rw [List.getElem?_eq_getElem (by rw [Hl.out]; exact hlt)] at this
              simpa using this
            rw [hg] at hstep
            have hdk := Hd.out (s[k]'hlt) (by rw [← hg]; exact List.getElem_mem _)
            have hdr : 48 ≤ (s[k]'hlt).toNat ∧ (s[k]'hlt).toNat ≤ 57 := by
              simp [isDig] at hdk
              omega
            obtain ⟨v, hv⟩ : ∃ v, decV (s.toList.take k) = v := ⟨_, rfl⟩
            rw [hv] at hstep hbk ⊢
            obtain ⟨x, hx⟩ : ∃ x, (s[k]'hlt).toNat = x := ⟨_, rfl⟩
            rw [hx] at hstep hdr
            have Hstep := hide hstep
            have hltI : (k : Int) < (s.size : Int) := by omega
            obtain ⟨d1, d2⟩ := hdr
            clear hg hdk hv hstep
            go_wp2
            go_round
            case rel => exact ⟨k + 1, by omega, by go_num, by rw [Hstep.out]; congr 1; go_num⟩
            case measure => simp [intOf]; omega
          · obtain rfl : k = s.size := by omega
            have hbk := Hb.out s.size (Nat.le_refl _)
            have ht : s.toList.take s.size = s.toList := List.take_of_length_le (by rw [Hl.out]; exact Nat.le_refl _)
            rw [ht] at hbk ⊢
            have hnf : numF s.toList = if decV s.toList < 65536 then (decV s.toList : Int) else -1 := by
              rw [numF, Hok.out]
              by_cases hq : decV s.toList < 65536 <;> simp [hq]

            obtain ⟨v, hv⟩ : ∃ v, decV s.toList = v := ⟨_, rfl⟩
            rw [hv] at hbk hnf ⊢
            have Hnf := hide hnf
            clear hnf ht hv
            by_cases hq : v < 65536
            · have hqI : decide ((65535 : Int) < (v : Int)) = false := by simp; omega
              go_wp2
              go_ret
              refine ⟨?_, rfl⟩
              rw [Hnf.out, if_pos hq]
              rfl
            · have hqI : decide ((65535 : Int) < (v : Int)) = true := by simp; omega
              go_wp2
              go_ret
              refine ⟨?_, rfl⟩
              rw [Hnf.out, if_neg hq]
              rfl
      · go_enter Tryz.func30, Tryz.ntmps30
        go_wp2
        go_loop [3, 4] (fun nv iv => ∃ k : Nat, k ≤ s.size ∧ iv = .int .i64 k ∧ nv = .int .i64 (decV (s.toList.take k) : Nat)) (fun _ iv => s.size - (intOf iv).toNat)
        case atStart => exact ⟨0, Nat.zero_le _, rfl, rfl⟩
        case round =>
          obtain ⟨k, hk, rfl, rfl⟩ := hrel
          by_cases hlt : k < s.size
          · have hstep := decV_take s.toList k (by rw [Hl.out]; exact hlt)
            have hbk := Hb.out k (by omega)
            have hg : s.toList[k]'(by rw [Hl.out]; exact hlt) = s[k]'hlt := by
              have := get_toList s k hlt
              rw [List.getElem?_eq_getElem (by rw [Hl.out]; exact hlt)] at this
              simpa using this
            rw [hg] at hstep
            have hdk := Hd.out (s[k]'hlt) (by rw [← hg]; exact List.getElem_mem _)
            have hdr : 48 ≤ (s[k]'hlt).toNat ∧ (s[k]'hlt).toNat ≤ 57 := by
              simp [isDig] at hdk
              omega
            obtain ⟨v, hv⟩ : ∃ v, decV (s.toList.take k) = v := ⟨_, rfl⟩
            rw [hv] at hstep hbk ⊢
            obtain ⟨x, hx⟩ : ∃ x, (s[k]'hlt).toNat = x := ⟨_, rfl⟩
            rw [hx] at hstep hdr
            have Hstep := hide hstep
            have hltI : (k : Int) < (s.size : Int) := by omega
            obtain ⟨d1, d2⟩ := hdr
            clear hg hdk hv hstep
            go_wp2
            go_round
            case rel => exact ⟨k + 1, by omega, by go_num, by rw [Hstep.out]; congr 1; go_num⟩
            case measure => simp [intOf]; omega
          · obtain rfl : k = s.size := by omega
            have hbk := Hb.out s.size (Nat.le_refl _)
            have ht : s.toList.take s.size = s.toList := List.take_of_length_le (by rw [Hl.out]; exact Nat.le_refl _)
            rw [ht] at hbk ⊢
            have hnf : numF s.toList = if decV s.toList < 65536 then (decV s.toList : Int) else -1 := by
              rw [numF, Hok.out]
              by_cases hq : decV s.toList < 65536 <;> simp [hq]

            obtain ⟨v, hv⟩ : ∃ v, decV s.toList = v := ⟨_, rfl⟩
            rw [hv] at hbk hnf ⊢
            have Hnf := hide hnf
            clear hnf ht hv
            by_cases hq : v < 65536
            · have hqI : decide ((65535 : Int) < (v : Int)) = false := by simp; omega
              go_wp2
              go_ret
              refine ⟨?_, rfl⟩
              rw [Hnf.out, if_pos hq]
              rfl
            · have hqI : decide ((65535 : Int) < (v : Int)) = true := by simp; omega
              go_wp2
              go_ret
              refine ⟨?_, rfl⟩
              rw [Hnf.out, if_neg hq]
              rfl
end Go.Proofs.YtbojlnbdkaanmaaGreatDoor
namespace Go.Proofs.YtbojlnbdkaanmaaGreatDoor
open Go.RowKit
set_option linter.unusedSimpArgs false
set_option linter.unusedVariables false

theorem bytes_ext {a b : ByteArray} (h : a.toList = b.toList) : a = b := by rw [← mk_toList a, ← mk_toList b, h]
theorem isLet_iff (c : Int) : isLet c = true ↔ ((97 ≤ c ∧ c ≤ 122) ∨ (65 ≤ c ∧ c ≤ 90)) := by simp [isLet]
theorem isDig_iff (c : Int) : isDig c = true ↔ (48 ≤ c ∧ c ≤ 57) := by simp [isDig]
theorem isWit_iff (c : Int) : isWit c = true ↔ (((97 ≤ c ∧ c ≤ 122) ∨ (65 ≤ c ∧ c ≤ 90)) ∨ (48 ≤ c ∧ c ≤ 57) ∨ c = 95) := by
  rw [isWit, Bool.or_eq_true, Bool.or_eq_true, isLet_iff, isDig_iff, decide_eq_true_eq]
  omega
theorem blank_iff (c : UInt8) : blank c = true ↔ ((c.toNat : Int) = 9 ∨ (c.toNat : Int) = 10 ∨ (c.toNat : Int) = 32) := by
  constructor
  · intro h
    simp [blank] at h
    rcases h with rfl | rfl | rfl <;> decide
  · intro h
    have : c.toNat = 9 ∨ c.toNat = 10 ∨ c.toNat = 32 := by omega
    have e : c = UInt8.ofNat c.toNat := by simp
    rcases this with q | q | q <;> (rw [e, q]; decide)
theorem not_blank {c : UInt8} (h : classF (c.toNat : Int) ≠ 4) : blank c = false := by
  cases hb : blank c with
  | false => rfl
  | true => exact absurd (class_bl ((blank_iff c).1 hb)) h
theorem class_cases (c : Int) : (classF c = 1 ∧ isLet c = true) ∨ (classF c = 2 ∧ isLet c = false ∧ isDig c = true) ∨ (classF c = 3 ∧ c = 95) ∨ (classF c = 4 ∧ (c = 9 ∨ c = 10 ∨ c = 32)) ∨ (classF c = 0 ∧ isLet c = false ∧ isDig c = false ∧ c ≠ 95) := by
  by_cases h1 : (97 ≤ c ∧ c ≤ 122) ∨ (65 ≤ c ∧ c ≤ 90)
  · exact Or.inl ⟨class_let h1, (isLet_iff c).2 h1⟩
  · by_cases h2 : 48 ≤ c ∧ c ≤ 57
    · exact Or.inr (Or.inl ⟨class_dig h2, not_let h1, (isDig_iff c).2 h2⟩)
    · by_cases h3 : c = 95
      · exact Or.inr (Or.inr (Or.inl ⟨class_und h3, h3⟩))
      · by_cases h4 : c = 9 ∨ c = 10 ∨ c = 32
        · exact Or.inr (Or.inr (Or.inr (Or.inl ⟨class_bl h4, h4⟩)))
        · refine Or.inr (Or.inr (Or.inr (Or.inr ⟨class_no ⟨h1, h2, h3, by omega, by omega, by omega⟩, not_let h1, ?_, h3⟩)))
          rw [Bool.eq_false_iff, ne_eq, isDig_iff]
          exact h2
theorem wit_class {c : Int} (h : isWit c = true) : classF c = 1 ∨ classF c = 2 ∨ classF c = 3 := by
  rw [isWit_iff] at h
  rcases h with h | h | h
  · exact Or.inl (class_let h)
  · exact Or.inr (Or.inl (class_dig h))
  · exact Or.inr (Or.inr (class_und h))
theorem nwit_class {c : Int} (h : isWit c = false) : classF c = 4 ∨ classF c = 0 := by
  rw [Bool.eq_false_iff, ne_eq, isWit_iff] at h
  rcases class_cases c with ⟨h1, h2⟩ | ⟨h1, h2, h3⟩ | ⟨h1, h2⟩ | ⟨h1, _⟩ | ⟨h1, _⟩
  · rw [isLet_iff] at h2; omega
  · rw [isDig_iff] at h3; omega
  · omega
  · exact Or.inl h1
  · exact Or.inr h1
theorem dig_class {c : Int} (h : isDig c = true) : classF c = 2 := class_dig ((isDig_iff c).1 h)
theorem ndig_class {c : Int} (h : isDig c = false) : classF c ≠ 2 := by
  rw [Bool.eq_false_iff, ne_eq, isDig_iff] at h
  rcases class_cases c with ⟨h1, h2⟩ | ⟨h1, h2, h3⟩ | ⟨h1, h2⟩ | ⟨h1, _⟩ | ⟨h1, _⟩
  · omega
  · rw [isDig_iff] at h3; omega
  · omega
  · omega
  · omega
/-- What stands in a round: the tokens so far, and what is left of the text. -/
structure Rx (w : World) (s : ByteArray) (wr : World) (v : Value) (acc : List Tok) (p : Nat) : Prop where
  own : wr.ownsRow w.heap.size 62 4 v acc.length (acc.map Tok.cells).flatten
  bel : Below w.heap.size w wr
  ple : p ≤ s.size
  al : acc.length ≤ p
  lex : ∃ f, s.size - p < f ∧ lexGo f s.size (s.toList.drop p) acc = lexF s
section
variable {w wr : World} {s : ByteArray} {v : Value} {acc : List Tok} {p : Nat}
theorem Rx.start (w : World) (s : ByteArray) : Rx w s w (.slice none 0 0) [] 0 :=
  ⟨World.ownsRow_nil _ _ _ _, Below.refl _ _, Nat.zero_le _, Nat.le_refl _, s.size + 1, by omega, by rw [List.drop_zero]; rfl⟩
theorem drop_cons (s : ByteArray) (p : Nat) (h : p < s.size) : s.toList.drop p = s[p]'h :: s.toList.drop (p + 1) := by
  rw [List.drop_eq_getElem_cons (by rw [toList_len]; exact h)]
  congr 1
  have := get_toList s p h
  rw [List.getElem?_eq_getElem (by rw [toList_len]; exact h)] at this
  simpa using this
theorem Rx.skip (h : Rx w s wr v acc p) (hp : p < s.size) (hb : blank (s[p]'hp) = true) : Rx w s wr v acc (p + 1) := by
  obtain ⟨f, hf, hl⟩ := h.lex
  refine ⟨h.own, h.bel, hp, by have := h.al; omega, f, by omega, ?_⟩
  rw [← hl, drop_cons s p hp]
  obtain ⟨g, rfl⟩ : ∃ g, f = g + 1 := ⟨f - 1, by omega⟩
  have ht : trimF (s[p]'hp :: s.toList.drop (p + 1)) = trimF (s.toList.drop (p + 1)) := by
    unfold trimF
    rw [List.dropWhile_cons, hb]
    rfl
  unfold lexGo
  rw [ht]
theorem trim_id {c : UInt8} {r : List UInt8} (hb : blank c = false) : trimF (c :: r) = c :: r := by
  unfold trimF
  rw [List.dropWhile_cons, hb]
  rfl
theorem Rx.go (h : Rx w s wr v acc p) (hp : p < s.size) (hb : blank (s[p]'hp) = false) : ∃ f, s.size - p < f + 1 ∧ (match stepF (p : Nat) (s.toList.drop p) with
    | none => none
    | some t => lexGo f s.size ((s.toList.drop p).drop t.s.size) (acc ++ [t])) = lexF s := by
  obtain ⟨f, hf, hl⟩ := h.lex
  obtain ⟨g, rfl⟩ : ∃ g, f = g + 1 := ⟨f - 1, by omega⟩
  refine ⟨g, hf, ?_⟩
  rw [← hl]
  have ht : trimF (s.toList.drop p) = s.toList.drop p := by rw [drop_cons s p hp]; exact trim_id hb
  have hne : s.toList.drop p ≠ [] := by rw [drop_cons s p hp]; simp
  have hlen : s.size - (s.toList.drop p).length = p := by rw [List.length_drop, toList_len]; omega
  conv => rhs; unfold lexGo
  rw [ht, if_neg hne, hlen]
  rfl
theorem Rx.none_ (h : Rx w s wr v acc p) (hp : p < s.size) (hb : blank (s[p]'hp) = false) (hst : stepF (p : Nat) (s.toList.drop p) = none) : lexF s = none := by
  obtain ⟨f, hf, hl⟩ := h.go hp hb
  rw [hst] at hl
  exact hl.symm
theorem Rx.tok (h : Rx w s wr v acc p) (hp : p < s.size) (hb : blank (s[p]'hp) = false) {t : Tok} (hst : stepF (p : Nat) (s.toList.drop p) = some t) {k : Nat} (hk : t.s.size = k) (hk0 : 0 < k) (hk1 : p + k ≤ s.size) {W1 : World} {v1 : Value}
    (hown : W1.ownsRow w.heap.size 62 4 v1 (acc.length + 1) ((acc.map Tok.cells).flatten ++ t.cells)) (hbel : Below w.heap.size w W1) : Rx w s W1 v1 (acc ++ [t]) (p + k) := by
  obtain ⟨f, hf, hl⟩ := h.go hp hb
  rw [hst] at hl
  simp only [] at hl
  rw [hk, List.drop_drop] at hl
  refine ⟨?_, hbel, hk1, by rw [List.length_append]; have := h.al; simp; omega, f, by omega, hl⟩
  rw [List.length_append, List.map_append, List.flatten_append]
  simpa using hown
theorem Rx.done (h : Rx w s wr v acc p) (hp : p = s.size) (hs : ¬ 1500 < s.size) : PostL w s (.returned (.tuple #[v, .int .i64 0])) wr := by
  obtain ⟨f, hf, hl⟩ := h.lex
  have hnil : s.toList.drop p = [] := List.drop_of_length_le (by rw [toList_len]; omega)
  rw [hnil] at hl
  obtain ⟨g, rfl⟩ : ∃ g, f = g + 1 := ⟨f - 1, by omega⟩
  have hlex : lexF s = some acc := by
    rw [← hl]
    unfold lexGo
    rw [if_pos (show trimF [] = [] from rfl)]
  obtain ⟨A, c, rfl, hc1, hc2, hrow, _⟩ := Row.of_own h.own (by simp) (fun cs hcs => by
    obtain ⟨t, _, rfl⟩ := List.mem_map.1 hcs
    rfl)
  have e : lexR s = (0, acc) := by simp [lexR, hs, hlex]
  rw [PostL, e]
  refine ⟨h.bel, A, c, rfl, hrow, hc1, by simpa [maxLen] using hc2, ?_⟩
  have := h.al
  have := h.ple
  show acc.length ≤ s.size
  omega
theorem Rx.next (h : Rx w s wr v acc p) {W : World} (hb : Below wr.heap.size wr W) : Rx w s W v acc p := ⟨own_below h.own hb, h.bel.trans (hb.mono h.bel.size), h.ple, h.al, h.lex⟩
end

/-! ### The next token, by the class of its first byte -/
section
variable {s : ByteArray} {p : Nat}
theorem step_und (hp : p < s.size) (hc : ((s[p]'hp).toNat : Int) = 95) (st : Int) : stepF st (s.toList.drop p) = none := by
  rw [drop_cons s p hp]
  have e : s[p]'hp = 95 := u8_of (k := 95) (by rw [hc]; rfl) (by decide)
  rw [e]
  have h : signF (95 :: s.toList.drop (p + 1)) = 0 := sign_no (by
    intro o ho
    simp only [List.mem_cons, List.not_mem_nil, or_false] at ho
    intro h2
    rcases ho with rfl | rfl | rfl | rfl <;> (simp at h2)) (by decide)
  unfold signF at h
  unfold stepF
  simp only []
  rw [if_neg (by decide), if_neg (by decide)]
  cases hf : ops.find? (·.isPrefixOf (95 :: s.toList.drop (p + 1))) with
  | none => rfl
  | some o =>
    rw [hf] at h
    simp only [] at h
    have hm := List.mem_of_find?_eq_some hf
    have : o.length = 0 := by omega
    have : o = [] := List.eq_nil_of_length_eq_zero this
    subst this
    exact absurd hm (by decide)
theorem ops_len {o : List UInt8} (h : o ∈ ops) : 0 < o.length := by
  have : ∀ o ∈ ops, 0 < o.length := by decide
  exact this o h
theorem step_sign (hp : p < s.size) (h1 : isLet ((s[p]'hp).toNat : Int) = false) (h2 : isDig ((s[p]'hp).toNat : Int) = false) (st : Int) :
    (signF (s.toList.drop p) = 0 ∧ stepF st (s.toList.drop p) = none) ∨ ∃ k : Nat, 0 < k ∧ p + k ≤ s.size ∧ signF (s.toList.drop p) = k ∧ stepF st (s.toList.drop p) = some ⟨3, s.extract p (p + k), 0, st⟩ := by
  rw [drop_cons s p hp] 
  have hstep : stepF st (s[p]'hp :: s.toList.drop (p + 1)) = (ops.find? (·.isPrefixOf (s[p]'hp :: s.toList.drop (p + 1)))).map fun o => ⟨3, ⟨o.toArray⟩, 0, st⟩ := by
    unfold stepF
    simp only []
    rw [h1, h2]
    rfl
  rw [hstep]
  unfold signF
  cases hf : ops.find? (·.isPrefixOf (s[p]'hp :: s.toList.drop (p + 1))) with
  | none => exact Or.inl ⟨rfl, rfl⟩
  | some o =>
    right
    have hm := List.mem_of_find?_eq_some hf
    have hpre := List.find?_some hf
    have hpre : o.isPrefixOf (s[p]'hp :: s.toList.drop (p + 1)) = true := hpre
    rw [List.isPrefixOf_iff_prefix, ← drop_cons s p hp] at hpre
    obtain ⟨q, hq⟩ := hpre
    have hl := congrArg List.length hq
    rw [List.length_append, List.length_drop, toList_len] at hl
    have h0 := ops_len hm
    refine ⟨o.length, h0, by omega, rfl, ?_⟩
    simp only [Option.map_some]
    congr 2
    refine bytes_ext ?_
    rw [toList_mk, toList_extract, List.drop_take, ← hq, show p + o.length - p = o.length by omega, List.take_left]
theorem step_let (hp : p < s.size) (h1 : isLet ((s[p]'hp).toNat : Int) = true) {k : Nat} (hk : pre isWit (s.toList.drop p) = k) (st : Int) :
    stepF st (s.toList.drop p) = if 12 < k then none else some ⟨1, s.extract p (p + k), 0, st⟩ := by
  have e : s.extract p (p + k) = ⟨((s.toList.drop p).take k).toArray⟩ := by
    refine bytes_ext ?_
    rw [toList_extract, toList_mk ((s.toList.drop p).take k), List.drop_take, show p + k - p = k by omega]
  rw [e]
  rw [drop_cons s p hp] at hk ⊢
  unfold stepF
  simp only []
  rw [if_pos h1, hk]
theorem step_dig (hp : p < s.size) (h1 : isLet ((s[p]'hp).toNat : Int) = false) (h2 : isDig ((s[p]'hp).toNat : Int) = true) {k : Nat} (hk : pre isDig (s.toList.drop p) = k) (st : Int) :
    stepF st (s.toList.drop p) = if numOk ((s.toList.drop p).take k) && !follows (s.toList.drop (p + k)) then some ⟨2, s.extract p (p + k), decV ((s.toList.drop p).take k), st⟩ else none := by
  have e : s.extract p (p + k) = ⟨((s.toList.drop p).take k).toArray⟩ := by
    refine bytes_ext ?_
    rw [toList_extract, toList_mk ((s.toList.drop p).take k), List.drop_take, show p + k - p = k by omega]
  rw [e, ← List.drop_drop]
  rw [drop_cons s p hp] at hk ⊢
  unfold stepF
  simp only []
  rw [h1, if_pos h2, hk]
  rfl
end
end Go.Proofs.YtbojlnbdkaanmaaGreatDoor
namespace Go.Proofs.YtbojlnbdkaanmaaGreatDoor
open Go.RowKit
set_option linter.unusedSimpArgs false
set_option linter.unusedVariables false

set_option maxRecDepth 100000 in
set_option maxHeartbeats 8000000 in
theorem rtokens_any (w : World) (s : ByteArray) : Calls Tryz.prog 12 #[.string s] w (PostL w s) := by
  by_cases hbig : 1500 < s.size
  · have hbI : decide ((1500 : Int) < (s.size : Int)) = true := by simp; omega
    go_enter Tryz.func12, Tryz.ntmps12
    go_wp2
    refine bodyPost_ret (results_tmp2 Tryz.results12 _ _ _) rfl ?_
    exact PostL.big hbig
  · have hbI : decide ((1500 : Int) < (s.size : Int)) = false := by simp; omega
    obtain ⟨i0, hi0, hz0, hz1, hz2⟩ := info_parts info62
    go_enter Tryz.func12, Tryz.ntmps12
    go_wp2
    go_loopw [4, 5] (fun v pv wr => ∃ (acc : List Tok) (p : Nat), pv = .int .i64 p ∧ p ≤ s.size ∧ Hid (Rx w s wr v acc p)) (fun _ pv _ => s.size - (intOf pv).toNat)
    case atStart => exact ⟨[], 0, rfl, Nat.zero_le _, Rx.start w s⟩
    case round =>
      obtain ⟨acc, p, rfl, hp, HR⟩ := hrel
      by_cases hlt : p < s.size
      · have hltI : (p : Int) < (s.size : Int) := by omega
        have hal := HR.out.al
        rcases class_cases ((s[p]'hlt).toNat : Int) with ⟨hc, h1⟩ | ⟨hc, h1, h2⟩ | ⟨hc, h1⟩ | ⟨hc, h1⟩ | ⟨hc, h1, h2, h3⟩
        · have hcl := fun W => class_any W ((s[p]'hlt).toNat : Int)
          rw [hc] at hcl
          have Hcl := hide hcl
          have Hb := hide (not_blank (c := s[p]'hlt) (by rw [hc]; decide))
          have hw0 : isWit ((s[p]'hlt).toNat : Int) = true := by simp [isWit, h1]
          have Hw0 := hide hw0
          clear hcl hc hw0
          go_wp2_with (go_at_call 28; (with_reducible refine Calls.mono (Hcl.out _) ?_); rintro e w1 ⟨rfl, rfl⟩)
          go_loop [8] (fun nv => ∃ n : Nat, nv = .int .i64 n ∧ p + 1 ≤ n ∧ n ≤ s.size ∧ Hid (∀ i b, i < n - p → (s.toList.drop p)[i]? = some b → isWit b.toNat = true)) (fun nv => s.size - (intOf nv).toNat)
          case atStart => exact ⟨p + 1, by go_num, Nat.le_refl _, by omega, fun i b hi hb => by
            obtain rfl : i = 0 := by omega
            rw [drop_cons s p hlt] at hb
            simp at hb
            subst hb
            exact Hw0.out⟩
          case round =>
            obtain ⟨n, rfl, hn1, hn2, HA⟩ := hrel
            by_cases hltn : n < s.size
            · have hltnI : (n : Int) < (s.size : Int) := by omega
              have hgn : (s.toList.drop p)[n - p]? = some (s[n]'hltn) := by
                rw [List.getElem?_drop, show p + (n - p) = n by omega]
                exact get_toList s n hltn
              have hcn := fun W => class_any W ((s[n]'hltn).toNat : Int)
              cases hwn : isWit ((s[n]'hltn).toNat : Int) with
              | true =>
                have HA2 := hide (show ∀ i b, i < n + 1 - p → (s.toList.drop p)[i]? = some b → isWit b.toNat = true from fun i b hi hb => by
                  rcases Nat.lt_or_ge i (n - p) with h | h
                  · exact HA.out i b h hb
                  · obtain rfl : i = n - p := by omega
                    rw [hgn] at hb
                    injection hb with hb
                    subst hb
                    exact hwn)
                rcases wit_class hwn with h | h | h
                all_goals (
                  rw [h] at hcn
                  have Hcn := hide hcn
                  clear hcn h hwn hgn
                  go_wp2_with (go_at_call 28; (with_reducible refine Calls.mono (Hcn.out _) ?_); rintro e w1 ⟨rfl, rfl⟩)
                  go_round
                  case rel => exact ⟨n + 1, by go_num, by omega, by omega, HA2.out⟩
                  case measure => simp [intOf]; omega)
              | false =>
                have hpre := pre_at isWit (s.toList.drop p) (n - p) HA.out (fun b hb => by
                  rw [hgn] at hb
                  injection hb with hb
                  subst hb
                  exact hwn) (by rw [List.length_drop, toList_len]; omega)
                rcases nwit_class hwn with h | h
                · rw [h] at hcn
                  have Hcn := hide hcn
                  clear hcn h hwn hgn
                  have hkk : pre isWit (s.toList.drop p) = n - p := hpre
                  have hst := step_let hlt h1 hkk (p : Nat)
                  rw [show p + (n - p) = n by omega] at hst
                  have hpn : p ≤ n := by omega
                  have hnz : n ≤ s.size := by omega
                  have hbW := (Below.refl wr.heap.size wr).alloc (Nat.le_refl _) (.cells #[.int .i64 1, .string (s.extract p n), .int .i64 0, .int .i64 (p : Int)] 62)
                  have HW := hide (HR.out.next hbW)
                  have hpnI : (p : Int) ≤ (n : Int) := by omega
                  have hnI : (n : Int) ≤ (s.size : Int) := by omega
                  have Hkz := hide (show (s.extract p n).size = n - p by rw [ByteArray.size_extract]; omega)
                  by_cases h12 : 12 < n - p
                  · rw [if_pos h12] at hst
                    have Hst := hide hst
                    have h12I : decide ((12 : Int) < (n : Int) - (p : Int)) = true := by simp; omega
                    clear hst hkk hbW
                    go_wp2_with (go_at_call 28; (with_reducible refine Calls.mono (Hcn.out _) ?_); rintro e w1 ⟨rfl, rfl⟩)
                    refine bodyPost_ret (results_tmp2 Tryz.results12 _ _ _) rfl ?_
                    exact PostL.bad (HR.out.bel.alloc HR.out.bel.size _) hbig (HR.out.none_ hlt Hb.out Hst.out)
                  · rw [if_neg h12] at hst
                    have Hst := hide hst
                    have h12I : decide ((12 : Int) < (n : Int) - (p : Int)) = false := by simp; omega
                    clear hst hkk hbW
                    go_wp2_with (first | (go_at_call 28; (with_reducible refine Calls.mono (Hcn.out _) ?_); rintro e w1 ⟨rfl, rfl⟩) | (at_builtin; refine wpList_append_lies _ rfl (.tmp 118) (.tmp 120) 29 rfl w.heap.size 62 i0 _ 4 40 Tryz.underlying29 hi0 hz0 hz1 hz2 rfl (by decide) _ acc.length _ rfl (HW.out.own.alloc _) ⟨_, 0, none⟩ 1 1 (Tok.cells ⟨1, s.extract p n, 0, (p : Int)⟩) rfl rfl (World.news_of_block (cs := (Tok.cells ⟨1, s.extract p n, 0, (p : Int)⟩).toArray) (t := 62) (heap_alloc2_new _ _ _)) (by intro u hu; simp [Tok.cells] at hu; rcases hu with rfl | rfl | rfl | rfl <;> rfl) (by decide) (by unfold maxLen; omega) (by omega) (by have := HR.out.bel.size; simp; omega) _ rfl ?_; intro g1 cap1 W1 hown1 hgr1 _ _; have HX := hide (HR.out.tok hlt Hb.out Hst.out Hkz.out (by omega) (by omega) hown1 ((HW.out.bel.alloc HW.out.bel.size _).grown hgr1 (by have := HR.out.bel.size; simp; omega) (fun j hj => (HW.out.own.lt j hj).1))); clear hown1 hgr1))
                    go_roundw
                    case rel => exact ⟨_, p + (n - p), by go_num, by omega, HX.out⟩
                    case measure => simp [intOf]; omega
                · rw [h] at hcn
                  have Hcn := hide hcn
                  clear hcn h hwn hgn
                  have hkk : pre isWit (s.toList.drop p) = n - p := hpre
                  have hst := step_let hlt h1 hkk (p : Nat)
                  rw [show p + (n - p) = n by omega] at hst
                  have hpn : p ≤ n := by omega
                  have hnz : n ≤ s.size := by omega
                  have hbW := (Below.refl wr.heap.size wr).alloc (Nat.le_refl _) (.cells #[.int .i64 1, .string (s.extract p n), .int .i64 0, .int .i64 (p : Int)] 62)
                  have HW := hide (HR.out.next hbW)
                  have hpnI : (p : Int) ≤ (n : Int) := by omega
                  have hnI : (n : Int) ≤ (s.size : Int) := by omega
                  have Hkz := hide (show (s.extract p n).size = n - p by rw [ByteArray.size_extract]; omega)
                  by_cases h12 : 12 < n - p
                  · rw [if_pos h12] at hst
                    have Hst := hide hst
                    have h12I : decide ((12 : Int) < (n : Int) - (p : Int)) = true := by simp; omega
                    clear hst hkk hbW
                    go_wp2_with (go_at_call 28; (with_reducible refine Calls.mono (Hcn.out _) ?_); rintro e w1 ⟨rfl, rfl⟩)
                    refine bodyPost_ret (results_tmp2 Tryz.results12 _ _ _) rfl ?_
                    exact PostL.bad (HR.out.bel.alloc HR.out.bel.size _) hbig (HR.out.none_ hlt Hb.out Hst.out)
                  · rw [if_neg h12] at hst
                    have Hst := hide hst
                    have h12I : decide ((12 : Int) < (n : Int) - (p : Int)) = false := by simp; omega
                    clear hst hkk hbW
                    go_wp2_with (first | (go_at_call 28; (with_reducible refine Calls.mono (Hcn.out _) ?_); rintro e w1 ⟨rfl, rfl⟩) | (at_builtin; refine wpList_append_lies _ rfl (.tmp 118) (.tmp 120) 29 rfl w.heap.size 62 i0 _ 4 40 Tryz.underlying29 hi0 hz0 hz1 hz2 rfl (by decide) _ acc.length _ rfl (HW.out.own.alloc _) ⟨_, 0, none⟩ 1 1 (Tok.cells ⟨1, s.extract p n, 0, (p : Int)⟩) rfl rfl (World.news_of_block (cs := (Tok.cells ⟨1, s.extract p n, 0, (p : Int)⟩).toArray) (t := 62) (heap_alloc2_new _ _ _)) (by intro u hu; simp [Tok.cells] at hu; rcases hu with rfl | rfl | rfl | rfl <;> rfl) (by decide) (by unfold maxLen; omega) (by omega) (by have := HR.out.bel.size; simp; omega) _ rfl ?_; intro g1 cap1 W1 hown1 hgr1 _ _; have HX := hide (HR.out.tok hlt Hb.out Hst.out Hkz.out (by omega) (by omega) hown1 ((HW.out.bel.alloc HW.out.bel.size _).grown hgr1 (by have := HR.out.bel.size; simp; omega) (fun j hj => (HW.out.own.lt j hj).1))); clear hown1 hgr1))
                    go_roundw
                    case rel => exact ⟨_, p + (n - p), by go_num, by omega, HX.out⟩
                    case measure => simp [intOf]; omega
            · have hpre := pre_at isWit (s.toList.drop p) (n - p) HA.out (fun b hb => by
                rw [List.getElem?_eq_none (by rw [List.length_drop, toList_len]; omega)] at hb
                cases hb) (by rw [List.length_drop, toList_len]; omega)
              obtain rfl : n = s.size := by omega
              have hkk : pre isWit (s.toList.drop p) = s.size - p := hpre
              have hst := step_let hlt h1 hkk (p : Nat)
              rw [show p + (s.size - p) = s.size by omega] at hst
              have hpn : p ≤ s.size := by omega
              have hnz : s.size ≤ s.size := by omega
              have hbW := (Below.refl wr.heap.size wr).alloc (Nat.le_refl _) (.cells #[.int .i64 1, .string (s.extract p s.size), .int .i64 0, .int .i64 (p : Int)] 62)
              have HW := hide (HR.out.next hbW)
              have hpnI : (p : Int) ≤ (s.size : Int) := by omega
              have hnI : (s.size : Int) ≤ (s.size : Int) := by omega
              have Hkz := hide (show (s.extract p s.size).size = s.size - p by rw [ByteArray.size_extract]; omega)
              by_cases h12 : 12 < s.size - p
              · rw [if_pos h12] at hst
                have Hst := hide hst
                have h12I : decide ((12 : Int) < (s.size : Int) - (p : Int)) = true := by simp; omega
                clear hst hkk hbW
                go_wp2_with fail
                refine bodyPost_ret (results_tmp2 Tryz.results12 _ _ _) rfl ?_
                exact PostL.bad (HR.out.bel.alloc HR.out.bel.size _) hbig (HR.out.none_ hlt Hb.out Hst.out)
              · rw [if_neg h12] at hst
                have Hst := hide hst
                have h12I : decide ((12 : Int) < (s.size : Int) - (p : Int)) = false := by simp; omega
                clear hst hkk hbW
                go_wp2_with (at_builtin; refine wpList_append_lies _ rfl (.tmp 118) (.tmp 120) 29 rfl w.heap.size 62 i0 _ 4 40 Tryz.underlying29 hi0 hz0 hz1 hz2 rfl (by decide) _ acc.length _ rfl (HW.out.own.alloc _) ⟨_, 0, none⟩ 1 1 (Tok.cells ⟨1, s.extract p s.size, 0, (p : Int)⟩) rfl rfl (World.news_of_block (cs := (Tok.cells ⟨1, s.extract p s.size, 0, (p : Int)⟩).toArray) (t := 62) (heap_alloc2_new _ _ _)) (by intro u hu; simp [Tok.cells] at hu; rcases hu with rfl | rfl | rfl | rfl <;> rfl) (by decide) (by unfold maxLen; omega) (by omega) (by have := HR.out.bel.size; simp; omega) _ rfl ?_; intro g1 cap1 W1 hown1 hgr1 _ _; have HX := hide (HR.out.tok hlt Hb.out Hst.out Hkz.out (by omega) (by omega) hown1 ((HW.out.bel.alloc HW.out.bel.size _).grown hgr1 (by have := HR.out.bel.size; simp; omega) (fun j hj => (HW.out.own.lt j hj).1))); clear hown1 hgr1)
                go_roundw
                case rel => exact ⟨_, p + (s.size - p), by go_num, by omega, HX.out⟩
                case measure => simp [intOf]; omega
        · have hcl := fun W => class_any W ((s[p]'hlt).toNat : Int)
          rw [hc] at hcl
          have Hcl := hide hcl
          have Hb := hide (not_blank (c := s[p]'hlt) (by rw [hc]; decide))
          have Hw0 := hide h2
          clear hcl hc
          go_wp2_with (go_at_call 28; (with_reducible refine Calls.mono (Hcl.out _) ?_); rintro e w1 ⟨rfl, rfl⟩)
          go_loop [8] (fun nv => ∃ n : Nat, nv = .int .i64 n ∧ p + 1 ≤ n ∧ n ≤ s.size ∧ Hid (∀ i b, i < n - p → (s.toList.drop p)[i]? = some b → isDig b.toNat = true)) (fun nv => s.size - (intOf nv).toNat)
          case atStart => exact ⟨p + 1, by go_num, Nat.le_refl _, by omega, fun i b hi hb => by
            obtain rfl : i = 0 := by omega
            rw [drop_cons s p hlt] at hb
            simp at hb
            subst hb
            exact Hw0.out⟩
          case round =>
            obtain ⟨n, rfl, hn1, hn2, HA⟩ := hrel
            by_cases hltn : n < s.size
            · have hltnI : (n : Int) < (s.size : Int) := by omega
              have hgn : (s.toList.drop p)[n - p]? = some (s[n]'hltn) := by
                rw [List.getElem?_drop, show p + (n - p) = n by omega]
                exact get_toList s n hltn
              have hcn := fun W => class_any W ((s[n]'hltn).toNat : Int)
              cases hwn : isDig ((s[n]'hltn).toNat : Int) with
              | true =>
                have HA2 := hide (show ∀ i b, i < n + 1 - p → (s.toList.drop p)[i]? = some b → isDig b.toNat = true from fun i b hi hb => by
                  rcases Nat.lt_or_ge i (n - p) with h | h
                  · exact HA.out i b h hb
                  · obtain rfl : i = n - p := by omega
                    rw [hgn] at hb
                    injection hb with hb
                    subst hb
                    exact hwn)
                rw [dig_class hwn] at hcn
                have Hcn := hide hcn
                clear hcn hwn hgn
                go_wp2_with (go_at_call 28; (with_reducible refine Calls.mono (Hcn.out _) ?_); rintro e w1 ⟨rfl, rfl⟩)
                go_round
                case rel => exact ⟨n + 1, by go_num, by omega, by omega, HA2.out⟩
                case measure => simp [intOf]; omega
              | false =>
                have hpre := pre_at isDig (s.toList.drop p) (n - p) HA.out (fun b hb => by
                  rw [hgn] at hb
                  injection hb with hb
                  subst hb
                  exact hwn) (by rw [List.length_drop, toList_len]; omega)
                have hfol : follows (s.toList.drop n) = isWit ((s[n]'hltn).toNat : Int) := by rw [drop_cons s n hltn]; rfl
                cases hwt : isWit ((s[n]'hltn).toNat : Int) with
                | true =>
                  rw [hwt] at hfol
                  rcases wit_class hwt with h | h | h
                  · rw [h] at hcn
                    have Hcn := hide hcn
                    clear hcn h hwn hgn hwt
                    have hst := step_dig hlt h1 h2 hpre (p : Nat)
                    rw [show p + (n - p) = n by omega] at hst
                    have hpn : p ≤ n := by omega
                    have hpnI : (p : Int) ≤ (n : Int) := by omega
                    have hnI : (n : Int) ≤ (s.size : Int) := by omega
                    have hxl : (s.extract p n).toList = (s.toList.drop p).take (n - p) := by rw [toList_extract, List.drop_take]
                    have Hkz := hide (show (s.extract p n).size = n - p by rw [ByteArray.size_extract]; omega)
                    have hnum := fun W => rnumber_any W (s.extract p n) (by rw [Hkz.out]; omega) (fun c hc => by
                      rw [hxl] at hc
                      obtain ⟨i, hi, rfl⟩ := List.getElem_of_mem hc
                      have hi' : i < n - p := by rw [List.length_take] at hi; omega
                      refine HA.out i _ hi' ?_
                      rw [List.getElem_take, List.getElem?_eq_getElem]) (by rw [Hkz.out]; omega)
                    rw [hxl] at hnum
                    rw [hfol] at hst
                    obtain ⟨m, hm⟩ : ∃ m, numF ((s.toList.drop p).take (n - p)) = m := ⟨_, rfl⟩
                    rw [hm] at hnum
                    have Hnum := hide hnum
                    unfold numF at hm
                    clear hnum hxl
                    cases hok : numOk ((s.toList.drop p).take (n - p)) with
                    | false =>
                      rw [hok] at hm hst
                      have hm1 : m = -1 := by simpa using hm.symm
                      subst hm1
                      have Hst := hide (show stepF (p : Nat) (s.toList.drop p) = none by simpa using hst)
                      clear hst hok hm h1 h2 hpre hfol
                      go_wp2_with (first
                        | (go_at_call 30; (with_reducible refine Calls.mono (Hnum.out _) ?_); rintro e w1 ⟨rfl, rfl⟩)
                        | (go_at_call 28; (with_reducible refine Calls.mono (Hcn.out _) ?_); rintro e w1 ⟨rfl, rfl⟩))
                      refine bodyPost_ret (results_tmp2 Tryz.results12 _ _ _) rfl ?_
                      exact PostL.bad (HR.out.bel.alloc HR.out.bel.size _) hbig (HR.out.none_ hlt Hb.out Hst.out)
                    | true =>
                      rw [hok] at hm hst
                      rw [if_pos rfl] at hm
                      have hm0 : decide (m < 0) = false := by simp; omega
                      have Hst := hide (show stepF (p : Nat) (s.toList.drop p) = none by simpa using hst)
                      clear hst hok hm h1 h2 hpre hfol
                      go_wp2_with (first
                        | (go_at_call 30; (with_reducible refine Calls.mono (Hnum.out _) ?_); rintro e w1 ⟨rfl, rfl⟩)
                        | (go_at_call 28; (with_reducible refine Calls.mono (Hcn.out _) ?_); rintro e w1 ⟨rfl, rfl⟩))
                      refine bodyPost_ret (results_tmp2 Tryz.results12 _ _ _) rfl ?_
                      exact PostL.bad (HR.out.bel.alloc HR.out.bel.size _) hbig (HR.out.none_ hlt Hb.out Hst.out)
                  · exact absurd h (ndig_class hwn)
                  · rw [h] at hcn
                    have Hcn := hide hcn
                    clear hcn h hwn hgn hwt
                    have hst := step_dig hlt h1 h2 hpre (p : Nat)
                    rw [show p + (n - p) = n by omega] at hst
                    have hpn : p ≤ n := by omega
                    have hpnI : (p : Int) ≤ (n : Int) := by omega
                    have hnI : (n : Int) ≤ (s.size : Int) := by omega
                    have hxl : (s.extract p n).toList = (s.toList.drop p).take (n - p) := by rw [toList_extract, List.drop_take]
                    have Hkz := hide (show (s.extract p n).size = n - p by rw [ByteArray.size_extract]; omega)
                    have hnum := fun W => rnumber_any W (s.extract p n) (by rw [Hkz.out]; omega) (fun c hc => by
                      rw [hxl] at hc
                      obtain ⟨i, hi, rfl⟩ := List.getElem_of_mem hc
                      have hi' : i < n - p := by rw [List.length_take] at hi; omega
                      refine HA.out i _ hi' ?_
                      rw [List.getElem_take, List.getElem?_eq_getElem]) (by rw [Hkz.out]; omega)
                    rw [hxl] at hnum
                    rw [hfol] at hst
                    obtain ⟨m, hm⟩ : ∃ m, numF ((s.toList.drop p).take (n - p)) = m := ⟨_, rfl⟩
                    rw [hm] at hnum
                    have Hnum := hide hnum
                    unfold numF at hm
                    clear hnum hxl
                    cases hok : numOk ((s.toList.drop p).take (n - p)) with
                    | false =>
                      rw [hok] at hm hst
                      have hm1 : m = -1 := by simpa using hm.symm
                      subst hm1
                      have Hst := hide (show stepF (p : Nat) (s.toList.drop p) = none by simpa using hst)
                      clear hst hok hm h1 h2 hpre hfol
                      go_wp2_with (first
                        | (go_at_call 30; (with_reducible refine Calls.mono (Hnum.out _) ?_); rintro e w1 ⟨rfl, rfl⟩)
                        | (go_at_call 28; (with_reducible refine Calls.mono (Hcn.out _) ?_); rintro e w1 ⟨rfl, rfl⟩))
                      refine bodyPost_ret (results_tmp2 Tryz.results12 _ _ _) rfl ?_
                      exact PostL.bad (HR.out.bel.alloc HR.out.bel.size _) hbig (HR.out.none_ hlt Hb.out Hst.out)
                    | true =>
                      rw [hok] at hm hst
                      rw [if_pos rfl] at hm
                      have hm0 : decide (m < 0) = false := by simp; omega
                      have Hst := hide (show stepF (p : Nat) (s.toList.drop p) = none by simpa using hst)
                      clear hst hok hm h1 h2 hpre hfol
                      go_wp2_with (first
                        | (go_at_call 30; (with_reducible refine Calls.mono (Hnum.out _) ?_); rintro e w1 ⟨rfl, rfl⟩)
                        | (go_at_call 28; (with_reducible refine Calls.mono (Hcn.out _) ?_); rintro e w1 ⟨rfl, rfl⟩))
                      refine bodyPost_ret (results_tmp2 Tryz.results12 _ _ _) rfl ?_
                      exact PostL.bad (HR.out.bel.alloc HR.out.bel.size _) hbig (HR.out.none_ hlt Hb.out Hst.out)
                | false =>
                  rw [hwt] at hfol
                  rcases nwit_class hwt with h | h
                  · rw [h] at hcn
                    have Hcn := hide hcn
                    clear hcn h hwn hgn hwt
                    have hst := step_dig hlt h1 h2 hpre (p : Nat)
                    rw [show p + (n - p) = n by omega] at hst
                    have hpn : p ≤ n := by omega
                    have hpnI : (p : Int) ≤ (n : Int) := by omega
                    have hnI : (n : Int) ≤ (s.size : Int) := by omega
                    have hxl : (s.extract p n).toList = (s.toList.drop p).take (n - p) := by rw [toList_extract, List.drop_take]
                    have Hkz := hide (show (s.extract p n).size = n - p by rw [ByteArray.size_extract]; omega)
                    have hnum := fun W => rnumber_any W (s.extract p n) (by rw [Hkz.out]; omega) (fun c hc => by
                      rw [hxl] at hc
                      obtain ⟨i, hi, rfl⟩ := List.getElem_of_mem hc
                      have hi' : i < n - p := by rw [List.length_take] at hi; omega
                      refine HA.out i _ hi' ?_
                      rw [List.getElem_take, List.getElem?_eq_getElem]) (by rw [Hkz.out]; omega)
                    rw [hxl] at hnum
                    rw [hfol] at hst
                    obtain ⟨m, hm⟩ : ∃ m, numF ((s.toList.drop p).take (n - p)) = m := ⟨_, rfl⟩
                    rw [hm] at hnum
                    have Hnum := hide hnum
                    unfold numF at hm
                    clear hnum hxl
                    cases hok : numOk ((s.toList.drop p).take (n - p)) with
                    | false =>
                      rw [hok] at hm hst
                      have hm1 : m = -1 := by simpa using hm.symm
                      subst hm1
                      have Hst := hide (show stepF (p : Nat) (s.toList.drop p) = none by simpa using hst)
                      clear hst hok hm h1 h2 hpre hfol
                      go_wp2_with (first
                        | (go_at_call 30; (with_reducible refine Calls.mono (Hnum.out _) ?_); rintro e w1 ⟨rfl, rfl⟩)
                        | (go_at_call 28; (with_reducible refine Calls.mono (Hcn.out _) ?_); rintro e w1 ⟨rfl, rfl⟩))
                      refine bodyPost_ret (results_tmp2 Tryz.results12 _ _ _) rfl ?_
                      exact PostL.bad (HR.out.bel.alloc HR.out.bel.size _) hbig (HR.out.none_ hlt Hb.out Hst.out)
                    | true =>
                      rw [hok] at hm hst
                      rw [if_pos rfl] at hm
                      have hm0 : decide (m < 0) = false := by simp; omega
                      have Hst := hide (show stepF (p : Nat) (s.toList.drop p) = some ⟨2, s.extract p n, m, p⟩ by rw [hst, ← hm]; simp)
                      have hbW := (Below.refl wr.heap.size wr).alloc (Nat.le_refl _) (.cells #[.int .i64 2, .string (s.extract p n), .int .i64 m, .int .i64 (p : Int)] 62)
                      have HW := hide (HR.out.next hbW)
                      clear hst hok hm h1 h2 hbW hpre hfol
                      go_wp2_with (first
                        | (go_at_call 30; (with_reducible refine Calls.mono (Hnum.out _) ?_); rintro e w1 ⟨rfl, rfl⟩)
                        | (go_at_call 28; (with_reducible refine Calls.mono (Hcn.out _) ?_); rintro e w1 ⟨rfl, rfl⟩)
                        | (at_builtin; refine wpList_append_lies _ rfl (.tmp 118) (.tmp 120) 29 rfl w.heap.size 62 i0 _ 4 40 Tryz.underlying29 hi0 hz0 hz1 hz2 rfl (by decide) _ acc.length _ rfl (HW.out.own.alloc _) ⟨_, 0, none⟩ 1 1 (Tok.cells ⟨2, s.extract p n, m, (p : Int)⟩) rfl rfl (World.news_of_block (cs := (Tok.cells ⟨2, s.extract p n, m, (p : Int)⟩).toArray) (t := 62) (heap_alloc2_new _ _ _)) (by intro u hu; simp [Tok.cells] at hu; rcases hu with rfl | rfl | rfl | rfl <;> rfl) (by decide) (by unfold maxLen; omega) (by omega) (by have := HR.out.bel.size; simp; omega) _ rfl ?_; intro g1 cap1 W1 hown1 hgr1 _ _; have HX := hide (HR.out.tok hlt Hb.out Hst.out Hkz.out (by omega) (by omega) hown1 ((HW.out.bel.alloc HW.out.bel.size _).grown hgr1 (by have := HR.out.bel.size; simp; omega) (fun j hj => (HW.out.own.lt j hj).1))); clear hown1 hgr1))
                      go_roundw
                      case rel => exact ⟨_, p + (n - p), by go_num, by omega, HX.out⟩
                      case measure => simp [intOf]; omega
                  · rw [h] at hcn
                    have Hcn := hide hcn
                    clear hcn h hwn hgn hwt
                    have hst := step_dig hlt h1 h2 hpre (p : Nat)
                    rw [show p + (n - p) = n by omega] at hst
                    have hpn : p ≤ n := by omega
                    have hpnI : (p : Int) ≤ (n : Int) := by omega
                    have hnI : (n : Int) ≤ (s.size : Int) := by omega
                    have hxl : (s.extract p n).toList = (s.toList.drop p).take (n - p) := by rw [toList_extract, List.drop_take]
                    have Hkz := hide (show (s.extract p n).size = n - p by rw [ByteArray.size_extract]; omega)
                    have hnum := fun W => rnumber_any W (s.extract p n) (by rw [Hkz.out]; omega) (fun c hc => by
                      rw [hxl] at hc
                      obtain ⟨i, hi, rfl⟩ := List.getElem_of_mem hc
                      have hi' : i < n - p := by rw [List.length_take] at hi; omega
                      refine HA.out i _ hi' ?_
                      rw [List.getElem_take, List.getElem?_eq_getElem]) (by rw [Hkz.out]; omega)
                    rw [hxl] at hnum
                    rw [hfol] at hst
                    obtain ⟨m, hm⟩ : ∃ m, numF ((s.toList.drop p).take (n - p)) = m := ⟨_, rfl⟩
                    rw [hm] at hnum
                    have Hnum := hide hnum
                    unfold numF at hm
                    clear hnum hxl
                    cases hok : numOk ((s.toList.drop p).take (n - p)) with
                    | false =>
                      rw [hok] at hm hst
                      have hm1 : m = -1 := by simpa using hm.symm
                      subst hm1
                      have Hst := hide (show stepF (p : Nat) (s.toList.drop p) = none by simpa using hst)
                      clear hst hok hm h1 h2 hpre hfol
                      go_wp2_with (first
                        | (go_at_call 30; (with_reducible refine Calls.mono (Hnum.out _) ?_); rintro e w1 ⟨rfl, rfl⟩)
                        | (go_at_call 28; (with_reducible refine Calls.mono (Hcn.out _) ?_); rintro e w1 ⟨rfl, rfl⟩))
                      refine bodyPost_ret (results_tmp2 Tryz.results12 _ _ _) rfl ?_
                      exact PostL.bad (HR.out.bel.alloc HR.out.bel.size _) hbig (HR.out.none_ hlt Hb.out Hst.out)
                    | true =>
                      rw [hok] at hm hst
                      rw [if_pos rfl] at hm
                      have hm0 : decide (m < 0) = false := by simp; omega
                      have Hst := hide (show stepF (p : Nat) (s.toList.drop p) = some ⟨2, s.extract p n, m, p⟩ by rw [hst, ← hm]; simp)
                      have hbW := (Below.refl wr.heap.size wr).alloc (Nat.le_refl _) (.cells #[.int .i64 2, .string (s.extract p n), .int .i64 m, .int .i64 (p : Int)] 62)
                      have HW := hide (HR.out.next hbW)
                      clear hst hok hm h1 h2 hbW hpre hfol
                      go_wp2_with (first
                        | (go_at_call 30; (with_reducible refine Calls.mono (Hnum.out _) ?_); rintro e w1 ⟨rfl, rfl⟩)
                        | (go_at_call 28; (with_reducible refine Calls.mono (Hcn.out _) ?_); rintro e w1 ⟨rfl, rfl⟩)
                        | (at_builtin; refine wpList_append_lies _ rfl (.tmp 118) (.tmp 120) 29 rfl w.heap.size 62 i0 _ 4 40 Tryz.underlying29 hi0 hz0 hz1 hz2 rfl (by decide) _ acc.length _ rfl (HW.out.own.alloc _) ⟨_, 0, none⟩ 1 1 (Tok.cells ⟨2, s.extract p n, m, (p : Int)⟩) rfl rfl (World.news_of_block (cs := (Tok.cells ⟨2, s.extract p n, m, (p : Int)⟩).toArray) (t := 62) (heap_alloc2_new _ _ _)) (by intro u hu; simp [Tok.cells] at hu; rcases hu with rfl | rfl | rfl | rfl <;> rfl) (by decide) (by unfold maxLen; omega) (by omega) (by have := HR.out.bel.size; simp; omega) _ rfl ?_; intro g1 cap1 W1 hown1 hgr1 _ _; have HX := hide (HR.out.tok hlt Hb.out Hst.out Hkz.out (by omega) (by omega) hown1 ((HW.out.bel.alloc HW.out.bel.size _).grown hgr1 (by have := HR.out.bel.size; simp; omega) (fun j hj => (HW.out.own.lt j hj).1))); clear hown1 hgr1))
                      go_roundw
                      case rel => exact ⟨_, p + (n - p), by go_num, by omega, HX.out⟩
                      case measure => simp [intOf]; omega
            · have hpre := pre_at isDig (s.toList.drop p) (n - p) HA.out (fun b hb => by
                rw [List.getElem?_eq_none (by rw [List.length_drop, toList_len]; omega)] at hb
                cases hb) (by rw [List.length_drop, toList_len]; omega)
              obtain rfl : n = s.size := by omega
              have hfol : follows (s.toList.drop s.size) = false := by rw [List.drop_of_length_le (by rw [toList_len]; exact Nat.le_refl _)]; rfl
              have hst := step_dig hlt h1 h2 hpre (p : Nat)
              rw [show p + (s.size - p) = s.size by omega] at hst
              have hpn : p ≤ s.size := by omega
              have hpnI : (p : Int) ≤ (s.size : Int) := by omega
              have hnI : (s.size : Int) ≤ (s.size : Int) := by omega
              have hxl : (s.extract p s.size).toList = (s.toList.drop p).take (s.size - p) := by rw [toList_extract, List.drop_take]
              have Hkz := hide (show (s.extract p s.size).size = s.size - p by rw [ByteArray.size_extract]; omega)
              have hnum := fun W => rnumber_any W (s.extract p s.size) (by rw [Hkz.out]; omega) (fun c hc => by
                rw [hxl] at hc
                obtain ⟨i, hi, rfl⟩ := List.getElem_of_mem hc
                have hi' : i < s.size - p := by rw [List.length_take] at hi; omega
                refine HA.out i _ hi' ?_
                rw [List.getElem_take, List.getElem?_eq_getElem]) (by rw [Hkz.out]; omega)
              rw [hxl] at hnum
              rw [hfol] at hst
              obtain ⟨m, hm⟩ : ∃ m, numF ((s.toList.drop p).take (s.size - p)) = m := ⟨_, rfl⟩
              rw [hm] at hnum
              have Hnum := hide hnum
              unfold numF at hm
              clear hnum hxl
              cases hok : numOk ((s.toList.drop p).take (s.size - p)) with
              | false =>
                rw [hok] at hm hst
                have hm1 : m = -1 := by simpa using hm.symm
                subst hm1
                have Hst := hide (show stepF (p : Nat) (s.toList.drop p) = none by simpa using hst)
                clear hst hok hm h1 h2 hpre hfol
                go_wp2_with (first
                  | (go_at_call 30; (with_reducible refine Calls.mono (Hnum.out _) ?_); rintro e w1 ⟨rfl, rfl⟩)
              )
                refine bodyPost_ret (results_tmp2 Tryz.results12 _ _ _) rfl ?_
                exact PostL.bad (HR.out.bel.alloc HR.out.bel.size _) hbig (HR.out.none_ hlt Hb.out Hst.out)
              | true =>
                rw [hok] at hm hst
                rw [if_pos rfl] at hm
                have hm0 : decide (m < 0) = false := by simp; omega
                have Hst := hide (show stepF (p : Nat) (s.toList.drop p) = some ⟨2, s.extract p s.size, m, p⟩ by rw [hst, ← hm]; simp)
                have hbW := (Below.refl wr.heap.size wr).alloc (Nat.le_refl _) (.cells #[.int .i64 2, .string (s.extract p s.size), .int .i64 m, .int .i64 (p : Int)] 62)
                have HW := hide (HR.out.next hbW)
                clear hst hok hm h1 h2 hbW hpre hfol
                go_wp2_with (first
                  | (go_at_call 30; (with_reducible refine Calls.mono (Hnum.out _) ?_); rintro e w1 ⟨rfl, rfl⟩)
                  | (at_builtin; refine wpList_append_lies _ rfl (.tmp 118) (.tmp 120) 29 rfl w.heap.size 62 i0 _ 4 40 Tryz.underlying29 hi0 hz0 hz1 hz2 rfl (by decide) _ acc.length _ rfl (HW.out.own.alloc _) ⟨_, 0, none⟩ 1 1 (Tok.cells ⟨2, s.extract p s.size, m, (p : Int)⟩) rfl rfl (World.news_of_block (cs := (Tok.cells ⟨2, s.extract p s.size, m, (p : Int)⟩).toArray) (t := 62) (heap_alloc2_new _ _ _)) (by intro u hu; simp [Tok.cells] at hu; rcases hu with rfl | rfl | rfl | rfl <;> rfl) (by decide) (by unfold maxLen; omega) (by omega) (by have := HR.out.bel.size; simp; omega) _ rfl ?_; intro g1 cap1 W1 hown1 hgr1 _ _; have HX := hide (HR.out.tok hlt Hb.out Hst.out Hkz.out (by omega) (by omega) hown1 ((HW.out.bel.alloc HW.out.bel.size _).grown hgr1 (by have := HR.out.bel.size; simp; omega) (fun j hj => (HW.out.own.lt j hj).1))); clear hown1 hgr1))
                go_roundw
                case rel => exact ⟨_, p + (s.size - p), by go_num, by omega, HX.out⟩
                case measure => simp [intOf]; omega
        · have hcl := fun W => class_any W ((s[p]'hlt).toNat : Int)
          rw [hc] at hcl
          have Hcl := hide hcl
          have Hb := hide (not_blank (c := s[p]'hlt) (by rw [hc]; decide))
          have Hst := hide (step_und hlt h1 (p : Nat))
          clear hcl hc h1
          go_wp2_with (go_at_call 28; (with_reducible refine Calls.mono (Hcl.out _) ?_); rintro e w1 ⟨rfl, rfl⟩)
          refine bodyPost_ret (results_tmp2 Tryz.results12 _ _ _) rfl ?_
          exact PostL.bad HR.out.bel hbig (HR.out.none_ hlt Hb.out Hst.out)
        · have hcl := fun W => class_any W ((s[p]'hlt).toNat : Int)
          rw [hc] at hcl
          have Hcl := hide hcl
          have HX := hide (HR.out.skip hlt ((blank_iff _).2 h1))
          clear hcl hc h1
          go_wp2_with (go_at_call 28; (with_reducible refine Calls.mono (Hcl.out _) ?_); rintro e w1 ⟨rfl, rfl⟩)
          go_roundw
          case rel => exact ⟨acc, p + 1, by go_num, by omega, HX.out⟩
          case measure => simp [intOf]; omega
        · have hcl := fun W => class_any W ((s[p]'hlt).toNat : Int)
          rw [hc] at hcl
          have Hcl := hide hcl
          have Hb := hide (not_blank (c := s[p]'hlt) (by rw [hc]; decide))
          have hsg := fun W => sign_any W s p hlt (by omega)
          rcases step_sign hlt h1 h2 (p : Nat) with ⟨q1, q2⟩ | ⟨k, hk0, hk1, q1, q2⟩
          · rw [q1] at hsg
            have Hsg := hide hsg
            have Hst := hide q2
            clear hcl hc h1 h2 h3 hsg q1 q2
            go_wp2_with (first
              | (go_at_call 28; (with_reducible refine Calls.mono (Hcl.out _) ?_); rintro e w1 ⟨rfl, rfl⟩)
              | (go_at_call 29; (with_reducible refine Calls.mono (Hsg.out _) ?_); rintro e w1 ⟨rfl, rfl⟩))
            refine bodyPost_ret (results_tmp2 Tryz.results12 _ _ _) rfl ?_
            exact PostL.bad HR.out.bel hbig (HR.out.none_ hlt Hb.out Hst.out)
          · rw [q1] at hsg
            have Hsg := hide hsg
            have hkz : (s.extract p (p + k)).size = k := by rw [ByteArray.size_extract]; omega
            have Hst := hide q2
            have Hkz := hide hkz
            have hk1I : (p : Int) + k ≤ (s.size : Int) := by omega
            have hk0I : ((k : Int) == 0) = false := by simp; omega
            clear hcl hc h1 h2 h3 hsg q1 q2 hkz
            go_wp2_with (first
              | (go_at_call 28; (with_reducible refine Calls.mono (Hcl.out _) ?_); rintro e w1 ⟨rfl, rfl⟩)
              | (go_at_call 29; (with_reducible refine Calls.mono (Hsg.out _) ?_); rintro e w1 ⟨rfl, rfl⟩)
              | (at_builtin; refine wpList_append_lies _ rfl (.tmp 36) (.tmp 45) 29 rfl w.heap.size 62 i0 _ 4 40 Tryz.underlying29 hi0 hz0 hz1 hz2 rfl (by decide) _ acc.length _ rfl (HR.out.own.alloc _) ⟨_, 0, none⟩ 1 1 (Tok.cells ⟨3, s.extract p (p + k), 0, (p : Int)⟩) rfl rfl (World.news_of_block (cs := (Tok.cells ⟨3, s.extract p (p + k), 0, (p : Int)⟩).toArray) (t := 62) (heap_alloc_new _ _)) (by intro u hu; simp [Tok.cells] at hu; rcases hu with rfl | rfl | rfl | rfl <;> rfl) (by decide) (by unfold maxLen; omega) (by omega) (by have := HR.out.bel.size; simp; omega) _ rfl ?_; intro g1 cap1 W1 hown1 hgr1 _ _; have HX := hide (HR.out.tok hlt Hb.out Hst.out Hkz.out (by omega) (by omega) hown1 ((HR.out.bel.alloc HR.out.bel.size _).grown hgr1 (by have := HR.out.bel.size; simp; omega) (fun j hj => (HR.out.own.lt j hj).1))); clear hown1 hgr1))
            go_roundw
            case rel => exact ⟨_, p + k, by go_num, by omega, HX.out⟩
            case measure => simp [intOf]; omega
      · obtain rfl : p = s.size := by omega
        go_wp2
        refine bodyPost_ret (results_tmp2 Tryz.results12 _ _ _) rfl ?_
        exact HR.out.done rfl hbig
end Go.Proofs.YtbojlnbdkaanmaaGreatDoor
namespace Go.Proofs.YtbojlnbdkaanmaaGreatDoor
open Go.RowKit
set_option linter.unusedSimpArgs false
set_option linter.unusedVariables false

theorem y_eql65 {a : Act} {W : World} {o : Oper} {x y : Operand} (ho : o.op = .binOp .eql 65 x y 65) (d e : Nat → Int) (cd ce : Array Value) (hd : (dCells d).toArray = cd) (he : (dCells e).toArray = ce) (hx : a.eval x = .agg cd) (hy : a.eval y = .agg ce) :
    (execOp a.eval o).run Tryz.prog W = .ok (.value (.bool (sameD d e))) W := by
  subst hd
  subst he
  have hm := guard65
  unfold execOp
  simp only [ho, hx, hy, dCells]
  go_simp
  simp only [sameD_eq, Bool.and_true]
theorem nd_dig {w : World} {g : Nat} {nd : Nd} {o : Value} (h : w.heap[g]? = some (.cells (nd.cells o).toArray 67 (0, 0))) : ∀ j v, (dCells nd.d)[j]? = some v → w.cell? ⟨g, 4 + j, none⟩ = some v := by
  intro j v hj
  rw [cell_of_row _ _ _ _ _ _ h]
  have e : (nd.cells o) = [.int .i64 nd.k, .int .i64 nd.n, .int .i64 nd.m, .int .i64 nd.sd] ++ (dCells nd.d ++ [o]) := rfl
  have hl : j < (dCells nd.d).length := (List.getElem?_eq_some_iff.1 hj).1
  rw [e, List.getElem?_toArray, List.getElem?_append_right (by simp), List.getElem?_append_left (by simpa using hl)]
  simpa using hj
theorem rtruth_t (w : World) (b : Bool) : Calls Tryz.prog 64 #[.bool b] w fun e w' => e = .returned (.int .i64 (tru b)) ∧ w = w' := rtruth_any w b
/-- The value at a node. -/
def valAt (F : Fct) (nds : List Nd) (k : Nat) : Int := (evAll F nds).getD k 0
theorem evFold_pre (F : Fct) : ∀ (l : List Nd) (rs : List Int), ∃ vs, l.foldl (fun rs nd => rs ++ [evStep F rs nd]) rs = rs ++ vs
  | [], rs => ⟨[], by simp⟩
  | x :: l, rs => by
    obtain ⟨vs, h⟩ := evFold_pre F l (rs ++ [evStep F rs x])
    exact ⟨evStep F rs x :: vs, by simp [h]⟩
theorem evAll_app (F : Fct) (l m : List Nd) : ∃ vs, evAll F (l ++ m) = evAll F l ++ vs := by
  unfold evAll
  rw [List.foldl_append]
  exact evFold_pre F m _
theorem evAll_pre (F : Fct) (nds : List Nd) (k : Nat) : ∃ vs, evAll F nds = evAll F (nds.take k) ++ vs := by
  have h := evAll_app F (nds.take k) (nds.drop k)
  rwa [List.take_append_drop] at h
theorem valAt_take (F : Fct) (nds : List Nd) (k a : Nat) (hk : k ≤ nds.length) (ha : a < k) : atI (evAll F (nds.take k)) (some (a : Int)) = valAt F nds a := by
  obtain ⟨vs, h⟩ := evAll_pre F nds k
  have hl : (evAll F (nds.take k)).length = k := by rw [evAll_length, List.length_take]; omega
  unfold atI valAt
  rw [h]
  simp only [Int.toNat_natCast]
  rw [List.getD_eq_getElem?_getD, List.getD_eq_getElem?_getD, List.getElem?_append_left (by omega)]
theorem valAt_eq (F : Fct) (nds : List Nd) (k : Nat) (hk : k < nds.length) : valAt F nds k = evStep F (evAll F (nds.take k)) nds[k] := by
  obtain ⟨vs, h⟩ := evAll_pre F nds (k + 1)
  have hl : (evAll F (nds.take k)).length = k := by rw [evAll_length, List.length_take]; omega
  unfold valAt
  rw [h, evAll_take F nds k hk, List.getD_eq_getElem?_getD, List.append_assoc, List.getElem?_append_right (by omega), hl, Nat.sub_self]
  rfl
theorem valAt_b (F : Fct) (nds : List Nd) (k : Nat) : -1 ≤ valAt F nds k ∧ valAt F nds k ≤ 1 := by
  unfold valAt
  rw [List.getD_eq_getElem?_getD]
  cases h : (evAll F nds)[k]? with
  | none => simp
  | some x => exact evAll_b F nds x (List.mem_of_getElem? h)
/-- What is known of the call's world: the policy, the facts, the node. -/
structure Ew (w : World) (g : Nat) (A : Option Addr) (c : Nat) (nds : List Nd) (F : Fct) (As : Option Addr) (cs : Nat) (Ap : Option Addr) (cp : Nat) (nd : Nd) (o : Value) (W : World) : Prop where
  p : W.heap[w.heap.size]? = some (.cells #[.slice A nds.length c] 25 (0, 0))
  f : W.heap[w.heap.size + 1]? = some (.cells #[.int .i64 F.v, .int .i64 F.e, .slice As F.st.length cs, .slice Ap F.pts.length cp] 42 (0, 0))
  n : W.heap[g]? = some (.cells (nd.cells o).toArray 67 (0, 0))
  bel : Below w.heap.size w W
theorem Ew.next {w : World} {g : Nat} {A : Option Addr} {c : Nat} {nds : List Nd} {F : Fct} {As : Option Addr} {cs : Nat} {Ap : Option Addr} {cp : Nat} {nd : Nd} {o : Value} {W W' : World} (h : Ew w g A c nds F As cs Ap cp nd o W) (hb : Below W.heap.size W W') : Ew w g A c nds F As cs Ap cp nd o W' :=
  ⟨(hb.block _ (World.lt_of_blk h.p)).trans h.p, (hb.block _ (World.lt_of_blk h.f)).trans h.f, (hb.block _ (World.lt_of_blk h.n)).trans h.n, h.bel.trans (hb.mono h.bel.size)⟩
theorem Ew.cells {w : World} {g : Nat} {A : Option Addr} {c : Nat} {nds : List Nd} {F : Fct} {As : Option Addr} {cs : Nat} {Ap : Option Addr} {cp : Nat} {nd : Nd} {o : Value} {W : World} (h : Ew w g A c nds F As cs Ap cp nd o W) :
    W.cell? ⟨w.heap.size, 0, none⟩ = some (.slice A nds.length c) ∧ (W.cell? ⟨w.heap.size + 1, 0, none⟩ = some (.int .i64 F.v) ∧ W.cell? ⟨w.heap.size + 1, 1, none⟩ = some (.int .i64 F.e) ∧ W.cell? ⟨w.heap.size + 1, 2, none⟩ = some (.slice As F.st.length cs) ∧ W.cell? ⟨w.heap.size + 1, 3, none⟩ = some (.slice Ap F.pts.length cp)) ∧
    (W.cell? ⟨g, 0, none⟩ = some (.int .i64 nd.k) ∧ W.cell? ⟨g, 1, none⟩ = some (.int .i64 nd.n) ∧ W.cell? ⟨g, 2, none⟩ = some (.int .i64 nd.m) ∧ W.cell? ⟨g, 3, none⟩ = some (.int .i64 nd.sd) ∧ W.cell? ⟨g, 20, none⟩ = some o) := by
  refine ⟨?_, ⟨?_, ?_, ?_, ?_⟩, ⟨?_, ?_, ?_, ?_, ?_⟩⟩
  · rw [cell_of_row _ _ _ _ _ _ h.p]; rfl
  · rw [cell_of_row _ _ _ _ _ _ h.f]; rfl
  · rw [cell_of_row _ _ _ _ _ _ h.f]; rfl
  · rw [cell_of_row _ _ _ _ _ _ h.f]; rfl
  · rw [cell_of_row _ _ _ _ _ _ h.f]; rfl
  · rw [cell_of_row _ _ _ _ _ _ h.n]; rfl
  · rw [cell_of_row _ _ _ _ _ _ h.n]; rfl
  · rw [cell_of_row _ _ _ _ _ _ h.n]; rfl
  · rw [cell_of_row _ _ _ _ _ _ h.n]; rfl
  · rw [cell_of_row _ _ _ _ _ _ h.n]; rfl
/-- The contract of the reference's eval at a node. -/
def RevOk (A : Option Addr) (c : Nat) (nds : List Nd) (F : Fct) (As : Option Addr) (cs : Nat) (Ap : Option Addr) (cp : Nat) (k : Nat) : Prop :=
  ∀ W : World, Nodes W W.heap.size A nds → FctAt W W.heap.size F As Ap → Calls Tryz.prog 41 #[.agg #[.slice A nds.length c], .int .i64 (k : Int), F.val As cs Ap cp] W fun e w' => e = .returned (.int .i64 (valAt F nds k)) ∧ Below W.heap.size W w'

set_option maxRecDepth 100000 in
set_option maxHeartbeats 8000000 in
theorem reval_step (A : Option Addr) (c : Nat) (nds : List Nd) (F : Fct) (As : Option Addr) (cs : Nat) (Ap : Option Addr) (cp : Nat) (hok : ∀ i nd, nds[i]? = some nd → NdOk i nd) (hln : nds.length ≤ 1000000) (hst : F.st.length ≤ 1000000)
    (k : Nat) (hk : k < nds.length) (ih : ∀ a, a < k → RevOk A c nds F As cs Ap cp a) : RevOk A c nds F As cs Ap cp k := by
  intro w hN hF
  obtain ⟨nd, hnd⟩ : ∃ nd, nds[k] = nd := ⟨_, rfl⟩
  have hval := valAt_eq F nds k hk
  rw [hnd] at hval
  have hokk := hok k nd (by rw [List.getElem?_eq_getElem hk, hnd])
  have hb0 := fun a (ha : a < k) => valAt_b F nds a
  obtain ⟨b, off, Ao, co, hA, hbl, hat, hof⟩ := hN.at_ hk
  rw [hnd] at hat hof
  obtain ⟨W2, hW2⟩ : ∃ W2, W2 = (w.alloc (.cells #[.slice A nds.length c] 25)).alloc (.cells #[.int .i64 F.v, .int .i64 F.e, .slice As F.st.length cs, .slice Ap F.pts.length cp] 42) := ⟨_, rfl⟩
  obtain ⟨g1, g2, gb⟩ := two_new (W := w) (X := .cells #[.slice A nds.length c] 25) (Y := .cells #[.int .i64 F.v, .int .i64 F.e, .slice As F.st.length cs, .slice Ap F.pts.length cp] 42) rfl
  rw [← hW2] at g1 g2 gb
  have hs2 : W2.heap.size = w.heap.size + 2 := by rw [hW2]; simp
  have Hat := hide (hat.below gb hbl).read
  obtain ⟨W3, hW3⟩ : ∃ W3, W3 = W2.alloc (.cells (nd.cells (.slice Ao nd.of.length co)).toArray 67) := ⟨_, rfl⟩
  obtain ⟨fb, fk, fs⟩ := fresh_facts hW3
  have hE : Ew w W2.heap.size A c nds F As cs Ap cp nd (.slice Ao nd.of.length co) W3 := ⟨(fb.block _ (World.lt_of_blk g1)).trans g1, (fb.block _ (World.lt_of_blk g2)).trans g2, fk, gb.trans (fb.mono gb.size)⟩
  have hbW := gb.trans (fb.mono gb.size)
  have HE := hide hE
  have HN3 := hide ((hN.below hbW (Nat.le_refl _)).more hbW.size)
  have HF3 := hide (show FctAt W3 W3.heap.size F As Ap from ⟨(hF.st.below hbW (Nat.le_refl _)).more hbW.size, hF.pts.below2 hbW⟩)
  have Hof := hide ((hof.below hbW (Nat.le_refl _)).more hbW.size)
  obtain ⟨c1, ⟨f0, f1, f2, f3⟩, ⟨x0, x1, x2, x3, x20⟩⟩ := hE.cells
  have c2 : W2.cell? ⟨w.heap.size, 0, none⟩ = some (.slice A nds.length c) := by rw [cell_of_row _ _ _ _ _ _ g1]; rfl
  have HW2 := hide hW2
  have HW3 := hide hW3
  have Hval := hide hval
  have Hok := hide hokk
  have Hih := hide ih
  have Hs2 := hide hs2
  have hn0 := hokk.n
  have hm0 := hokk.m
  have hkI : (k : Int) < (nds.length : Int) := by omega
  subst hA
  clear hN hF hnd hval hat hof g1 g2 gb hs2 fb fk fs hE hbW hW2 hW3 ih hbl
  simp only [Fct.val]
  have hkind := hokk.k
  clear hokk
  have hcases : nd.k = 1 ∨ nd.k = 2 ∨ nd.k = 3 ∨ nd.k = 4 ∨ nd.k = 5 ∨ nd.k = 6 ∨ nd.k = 7 ∨ nd.k = 8 ∨ nd.k = 9 ∨ nd.k = 10 := by omega
  clear hkind
  rcases hcases with h | h | h | h | h | h | h | h | h | h
  · rw [h] at x0
    have HK := hide h
    clear h
    go_enter Tryz.func41, Tryz.ntmps41
    go_wp2_with (first
      | (with_reducible refine wpList_load_at rfl 67 (.tmp 15) rfl ⟨b, off + k * 21, none⟩ rfl _ _ (by rw [← HW2.out]; exact Hat.out) Tryz.underlying67 rfl (by kernel_rfl) ?_; rw [← HW2.out])
      | (with_reducible refine wpList_store_fresh rfl 67 (.tmp 7) (.tmp 16) rfl (.agg (nd.cells (.slice Ao nd.of.length co)).toArray) rfl rfl rfl (by kernel_rfl) (nd_one rfl) HW3.out ?_)
      | (go_at_call 64; (with_reducible refine Calls.mono (rtruth_t _ _) ?_); rintro e w1 ⟨rfl, rfl⟩))
    have hv : valAt F nds k = 1 := by rw [Hval.out]; simp [evStep, HK.out]
    go_ret
    refine ⟨?_, HE.out.bel⟩
    rw [hv]
    rfl
  · rw [h] at x0
    have HK := hide h
    clear h
    go_enter Tryz.func41, Tryz.ntmps41
    go_wp2_with (first
      | (with_reducible refine wpList_load_at rfl 67 (.tmp 15) rfl ⟨b, off + k * 21, none⟩ rfl _ _ (by rw [← HW2.out]; exact Hat.out) Tryz.underlying67 rfl (by kernel_rfl) ?_; rw [← HW2.out])
      | (with_reducible refine wpList_store_fresh rfl 67 (.tmp 7) (.tmp 16) rfl (.agg (nd.cells (.slice Ao nd.of.length co)).toArray) rfl rfl rfl (by kernel_rfl) (nd_one rfl) HW3.out ?_)
      | (go_at_call 64; (with_reducible refine Calls.mono (rtruth_t _ _) ?_); rintro e w1 ⟨rfl, rfl⟩))
    have hv : valAt F nds k = tru (F.v == nd.n) := by rw [Hval.out]; simp [evStep, HK.out]
    go_ret
    refine ⟨?_, HE.out.bel⟩
    rw [hv]
    rfl
  · rw [h] at x0
    have HK := hide h
    clear h
    go_enter Tryz.func41, Tryz.ntmps41
    go_wp2_with (first
      | (with_reducible refine wpList_load_at rfl 67 (.tmp 15) rfl ⟨b, off + k * 21, none⟩ rfl _ _ (by rw [← HW2.out]; exact Hat.out) Tryz.underlying67 rfl (by kernel_rfl) ?_; rw [← HW2.out])
      | (with_reducible refine wpList_store_fresh rfl 67 (.tmp 7) (.tmp 16) rfl (.agg (nd.cells (.slice Ao nd.of.length co)).toArray) rfl rfl rfl (by kernel_rfl) (nd_one rfl) HW3.out ?_)
      | (go_at_call 64; (with_reducible refine Calls.mono (rtruth_t _ _) ?_); rintro e w1 ⟨rfl, rfl⟩))
    have hv : valAt F nds k = tru (decide (nd.n ≤ F.v)) := by rw [Hval.out]; simp [evStep, HK.out]
    go_ret
    refine ⟨?_, HE.out.bel⟩
    rw [hv]
    rfl
  · rw [h] at x0
    have HK := hide h
    clear h
    go_enter Tryz.func41, Tryz.ntmps41
    go_wp2_with (first
      | (with_reducible refine wpList_load_at rfl 67 (.tmp 15) rfl ⟨b, off + k * 21, none⟩ rfl _ _ (by rw [← HW2.out]; exact Hat.out) Tryz.underlying67 rfl (by kernel_rfl) ?_; rw [← HW2.out])
      | (with_reducible refine wpList_store_fresh rfl 67 (.tmp 7) (.tmp 16) rfl (.agg (nd.cells (.slice Ao nd.of.length co)).toArray) rfl rfl rfl (by kernel_rfl) (nd_one rfl) HW3.out ?_)
      | (go_at_call 64; (with_reducible refine Calls.mono (rtruth_t _ _) ?_); rintro e w1 ⟨rfl, rfl⟩))
    have hv : valAt F nds k = tru (F.e == nd.n) := by rw [Hval.out]; simp [evStep, HK.out]
    go_ret
    refine ⟨?_, HE.out.bel⟩
    rw [hv]
    rfl
  · rw [h] at x0
    have HK := hide h
    clear h
    go_enter Tryz.func41, Tryz.ntmps41
    go_wp2_with (first
      | (with_reducible refine wpList_load_at rfl 67 (.tmp 15) rfl ⟨b, off + k * 21, none⟩ rfl _ _ (by rw [← HW2.out]; exact Hat.out) Tryz.underlying67 rfl (by kernel_rfl) ?_; rw [← HW2.out])
      | (with_reducible refine wpList_store_fresh rfl 67 (.tmp 7) (.tmp 16) rfl (.agg (nd.cells (.slice Ao nd.of.length co)).toArray) rfl rfl rfl (by kernel_rfl) (nd_one rfl) HW3.out ?_)
      | (go_at_call 64; (with_reducible refine Calls.mono (rtruth_t _ _) ?_); rintro e w1 ⟨rfl, rfl⟩))
    have hv : valAt F nds k = tru (decide (nd.n ≤ F.e)) := by rw [Hval.out]; simp [evStep, HK.out]
    go_ret
    refine ⟨?_, HE.out.bel⟩
    rw [hv]
    rfl
  · rw [h] at x0
    have HK := hide h
    clear h
    obtain ⟨n, hn⟩ : ∃ n : Nat, nd.n = n := ⟨nd.n.toNat, by omega⟩
    have hv : valAt F nds k = match F.st[n]? with | none => 0 | some d => tru (sameD d nd.d) := by
      rw [Hval.out]
      simp [evStep, HK.out, hn]
      cases F.st[n]? <;> rfl
    rw [hn] at x1
    clear hn0 hn
    by_cases h1 : n < F.st.length
    · obtain ⟨b4, off4, hA4, hb4, cc⟩ := HF3.out.st n (dCells F.st[n]) (by simp [List.getElem?_eq_getElem h1])
      obtain ⟨d, hd⟩ : ∃ d, F.st[n] = d := ⟨_, rfl⟩
      have hv2 : valAt F nds k = tru (sameD d nd.d) := by rw [hv, List.getElem?_eq_getElem h1, hd]
      rw [hd] at cc
      subst hA4
      have h1I : (n : Int) < (F.st.length : Int) := by omega
      obtain ⟨cx, hcx⟩ : ∃ cx, (dCells d).toArray = cx := ⟨_, rfl⟩
      obtain ⟨cy, hcy⟩ : ∃ cy, (dCells nd.d).toArray = cy := ⟨_, rfl⟩
      have d1 := dig_cells cc
      have d2 := dig_cells (nd_dig HE.out.n)
      rw [hcx] at d1
      rw [hcy] at d2
      have Zx := hide (show cx.size = 16 by rw [← hcx]; rfl)
      have Zy := hide (show cy.size = 16 by rw [← hcy]; rfl)
      have Cx := hide hcx
      have Cy := hide hcy
      have D1 := hide d1
      have D2 := hide d2
      have Hv := hide hv2
      have F2 := hide f2
      have X1 := hide x1
      clear hv hv2 hd hcx hcy d1 d2 cc hb4
      go_enter Tryz.func41, Tryz.ntmps41
      go_wp2_with (first
        | (with_reducible refine wpList_load_at rfl 67 (.tmp 15) rfl ⟨b, off + k * 21, none⟩ rfl _ _ (by rw [← HW2.out]; exact Hat.out) Tryz.underlying67 rfl (by kernel_rfl) ?_; rw [← HW2.out])
        | (with_reducible refine wpList_store_fresh rfl 67 (.tmp 7) (.tmp 16) rfl (.agg (nd.cells (.slice Ao nd.of.length co)).toArray) rfl rfl rfl (by kernel_rfl) (nd_one rfl) HW3.out ?_))
      refine wp_region_held (S := fun W' => ∀ a, W'.cell? a = W3.cell? a) (by kernel_rfl) ?_
      change wpAnyH _ _ _ _ _ _ _ _ (World.drew _)
      have HS := hide (show ∀ a, W3.drew.cell? a = W3.cell? a from fun _ => rfl)
      clear f0 f1 f2 f3 x0 x1 x2 x3 x20 c1 c2
      refine takeH (i := 0) (d := 61) (v := .pointer (some ⟨w.heap.size + 1, 2, none⟩)) rfl rfl (by kernel_rfl) (by kernel_rfl) (by kernel_rfl) (fun _ _ _ h => h) rfl HS.out ?_ ?_
      · intro W' _; go_simp
      try simp only [Act.put, List.setIfInBounds_toArray, List.set_cons_zero, List.set_cons_succ]
      refine takeH (i := 1) (d := 62) (v := .slice (some ⟨b4, off4, none⟩) F.st.length cs) rfl rfl (by kernel_rfl) (by kernel_rfl) (by kernel_rfl) (fun _ _ _ h => h) rfl HS.out ?_ ?_
      · intro W' hS; have c1 := (hS ⟨w.heap.size + 1, 2, none⟩).trans F2.out; clear hS; go_simp
      try simp only [Act.put, List.setIfInBounds_toArray, List.set_cons_zero, List.set_cons_succ]
      refine takeH (i := 2) (d := 63) (v := .pointer (some ⟨W2.heap.size, 1, none⟩)) rfl rfl (by kernel_rfl) (by kernel_rfl) (by kernel_rfl) (fun _ _ _ h => h) rfl HS.out ?_ ?_
      · intro W' _; go_simp
      try simp only [Act.put, List.setIfInBounds_toArray, List.set_cons_zero, List.set_cons_succ]
      refine takeH (i := 3) (d := 64) (v := .int .i64 (n : Int)) rfl rfl (by kernel_rfl) (by kernel_rfl) (by kernel_rfl) (fun _ _ _ h => h) rfl HS.out ?_ ?_
      · intro W' hS; have c1 := (hS ⟨W2.heap.size, 1, none⟩).trans X1.out; clear hS; go_simp
      try simp only [Act.put, List.setIfInBounds_toArray, List.set_cons_zero, List.set_cons_succ]
      refine takeH (i := 4) (d := 65) (v := .pointer (some ⟨b4, off4 + n * 16, none⟩)) rfl rfl (by kernel_rfl) (by kernel_rfl) (by kernel_rfl) (fun _ _ _ h => h) rfl HS.out ?_ ?_
      · intro W' _; go_simp
      try simp only [Act.put, List.setIfInBounds_toArray, List.set_cons_zero, List.set_cons_succ]
      refine takeH (i := 5) (d := 66) (v := .agg cx) rfl rfl (by kernel_rfl) (by kernel_rfl) (by kernel_rfl) (fun _ _ _ h => h) rfl HS.out ?_ ?_
      · intro W' hS; exact y_load_at 65 (.tmp 65) rfl ⟨b4, off4 + n * 16, none⟩ rfl _ _ (fun j v hj => (hS _).trans (D1.out j v hj)) Tryz.underlying65 rfl (by rw [Zx.out]; kernel_rfl)
      try simp only [Act.put, List.setIfInBounds_toArray, List.set_cons_zero, List.set_cons_succ]
      refine takeH (i := 6) (d := 67) (v := .pointer (some ⟨W2.heap.size, 4, none⟩)) rfl rfl (by kernel_rfl) (by kernel_rfl) (by kernel_rfl) (fun _ _ _ h => h) rfl HS.out ?_ ?_
      · intro W' _; go_simp
      try simp only [Act.put, List.setIfInBounds_toArray, List.set_cons_zero, List.set_cons_succ]
      refine takeH (i := 7) (d := 68) (v := .agg cy) rfl rfl (by kernel_rfl) (by kernel_rfl) (by kernel_rfl) (fun _ _ _ h => h) rfl HS.out ?_ ?_
      · intro W' hS; exact y_load_at 65 (.tmp 67) rfl ⟨W2.heap.size, 4, none⟩ rfl _ _ (fun j v hj => (hS _).trans (D2.out j v hj)) Tryz.underlying65 rfl (by rw [Zy.out]; kernel_rfl)
      try simp only [Act.put, List.setIfInBounds_toArray, List.set_cons_zero, List.set_cons_succ]
      refine takeH (i := 8) (d := 69) (v := .bool (sameD d nd.d)) rfl rfl (by kernel_rfl) (by kernel_rfl) (by kernel_rfl) (fun _ _ _ h => h) rfl HS.out ?_ ?_
      · intro W' hS; exact y_eql65 (x := .tmp 66) (y := .tmp 68) rfl d nd.d cx cy Cx.out Cy.out rfl rfl
      try simp only [Act.put, List.setIfInBounds_toArray, List.set_cons_zero, List.set_cons_succ]
      refine wpAnyH_ready (rs := [9]) (by kernel_rfl) (by simp) ?_
      refine AllReadyH.cons rfl (fun K hK => ?_) AllReadyH.nil
      go_simp
      refine Calls.mono (rtruth_t _ _) ?_
      rintro e w4 ⟨rfl, rfl⟩
      refine hK.out _ _ HS.out (fun _ => ?_)
      clear hK K
      try simp only [Act.put, List.setIfInBounds_toArray, List.set_cons_zero, List.set_cons_succ]
      refine takeH (i := 10) (d := 6) (v := .int .i64 (tru (sameD d nd.d))) rfl rfl (by kernel_rfl) (by kernel_rfl) (by kernel_rfl) (fun _ _ _ h => h) rfl HS.out ?_ ?_
      · intro W' _; go_simp
      try simp only [Act.put, List.setIfInBounds_toArray, List.set_cons_zero, List.set_cons_succ]
      refine wpAnyH_done (by kernel_rfl) ?_ _
      go_wp2
      go_ret
      refine ⟨?_, HE.out.bel.drew⟩
      rw [Hv.out]
      rfl
    · have h1I : ¬ (n : Int) < (F.st.length : Int) := by omega
      have hv2 : valAt F nds k = 0 := by rw [hv, List.getElem?_eq_none (by omega)]
      have Hv := hide hv2
      clear hv hv2
      go_enter Tryz.func41, Tryz.ntmps41
      go_wp2_with (first
        | (with_reducible refine wpList_load_at rfl 67 (.tmp 15) rfl ⟨b, off + k * 21, none⟩ rfl _ _ (by rw [← HW2.out]; exact Hat.out) Tryz.underlying67 rfl (by kernel_rfl) ?_; rw [← HW2.out])
        | (with_reducible refine wpList_store_fresh rfl 67 (.tmp 7) (.tmp 16) rfl (.agg (nd.cells (.slice Ao nd.of.length co)).toArray) rfl rfl rfl (by kernel_rfl) (nd_one rfl) HW3.out ?_))
      go_ret
      refine ⟨?_, HE.out.bel⟩
      rw [Hv.out]
      rfl
  · rw [h] at x0
    have HK := hide h
    clear h
    obtain ⟨n, hn⟩ : ∃ n : Nat, nd.n = n := ⟨nd.n.toNat, by omega⟩
    obtain ⟨m, hm⟩ : ∃ m : Nat, nd.m = m := ⟨nd.m.toNat, by omega⟩
    have hv : valAt F nds k = tookF F n m nd.sd := by rw [Hval.out]; simp [evStep, HK.out, hn, hm]
    rw [hn] at x1
    rw [hm] at x2
    clear hn0 hm0 hn hm
    by_cases h1 : n < F.pts.length
    · obtain ⟨b4, off4, A4, c4, hA4, hb4, d4, hI4⟩ := HF3.out.pts.at_ h1
      obtain ⟨p, hp⟩ : ∃ p, F.pts[n] = p := ⟨_, rfl⟩
      rw [hp] at d4 hI4
      subst hA4
      have h1I : (n : Int) < (F.pts.length : Int) := by omega
      by_cases h2 : m < p.length
      · obtain ⟨b5, off5, hA5, hb5, d5⟩ := hI4.at_ h2
        subst hA5
        obtain ⟨x, hx⟩ : ∃ x, p[m] = x := ⟨_, rfl⟩
        rw [hx] at d5
        have h2I : (m : Int) < (p.length : Int) := by omega
        have hv2 : valAt F nds k = if x = -1 then -1 else tru (decide (bits .and .i64 x nd.sd ≠ 0)) := by
          rw [hv, tookF]
          simp only [Int.toNat_natCast]
          rw [List.getElem?_eq_getElem h1, hp]
          simp only []
          rw [List.getElem?_eq_getElem h2, hx]
        have Hv := hide hv2
        clear hv hv2 hI4 hp hx hb4 hb5
        by_cases h3 : x = -1
        · have h3I : (x == -1) = true := by simpa using h3
          have H3 := hide h3
          clear h3
          go_enter Tryz.func41, Tryz.ntmps41
          go_wp2_with (first
            | (with_reducible refine wpList_load_at rfl 67 (.tmp 15) rfl ⟨b, off + k * 21, none⟩ rfl _ _ (by rw [← HW2.out]; exact Hat.out) Tryz.underlying67 rfl (by kernel_rfl) ?_; rw [← HW2.out])
            | (with_reducible refine wpList_store_fresh rfl 67 (.tmp 7) (.tmp 16) rfl (.agg (nd.cells (.slice Ao nd.of.length co)).toArray) rfl rfl rfl (by kernel_rfl) (nd_one rfl) HW3.out ?_))
          go_quiet (fail)
          go_wp2
          go_quiet (fail)
          go_wp2
          go_ret
          refine ⟨?_, below_drewN HE.out.bel _⟩
          rw [Hv.out, if_pos H3.out]
          rfl
        · have h3I : (x == -1) = false := by simpa using h3
          have H3 := hide h3
          clear h3
          go_enter Tryz.func41, Tryz.ntmps41
          go_wp2_with (first
            | (with_reducible refine wpList_load_at rfl 67 (.tmp 15) rfl ⟨b, off + k * 21, none⟩ rfl _ _ (by rw [← HW2.out]; exact Hat.out) Tryz.underlying67 rfl (by kernel_rfl) ?_; rw [← HW2.out])
            | (with_reducible refine wpList_store_fresh rfl 67 (.tmp 7) (.tmp 16) rfl (.agg (nd.cells (.slice Ao nd.of.length co)).toArray) rfl rfl rfl (by kernel_rfl) (nd_one rfl) HW3.out ?_))
          go_quiet (fail)
          go_wp2
          go_quiet (fail)
          go_wp2_with (go_at_call 64; (with_reducible refine Calls.mono (rtruth_t _ _) ?_); rintro e w1 ⟨rfl, rfl⟩)
          go_ret
          refine ⟨?_, below_drewN HE.out.bel _⟩
          rw [Hv.out, if_neg H3.out]
          rw [show decide (bits .and .i64 x nd.sd ≠ 0) = (bits .and .i64 x nd.sd != 0) from by by_cases h : bits .and .i64 x nd.sd = 0 <;> simp [h]]
          rfl
      · have h2I : ¬ (m : Int) < (p.length : Int) := by omega
        have hv2 : valAt F nds k = 0 := by
          rw [hv, tookF]
          simp only [Int.toNat_natCast]
          rw [List.getElem?_eq_getElem h1, hp]
          simp only []
          rw [List.getElem?_eq_none (by omega)]
        have Hv := hide hv2
        clear hv hv2 hI4 hp hb4
        go_enter Tryz.func41, Tryz.ntmps41
        go_wp2_with (first
          | (with_reducible refine wpList_load_at rfl 67 (.tmp 15) rfl ⟨b, off + k * 21, none⟩ rfl _ _ (by rw [← HW2.out]; exact Hat.out) Tryz.underlying67 rfl (by kernel_rfl) ?_; rw [← HW2.out])
          | (with_reducible refine wpList_store_fresh rfl 67 (.tmp 7) (.tmp 16) rfl (.agg (nd.cells (.slice Ao nd.of.length co)).toArray) rfl rfl rfl (by kernel_rfl) (nd_one rfl) HW3.out ?_))
        go_quiet (fail)
        go_wp2
        go_ret
        refine ⟨?_, below_drewN HE.out.bel _⟩
        rw [Hv.out]
        rfl
    · have h1I : ¬ (n : Int) < (F.pts.length : Int) := by omega
      have hv2 : valAt F nds k = 0 := by
        rw [hv, tookF]
        simp only [Int.toNat_natCast]
        rw [List.getElem?_eq_none (by omega)]
      have Hv := hide hv2
      clear hv hv2
      go_enter Tryz.func41, Tryz.ntmps41
      go_wp2_with (first
        | (with_reducible refine wpList_load_at rfl 67 (.tmp 15) rfl ⟨b, off + k * 21, none⟩ rfl _ _ (by rw [← HW2.out]; exact Hat.out) Tryz.underlying67 rfl (by kernel_rfl) ?_; rw [← HW2.out])
        | (with_reducible refine wpList_store_fresh rfl 67 (.tmp 7) (.tmp 16) rfl (.agg (nd.cells (.slice Ao nd.of.length co)).toArray) rfl rfl rfl (by kernel_rfl) (nd_one rfl) HW3.out ?_))
      go_ret
      refine ⟨?_, HE.out.bel⟩
      rw [Hv.out]
      rfl
  · rw [h] at x0
    have HK := hide h
    obtain ⟨a, hofa, ha⟩ := Hok.out.one h
    have Hofa := hide hofa
    have Hofl := hide (show nd.of.length = 1 by rw [hofa]; rfl)
    have HIa := hide (Hih.out a ha)
    have va := valAt_b F nds a
    have htk := valAt_take F nds k a (by omega) ha
    have hv : valAt F nds k = notI (valAt F nds a) := by rw [Hval.out]; simp [evStep, HK.out, Hofa.out, htk]
    have Hv := hide hv
    clear h hofa ha htk hv
    simp only [RevOk, Fct.val] at HIa
    go_enter Tryz.func41, Tryz.ntmps41
    go_wp2_with (first
      | (with_reducible refine wpList_load_at rfl 67 (.tmp 15) rfl ⟨b, off + k * 21, none⟩ rfl _ _ (by rw [← HW2.out]; exact Hat.out) Tryz.underlying67 rfl (by kernel_rfl) ?_; rw [← HW2.out])
      | (with_reducible refine wpList_store_fresh rfl 67 (.tmp 7) (.tmp 16) rfl (.agg (nd.cells (.slice Ao nd.of.length co)).toArray) rfl rfl rfl (by kernel_rfl) (nd_one rfl) HW3.out ?_))
    have HDrW3 := hide (Below.refl W3.heap.size W3).drew
    obtain ⟨ba, oa, hAa, hba, cca⟩ := Hof.out.at_ (k := 0) (by rw [Hofa.out]; simp)
    have ea : nd.of[0]'(by rw [Hofa.out]; simp) = (a : Int) := by simp [Hofa.out]
    rw [ea] at cca
    rw [Nat.add_zero] at cca
    subst hAa
    have CCa := hide cca
    clear cca ea hba
    refine wp_region_held (S := fun W' => W'.heap[w.heap.size]? = some (.cells #[.slice (some ⟨b, off, none⟩) nds.length c] 25 (0, 0)) ∧ W'.heap[w.heap.size + 1]? = some (.cells #[.int .i64 F.v, .int .i64 F.e, .slice As F.st.length cs, .slice Ap F.pts.length cp] 42 (0, 0)) ∧ W'.heap[W2.heap.size]? = some (.cells (nd.cells (.slice (some ⟨ba, oa, none⟩) nd.of.length co)).toArray 67 (0, 0)) ∧ W'.cell? ⟨ba, oa, none⟩ = some (.int .i64 (a : Int))) (by kernel_rfl) ?_
    change wpAnyH _ _ _ _ _ _ _ _ (World.drew _)
    have HS := hide (show W3.drew.heap[w.heap.size]? = some (.cells #[.slice (some ⟨b, off, none⟩) nds.length c] 25 (0, 0)) ∧ W3.drew.heap[w.heap.size + 1]? = some (.cells #[.int .i64 F.v, .int .i64 F.e, .slice As F.st.length cs, .slice Ap F.pts.length cp] 42 (0, 0)) ∧ W3.drew.heap[W2.heap.size]? = some (.cells (nd.cells (.slice (some ⟨ba, oa, none⟩) nd.of.length co)).toArray 67 (0, 0)) ∧ W3.drew.cell? ⟨ba, oa, none⟩ = some (.int .i64 (a : Int)) from ⟨HE.out.p, HE.out.f, HE.out.n, CCa.out⟩)
    refine takeH (i := 0) (d := 107) (v := .agg #[.slice (some ⟨b, off, none⟩) nds.length c]) rfl rfl (by kernel_rfl) (by kernel_rfl) (by kernel_rfl) (fun _ _ _ h => h) rfl HS.out ?_ ?_
    · intro W' hS; exact y_load1 25 (.tmp 3) rfl (w.heap.size) rfl 25 _ (0, 0) _ hS.1 Tryz.underlying25 rfl (by kernel_rfl)
    try simp only [Act.put, List.setIfInBounds_toArray, List.set_cons_zero, List.set_cons_succ]
    refine takeH (i := 1) (d := 108) (v := .pointer (some ⟨W2.heap.size, 20, none⟩)) rfl rfl (by kernel_rfl) (by kernel_rfl) (by kernel_rfl) (fun _ _ _ h => h) rfl HS.out ?_ ?_
    · intro W' _; go_simp
    try simp only [Act.put, List.setIfInBounds_toArray, List.set_cons_zero, List.set_cons_succ]
    refine takeH (i := 2) (d := 109) (v := .slice (some ⟨ba, oa, none⟩) nd.of.length co) rfl rfl (by kernel_rfl) (by kernel_rfl) (by kernel_rfl) (fun _ _ _ h => h) rfl HS.out ?_ ?_
    · intro W' hS; have c1 : W'.cell? ⟨W2.heap.size, 20, none⟩ = some (.slice (some ⟨ba, oa, none⟩) nd.of.length co) := by rw [cell_of_row _ _ _ _ _ _ hS.2.2.1]; rfl
      clear hS; go_simp
    try simp only [Act.put, List.setIfInBounds_toArray, List.set_cons_zero, List.set_cons_succ]
    refine takeH (i := 3) (d := 110) (v := .pointer (some ⟨ba, oa, none⟩)) rfl rfl (by kernel_rfl) (by kernel_rfl) (by kernel_rfl) (fun _ _ _ h => h) rfl HS.out ?_ ?_
    · intro W' _; have hll := Hofl.out; go_simp; try omega
    try simp only [Act.put, List.setIfInBounds_toArray, List.set_cons_zero, List.set_cons_succ]
    refine takeH (i := 4) (d := 111) (v := .int .i64 (a : Int)) rfl rfl (by kernel_rfl) (by kernel_rfl) (by kernel_rfl) (fun _ _ _ h => h) rfl HS.out ?_ ?_
    · intro W' hS; have c1 := hS.2.2.2; clear hS; go_simp
    try simp only [Act.put, List.setIfInBounds_toArray, List.set_cons_zero, List.set_cons_succ]
    refine takeH (i := 5) (d := 112) (v := .agg #[.int .i64 F.v, .int .i64 F.e, .slice As F.st.length cs, .slice Ap F.pts.length cp]) rfl rfl (by kernel_rfl) (by kernel_rfl) (by kernel_rfl) (fun _ _ _ h => h) rfl HS.out ?_ ?_
    · intro W' hS; exact y_load1 42 (.tmp 5) rfl (w.heap.size + 1) rfl 42 _ (0, 0) _ hS.2.1 Tryz.underlying42 rfl (by kernel_rfl)
    try simp only [Act.put, List.setIfInBounds_toArray, List.set_cons_zero, List.set_cons_succ]
    refine wpAnyH_ready (rs := [6]) (by kernel_rfl) (by simp) ?_
    refine AllReadyH.cons rfl (fun K hK => ?_) AllReadyH.nil
    go_simp
    refine Calls.mono (HIa.out _ (Nodes.more ((HN3.out).below HDrW3.out (Nat.le_refl _)) HDrW3.out.size) ⟨((HF3.out).st.below HDrW3.out (Nat.le_refl _)).more HDrW3.out.size, (HF3.out).pts.below2 HDrW3.out⟩) ?_
    rintro e w4 ⟨rfl, hb⟩
    have hA := HDrW3.out.trans hb
    have HEw4 := hide (HE.out.next hA)
    have HNw4 := hide (Nodes.more ((HN3.out).below hA (Nat.le_refl _)) hA.size)
    have HFw4 := hide (show FctAt w4 w4.heap.size F As Ap from ⟨((HF3.out).st.below hA (Nat.le_refl _)).more hA.size, (HF3.out).pts.below2 hA⟩)
    have Hofw4 := hide (((Hof.out).below hA (Nat.le_refl _)).more hA.size)
    have CCw4 := hide ((hA.cell (p := ⟨ba, oa, none⟩) (World.block_lt_of_cell? W3 _ CCa.out)).trans CCa.out)
    clear hA hb
    refine hK.out _ _ ⟨HEw4.out.p, HEw4.out.f, HEw4.out.n, CCw4.out⟩ (fun _ => ?_)
    clear hK K
    try simp only [Act.put, List.setIfInBounds_toArray, List.set_cons_zero, List.set_cons_succ]
    refine takeH (i := 7) (d := 9) (v := .int .i64 (valAt F nds a)) rfl rfl (by kernel_rfl) (by kernel_rfl) (by kernel_rfl) (fun _ _ _ h => h) rfl ⟨HEw4.out.p, HEw4.out.f, HEw4.out.n, CCw4.out⟩ ?_ ?_
    · intro W' _; go_simp
    try simp only [Act.put, List.setIfInBounds_toArray, List.set_cons_zero, List.set_cons_succ]
    refine wpAnyH_done (by kernel_rfl) ?_ _
    clear x0 x1 x2 x3 x20 f0 f1 f2 f3 c1
    obtain ⟨c1, ⟨f0, f1, f2, f3⟩, ⟨x0, x1, x2, x3, x20⟩⟩ := HEw4.out.cells
    rw [HK.out] at x0
    generalize valAt F nds a = r at va Hv ⊢
    obtain ⟨va1, va2⟩ := va
    by_cases hneg : r < 0
    · have hr : r = -1 := by omega
      subst hr
      go_wp2
      go_ret
      refine ⟨?_, HEw4.out.bel⟩
      rw [Hv.out]
      rfl
    · go_wp2
      go_ret
      refine ⟨?_, HEw4.out.bel⟩
      rw [Hv.out, notI, if_neg (by omega)]
      rfl
  · rw [h] at x0
    have HK := hide h
    obtain ⟨a, b', hofa, ha, hb'⟩ := Hok.out.two (Or.inl h)
    have Hofa := hide hofa
    have Hofl := hide (show nd.of.length = 2 by rw [hofa]; rfl)
    have HIa := hide (Hih.out a ha)
    have HIb' := hide (Hih.out b' hb')
    have va := valAt_b F nds a
    have vb := valAt_b F nds b'
    have htk := valAt_take F nds k a (by omega) ha
    have htk2 := valAt_take F nds k b' (by omega) hb'
    have hv : valAt F nds k = andI (valAt F nds a) (valAt F nds b') := by rw [Hval.out]; simp [evStep, HK.out, Hofa.out, htk, htk2]
    have Hv := hide hv
    clear h hofa ha hb' htk htk2 hv
    simp only [RevOk, Fct.val] at HIa HIb'
    go_enter Tryz.func41, Tryz.ntmps41
    go_wp2_with (first
      | (with_reducible refine wpList_load_at rfl 67 (.tmp 15) rfl ⟨b, off + k * 21, none⟩ rfl _ _ (by rw [← HW2.out]; exact Hat.out) Tryz.underlying67 rfl (by kernel_rfl) ?_; rw [← HW2.out])
      | (with_reducible refine wpList_store_fresh rfl 67 (.tmp 7) (.tmp 16) rfl (.agg (nd.cells (.slice Ao nd.of.length co)).toArray) rfl rfl rfl (by kernel_rfl) (nd_one rfl) HW3.out ?_))
    have HDrW3 := hide (Below.refl W3.heap.size W3).drew
    obtain ⟨ba, oa, hAa, hba, cca⟩ := Hof.out.at_ (k := 0) (by rw [Hofa.out]; simp)
    have ea : nd.of[0]'(by rw [Hofa.out]; simp) = (a : Int) := by simp [Hofa.out]
    rw [ea] at cca
    rw [Nat.add_zero] at cca
    subst hAa
    have CCa := hide cca
    clear cca ea hba
    refine wp_region_held (S := fun W' => W'.heap[w.heap.size]? = some (.cells #[.slice (some ⟨b, off, none⟩) nds.length c] 25 (0, 0)) ∧ W'.heap[w.heap.size + 1]? = some (.cells #[.int .i64 F.v, .int .i64 F.e, .slice As F.st.length cs, .slice Ap F.pts.length cp] 42 (0, 0)) ∧ W'.heap[W2.heap.size]? = some (.cells (nd.cells (.slice (some ⟨ba, oa, none⟩) nd.of.length co)).toArray 67 (0, 0)) ∧ W'.cell? ⟨ba, oa, none⟩ = some (.int .i64 (a : Int))) (by kernel_rfl) ?_
    change wpAnyH _ _ _ _ _ _ _ _ (World.drew _)
    have HS := hide (show W3.drew.heap[w.heap.size]? = some (.cells #[.slice (some ⟨b, off, none⟩) nds.length c] 25 (0, 0)) ∧ W3.drew.heap[w.heap.size + 1]? = some (.cells #[.int .i64 F.v, .int .i64 F.e, .slice As F.st.length cs, .slice Ap F.pts.length cp] 42 (0, 0)) ∧ W3.drew.heap[W2.heap.size]? = some (.cells (nd.cells (.slice (some ⟨ba, oa, none⟩) nd.of.length co)).toArray 67 (0, 0)) ∧ W3.drew.cell? ⟨ba, oa, none⟩ = some (.int .i64 (a : Int)) from ⟨HE.out.p, HE.out.f, HE.out.n, CCa.out⟩)
    refine takeH (i := 0) (d := 107) (v := .agg #[.slice (some ⟨b, off, none⟩) nds.length c]) rfl rfl (by kernel_rfl) (by kernel_rfl) (by kernel_rfl) (fun _ _ _ h => h) rfl HS.out ?_ ?_
    · intro W' hS; exact y_load1 25 (.tmp 3) rfl (w.heap.size) rfl 25 _ (0, 0) _ hS.1 Tryz.underlying25 rfl (by kernel_rfl)
    try simp only [Act.put, List.setIfInBounds_toArray, List.set_cons_zero, List.set_cons_succ]
    refine takeH (i := 1) (d := 108) (v := .pointer (some ⟨W2.heap.size, 20, none⟩)) rfl rfl (by kernel_rfl) (by kernel_rfl) (by kernel_rfl) (fun _ _ _ h => h) rfl HS.out ?_ ?_
    · intro W' _; go_simp
    try simp only [Act.put, List.setIfInBounds_toArray, List.set_cons_zero, List.set_cons_succ]
    refine takeH (i := 2) (d := 109) (v := .slice (some ⟨ba, oa, none⟩) nd.of.length co) rfl rfl (by kernel_rfl) (by kernel_rfl) (by kernel_rfl) (fun _ _ _ h => h) rfl HS.out ?_ ?_
    · intro W' hS; have c1 : W'.cell? ⟨W2.heap.size, 20, none⟩ = some (.slice (some ⟨ba, oa, none⟩) nd.of.length co) := by rw [cell_of_row _ _ _ _ _ _ hS.2.2.1]; rfl
      clear hS; go_simp
    try simp only [Act.put, List.setIfInBounds_toArray, List.set_cons_zero, List.set_cons_succ]
    refine takeH (i := 3) (d := 110) (v := .pointer (some ⟨ba, oa, none⟩)) rfl rfl (by kernel_rfl) (by kernel_rfl) (by kernel_rfl) (fun _ _ _ h => h) rfl HS.out ?_ ?_
    · intro W' _; have hll := Hofl.out; go_simp; try omega
    try simp only [Act.put, List.setIfInBounds_toArray, List.set_cons_zero, List.set_cons_succ]
    refine takeH (i := 4) (d := 111) (v := .int .i64 (a : Int)) rfl rfl (by kernel_rfl) (by kernel_rfl) (by kernel_rfl) (fun _ _ _ h => h) rfl HS.out ?_ ?_
    · intro W' hS; have c1 := hS.2.2.2; clear hS; go_simp
    try simp only [Act.put, List.setIfInBounds_toArray, List.set_cons_zero, List.set_cons_succ]
    refine takeH (i := 5) (d := 112) (v := .agg #[.int .i64 F.v, .int .i64 F.e, .slice As F.st.length cs, .slice Ap F.pts.length cp]) rfl rfl (by kernel_rfl) (by kernel_rfl) (by kernel_rfl) (fun _ _ _ h => h) rfl HS.out ?_ ?_
    · intro W' hS; exact y_load1 42 (.tmp 5) rfl (w.heap.size + 1) rfl 42 _ (0, 0) _ hS.2.1 Tryz.underlying42 rfl (by kernel_rfl)
    try simp only [Act.put, List.setIfInBounds_toArray, List.set_cons_zero, List.set_cons_succ]
    refine wpAnyH_ready (rs := [6]) (by kernel_rfl) (by simp) ?_
    refine AllReadyH.cons rfl (fun K hK => ?_) AllReadyH.nil
    go_simp
    refine Calls.mono (HIa.out _ (Nodes.more ((HN3.out).below HDrW3.out (Nat.le_refl _)) HDrW3.out.size) ⟨((HF3.out).st.below HDrW3.out (Nat.le_refl _)).more HDrW3.out.size, (HF3.out).pts.below2 HDrW3.out⟩) ?_
    rintro e w4 ⟨rfl, hb⟩
    have hA := HDrW3.out.trans hb
    have HEw4 := hide (HE.out.next hA)
    have HNw4 := hide (Nodes.more ((HN3.out).below hA (Nat.le_refl _)) hA.size)
    have HFw4 := hide (show FctAt w4 w4.heap.size F As Ap from ⟨((HF3.out).st.below hA (Nat.le_refl _)).more hA.size, (HF3.out).pts.below2 hA⟩)
    have Hofw4 := hide (((Hof.out).below hA (Nat.le_refl _)).more hA.size)
    have CCw4 := hide ((hA.cell (p := ⟨ba, oa, none⟩) (World.block_lt_of_cell? W3 _ CCa.out)).trans CCa.out)
    clear hA hb
    refine hK.out _ _ ⟨HEw4.out.p, HEw4.out.f, HEw4.out.n, CCw4.out⟩ (fun _ => ?_)
    clear hK K
    try simp only [Act.put, List.setIfInBounds_toArray, List.set_cons_zero, List.set_cons_succ]
    refine takeH (i := 7) (d := 9) (v := .int .i64 (valAt F nds a)) rfl rfl (by kernel_rfl) (by kernel_rfl) (by kernel_rfl) (fun _ _ _ h => h) rfl ⟨HEw4.out.p, HEw4.out.f, HEw4.out.n, CCw4.out⟩ ?_ ?_
    · intro W' _; go_simp
    try simp only [Act.put, List.setIfInBounds_toArray, List.set_cons_zero, List.set_cons_succ]
    refine wpAnyH_done (by kernel_rfl) ?_ _
    clear x0 x1 x2 x3 x20 f0 f1 f2 f3 c1
    obtain ⟨c1, ⟨f0, f1, f2, f3⟩, ⟨x0, x1, x2, x3, x20⟩⟩ := HEw4.out.cells
    rw [HK.out] at x0
    go_wp2
    have HDrw4 := hide (Below.refl w4.heap.size w4).drew
    obtain ⟨bb', ob', hAb', hbb', ccb'⟩ := Hofw4.out.at_ (k := 1) (by rw [Hofa.out]; simp)
    have eb' : nd.of[1]'(by rw [Hofa.out]; simp) = (b' : Int) := by simp [Hofa.out]
    rw [eb'] at ccb'
    have hAb2 : (some ⟨bb', ob', none⟩ : Option Addr) = some ⟨ba, oa, none⟩ := hAb'.symm
    injection hAb2 with hAb3
    injection hAb3 with q1 q2
    subst q1
    subst q2
    have CCb' := hide ccb'
    clear ccb' eb' hbb'
    refine wp_region_held (S := fun W' => W'.heap[w.heap.size]? = some (.cells #[.slice (some ⟨b, off, none⟩) nds.length c] 25 (0, 0)) ∧ W'.heap[w.heap.size + 1]? = some (.cells #[.int .i64 F.v, .int .i64 F.e, .slice As F.st.length cs, .slice Ap F.pts.length cp] 42 (0, 0)) ∧ W'.heap[W2.heap.size]? = some (.cells (nd.cells (.slice (some ⟨bb', ob', none⟩) nd.of.length co)).toArray 67 (0, 0)) ∧ W'.cell? ⟨bb', ob' + 1, none⟩ = some (.int .i64 (b' : Int))) (by kernel_rfl) ?_
    change wpAnyH _ _ _ _ _ _ _ _ (World.drew _)
    have HS2 := hide (show w4.drew.heap[w.heap.size]? = some (.cells #[.slice (some ⟨b, off, none⟩) nds.length c] 25 (0, 0)) ∧ w4.drew.heap[w.heap.size + 1]? = some (.cells #[.int .i64 F.v, .int .i64 F.e, .slice As F.st.length cs, .slice Ap F.pts.length cp] 42 (0, 0)) ∧ w4.drew.heap[W2.heap.size]? = some (.cells (nd.cells (.slice (some ⟨bb', ob', none⟩) nd.of.length co)).toArray 67 (0, 0)) ∧ w4.drew.cell? ⟨bb', ob' + 1, none⟩ = some (.int .i64 (b' : Int)) from ⟨HEw4.out.p, HEw4.out.f, HEw4.out.n, CCb'.out⟩)
    refine takeH (i := 0) (d := 121) (v := .agg #[.slice (some ⟨b, off, none⟩) nds.length c]) rfl rfl (by kernel_rfl) (by kernel_rfl) (by kernel_rfl) (fun _ _ _ h => h) rfl HS2.out ?_ ?_
    · intro W' hS; exact y_load1 25 (.tmp 3) rfl (w.heap.size) rfl 25 _ (0, 0) _ hS.1 Tryz.underlying25 rfl (by kernel_rfl)
    try simp only [Act.put, List.setIfInBounds_toArray, List.set_cons_zero, List.set_cons_succ]
    refine takeH (i := 1) (d := 122) (v := .pointer (some ⟨W2.heap.size, 20, none⟩)) rfl rfl (by kernel_rfl) (by kernel_rfl) (by kernel_rfl) (fun _ _ _ h => h) rfl HS2.out ?_ ?_
    · intro W' _; go_simp
    try simp only [Act.put, List.setIfInBounds_toArray, List.set_cons_zero, List.set_cons_succ]
    refine takeH (i := 2) (d := 123) (v := .slice (some ⟨bb', ob', none⟩) nd.of.length co) rfl rfl (by kernel_rfl) (by kernel_rfl) (by kernel_rfl) (fun _ _ _ h => h) rfl HS2.out ?_ ?_
    · intro W' hS; have c1 : W'.cell? ⟨W2.heap.size, 20, none⟩ = some (.slice (some ⟨bb', ob', none⟩) nd.of.length co) := by rw [cell_of_row _ _ _ _ _ _ hS.2.2.1]; rfl
      clear hS; go_simp
    try simp only [Act.put, List.setIfInBounds_toArray, List.set_cons_zero, List.set_cons_succ]
    refine takeH (i := 3) (d := 124) (v := .pointer (some ⟨bb', ob' + 1, none⟩)) rfl rfl (by kernel_rfl) (by kernel_rfl) (by kernel_rfl) (fun _ _ _ h => h) rfl HS2.out ?_ ?_
    · intro W' _; have hll := Hofl.out; go_simp; try omega
    try simp only [Act.put, List.setIfInBounds_toArray, List.set_cons_zero, List.set_cons_succ]
    refine takeH (i := 4) (d := 125) (v := .int .i64 (b' : Int)) rfl rfl (by kernel_rfl) (by kernel_rfl) (by kernel_rfl) (fun _ _ _ h => h) rfl HS2.out ?_ ?_
    · intro W' hS; have c1 := hS.2.2.2; clear hS; go_simp
    try simp only [Act.put, List.setIfInBounds_toArray, List.set_cons_zero, List.set_cons_succ]
    refine takeH (i := 5) (d := 126) (v := .agg #[.int .i64 F.v, .int .i64 F.e, .slice As F.st.length cs, .slice Ap F.pts.length cp]) rfl rfl (by kernel_rfl) (by kernel_rfl) (by kernel_rfl) (fun _ _ _ h => h) rfl HS2.out ?_ ?_
    · intro W' hS; exact y_load1 42 (.tmp 5) rfl (w.heap.size + 1) rfl 42 _ (0, 0) _ hS.2.1 Tryz.underlying42 rfl (by kernel_rfl)
    try simp only [Act.put, List.setIfInBounds_toArray, List.set_cons_zero, List.set_cons_succ]
    refine wpAnyH_ready (rs := [6]) (by kernel_rfl) (by simp) ?_
    refine AllReadyH.cons rfl (fun K hK => ?_) AllReadyH.nil
    go_simp
    refine Calls.mono (HIb'.out _ (Nodes.more ((HNw4.out).below HDrw4.out (Nat.le_refl _)) HDrw4.out.size) ⟨((HFw4.out).st.below HDrw4.out (Nat.le_refl _)).more HDrw4.out.size, (HFw4.out).pts.below2 HDrw4.out⟩) ?_
    rintro e w5 ⟨rfl, hb⟩
    have hA := HDrw4.out.trans hb
    have HEw5 := hide (HEw4.out.next hA)
    have HNw5 := hide (Nodes.more ((HNw4.out).below hA (Nat.le_refl _)) hA.size)
    have HFw5 := hide (show FctAt w5 w5.heap.size F As Ap from ⟨((HFw4.out).st.below hA (Nat.le_refl _)).more hA.size, (HFw4.out).pts.below2 hA⟩)
    have Hofw5 := hide (((Hofw4.out).below hA (Nat.le_refl _)).more hA.size)
    have CCw5 := hide ((hA.cell (p := ⟨bb', ob' + 1, none⟩) (World.block_lt_of_cell? w4 _ CCb'.out)).trans CCb'.out)
    clear hA hb
    refine hK.out _ _ ⟨HEw5.out.p, HEw5.out.f, HEw5.out.n, CCw5.out⟩ (fun _ => ?_)
    clear hK K
    try simp only [Act.put, List.setIfInBounds_toArray, List.set_cons_zero, List.set_cons_succ]
    refine takeH (i := 7) (d := 10) (v := .int .i64 (valAt F nds b')) rfl rfl (by kernel_rfl) (by kernel_rfl) (by kernel_rfl) (fun _ _ _ h => h) rfl ⟨HEw5.out.p, HEw5.out.f, HEw5.out.n, CCw5.out⟩ ?_ ?_
    · intro W' _; go_simp
    try simp only [Act.put, List.setIfInBounds_toArray, List.set_cons_zero, List.set_cons_succ]
    refine wpAnyH_done (by kernel_rfl) ?_ _
    clear x0 x1 x2 x3 x20 f0 f1 f2 f3 c1
    obtain ⟨c1, ⟨f0, f1, f2, f3⟩, ⟨x0, x1, x2, x3, x20⟩⟩ := HEw5.out.cells
    rw [HK.out] at x0
    generalize valAt F nds a = r at va Hv ⊢
    generalize valAt F nds b' = q at vb Hv ⊢
    have hr : r = -1 ∨ r = 0 ∨ r = 1 := by omega
    have hq : q = -1 ∨ q = 0 ∨ q = 1 := by omega
    clear va vb
    rcases hr with rfl | rfl | rfl <;> rcases hq with rfl | rfl | rfl
    all_goals (
      go_wp2
      go_ret
      refine ⟨?_, HEw5.out.bel⟩
      rw [Hv.out]
      rfl)
  · rw [h] at x0
    have HK := hide h
    obtain ⟨a, b', hofa, ha, hb'⟩ := Hok.out.two (Or.inr h)
    have Hofa := hide hofa
    have Hofl := hide (show nd.of.length = 2 by rw [hofa]; rfl)
    have HIa := hide (Hih.out a ha)
    have HIb' := hide (Hih.out b' hb')
    have va := valAt_b F nds a
    have vb := valAt_b F nds b'
    have htk := valAt_take F nds k a (by omega) ha
    have htk2 := valAt_take F nds k b' (by omega) hb'
    have hv : valAt F nds k = notI (andI (notI (valAt F nds a)) (notI (valAt F nds b'))) := by rw [Hval.out]; simp [evStep, HK.out, Hofa.out, htk, htk2]
    have Hv := hide hv
    clear h hofa ha hb' htk htk2 hv
    simp only [RevOk, Fct.val] at HIa HIb'
    go_enter Tryz.func41, Tryz.ntmps41
    go_wp2_with (first
      | (with_reducible refine wpList_load_at rfl 67 (.tmp 15) rfl ⟨b, off + k * 21, none⟩ rfl _ _ (by rw [← HW2.out]; exact Hat.out) Tryz.underlying67 rfl (by kernel_rfl) ?_; rw [← HW2.out])
      | (with_reducible refine wpList_store_fresh rfl 67 (.tmp 7) (.tmp 16) rfl (.agg (nd.cells (.slice Ao nd.of.length co)).toArray) rfl rfl rfl (by kernel_rfl) (nd_one rfl) HW3.out ?_))
    have HDrW3 := hide (Below.refl W3.heap.size W3).drew
    obtain ⟨ba, oa, hAa, hba, cca⟩ := Hof.out.at_ (k := 0) (by rw [Hofa.out]; simp)
    have ea : nd.of[0]'(by rw [Hofa.out]; simp) = (a : Int) := by simp [Hofa.out]
    rw [ea] at cca
    rw [Nat.add_zero] at cca
    subst hAa
    have CCa := hide cca
    clear cca ea hba
    refine wp_region_held (S := fun W' => W'.heap[w.heap.size]? = some (.cells #[.slice (some ⟨b, off, none⟩) nds.length c] 25 (0, 0)) ∧ W'.heap[w.heap.size + 1]? = some (.cells #[.int .i64 F.v, .int .i64 F.e, .slice As F.st.length cs, .slice Ap F.pts.length cp] 42 (0, 0)) ∧ W'.heap[W2.heap.size]? = some (.cells (nd.cells (.slice (some ⟨ba, oa, none⟩) nd.of.length co)).toArray 67 (0, 0)) ∧ W'.cell? ⟨ba, oa, none⟩ = some (.int .i64 (a : Int))) (by kernel_rfl) ?_
    change wpAnyH _ _ _ _ _ _ _ _ (World.drew _)
    have HS := hide (show W3.drew.heap[w.heap.size]? = some (.cells #[.slice (some ⟨b, off, none⟩) nds.length c] 25 (0, 0)) ∧ W3.drew.heap[w.heap.size + 1]? = some (.cells #[.int .i64 F.v, .int .i64 F.e, .slice As F.st.length cs, .slice Ap F.pts.length cp] 42 (0, 0)) ∧ W3.drew.heap[W2.heap.size]? = some (.cells (nd.cells (.slice (some ⟨ba, oa, none⟩) nd.of.length co)).toArray 67 (0, 0)) ∧ W3.drew.cell? ⟨ba, oa, none⟩ = some (.int .i64 (a : Int)) from ⟨HE.out.p, HE.out.f, HE.out.n, CCa.out⟩)
    refine takeH (i := 0) (d := 107) (v := .agg #[.slice (some ⟨b, off, none⟩) nds.length c]) rfl rfl (by kernel_rfl) (by kernel_rfl) (by kernel_rfl) (fun _ _ _ h => h) rfl HS.out ?_ ?_
    · intro W' hS; exact y_load1 25 (.tmp 3) rfl (w.heap.size) rfl 25 _ (0, 0) _ hS.1 Tryz.underlying25 rfl (by kernel_rfl)
    try simp only [Act.put, List.setIfInBounds_toArray, List.set_cons_zero, List.set_cons_succ]
    refine takeH (i := 1) (d := 108) (v := .pointer (some ⟨W2.heap.size, 20, none⟩)) rfl rfl (by kernel_rfl) (by kernel_rfl) (by kernel_rfl) (fun _ _ _ h => h) rfl HS.out ?_ ?_
    · intro W' _; go_simp
    try simp only [Act.put, List.setIfInBounds_toArray, List.set_cons_zero, List.set_cons_succ]
    refine takeH (i := 2) (d := 109) (v := .slice (some ⟨ba, oa, none⟩) nd.of.length co) rfl rfl (by kernel_rfl) (by kernel_rfl) (by kernel_rfl) (fun _ _ _ h => h) rfl HS.out ?_ ?_
    · intro W' hS; have c1 : W'.cell? ⟨W2.heap.size, 20, none⟩ = some (.slice (some ⟨ba, oa, none⟩) nd.of.length co) := by rw [cell_of_row _ _ _ _ _ _ hS.2.2.1]; rfl
      clear hS; go_simp
    try simp only [Act.put, List.setIfInBounds_toArray, List.set_cons_zero, List.set_cons_succ]
    refine takeH (i := 3) (d := 110) (v := .pointer (some ⟨ba, oa, none⟩)) rfl rfl (by kernel_rfl) (by kernel_rfl) (by kernel_rfl) (fun _ _ _ h => h) rfl HS.out ?_ ?_
    · intro W' _; have hll := Hofl.out; go_simp; try omega
    try simp only [Act.put, List.setIfInBounds_toArray, List.set_cons_zero, List.set_cons_succ]
    refine takeH (i := 4) (d := 111) (v := .int .i64 (a : Int)) rfl rfl (by kernel_rfl) (by kernel_rfl) (by kernel_rfl) (fun _ _ _ h => h) rfl HS.out ?_ ?_
    · intro W' hS; have c1 := hS.2.2.2; clear hS; go_simp
    try simp only [Act.put, List.setIfInBounds_toArray, List.set_cons_zero, List.set_cons_succ]
    refine takeH (i := 5) (d := 112) (v := .agg #[.int .i64 F.v, .int .i64 F.e, .slice As F.st.length cs, .slice Ap F.pts.length cp]) rfl rfl (by kernel_rfl) (by kernel_rfl) (by kernel_rfl) (fun _ _ _ h => h) rfl HS.out ?_ ?_
    · intro W' hS; exact y_load1 42 (.tmp 5) rfl (w.heap.size + 1) rfl 42 _ (0, 0) _ hS.2.1 Tryz.underlying42 rfl (by kernel_rfl)
    try simp only [Act.put, List.setIfInBounds_toArray, List.set_cons_zero, List.set_cons_succ]
    refine wpAnyH_ready (rs := [6]) (by kernel_rfl) (by simp) ?_
    refine AllReadyH.cons rfl (fun K hK => ?_) AllReadyH.nil
    go_simp
    refine Calls.mono (HIa.out _ (Nodes.more ((HN3.out).below HDrW3.out (Nat.le_refl _)) HDrW3.out.size) ⟨((HF3.out).st.below HDrW3.out (Nat.le_refl _)).more HDrW3.out.size, (HF3.out).pts.below2 HDrW3.out⟩) ?_
    rintro e w4 ⟨rfl, hb⟩
    have hA := HDrW3.out.trans hb
    have HEw4 := hide (HE.out.next hA)
    have HNw4 := hide (Nodes.more ((HN3.out).below hA (Nat.le_refl _)) hA.size)
    have HFw4 := hide (show FctAt w4 w4.heap.size F As Ap from ⟨((HF3.out).st.below hA (Nat.le_refl _)).more hA.size, (HF3.out).pts.below2 hA⟩)
    have Hofw4 := hide (((Hof.out).below hA (Nat.le_refl _)).more hA.size)
    have CCw4 := hide ((hA.cell (p := ⟨ba, oa, none⟩) (World.block_lt_of_cell? W3 _ CCa.out)).trans CCa.out)
    clear hA hb
    refine hK.out _ _ ⟨HEw4.out.p, HEw4.out.f, HEw4.out.n, CCw4.out⟩ (fun _ => ?_)
    clear hK K
    try simp only [Act.put, List.setIfInBounds_toArray, List.set_cons_zero, List.set_cons_succ]
    refine takeH (i := 7) (d := 9) (v := .int .i64 (valAt F nds a)) rfl rfl (by kernel_rfl) (by kernel_rfl) (by kernel_rfl) (fun _ _ _ h => h) rfl ⟨HEw4.out.p, HEw4.out.f, HEw4.out.n, CCw4.out⟩ ?_ ?_
    · intro W' _; go_simp
    try simp only [Act.put, List.setIfInBounds_toArray, List.set_cons_zero, List.set_cons_succ]
    refine wpAnyH_done (by kernel_rfl) ?_ _
    clear x0 x1 x2 x3 x20 f0 f1 f2 f3 c1
    obtain ⟨c1, ⟨f0, f1, f2, f3⟩, ⟨x0, x1, x2, x3, x20⟩⟩ := HEw4.out.cells
    rw [HK.out] at x0
    go_wp2
    have HDrw4 := hide (Below.refl w4.heap.size w4).drew
    obtain ⟨bb', ob', hAb', hbb', ccb'⟩ := Hofw4.out.at_ (k := 1) (by rw [Hofa.out]; simp)
    have eb' : nd.of[1]'(by rw [Hofa.out]; simp) = (b' : Int) := by simp [Hofa.out]
    rw [eb'] at ccb'
    have hAb2 : (some ⟨bb', ob', none⟩ : Option Addr) = some ⟨ba, oa, none⟩ := hAb'.symm
    injection hAb2 with hAb3
    injection hAb3 with q1 q2
    subst q1
    subst q2
    have CCb' := hide ccb'
    clear ccb' eb' hbb'
    refine wp_region_held (S := fun W' => W'.heap[w.heap.size]? = some (.cells #[.slice (some ⟨b, off, none⟩) nds.length c] 25 (0, 0)) ∧ W'.heap[w.heap.size + 1]? = some (.cells #[.int .i64 F.v, .int .i64 F.e, .slice As F.st.length cs, .slice Ap F.pts.length cp] 42 (0, 0)) ∧ W'.heap[W2.heap.size]? = some (.cells (nd.cells (.slice (some ⟨bb', ob', none⟩) nd.of.length co)).toArray 67 (0, 0)) ∧ W'.cell? ⟨bb', ob' + 1, none⟩ = some (.int .i64 (b' : Int))) (by kernel_rfl) ?_
    change wpAnyH _ _ _ _ _ _ _ _ (World.drew _)
    have HS2 := hide (show w4.drew.heap[w.heap.size]? = some (.cells #[.slice (some ⟨b, off, none⟩) nds.length c] 25 (0, 0)) ∧ w4.drew.heap[w.heap.size + 1]? = some (.cells #[.int .i64 F.v, .int .i64 F.e, .slice As F.st.length cs, .slice Ap F.pts.length cp] 42 (0, 0)) ∧ w4.drew.heap[W2.heap.size]? = some (.cells (nd.cells (.slice (some ⟨bb', ob', none⟩) nd.of.length co)).toArray 67 (0, 0)) ∧ w4.drew.cell? ⟨bb', ob' + 1, none⟩ = some (.int .i64 (b' : Int)) from ⟨HEw4.out.p, HEw4.out.f, HEw4.out.n, CCb'.out⟩)
    refine takeH (i := 0) (d := 121) (v := .agg #[.slice (some ⟨b, off, none⟩) nds.length c]) rfl rfl (by kernel_rfl) (by kernel_rfl) (by kernel_rfl) (fun _ _ _ h => h) rfl HS2.out ?_ ?_
    · intro W' hS; exact y_load1 25 (.tmp 3) rfl (w.heap.size) rfl 25 _ (0, 0) _ hS.1 Tryz.underlying25 rfl (by kernel_rfl)
    try simp only [Act.put, List.setIfInBounds_toArray, List.set_cons_zero, List.set_cons_succ]
    refine takeH (i := 1) (d := 122) (v := .pointer (some ⟨W2.heap.size, 20, none⟩)) rfl rfl (by kernel_rfl) (by kernel_rfl) (by kernel_rfl) (fun _ _ _ h => h) rfl HS2.out ?_ ?_
    · intro W' _; go_simp
    try simp only [Act.put, List.setIfInBounds_toArray, List.set_cons_zero, List.set_cons_succ]
    refine takeH (i := 2) (d := 123) (v := .slice (some ⟨bb', ob', none⟩) nd.of.length co) rfl rfl (by kernel_rfl) (by kernel_rfl) (by kernel_rfl) (fun _ _ _ h => h) rfl HS2.out ?_ ?_
    · intro W' hS; have c1 : W'.cell? ⟨W2.heap.size, 20, none⟩ = some (.slice (some ⟨bb', ob', none⟩) nd.of.length co) := by rw [cell_of_row _ _ _ _ _ _ hS.2.2.1]; rfl
      clear hS; go_simp
    try simp only [Act.put, List.setIfInBounds_toArray, List.set_cons_zero, List.set_cons_succ]
    refine takeH (i := 3) (d := 124) (v := .pointer (some ⟨bb', ob' + 1, none⟩)) rfl rfl (by kernel_rfl) (by kernel_rfl) (by kernel_rfl) (fun _ _ _ h => h) rfl HS2.out ?_ ?_
    · intro W' _; have hll := Hofl.out; go_simp; try omega
    try simp only [Act.put, List.setIfInBounds_toArray, List.set_cons_zero, List.set_cons_succ]
    refine takeH (i := 4) (d := 125) (v := .int .i64 (b' : Int)) rfl rfl (by kernel_rfl) (by kernel_rfl) (by kernel_rfl) (fun _ _ _ h => h) rfl HS2.out ?_ ?_
    · intro W' hS; have c1 := hS.2.2.2; clear hS; go_simp
    try simp only [Act.put, List.setIfInBounds_toArray, List.set_cons_zero, List.set_cons_succ]
    refine takeH (i := 5) (d := 126) (v := .agg #[.int .i64 F.v, .int .i64 F.e, .slice As F.st.length cs, .slice Ap F.pts.length cp]) rfl rfl (by kernel_rfl) (by kernel_rfl) (by kernel_rfl) (fun _ _ _ h => h) rfl HS2.out ?_ ?_
    · intro W' hS; exact y_load1 42 (.tmp 5) rfl (w.heap.size + 1) rfl 42 _ (0, 0) _ hS.2.1 Tryz.underlying42 rfl (by kernel_rfl)
    try simp only [Act.put, List.setIfInBounds_toArray, List.set_cons_zero, List.set_cons_succ]
    refine wpAnyH_ready (rs := [6]) (by kernel_rfl) (by simp) ?_
    refine AllReadyH.cons rfl (fun K hK => ?_) AllReadyH.nil
    go_simp
    refine Calls.mono (HIb'.out _ (Nodes.more ((HNw4.out).below HDrw4.out (Nat.le_refl _)) HDrw4.out.size) ⟨((HFw4.out).st.below HDrw4.out (Nat.le_refl _)).more HDrw4.out.size, (HFw4.out).pts.below2 HDrw4.out⟩) ?_
    rintro e w5 ⟨rfl, hb⟩
    have hA := HDrw4.out.trans hb
    have HEw5 := hide (HEw4.out.next hA)
    have HNw5 := hide (Nodes.more ((HNw4.out).below hA (Nat.le_refl _)) hA.size)
    have HFw5 := hide (show FctAt w5 w5.heap.size F As Ap from ⟨((HFw4.out).st.below hA (Nat.le_refl _)).more hA.size, (HFw4.out).pts.below2 hA⟩)
    have Hofw5 := hide (((Hofw4.out).below hA (Nat.le_refl _)).more hA.size)
    have CCw5 := hide ((hA.cell (p := ⟨bb', ob' + 1, none⟩) (World.block_lt_of_cell? w4 _ CCb'.out)).trans CCb'.out)
    clear hA hb
    refine hK.out _ _ ⟨HEw5.out.p, HEw5.out.f, HEw5.out.n, CCw5.out⟩ (fun _ => ?_)
    clear hK K
    try simp only [Act.put, List.setIfInBounds_toArray, List.set_cons_zero, List.set_cons_succ]
    refine takeH (i := 7) (d := 10) (v := .int .i64 (valAt F nds b')) rfl rfl (by kernel_rfl) (by kernel_rfl) (by kernel_rfl) (fun _ _ _ h => h) rfl ⟨HEw5.out.p, HEw5.out.f, HEw5.out.n, CCw5.out⟩ ?_ ?_
    · intro W' _; go_simp
    try simp only [Act.put, List.setIfInBounds_toArray, List.set_cons_zero, List.set_cons_succ]
    refine wpAnyH_done (by kernel_rfl) ?_ _
    clear x0 x1 x2 x3 x20 f0 f1 f2 f3 c1
    obtain ⟨c1, ⟨f0, f1, f2, f3⟩, ⟨x0, x1, x2, x3, x20⟩⟩ := HEw5.out.cells
    rw [HK.out] at x0
    generalize valAt F nds a = r at va Hv ⊢
    generalize valAt F nds b' = q at vb Hv ⊢
    have hr : r = -1 ∨ r = 0 ∨ r = 1 := by omega
    have hq : q = -1 ∨ q = 0 ∨ q = 1 := by omega
    clear va vb
    rcases hr with rfl | rfl | rfl <;> rcases hq with rfl | rfl | rfl
    all_goals (
      go_wp2
      go_ret
      refine ⟨?_, HEw5.out.bel⟩
      rw [Hv.out]
      rfl)
theorem reval_any (A : Option Addr) (c : Nat) (nds : List Nd) (F : Fct) (As : Option Addr) (cs : Nat) (Ap : Option Addr) (cp : Nat) (hok : ∀ i nd, nds[i]? = some nd → NdOk i nd) (hln : nds.length ≤ 1000000) (hst : F.st.length ≤ 1000000) :
    ∀ n k : Nat, k < n → k < nds.length → RevOk A c nds F As cs Ap cp k
  | 0, k, h, _ => by omega
  | n + 1, k, h, hk => reval_step A c nds F As cs Ap cp hok hln hst k hk fun a ha => reval_any A c nds F As cs Ap cp hok hln hst n a (by omega) (by omega)
end Go.Proofs.YtbojlnbdkaanmaaGreatDoor
namespace Go.Proofs.YtbojlnbdkaanmaaGreatDoor
open Go.RowKit
set_option linter.unusedSimpArgs false
set_option linter.unusedVariables false

def digitF (c : Int) : Int := match hexd c with | none => -1 | some v => v
theorem hexd_dig {c : Int} (h : 48 ≤ c ∧ c ≤ 57) : digitF c = c - 48 := by simp [digitF, hexd, h]
theorem hexd_let {c : Int} (h : 97 ≤ c ∧ c ≤ 102) : digitF c = c - 97 + 10 := by
  unfold digitF hexd
  rw [if_neg (by omega), if_pos h]
theorem hexd_no {c : Int} (h1 : ¬ (48 ≤ c ∧ c ≤ 57)) (h2 : ¬ (97 ≤ c ∧ c ≤ 102)) : digitF c = -1 := by
  unfold digitF hexd
  rw [if_neg h1, if_neg h2]
set_option maxHeartbeats 1000000 in
theorem rdigit_any (w : World) (c : Int) (hc : 0 ≤ c ∧ c < 256) : Calls Tryz.prog 116 #[.int .u8 c] w fun e w' => e = .returned (.int .i64 (digitF c)) ∧ w = w' := by
  obtain ⟨c1, c2⟩ := hc
  by_cases h1 : 48 ≤ c ∧ c ≤ 57
  · have hd := hexd_dig h1
    obtain ⟨a, b⟩ := h1
    rw [hd]
    clear hd
    go_enter Tryz.func116, Tryz.ntmps116
    go_wp2
    go_ret
    exact ⟨rfl, rfl⟩
  · by_cases h2 : 97 ≤ c ∧ c ≤ 102
    · have hd := hexd_let h2
      obtain ⟨a, b⟩ := h2
      rw [hd]
      clear hd h1
      go_enter Tryz.func116, Tryz.ntmps116
      go_wp2
      go_ret
      exact ⟨rfl, rfl⟩
    · rw [hexd_no h1 h2]
      go_enter Tryz.func116, Tryz.ntmps116
      go_wp2
      all_goals first
        | (go_ret; exact ⟨rfl, rfl⟩)
        | (exfalso; omega)
set_option maxHeartbeats 2000000 in
theorem reval23_any (w : World) (A : Option Addr) (c : Nat) (nds : List Nd) (F : Fct) (As : Option Addr) (cs : Nat) (Ap : Option Addr) (cp : Nat) (hok : ∀ i nd, nds[i]? = some nd → NdOk i nd) (hln : nds.length ≤ 1000000) (h0 : 0 < nds.length) (hst : F.st.length ≤ 1000000)
    (hN : Nodes w w.heap.size A nds) (hF : FctAt w w.heap.size F As Ap) : Calls Tryz.prog 23 #[.agg #[.slice A nds.length c], F.val As cs Ap cp] w fun e w' => e = .returned (.int .i64 (evalF F nds)) ∧ Below w.heap.size w w' := by
  have hl := evAll_length F nds
  have hv : valAt F nds (nds.length - 1) = evalF F nds := by
    unfold valAt
    rw [List.getD_eq_getElem?_getD, evalF_get F (by omega)]
    rfl
  have hr := reval_any A c nds F As cs Ap cp hok hln hst nds.length (nds.length - 1) (by omega) (by omega)
  simp only [RevOk, Fct.val, hv] at hr
  obtain ⟨W2, hW2⟩ : ∃ W2, W2 = (w.alloc (.cells #[.slice A nds.length c] 25)).alloc (.cells #[.int .i64 F.v, .int .i64 F.e, .slice As F.st.length cs, .slice Ap F.pts.length cp] 42) := ⟨_, rfl⟩
  obtain ⟨g1, g2, gb⟩ := two_new (W := w) (X := .cells #[.slice A nds.length c] 25) (Y := .cells #[.int .i64 F.v, .int .i64 F.e, .slice As F.st.length cs, .slice Ap F.pts.length cp] 42) rfl
  rw [← hW2] at g1 g2 gb
  have hc := hr W2 ((hN.below gb (Nat.le_refl _)).more gb.size) ⟨(hF.st.below gb (Nat.le_refl _)).more gb.size, hF.pts.below2 gb⟩
  have hcast : ((nds.length - 1 : Nat) : Int) = (nds.length : Int) - 1 := by omega
  rw [hcast] at hc
  have Hc := hide hc
  have HB := hide gb
  have HW2 := hide hW2
  clear hr hv hc hcast g1 g2 gb hW2 hN hF
  simp only [Fct.val]
  go_enter Tryz.func23, Tryz.ntmps23
  go_wp2_with fail
  rw [← HW2.out]
  refine Calls.mono Hc.out ?_
  rintro e w1 ⟨rfl, hb⟩
  have HE := hide (HB.out.trans (hb.mono HB.out.size))
  clear hb
  go_wp2
  go_ret
  exact ⟨rfl, HE.out⟩
end Go.Proofs.YtbojlnbdkaanmaaGreatDoor
namespace Go.Proofs.YtbojlnbdkaanmaaGreatDoor
open Go.RowKit
set_option linter.unusedSimpArgs false
set_option linter.unusedVariables false

set_option maxHeartbeats 4000000 in
theorem rdepth_any (w : World) (A : Option Addr) (c : Nat) (ts : List Tok) (hl : ts.length ≤ 1000000) (h : Toks w w.heap.size A ts) :
    Calls Tryz.prog 15 #[.slice A ts.length c] w fun e w' => e = .returned (.int .i64 (depthF ts)) ∧ w = w' := by
  have HT := hide h
  clear h
  go_enter Tryz.func15, Tryz.ntmps15
  go_wp2
  go_loop [3, 4, 5] (fun a b i => ∃ k : Nat, k ≤ ts.length ∧ i = .int .i64 k ∧ a = .int .i64 (((ts.take k).foldl dstep (0, 0)).1) ∧ b = .int .i64 (((ts.take k).foldl dstep (0, 0)).2)) (fun _ _ i => ts.length - (intOf i).toNat)
  case atStart => exact ⟨0, Nat.zero_le _, rfl, rfl, rfl⟩
  case round =>
    obtain ⟨k, hk, rfl, rfl, rfl⟩ := hrel
    by_cases hlt : k < ts.length
    · obtain ⟨b, off, rfl, hbB, c0, c1, c2, c3⟩ := HT.out.at_ hlt
      have hlI : (k : Int) < (ts.length : Int) := by omega
      have hbd := dstep_bounds (ts.take k) (0, 0)
      simp only [List.length_take] at hbd
      have hs := foldl_take_succ ts (0, 0) k hlt
      obtain ⟨r, hr⟩ : ∃ r, (ts.take k).foldl dstep (0, 0) = r := ⟨_, rfl⟩
      rw [hr] at hs hbd ⊢
      obtain ⟨t, ht⟩ : ∃ t, ts[k] = t := ⟨_, rfl⟩
      rw [ht] at hs c0 c1
      obtain ⟨r1, r2⟩ := r
      simp only [] at hbd ⊢
      have hr1 : -1000000 ≤ r1 ∧ r1 ≤ 1000000 := by omega
      have Hs := hide hs
      obtain ⟨q1, q2⟩ := hr1
      clear c2 c3 hbd hs hr ht hbB
      have key : ∀ n m : Int, dstep (r1, r2) t = (n, m) → ((ts.take (k + 1)).foldl dstep (0, 0)).1 = n ∧ ((ts.take (k + 1)).foldl dstep (0, 0)).2 = m := fun n m he => by rw [Hs.out, he]; exact ⟨rfl, rfl⟩
      have Key := hide key
      clear key
      cases h3 : (t.k == 3) with
      | false =>
        have hk3 : t.k ≠ 3 := by simpa using h3
        by_cases hm : r2 < r1
        · obtain ⟨e1, e2⟩ := Key.out r1 r1 (by simp [dstep, hk3]; omega)
          have E1 := hide e1
          have E2 := hide e2
          clear e1 e2 hk3
          go_wp2
          go_round
          case rel => exact ⟨k + 1, by omega, by go_num, by rw [E1.out], by rw [E2.out]⟩
          case measure => simp [intOf]; omega
        · obtain ⟨e1, e2⟩ := Key.out r1 r2 (by simp [dstep, hk3]; omega)
          have E1 := hide e1
          have E2 := hide e2
          clear e1 e2 hk3
          go_wp2
          go_round
          case rel => exact ⟨k + 1, by omega, by go_num, by rw [E1.out], by rw [E2.out]⟩
          case measure => simp [intOf]; omega
      | true =>
        have hk3 : t.k = 3 := by simpa using h3
        cases h40 : (t.s.toList == [40]) with
        | true =>
          have ht : t.s.toList = [40] := by simpa using h40
          have h41 : (t.s.toList == [41]) = false := by rw [ht]; rfl
          by_cases hm : r2 < r1 + 1
          · obtain ⟨e1, e2⟩ := Key.out (r1 + 1) (r1 + 1) (by simp [dstep, hk3, ht]; omega)
            have E1 := hide e1
            have E2 := hide e2
            clear e1 e2 hk3 ht
            go_wp2
            go_round
            case rel => exact ⟨k + 1, by omega, by go_num, by rw [E1.out], by rw [E2.out]⟩
            case measure => simp [intOf]; omega
          · obtain ⟨e1, e2⟩ := Key.out (r1 + 1) (r2) (by simp [dstep, hk3, ht]; omega)
            have E1 := hide e1
            have E2 := hide e2
            clear e1 e2 hk3 ht
            go_wp2
            go_round
            case rel => exact ⟨k + 1, by omega, by go_num, by rw [E1.out], by rw [E2.out]⟩
            case measure => simp [intOf]; omega
        | false =>
          have ht : ¬ t.s.toList = [40] := by simpa using h40
          cases h41 : (t.s.toList == [41]) with
          | true =>
            have ht2 : t.s.toList = [41] := by simpa using h41
            by_cases hm : r2 < r1 - 1
            · obtain ⟨e1, e2⟩ := Key.out (r1 - 1) (r1 - 1) (by simp [dstep, hk3, ht2]; omega)
              have E1 := hide e1
              have E2 := hide e2
              clear e1 e2 hk3 ht ht2
              go_wp2
              go_round
              case rel => exact ⟨k + 1, by omega, by go_num, by rw [E1.out], by rw [E2.out]⟩
              case measure => simp [intOf]; omega
            · obtain ⟨e1, e2⟩ := Key.out (r1 - 1) (r2) (by simp [dstep, hk3, ht2]; omega)
              have E1 := hide e1
              have E2 := hide e2
              clear e1 e2 hk3 ht ht2
              go_wp2
              go_round
              case rel => exact ⟨k + 1, by omega, by go_num, by rw [E1.out], by rw [E2.out]⟩
              case measure => simp [intOf]; omega
          | false =>
            have ht2 : ¬ t.s.toList = [41] := by simpa using h41
            by_cases hm : r2 < r1
            · obtain ⟨e1, e2⟩ := Key.out (r1) (r1) (by simp [dstep, hk3, ht, ht2]; omega)
              have E1 := hide e1
              have E2 := hide e2
              clear e1 e2 hk3 ht ht2
              go_wp2
              go_round
              case rel => exact ⟨k + 1, by omega, by go_num, by rw [E1.out], by rw [E2.out]⟩
              case measure => simp [intOf]; omega
            · obtain ⟨e1, e2⟩ := Key.out (r1) (r2) (by simp [dstep, hk3, ht, ht2]; omega)
              have E1 := hide e1
              have E2 := hide e2
              clear e1 e2 hk3 ht ht2
              go_wp2
              go_round
              case rel => exact ⟨k + 1, by omega, by go_num, by rw [E1.out], by rw [E2.out]⟩
              case measure => simp [intOf]; omega
    · obtain rfl : k = ts.length := by omega
      rw [List.take_length]
      go_wp2
      go_ret
      exact ⟨rfl, rfl⟩
end Go.Proofs.YtbojlnbdkaanmaaGreatDoor
