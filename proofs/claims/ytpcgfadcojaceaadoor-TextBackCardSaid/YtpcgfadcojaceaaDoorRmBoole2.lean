/- What this text holds: plain laws of filters: what boxes come of a table, and that they say the same. -/
import Derived.Test.YtpcgfadcojaceaaDoorRmBoole1
set_option linter.unusedVariables false
set_option linter.unusedSimpArgs false
set_option linter.unusedSectionVars false
namespace Go.Rm
open Go

theorem pIn_iff {c : Pair} {o : Nat} : pIn c o = true ↔ o &&& c.1 = c.1 ∧ o &&& c.2 = 0 := by simp [pIn]
theorem pIn_start : ∀ g o : Fin 16, pIn (g.val, 15 - g.val) o.val = true → o = g := by decide
theorem pIn_self : ∀ g : Fin 16, pIn (g.val, 15 - g.val) g.val = true := by decide
theorem start_apart : ∀ g : Fin 16, g.val &&& (15 - g.val) = 0 := by decide
structure Wide (t : Nat → BitVec 32) (g : Nat) (c : Pair) : Prop where
  apart : c.1 &&& c.2 = 0
  self : pIn c g = true
  same : ∀ o, o < 16 → pIn c o = true → t o = t g
theorem sameIn_all {t : Nat → BitVec 32} {c : Pair} {g i : Nat} (h : sameIn t c g i = true) {o : Nat} (ho : o < i) (hp : pIn c o = true) : t o = t g := by
  have := List.all_eq_true.1 h o (by simpa using ho)
  simp only [hp, Bool.not_true, Bool.false_or, beq_iff_eq] at this
  exact this
theorem widenUpto_wide (t : Nat → BitVec 32) {g : Nat} (hg : g < 16) : ∀ k, Wide t g (widenUpto t g k)
  | 0 => ⟨start_apart ⟨g, hg⟩, pIn_self ⟨g, hg⟩, fun o ho hp => by have := pIn_start ⟨g, hg⟩ ⟨o, ho⟩ hp; simp only [Fin.mk.injEq] at this; rw [this]⟩
  | k + 1 => by
    obtain ⟨h1, h2, h3⟩ := widenUpto_wide t hg k
    rw [widenUpto]
    split
    · rename_i hs
      rw [pIn_iff] at h2
      refine ⟨?_, ?_, fun o ho hp => sameIn_all hs ho hp⟩
      · simp only [cubeDrop, dropBit]
        apply Nat.eq_of_testBit_eq
        intro i
        have hb : ((widenUpto t g k).1 &&& (widenUpto t g k).2).testBit i = false := by rw [h1]; simp
        rw [Nat.testBit_and] at hb
        simp only [Nat.testBit_and, Nat.zero_testBit]
        cases h3 : (widenUpto t g k).1.testBit i <;> cases h4 : (widenUpto t g k).2.testBit i <;> simp_all
      · rw [pIn_iff]
        simp only [cubeDrop, dropBit]
        rw [← Nat.and_assoc, ← Nat.and_assoc, h2.1, h2.2, Nat.zero_and]
        exact ⟨rfl, rfl⟩
    · exact ⟨h1, h2, h3⟩
theorem boxAt_ok (t : Nat → BitVec 32) {g : Nat} (hg : g < 16) : boxCheck (boxAt t g) = 0 := by
  obtain ⟨h1, h2⟩ := widenUpto_lt t hg 4
  have h3 := (widenUpto_wide t hg 4).apart
  have hc : cubeCheck (boxAt t g).cube = 0 := by
    rw [cubeCheck, if_neg, if_pos]
    · exact h3
    · simp only [boxAt, cubeOf, widen]; omega
  rw [boxCheck, if_pos hc]
  exact spansMake_check _
theorem boxAdd_at (t : Nat → BitVec 32) (g o : Nat) (a : BitVec 32) : boxAdd (boxAt t g) o a = if pIn (widen t g) o = true then a ||| t g else a := by
  rw [boxAdd]
  show (if pIn (widen t g) o = true then a ||| maskOf (spansMake fun n => (t g).getLsbD n) else a) = _
  rw [maskOf_make]
structure BxInv (t : Nat → BitVec 32) (g : Nat) (s : List Box × (Nat → Bool)) : Prop where
  ok : ∀ b ∈ s.1, boxCheck b = 0
  tab : ∀ o, o < 16 → tabOf s.1 o = if s.2 o = true then t o else 0
  all : ∀ o, o < g → s.2 o = true ∨ t o = 0
theorem bx_inv (t : Nat → BitVec 32) : ∀ g, g ≤ 16 → BxInv t g (bxUpto t g)
  | 0, _ => ⟨by simp [bxUpto], fun o _ => by simp [bxUpto, tabOf], fun o ho => by omega⟩
  | g + 1, hg => by
    obtain ⟨h1, h2, h3⟩ := bx_inv t g (by omega)
    by_cases hs : (bxUpto t g).2 g = true ∨ t g = 0
    · rw [bxUpto_skip hs]
      refine ⟨h1, h2, fun o ho => ?_⟩
      rcases Nat.lt_or_ge o g with h | h
      · exact h3 o h
      · rw [show o = g by omega]; exact hs
    · have e1 : (bxUpto t g).2 g = false := by cases h : (bxUpto t g).2 g <;> simp_all
      have e2 : t g ≠ 0 := fun e => hs (.inr e)
      have hw := widenUpto_wide t (show g < 16 by omega) 4
      rw [bxUpto_more e1 e2]
      refine ⟨fun b hb => ?_, fun o ho => ?_, fun o ho => ?_⟩
      · rcases List.mem_append.1 hb with hb | hb
        · exact h1 b hb
        · rw [List.mem_singleton] at hb; subst hb; exact boxAt_ok t (by omega)
      · simp only
        rw [tabOf_snoc, boxAdd_at, h2 o ho]
        by_cases hp : pIn (widen t g) o = true
        · have := hw.same o ho hp
          simp only [hp, if_true, Bool.or_true]
          rw [this]
          split <;> simp
        · have hp2 : pIn (widen t g) o = false := by simpa using hp
          simp [hp2]
      · simp only
        rcases Nat.lt_or_ge o g with h | h
        · rcases h3 o h with h | h
          · exact .inl (by rw [h]; simp)
          · exact .inr h
        · rw [show o = g by omega]
          exact .inl (by rw [show pIn (widen t g) g = true from hw.self]; simp)
theorem boxesGo_of {f : List Box} (h : ∀ b ∈ f, boxCheck b = 0) : boxesGo f = 0 := by
  induction f with
  | nil => rfl
  | cons b f ih => rw [boxesGo, if_pos (h b (by simp))]; exact ih fun x hx => h x (by simp [hx])
theorem boxesOf_len (t : Nat → BitVec 32) : (boxesOf t).length ≤ 16 := bxUpto_len t 16
/-- What boxes come of a table: they may be, .. -/
theorem boxesOf_check (t : Nat → BitVec 32) : filterCheck (boxesOf t) = 0 := by
  rw [filterCheck_le (by have := boxesOf_len t; omega)]
  exact boxesGo_of (bx_inv t 16 (by omega)).ok
/-- .. and have that table. -/
theorem boxesOf_tab (t : Nat → BitVec 32) {o : Nat} (h : o < 16) : tabOf (boxesOf t) o = t o := by
  obtain ⟨_, h2, h3⟩ := bx_inv t 16 (by omega)
  rw [boxesOf, h2 o h]
  split
  · rfl
  · rename_i hn
    rcases h3 o h with h | h
    · exact absurd h hn
    · exact h.symm
theorem bxUpto_none {t : Nat → BitVec 32} (h : ∀ o, o < 16 → t o = 0) : ∀ g, g ≤ 16 → bxUpto t g = ([], fun _ => false)
  | 0, _ => rfl
  | g + 1, hg => by rw [bxUpto_skip (.inr (h g (by omega)))]; exact bxUpto_none h g (by omega)
theorem boxesOf_nil (t : Nat → BitVec 32) : boxesOf t = [] ↔ ∀ o, o < 16 → t o = 0 := by
  constructor
  · intro h o ho
    rw [← boxesOf_tab t ho, h]; rfl
  · intro h
    rw [boxesOf, bxUpto_none h 16 (by omega)]
theorem boxesOf_congr {t u : Nat → BitVec 32} (h : ∀ o, o < 16 → t o = u o) (o : Nat) (ho : o < 16) : tabOf (boxesOf t) o = tabOf (boxesOf u) o := by
  rw [boxesOf_tab t ho, boxesOf_tab u ho, h o ho]
/-- Two filters that may be are the same if they have the same table. -/
def TabEq (f g : List Box) : Prop := ∀ o, o < 16 → tabOf f o = tabOf g o
end Go.Rm
