/- What this text holds: plain laws of span.Make and of a row's bits. -/
import Derived.Test.YtpcgfadcojaceaaDoorRmSpec4
set_option linter.unusedVariables false
set_option linter.unusedSimpArgs false
set_option linter.unusedSectionVars false
namespace Go.Rm
open Go

theorem snoc_ind {α : Type} {M : List α → Prop} (h0 : M []) (h1 : ∀ l x, M l → M (l ++ [x])) (l : List α) : M l := by
  have : ∀ r : List α, M r.reverse := by
    intro r
    induction r with
    | nil => exact h0
    | cons x r ih => rw [List.reverse_cons]; exact h1 _ _ ih
  simpa using this l.reverse
/-- The end of the span ahead. -/
def lastHi (p : Option Int) (l : List Span) : Option Int := match l.getLast? with
  | some z => some z.hi
  | none => p
theorem lastHi_snoc (p : Option Int) (l : List Span) (s : Span) : lastHi p (l ++ [s]) = some s.hi := by simp [lastHi]
theorem lastHi_cons (p : Option Int) (x : Span) (l : List Span) : lastHi p (x :: l) = lastHi (some x.hi) l := by
  cases l with
  | nil => simp [lastHi]
  | cons y l =>
    obtain ⟨z, hz⟩ : ∃ z, (y :: l).getLast? = some z := ⟨_, List.getLast?_eq_some_getLast (by simp)⟩
    simp only [lastHi, List.getLast?_cons_cons, hz]
theorem spanGo_snoc : ∀ (l : List Span) (p : Option Int) (s : Span), spanGo p (l ++ [s]) = 0 ↔ spanGo p l = 0 ∧ SpanOk s ∧ ∀ q, lastHi p l = some q → q < s.lo
  | [], p, s => by
    simp only [List.nil_append, spanGo, lastHi, List.getLast?_nil, true_and]
    constructor
    · intro h
      split at h
      · cases h
      · split at h
        · cases h
        · rename_i h1 h2
          refine ⟨by constructor <;> omega, fun q hq => ?_⟩
          subst hq
          simp at h2
          omega
    · rintro ⟨⟨h1, h2, h3⟩, h⟩
      rw [if_neg (by omega)]
      cases p with
      | none => simp
      | some q => have := h q rfl; rw [if_neg (by simp; omega)]
  | x :: l, p, s => by
    rw [List.cons_append, spanGo, spanGo, lastHi_cons]
    split
    · simp
    · split
      · simp
      · exact spanGo_snoc l (some x.hi) s

def spansIn (l : List Span) (n : Nat) : Bool := l.any fun s => decide (s.lo ≤ (n : Int)) && decide ((n : Int) < s.hi)
theorem spansIn_snoc (l : List Span) (s : Span) (n : Nat) : spansIn (l ++ [s]) n = (spansIn l n || (decide (s.lo ≤ (n : Int)) && decide ((n : Int) < s.hi))) := by simp [spansIn]
structure MakeInv (p : Nat → Bool) (k : Nat) (out : List Span) : Prop where
  ok : spanGo none out = 0
  top : ∀ s ∈ out, s.hi ≤ (k : Int)
  are : ∀ n, spansIn out n = (decide (n < k) && p n)
theorem make_inv (p : Nat → Bool) : ∀ k, k ≤ 32 → MakeInv p k (makeUpto p k)
  | 0, _ => ⟨rfl, by simp [makeUpto], by simp [makeUpto, spansIn]⟩
  | k + 1, hk => by
    obtain ⟨h1, h2, h3⟩ := make_inv p k (by omega)
    cases hp : p k with
    | false =>
      rw [makeUpto_no hp]
      refine ⟨h1, fun s hs => by have := h2 s hs; omega, fun n => ?_⟩
      rw [h3]
      by_cases e : n = k
      · subst e; simp [hp]
      · by_cases h : n < k
        · simp [h, show n < k + 1 by omega]
        · simp [h, show ¬ n < k + 1 by omega]
    | true =>
      have step : ∀ (l : List Span), spanGo none l = 0 → (∀ s ∈ l, s.hi ≤ (k : Int)) → (∀ q, lastHi none l = some q → q < (k : Int)) → (∀ n, spansIn l n = (decide (n < k) && p n)) → MakeInv p (k + 1) (l ++ [⟨k, (k : Int) + 1⟩]) := by
        intro l h1 h2 hq h3
        refine ⟨(spanGo_snoc _ _ _).2 ⟨h1, ⟨by simp only; omega, by simp only; omega, by simp only; omega⟩, hq⟩, fun s hs => ?_, fun n => ?_⟩
        · rcases List.mem_append.1 hs with hs | hs
          · have := h2 s hs; omega
          · rw [List.mem_singleton] at hs; subst hs; simp
        · rw [spansIn_snoc, h3]
          by_cases e : n = k
          · subst e; simp [hp]; omega
          · by_cases h : n < k
            · simp [h, show n < k + 1 by omega, show ¬ ((k : Int) ≤ (n : Int)) by omega]
            · simp [h, show ¬ n < k + 1 by omega]; omega
      rcases List.eq_nil_or_concat (makeUpto p k) with he | ⟨l, z, he⟩
      · rw [makeUpto_first hp he]
        exact step _ h1 h2 (by rw [he]; intro q hq; cases hq) h3
      · rw [List.concat_eq_append] at he
        by_cases hz : z.hi = (k : Int)
        · rw [makeUpto_grow hp he hz]
          rw [he] at h1 h2 h3
          obtain ⟨g1, ⟨g2, g3, g4⟩, g5⟩ := (spanGo_snoc _ _ _).1 h1
          refine ⟨(spanGo_snoc _ _ _).2 ⟨g1, ⟨g2, by simp only; omega, by simp only; omega⟩, g5⟩, fun s hs => ?_, fun n => ?_⟩
          · rcases List.mem_append.1 hs with hs | hs
            · have := h2 s (by simp [hs]); omega
            · rw [List.mem_singleton] at hs; subst hs; simp
          · have := h3 n
            rw [spansIn_snoc] at this ⊢
            by_cases e : n = k
            · subst e
              simp only [hp, Bool.and_true, show n < n + 1 by omega, decide_true]
              simp only [Bool.or_eq_true, Bool.and_eq_true, decide_eq_true_eq]
              exact .inr (by omega)
            · rw [show decide (n < k + 1) = decide (n < k) by by_cases h : n < k <;> simp [h] <;> omega, ← this]
              have e2 : decide ((n : Int) < (k : Int) + 1) = decide ((n : Int) < z.hi) := by rw [decide_eq_decide]; omega
              simp only [e2]
        · rw [makeUpto_more hp he hz]
          refine step _ h1 h2 (fun q hq => ?_) h3
          rw [he, lastHi_snoc] at hq
          cases hq
          have := h2 z (by rw [he]; simp)
          omega
theorem spanGo_room {l : List Span} : spanGo none l = 0 → ∀ q, lastHi none l = some q → 2 * (l.length : Int) - 1 ≤ q ∧ q ≤ 32 := by
  refine snoc_ind (M := fun l => spanGo none l = 0 → ∀ q, lastHi none l = some q → 2 * (l.length : Int) - 1 ≤ q ∧ q ≤ 32) ?_ ?_ l
  · intro _ q hq; cases hq
  · intro l x ih h q hq
    obtain ⟨g1, ⟨g2, g3, g4⟩, g5⟩ := (spanGo_snoc _ _ _).1 h
    rw [lastHi_snoc] at hq
    cases hq
    rw [List.length_append, List.length_singleton]
    cases hl : lastHi none l with
    | none =>
      have : l = [] := by
        rcases List.eq_nil_or_concat l with e | ⟨i, z, e⟩
        · exact e
        · rw [List.concat_eq_append] at e; rw [e, lastHi_snoc] at hl; cases hl
      subst this
      simp; omega
    | some q => have := ih g1 q hl; have := g5 q hl; omega
theorem spanCheck_of {l : List Span} (h : spanGo none l = 0) : spanCheck l = 0 := by
  rcases List.eq_nil_or_concat l with e | ⟨i, z, e⟩
  · subst e; rfl
  · rw [List.concat_eq_append] at e
    have := spanGo_room h z.hi (by rw [e, lastHi_snoc])
    rw [spanCheck_le (by omega), h]
theorem spansMake_check (p : Nat → Bool) : spanCheck (spansMake p) = 0 := spanCheck_of (make_inv p 32 (by omega)).ok
theorem spansMake_in (p : Nat → Bool) {n : Nat} (h : n < 32) : spansIn (spansMake p) n = p n := by rw [spansMake, (make_inv p 32 (by omega)).are]; simp [h]

/-! ### bits -/
theorem spanMask_bit {s : Span} (h : SpanOk s) {n : Nat} (hn : n < 32) : (spanMask s).getLsbD n = (decide (s.lo ≤ (n : Int)) && decide ((n : Int) < s.hi)) := by
  obtain ⟨h1, h2, h3⟩ := h
  obtain ⟨a, ha⟩ := Int.eq_ofNat_of_zero_le h1
  obtain ⟨b, hb⟩ := Int.eq_ofNat_of_zero_le (show 0 ≤ s.hi by omega)
  have e1 : s.lo.toNat = a := by rw [ha]; rfl
  have e2 : s.hi.toNat = b := by rw [hb]; rfl
  rw [spanMask, e1, e2, BitVec.getLsbD_ofNat]
  have e3 : 2 ^ b - 2 ^ a = 2 ^ a * (2 ^ (b - a) - 1) := by
    rw [Nat.mul_sub, ← Nat.pow_add, Nat.mul_one, show a + (b - a) = b by omega]
  rw [e3, Nat.testBit_two_pow_mul, Nat.testBit_two_pow_sub_one]
  simp only [hn, decide_true, Bool.true_and]
  rw [Bool.eq_iff_iff]
  simp only [Bool.and_eq_true, decide_eq_true_eq]
  omega
theorem maskOf_bit {l : List Span} (h : ∀ s ∈ l, SpanOk s) {n : Nat} (hn : n < 32) : (maskOf l).getLsbD n = spansIn l n := by
  revert h
  refine snoc_ind (M := fun l => (∀ s ∈ l, SpanOk s) → (maskOf l).getLsbD n = spansIn l n) ?_ ?_ l
  · intro _; simp [maskOf, spansIn]
  · intro l x ih h
    rw [maskOf_snoc, BitVec.getLsbD_or, ih (fun s hs => h s (by simp [hs])), spansIn_snoc, spanMask_bit (h x (by simp)) hn]
theorem maskOf_make (x : BitVec 32) : maskOf (spansMake fun n => x.getLsbD n) = x := by
  apply BitVec.eq_of_getLsbD_eq
  intro n hn
  rw [maskOf_bit (SpanOk.of (spansMake_check _)) hn, spansMake_in _ hn]
end Go.Rm
