/- What this text holds: plain lemmas on parsing: texts put together and taken apart, nodes that are moved. -/
import Derived.Test.YtpcgfadcojaceaaDoorRmText2
set_option linter.unusedVariables false
set_option linter.unusedSimpArgs false
set_option linter.unusedSectionVars false
namespace Go.Rm

/-- A text that does not begin with a digit. -/
def NoDig (t : List UInt8) : Prop := ∀ x r, t = x :: r → isDig x = false
theorem NoDig.nil : NoDig [] := fun x r h => by cases h
theorem NoDig.cons {x : UInt8} {r : List UInt8} (h : isDig x = false) : NoDig (x :: r) := fun y s e => by cases e; exact h

theorem number_ends {l r : List UInt8} {n : Nat} (h : number l = some (n, r)) : numeral (l.takeWhile isDig) = some n ∧ l.dropWhile isDig = r := by
  unfold number at h
  cases hn : numeral (l.takeWhile isDig) with
  | none => rw [hn] at h; cases h
  | some k => rw [hn] at h; cases h; exact ⟨rfl, rfl⟩
theorem number_of {ds r : List UInt8} {n : Nat} (hd : ∀ x ∈ ds, isDig x = true) (hr : NoDig r) (h : numeral ds = some n) : number (ds ++ r) = some (n, r) := by
  obtain ⟨h1, h2⟩ := takeWhile_stop hd (fun x s e => hr x s e)
  rw [number, h1, h2, h]; rfl
theorem number_parts {l r : List UInt8} {n : Nat} (h : number l = some (n, r)) : ∃ ds, l = ds ++ r ∧ (∀ x ∈ ds, isDig x = true) ∧ NoDig r ∧ numeral ds = some n := by
  obtain ⟨h1, h2⟩ := number_ends h
  refine ⟨l.takeWhile isDig, by rw [← h2, List.takeWhile_append_dropWhile], fun x hx => ?_, fun x s e => ?_, h1⟩
  · exact (List.all_eq_true.1 (List.all_takeWhile (p := isDig) (l := l))) x hx
  · have h3 := List.head?_dropWhile_not (p := isDig) (l := l)
    rw [h2, e] at h3
    simpa using h3
theorem number_more2 {rest r t : List UInt8} {n : Nat} (h : number rest = some (n, r)) (ht : NoDig t) : number (rest ++ t) = some (n, r ++ t) := by
  obtain ⟨ds, rfl, hd, hr, hn⟩ := number_parts h
  rw [List.append_assoc]
  refine number_of hd (fun x s e => ?_) hn
  cases r with
  | nil => exact ht x s e
  | cons y r => have e1 := List.cons.inj e; rw [← e1.1]; exact hr y r rfl
theorem number_less {rest r u : List UInt8} {n : Nat} (h : number (rest ++ u) = some (n, r ++ u)) : number rest = some (n, r) := by
  obtain ⟨ds, e, hd, hr, hn⟩ := number_parts h
  rw [← List.append_assoc] at e
  have e := List.append_cancel_right e
  subst e
  refine number_of hd (fun x s e => ?_) hn
  subst e
  exact hr x (s ++ u) rfl

theorem one_more2 : ∀ (k base : Nat) (rest : List UInt8) (ms : List Node) (r : List UInt8), one k base rest = some (ms, r) → ∀ t, NoDig t → ∀ k', (rest ++ t).length < k' → one k' base (rest ++ t) = some (ms, r ++ t) := by
  intro k
  induction k with
  | zero => intro base rest ms r h; cases h
  | succ k ih =>
    intro base rest ms r h t ht k' hk
    cases k' with
    | zero => omega
    | succ k' =>
      cases rest with
      | nil => cases h
      | cons c rest =>
        simp only [List.cons_append, List.length_cons, List.length_append] at hk
        rw [List.cons_append]
        by_cases h42 : c.toNat = 42
        · rw [one_star h42] at h
          cases h
          exact one_star h42
        by_cases h35 : c.toNat = 35
        · rw [one_tag h35] at h
          cases hn : number rest with
          | none => rw [hn] at h; cases h
          | some p =>
            obtain ⟨n, r1⟩ := p
            rw [hn] at h
            cases h
            rw [one_tag h35, number_more2 hn ht]
        by_cases h91 : c.toNat = 91
        · rw [one_in h91] at h
          cases hn : number rest with
          | none => rw [hn] at h; cases h
          | some p =>
            obtain ⟨a, r1⟩ := p
            rw [hn] at h
            cases r1 with
            | nil => cases h
            | cons x r1 =>
              simp only at h
              split at h
              · rename_i hx
                cases hn2 : number r1 with
                | none => rw [hn2] at h; cases h
                | some q =>
                  obtain ⟨b, r2⟩ := q
                  rw [hn2] at h
                  cases r2 with
                  | nil => cases h
                  | cons y r2 =>
                    simp only at h
                    split at h
                    · rename_i hy
                      cases h
                      exact in_ok h91 (number_more2 hn ht) hx (number_more2 hn2 ht) hy
                    · cases h
              · cases h
        by_cases h33 : c.toNat = 33
        · rw [one_not h33] at h
          cases hn : one k base rest with
          | none => rw [hn] at h; cases h
          | some p =>
            obtain ⟨ns, r1⟩ := p
            rw [hn] at h
            cases h
            rw [one_not h33, ih _ _ _ _ hn t ht k' (by simp only [List.length_append]; omega)]
        by_cases h40 : c.toNat = 40
        · rw [one_two h40] at h
          cases hn : one k base rest with
          | none => rw [hn] at h; cases h
          | some p =>
            obtain ⟨ns, r1⟩ := p
            rw [hn] at h
            cases r1 with
            | nil => cases h
            | cons x r1 =>
              simp only at h
              split at h
              · rename_i hx
                cases hn2 : one k (base + ns.length) r1 with
                | none => rw [hn2] at h; cases h
                | some q =>
                  obtain ⟨ms2, r2⟩ := q
                  rw [hn2] at h
                  cases r2 with
                  | nil => cases h
                  | cons y r2 =>
                    simp only at h
                    split at h
                    · rename_i hy
                      cases h
                      have hs := one_shorter hn
                      simp only [List.length_cons] at hs
                      exact two_ok h40 (ih _ _ _ _ hn t ht k' (by simp only [List.length_append]; omega)) hx (ih _ _ _ _ hn2 t ht k' (by simp only [List.length_append]; omega)) hy
                    · cases h
              · cases h
        simp [one, h42, h35, h91, h33, h40] at h

theorem number_suffix {l r : List UInt8} {n : Nat} (h : number l = some (n, r)) : ∃ p, l = p ++ r := by
  obtain ⟨ds, e, _⟩ := number_parts h; exact ⟨ds, e⟩
/-- What is parsed, taken apart. -/
theorem one_cases {k base : Nat} {l : List UInt8} {ms : List Node} {r : List UInt8} (h : one (k + 1) base l = some (ms, r)) : ∃ c rest, l = c :: rest ∧
    ((c.toNat = 42 ∧ ms = [⟨1, 0, 0⟩] ∧ r = rest) ∨ (c.toNat = 35 ∧ ∃ n : Nat, number rest = some (n, r) ∧ ms = [⟨2, n, 0⟩]) ∨
     (c.toNat = 91 ∧ ∃ (a b : Nat) (x : UInt8) (r1 : List UInt8) (y : UInt8), number rest = some (a, x :: r1) ∧ x.toNat = 44 ∧ number r1 = some (b, y :: r) ∧ y.toNat = 41 ∧ ms = [⟨3, a, b⟩]) ∨
     (c.toNat = 33 ∧ ∃ ns, one k base rest = some (ns, r) ∧ ms = ns ++ [⟨4, (base + ns.length : Nat) - 1, 0⟩]) ∨
     (c.toNat = 40 ∧ ∃ ns x r1 ms2 y, one k base rest = some (ns, x :: r1) ∧ (x.toNat = 124 ∨ x.toNat = 38) ∧ one k (base + ns.length) r1 = some (ms2, y :: r) ∧ y.toNat = 41 ∧
       ms = ns ++ ms2 ++ [⟨if x.toNat = 124 then 6 else 5, (base + ns.length : Nat) - 1, (base + ns.length + ms2.length : Nat) - 1⟩])) := by
  cases l with
  | nil => cases h
  | cons c rest =>
    refine ⟨c, rest, rfl, ?_⟩
    by_cases h42 : c.toNat = 42
    · rw [one_star h42] at h; cases h; exact .inl ⟨h42, rfl, rfl⟩
    by_cases h35 : c.toNat = 35
    · rw [one_tag h35] at h
      cases hn : number rest with
      | none => rw [hn] at h; cases h
      | some p => obtain ⟨n, r1⟩ := p; rw [hn] at h; cases h; exact .inr (.inl ⟨h35, n, rfl, rfl⟩)
    by_cases h91 : c.toNat = 91
    · rw [one_in h91] at h
      cases hn : number rest with
      | none => rw [hn] at h; cases h
      | some p =>
        obtain ⟨a, r1⟩ := p
        rw [hn] at h
        cases r1 with
        | nil => cases h
        | cons x r1 =>
          simp only at h
          split at h
          · rename_i hx
            cases hn2 : number r1 with
            | none => rw [hn2] at h; cases h
            | some q =>
              obtain ⟨b, r2⟩ := q
              rw [hn2] at h
              cases r2 with
              | nil => cases h
              | cons y r2 =>
                simp only at h
                split at h
                · rename_i hy
                  cases h
                  exact .inr (.inr (.inl ⟨h91, a, b, x, r1, y, rfl, hx, hn2, hy, rfl⟩))
                · cases h
          · cases h
    by_cases h33 : c.toNat = 33
    · rw [one_not h33] at h
      cases hn : one k base rest with
      | none => rw [hn] at h; cases h
      | some p => obtain ⟨ns, r1⟩ := p; rw [hn] at h; cases h; exact .inr (.inr (.inr (.inl ⟨h33, ns, rfl, rfl⟩)))
    by_cases h40 : c.toNat = 40
    · rw [one_two h40] at h
      cases hn : one k base rest with
      | none => rw [hn] at h; cases h
      | some p =>
        obtain ⟨ns, r1⟩ := p
        rw [hn] at h
        cases r1 with
        | nil => cases h
        | cons x r1 =>
          simp only at h
          split at h
          · rename_i hx
            cases hn2 : one k (base + ns.length) r1 with
            | none => rw [hn2] at h; cases h
            | some q =>
              obtain ⟨ms2, r2⟩ := q
              rw [hn2] at h
              cases r2 with
              | nil => cases h
              | cons y r2 =>
                simp only at h
                split at h
                · rename_i hy
                  cases h
                  exact .inr (.inr (.inr (.inr ⟨h40, ns, x, r1, ms2, y, rfl, hx, hn2, hy, rfl⟩)))
                · cases h
          · cases h
    simp [one, h42, h35, h91, h33, h40] at h
theorem one_suffix : ∀ (k base : Nat) (l : List UInt8) (ms : List Node) (r : List UInt8), one k base l = some (ms, r) → ∃ p, l = p ++ r
  | 0, _, _, _, _, h => by cases h
  | k + 1, base, l, ms, r, h => by
    obtain ⟨c, rest, rfl, h | h | h | h | h⟩ := one_cases h
    · obtain ⟨_, _, rfl⟩ := h; exact ⟨[c], rfl⟩
    · obtain ⟨_, n, hn, _⟩ := h
      obtain ⟨p, rfl⟩ := number_suffix hn; exact ⟨c :: p, rfl⟩
    · obtain ⟨_, a, b, x, r1, y, hn, _, hn2, _, _⟩ := h
      obtain ⟨p, rfl⟩ := number_suffix hn
      obtain ⟨q, rfl⟩ := number_suffix hn2
      exact ⟨c :: p ++ x :: q ++ [y], by simp⟩
    · obtain ⟨_, ns, hn, _⟩ := h
      obtain ⟨p, rfl⟩ := one_suffix _ _ _ _ _ hn; exact ⟨c :: p, rfl⟩
    · obtain ⟨_, ns, x, r1, ms2, y, hn, _, hn2, _, _⟩ := h
      obtain ⟨p, rfl⟩ := one_suffix _ _ _ _ _ hn
      obtain ⟨q, rfl⟩ := one_suffix _ _ _ _ _ hn2
      exact ⟨c :: p ++ x :: q ++ [y], by simp⟩
theorem one_less : ∀ (k base : Nat) (rest u : List UInt8) (ms : List Node) (r : List UInt8), one k base (rest ++ u) = some (ms, r ++ u) → ∀ k', rest.length < k' → one k' base rest = some (ms, r)
  | 0, _, _, _, _, _, h => by cases h
  | k + 1, base, [], u, ms, r, h => by
    have := one_shorter h
    simp only [List.nil_append, List.length_append] at this; omega
  | k + 1, base, c :: rest, u, ms, r, h => by
    intro k' hk
    cases k' with
    | zero => omega
    | succ k' =>
      simp only [List.length_cons] at hk
      rw [List.cons_append] at h
      obtain ⟨c', rest', e, h | h | h | h | h⟩ := one_cases h
      all_goals (simp only [List.cons.injEq] at e; obtain ⟨rfl, rfl⟩ := e)
      · obtain ⟨hc, rfl, hh⟩ := h
        have := List.append_cancel_right hh
        subst this; exact one_star hc
      · obtain ⟨hc, n, hn, rfl⟩ := h
        rw [one_tag hc, number_less hn]
      · obtain ⟨hc, a, b, x, r1, y, hn, hx, hn2, hy, rfl⟩ := h
        obtain ⟨q, rfl⟩ := number_suffix hn2
        have e1 : q ++ y :: (r ++ u) = (q ++ y :: r) ++ u := by simp
        rw [e1] at hn hn2
        rw [← List.cons_append] at hn hn2
        exact in_ok hc (number_less hn) hx (number_less hn2) hy
      · obtain ⟨hc, ns, hn, rfl⟩ := h
        rw [one_not hc, one_less k base rest u _ _ hn k' (by omega)]
      · obtain ⟨hc, ns, x, r1, ms2, y, hn, hx, hn2, hy, rfl⟩ := h
        obtain ⟨q, rfl⟩ := one_suffix _ _ _ _ _ hn2
        have e1 : q ++ y :: (r ++ u) = (q ++ y :: r) ++ u := by simp
        rw [e1] at hn hn2
        rw [← List.cons_append] at hn hn2
        have h1 := one_less k base rest u _ _ hn k' (by omega)
        have hs := one_shorter h1
        simp only [List.length_cons] at hs
        exact two_ok hc h1 hx (one_less k _ _ u _ _ hn2 k' (by omega)) hy

/-! ### nodes that are moved -/
def shift (d : Nat) (n : Node) : Node := if n.kind = 4 then ⟨4, n.a + d, n.b⟩ else if n.kind = 5 ∨ n.kind = 6 then ⟨n.kind, n.a + d, n.b + d⟩ else n
theorem shift_one {d : Nat} {n : Node} (h : n.kind = 1 ∨ n.kind = 2 ∨ n.kind = 3) : shift d n = n := by
  rw [shift, if_neg (by omega), if_neg (by omega)]
theorem one_shift (d : Nat) : ∀ (k base : Nat) (rest : List UInt8) (ms : List Node) (r : List UInt8), one k base rest = some (ms, r) → one k (d + base) rest = some (ms.map (shift d), r)
  | 0, _, _, _, _, h => by cases h
  | k + 1, base, l, ms, r, h => by
    obtain ⟨c, rest, rfl, h | h | h | h | h⟩ := one_cases h
    · obtain ⟨hc, rfl, rfl⟩ := h
      rw [one_star hc, List.map_singleton, shift_one (.inl rfl)]
    · obtain ⟨hc, n, hn, rfl⟩ := h
      rw [one_tag hc, hn, List.map_singleton, shift_one (.inr (.inl rfl))]
    · obtain ⟨hc, a, b, x, r1, y, hn, hx, hn2, hy, rfl⟩ := h
      rw [in_ok hc hn hx hn2 hy, List.map_singleton, shift_one (.inr (.inr rfl))]
    · obtain ⟨hc, ns, hn, rfl⟩ := h
      rw [one_not hc, one_shift d k base rest _ _ hn]
      simp only [List.map_append, List.map_cons, List.map_nil, shift, if_true, List.length_map, Option.some.injEq, Prod.mk.injEq, List.append_cancel_left_eq, List.cons.injEq, Node.mk.injEq, and_true, true_and]
      omega
    · obtain ⟨hc, ns, x, r1, ms2, y, hn, hx, hn2, hy, rfl⟩ := h
      have h1 := one_shift d k base rest _ _ hn
      have h2 := one_shift d k _ r1 _ _ hn2
      rw [two_ok hc h1 hx (by rw [List.length_map, Nat.add_assoc]; exact h2) hy]
      simp only [List.map_append, List.map_cons, List.map_nil, List.length_map, Option.some.injEq, Prod.mk.injEq, and_true, List.append_cancel_left_eq, List.cons.injEq]
      have hk : (if x.toNat = 124 then (6 : Int) else 5) = 5 ∨ (if x.toNat = 124 then (6 : Int) else 5) = 6 := by split <;> simp
      generalize (if x.toNat = 124 then (6 : Int) else 5) = kd at hk
      rw [shift, if_neg (by simp only; omega), if_pos hk]
      simp only [Node.mk.injEq, true_and, List.cons.injEq, and_true]
      omega
theorem one_base {k base : Nat} {rest : List UInt8} : (one k base rest).isSome = (one k 0 rest).isSome := by
  induction k generalizing base rest with
  | zero => rfl
  | succ k ih =>
    have key : ∀ base, (one (k + 1) base rest).isSome = true → (one (k + 1) 0 rest).isSome = true := by
      intro base h
      obtain ⟨⟨ms, r⟩, h⟩ := Option.isSome_iff_exists.1 h
      have lift : ∀ (b : Nat) (l : List UInt8) (ns : List Node) (r : List UInt8), one k b l = some (ns, r) → ∃ ns', one k 0 l = some (ns', r) ∧ ns = ns'.map (shift b) := by
        intro b l ns r h
        have h1 : (one k 0 l).isSome = true := by rw [← ih (base := b), h]; rfl
        obtain ⟨⟨ns', r'⟩, h1⟩ := Option.isSome_iff_exists.1 h1
        have := one_shift b k 0 l ns' r' h1
        rw [Nat.add_zero, h] at this
        cases this
        exact ⟨ns', h1, rfl⟩
      obtain ⟨c, rest, rfl, h | h | h | h | h⟩ := one_cases h
      · obtain ⟨hc, rfl, rfl⟩ := h; rw [one_star hc]; rfl
      · obtain ⟨hc, n, hn, rfl⟩ := h; rw [one_tag hc, hn]; rfl
      · obtain ⟨hc, a, b, x, r1, y, hn, hx, hn2, hy, rfl⟩ := h; rw [in_ok hc hn hx hn2 hy]; rfl
      · obtain ⟨hc, ns, hn, rfl⟩ := h
        obtain ⟨ns', h1, _⟩ := lift _ _ _ _ hn
        rw [one_not hc, h1]; rfl
      · obtain ⟨hc, ns, x, r1, ms2, y, hn, hx, hn2, hy, rfl⟩ := h
        obtain ⟨ns', h1, _⟩ := lift _ _ _ _ hn
        obtain ⟨ms', h2, _⟩ := lift _ _ _ _ hn2
        have h3 := one_shift ns'.length k 0 r1 _ _ h2
        rw [Nat.add_zero] at h3
        rw [two_ok hc h1 hx (by rw [Nat.zero_add]; exact h3) hy]; rfl
    have key2 : (one (k + 1) 0 rest).isSome = true → (one (k + 1) base rest).isSome = true := by
      intro h
      obtain ⟨⟨ms, r⟩, h⟩ := Option.isSome_iff_exists.1 h
      have h2 : one (k + 1) base rest = some _ := one_shift base _ 0 rest _ _ h
      rw [h2]; rfl
    rw [Bool.eq_iff_iff]; exact ⟨key base, key2⟩
theorem one_unshift {k d : Nat} {l : List UInt8} {ms : List Node} {r : List UInt8} (h : one k d l = some (ms, r)) : ∃ ns, one k 0 l = some (ns, r) ∧ ms = ns.map (shift d) := by
  have h1 : (one k 0 l).isSome = true := by rw [← one_base (base := d), h]; rfl
  obtain ⟨⟨ns, r'⟩, h1⟩ := Option.isSome_iff_exists.1 h1
  have := one_shift d k 0 l ns r' h1
  rw [Nat.add_zero, h] at this
  cases this
  exact ⟨ns, h1, rfl⟩

/-! ### what is wrong with what was parsed -/
/-- A node of a text: its nodes are ahead. -/
def Ref (i : Nat) (n : Node) : Prop :=
  n.kind = 1 ∨ (n.kind = 2 ∧ 0 ≤ n.a) ∨ (n.kind = 3 ∧ 0 ≤ n.a) ∨ (n.kind = 4 ∧ 0 ≤ n.a ∧ n.a < i) ∨ ((n.kind = 5 ∨ n.kind = 6) ∧ 0 ≤ n.a ∧ n.a < i ∧ 0 ≤ n.b ∧ n.b < i)
def leafBad (n : Node) : Prop := (n.kind = 2 ∧ 4 ≤ n.a) ∨ (n.kind = 3 ∧ (32 < n.b ∨ n.b ≤ n.a))
theorem Ref.bad {i : Nat} {n : Node} (h : Ref i n) : nodeBad i n = 0 ↔ ¬ leafBad n := by
  unfold leafBad nodeBad
  rcases h with h | h | h | h | h
  · rw [if_pos h]; simp only [true_iff]; omega
  · rw [if_neg (by omega), if_pos h.1]; split <;> omega
  · rw [if_neg (by omega), if_neg (by omega), if_pos h.1]; split <;> omega
  · rw [if_neg (by omega), if_neg (by omega), if_neg (by omega), if_pos h.1, if_neg (by omega)]; simp only [true_iff]; omega
  · rw [if_neg (by omega), if_neg (by omega), if_neg (by omega), if_neg (by omega), if_pos h.1, if_neg (by omega)]; simp only [true_iff]; omega
theorem Ref.shift {i d : Nat} {n : Node} (h : Ref i n) : Ref (d + i) (shift d n) := by
  rcases h with h | h | h | h | h
  · rw [shift_one (.inl h)]; exact .inl h
  · rw [shift_one (.inr (.inl h.1))]; exact .inr (.inl h)
  · rw [shift_one (.inr (.inr h.1))]; exact .inr (.inr (.inl h))
  · rw [Go.Rm.shift, if_pos h.1]; exact .inr (.inr (.inr (.inl ⟨rfl, by simp only; omega, by simp only; omega⟩)))
  · rw [Go.Rm.shift, if_neg (by omega), if_pos h.1]; exact .inr (.inr (.inr (.inr ⟨h.1, by simp only; omega, by simp only; omega, by simp only; omega, by simp only; omega⟩)))
theorem shift_leaf {d : Nat} {n : Node} : leafBad (shift d n) ↔ leafBad n := by
  unfold leafBad shift
  split
  · simp only; omega
  · split
    · simp only; omega
    · rfl
theorem nodesGo_iff : ∀ (l : List Node) (k : Nat), nodesGo k l = 0 ↔ ∀ i n, l[i]? = some n → nodeBad (k + i) n = 0
  | [], k => by simp [nodesGo]
  | x :: l, k => by
    rw [nodesGo]
    constructor
    · intro h i n hn
      split at h
      · rename_i hx
        cases i with
        | zero => simp only [List.getElem?_cons_zero, Option.some.injEq] at hn; subst hn; exact hx
        | succ i =>
          rw [List.getElem?_cons_succ] at hn
          have := (nodesGo_iff l (k + 1)).1 h i n hn
          rwa [show k + (i + 1) = k + 1 + i by omega]
      · rename_i hx; exact absurd h hx
    · intro h
      have h0 : nodeBad k x = 0 := h 0 x rfl
      rw [if_pos h0]
      refine (nodesGo_iff l (k + 1)).2 fun i n hn => ?_
      have := h (i + 1) n (by simpa using hn)
      rwa [show k + (i + 1) = k + 1 + i by omega] at this
def Refs (base : Nat) (l : List Node) : Prop := ∀ i n, l[i]? = some n → Ref (base + i) n
theorem Refs.one {base : Nat} {n : Node} (h : Ref base n) : Refs base [n] := fun i m hm => by
  cases i with
  | zero => simp only [List.getElem?_cons_zero, Option.some.injEq] at hm; subst hm; exact h
  | succ i => simp at hm
theorem Refs.append {base : Nat} {l m : List Node} (h : Refs base l) (h' : Refs (base + l.length) m) : Refs base (l ++ m) := fun i n hn => by
  rcases Nat.lt_or_ge i l.length with hi | hi
  · rw [List.getElem?_append_left hi] at hn; exact h i n hn
  · rw [List.getElem?_append_right hi] at hn
    have := h' _ n hn
    rwa [show base + l.length + (i - l.length) = base + i by omega] at this
theorem Refs.check {l : List Node} (h : Refs 0 l) (h0 : l ≠ []) : nodesCheck l = 0 ↔ l.length ≤ 30 ∧ ∀ n ∈ l, ¬ leafBad n := by
  have hl : 0 < l.length := List.length_pos_iff.2 h0
  unfold nodesCheck
  constructor
  · intro hc
    split at hc
    · cases hc
    · refine ⟨by omega, fun n hn => ?_⟩
      obtain ⟨i, hi⟩ := List.mem_iff_getElem?.1 hn
      exact (h i n hi).bad.1 ((nodesGo_iff l 0).1 hc i n hi)
  · rintro ⟨h1, h2⟩
    rw [if_neg (by omega)]
    exact (nodesGo_iff l 0).2 fun i n hi => (h i n hi).bad.2 (h2 n (List.mem_of_getElem? hi))
theorem one_refs : ∀ (k base : Nat) (l : List UInt8) (ms : List Node) (r : List UInt8), one k base l = some (ms, r) → ms ≠ [] ∧ Refs base ms
  | 0, _, _, _, _, h => by cases h
  | k + 1, base, l, ms, r, h => by
    obtain ⟨c, rest, rfl, h | h | h | h | h⟩ := one_cases h
    · obtain ⟨_, rfl, _⟩ := h; exact ⟨by simp, .one (.inl rfl)⟩
    · obtain ⟨_, n, _, rfl⟩ := h; exact ⟨by simp, .one (.inr (.inl ⟨rfl, by simp only; omega⟩))⟩
    · obtain ⟨_, a, b, x, r1, y, _, _, _, _, rfl⟩ := h; exact ⟨by simp, .one (.inr (.inr (.inl ⟨rfl, by simp only; omega⟩)))⟩
    · obtain ⟨_, ns, hn, rfl⟩ := h
      obtain ⟨h0, h1⟩ := one_refs _ _ _ _ _ hn
      have := List.length_pos_iff.2 h0
      exact ⟨by simp, h1.append (.one (.inr (.inr (.inr (.inl ⟨rfl, by simp only; omega, by simp only; omega⟩)))))⟩
    · obtain ⟨_, ns, x, r1, ms2, y, hn, _, hn2, _, rfl⟩ := h
      obtain ⟨h0, h1⟩ := one_refs _ _ _ _ _ hn
      obtain ⟨h2, h3⟩ := one_refs _ _ _ _ _ hn2
      have := List.length_pos_iff.2 h0
      have := List.length_pos_iff.2 h2
      refine ⟨by simp, (h1.append h3).append (.one (.inr (.inr (.inr (.inr ⟨by simp only; split <;> simp, ?_, ?_, ?_, ?_⟩)))))⟩ <;> simp only [List.length_append] <;> omega

/-- A text that is read. -/
theorem readText_iff {s : ByteArray} {ns : List Node} : readText s = (0, ns) ↔ s.size ≤ 400 ∧ one (s.size + 1) 0 s.data.toList = some (ns, []) ∧ ns.length ≤ 30 ∧ ∀ n ∈ ns, ¬ leafBad n := by
  constructor
  · intro h
    by_cases hl : 400 < s.size
    · rw [readText_long hl] at h; cases h
    · cases h1 : one (s.size + 1) 0 s.data.toList with
      | none => rw [readText_none (by omega) h1] at h; cases h
      | some p =>
        obtain ⟨ms, r⟩ := p
        cases r with
        | cons x r => rw [readText_more (by omega) h1 (by simp)] at h; cases h
        | nil =>
          rw [readText_ok (by omega) h1] at h
          obtain ⟨h2, h3⟩ := one_refs _ _ _ _ _ h1
          split at h
          · rename_i hc
            cases h
            exact ⟨by omega, rfl, (h3.check h2).1 hc⟩
          · rename_i hc; simp only [Prod.mk.injEq] at h; exact absurd h.1 hc
  · rintro ⟨hl, h1, h2⟩
    obtain ⟨h3, h4⟩ := one_refs _ _ _ _ _ h1
    rw [readText_ok hl h1, if_pos ((h4.check h3).2 h2)]
theorem readText_zero {s : ByteArray} (h : (readText s).1 = 0) : readText s = (0, (readText s).2) := by rw [← h]
end Go.Rm
