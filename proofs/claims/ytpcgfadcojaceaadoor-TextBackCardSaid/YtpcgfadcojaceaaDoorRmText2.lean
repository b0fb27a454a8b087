/- What this text holds: the plain law of TextFront: no text of a formula begins another one. -/
import Derived.Test.YtpcgfadcojaceaaDoorRmText1
set_option linter.unusedVariables false
set_option linter.unusedSimpArgs false
set_option linter.unusedSectionVars false
namespace Go.Rm

theorem number_more {rest r t : List UInt8} {n : Nat} (h : number rest = some (n, r)) (ht : t ≠ []) :
    number (rest ++ t) = some (n, r ++ t) ∨ (r = [] ∧ (number (rest ++ t) = none ∨ ∃ m r', number (rest ++ t) = some (m, r') ∧ 4 ≤ m)) := by
  have hsplit : rest.takeWhile isDig ++ rest.dropWhile isDig = rest := List.takeWhile_append_dropWhile
  have hd : ∀ x ∈ rest.takeWhile isDig, isDig x = true := fun x hx => by
    have := List.all_takeWhile (p := isDig) (l := rest)
    exact (List.all_eq_true.1 this) x hx
  unfold number at h
  cases hn : numeral (rest.takeWhile isDig) with
  | none => rw [hn] at h; cases h
  | some k =>
    rw [hn] at h
    simp only [Option.map_some, Option.some.injEq, Prod.mk.injEq] at h
    obtain ⟨rfl, hr⟩ := h
    generalize hds : rest.takeWhile isDig = ds at hsplit hd hn
    rw [hr] at hsplit
    cases r with
    | cons x r2 =>
      have hx : isDig x = false := by
        have h1 := List.head?_dropWhile_not (p := isDig) (l := rest)
        rw [hr] at h1
        simpa using h1
      have h2 := takeWhile_stop (ds := ds) (rq := (x :: r2) ++ t) hd (by intro y rr hy; cases hy; exact hx)
      rw [← List.append_assoc, hsplit] at h2
      exact .inl (by rw [number, h2.1, h2.2, hn]; rfl)
    | nil =>
      rw [List.append_nil] at hsplit
      subst hsplit
      cases t with
      | nil => exact absurd rfl ht
      | cons y t2 =>
        cases hy : isDig y with
        | false =>
          have h2 := takeWhile_stop (ds := ds) (rq := y :: t2) hd (by intro z rr hz; cases hz; exact hy)
          exact .inl (by rw [number, h2.1, h2.2, hn]; rfl)
        | true =>
          have h3 : (ds ++ y :: t2).takeWhile isDig = ds ++ y :: t2.takeWhile isDig := by
            rw [List.takeWhile_append_of_pos hd, List.takeWhile_cons, if_pos hy]
          refine .inr ⟨rfl, ?_⟩
          rw [number, h3]
          cases ds with
          | nil => cases hn
          | cons a ds =>
            cases hds2 : ds ++ y :: t2.takeWhile isDig with
            | nil => simp at hds2
            | cons b l =>
              cases l with
              | nil =>
                rw [show a :: ds ++ y :: t2.takeWhile isDig = [a, b] by rw [List.cons_append, hds2]]
                by_cases ha : a.toNat = 48
                · exact .inl (by simp [numeral, ha])
                · refine .inr ⟨_, _, by simp only [numeral, if_neg ha, Option.map_some]; rfl, ?_⟩
                  have := hd a (by simp)
                  simp only [isDig, Bool.and_eq_true, decide_eq_true_eq] at this
                  omega
              | cons c l => exact .inl (by rw [show a :: ds ++ y :: t2.takeWhile isDig = a :: b :: c :: l by rw [List.cons_append, hds2]]; simp [numeral])

/-- A node that formula.Check never takes. -/
def Wild (n : Node) : Prop := n.kind = 2 ∧ 4 ≤ n.a
theorem nodesGo_wild {l : List Node} : ∀ (i : Nat), (∃ n ∈ l, Wild n) → nodesGo i l ≠ 0 := by
  induction l with
  | nil => rintro i ⟨n, h, _⟩; simp at h
  | cons x l ih =>
    rintro i ⟨n, h, hw⟩
    rw [nodesGo]
    split
    · rename_i h0
      rcases List.mem_cons.1 h with rfl | h
      · exfalso
        rw [nodeBad, if_neg (by rw [hw.1]; decide), if_pos hw.1, if_pos (.inr hw.2)] at h0
        cases h0
      · exact ih _ ⟨n, h, hw⟩
    · assumption
theorem nodesCheck_wild {l : List Node} (h : ∃ n ∈ l, Wild n) : nodesCheck l ≠ 0 := by
  rw [nodesCheck]
  split
  · decide
  · exact nodesGo_wild 0 h

theorem number_shorter {l r : List UInt8} {n : Nat} (h : number l = some (n, r)) : r.length ≤ l.length := by
  unfold number at h
  cases hn : numeral (l.takeWhile isDig) with
  | none => rw [hn] at h; cases h
  | some k =>
    rw [hn] at h
    cases h
    exact (List.dropWhile_sublist _).length_le
theorem one_shorter {k base : Nat} {rest : List UInt8} {ms : List Node} {r : List UInt8} (h : one k base rest = some (ms, r)) : r.length < rest.length := by
  induction k generalizing base rest ms r with
  | zero => cases h
  | succ k ih =>
    cases rest with
    | nil => cases h
    | cons c rest =>
      simp only [one] at h
      simp only [List.length_cons]
      repeat' split at h
      all_goals first
        | (cases h; done)
        | (cases h; omega)
        | skip
      all_goals (try cases h)
      all_goals (try (have e1 := number_shorter ‹number rest = _›; try simp only [List.length_cons] at e1))
      all_goals (try (have e2 := number_shorter ‹_›; try simp only [List.length_cons] at e2))
      all_goals (try (have e1 := ih ‹one k base rest = _›; try simp only [List.length_cons] at e1))
      all_goals (try (have e2 := ih ‹one k (base + _) _ = _›; try simp only [List.length_cons] at e2))
      all_goals (first | omega | skip)

theorem one_more : ∀ (k base : Nat) (rest : List UInt8) (ms : List Node) (r : List UInt8), one k base rest = some (ms, r) → ∀ t, t ≠ [] → ∀ k', (rest ++ t).length < k' →
    one k' base (rest ++ t) = some (ms, r ++ t) ∨ (r = [] ∧ (one k' base (rest ++ t) = none ∨ ∃ ms' r', one k' base (rest ++ t) = some (ms', r') ∧ ∃ n ∈ ms', Wild n)) := by
  intro k
  induction k with
  | zero => intro base rest ms r h; cases h
  | succ k ih =>
    intro base rest ms r h t ht k' hk
    cases k' with
    | zero => omega
    | succ k' =>
      cases rest with
      | nil => cases h
      | cons c rest =>
        simp only [List.cons_append, List.length_cons, List.length_append] at hk
        rw [List.cons_append]
        by_cases h42 : c.toNat = 42
        · rw [one_star h42] at h
          cases h
          exact .inl (one_star h42)
        by_cases h35 : c.toNat = 35
        · rw [one_tag h35] at h
          cases hn : number rest with
          | none => rw [hn] at h; cases h
          | some p =>
            obtain ⟨n, r1⟩ := p
            rw [hn] at h
            cases h
            rcases number_more hn ht with h1 | ⟨rfl, h1 | ⟨m, r', h1, hm⟩⟩
            · exact .inl (by rw [one_tag h35, h1])
            · exact .inr ⟨rfl, .inl (by rw [one_tag h35, h1])⟩
            · exact .inr ⟨rfl, .inr ⟨_, _, by rw [one_tag h35, h1], ⟨2, m, 0⟩, by simp, rfl, by simp only; omega⟩⟩
        by_cases h91 : c.toNat = 91
        · rw [one_in h91] at h
          cases hn : number rest with
          | none => rw [hn] at h; cases h
          | some p =>
            obtain ⟨a, r1⟩ := p
            rw [hn] at h
            cases r1 with
            | nil => cases h
            | cons x r1 =>
              simp only at h
              split at h
              · rename_i hx
                cases hn2 : number r1 with
                | none => rw [hn2] at h; cases h
                | some q =>
                  obtain ⟨b, r2⟩ := q
                  rw [hn2] at h
                  cases r2 with
                  | nil => cases h
                  | cons y r2 =>
                    simp only at h
                    split at h
                    · rename_i hy
                      cases h
                      rcases number_more hn ht with h1 | ⟨h1, _⟩
                      · rcases number_more hn2 ht with h2 | ⟨h2, _⟩
                        · exact .inl (in_ok h91 h1 hx h2 hy)
                        · cases h2
                      · cases h1
                    · cases h
              · cases h
        by_cases h33 : c.toNat = 33
        · rw [one_not h33] at h
          cases hn : one k base rest with
          | none => rw [hn] at h; cases h
          | some p =>
            obtain ⟨ns, r1⟩ := p
            rw [hn] at h
            cases h
            rcases ih _ _ _ _ hn t ht k' (by simp only [List.length_append]; omega) with h1 | ⟨rfl, h1 | ⟨ms', r', h1, w, hw, hw2⟩⟩
            · exact .inl (by rw [one_not h33, h1])
            · exact .inr ⟨rfl, .inl (by rw [one_not h33, h1])⟩
            · exact .inr ⟨rfl, .inr ⟨_, _, by rw [one_not h33, h1], w, by simp [hw], hw2⟩⟩
        by_cases h40 : c.toNat = 40
        · rw [one_two h40] at h
          cases hn : one k base rest with
          | none => rw [hn] at h; cases h
          | some p =>
            obtain ⟨ns, r1⟩ := p
            rw [hn] at h
            cases r1 with
            | nil => cases h
            | cons x r1 =>
              simp only at h
              split at h
              · rename_i hx
                cases hn2 : one k (base + ns.length) r1 with
                | none => rw [hn2] at h; cases h
                | some q =>
                  obtain ⟨ms2, r2⟩ := q
                  rw [hn2] at h
                  cases r2 with
                  | nil => cases h
                  | cons y r2 =>
                    simp only at h
                    split at h
                    · rename_i hy
                      cases h
                      rcases ih _ _ _ _ hn t ht k' (by simp only [List.length_append]; omega) with h1 | ⟨h1, _⟩
                      · have hs := one_shorter hn
                        simp only [List.length_cons] at hs
                        rcases ih _ _ _ _ hn2 t ht k' (by simp only [List.length_append]; omega) with h2 | ⟨h2, _⟩
                        · exact .inl (two_ok h40 h1 hx h2 hy)
                        · cases h2
                      · cases h1
                    · cases h
              · cases h
        simp [one, h42, h35, h91, h33, h40] at h

theorem readText_front {s t : ByteArray} (h : (readText s).1 = 0) (ht : t.size ≠ 0) : (readText (s ++ t)).1 ≠ 0 := by
  have htl : t.data.toList ≠ [] := fun e => ht (by have : t.data.toList.length = t.size := rfl; rw [← this, e]; rfl)
  by_cases hlong : 400 < s.size
  · rw [readText_long hlong] at h; cases h
  by_cases hl2 : 400 < (s ++ t).size
  · rw [readText_long hl2]; decide
  have hs := ByteArray.size_append (a := s) (b := t)
  cases h1 : one (s.size + 1) 0 s.data.toList with
  | none => rw [readText_none (by omega) h1] at h; cases h
  | some p =>
    obtain ⟨ns, r⟩ := p
    cases r with
    | cons x r => rw [readText_more (by omega) h1 (by simp)] at h; cases h
    | nil =>
      have hlen : s.data.toList.length = s.size := rfl
      have hlent : t.data.toList.length = t.size := rfl
      have hdata : (s ++ t).data.toList = s.data.toList ++ t.data.toList := by simp [ByteArray.data_append]
      rcases one_more _ _ _ _ _ h1 t.data.toList htl ((s ++ t).size + 1) (by simp only [List.length_append]; omega) with h2 | ⟨_, h2 | ⟨ms', r', h2, hw⟩⟩
      · rw [← hdata] at h2
        rw [readText_more (by omega) h2 (by simpa using htl)]; decide
      · rw [← hdata] at h2
        rw [readText_none (by omega) h2]; decide
      · rw [← hdata] at h2
        cases r' with
        | cons x r' => rw [readText_more (by omega) h2 (by simp)]; decide
        | nil =>
          have := nodesCheck_wild hw
          rw [readText_ok (by omega) h2, if_neg this]; exact this
theorem readText_err {s : ByteArray} (h : (readText s).1 ≠ 0) : (readText s).2 = [] := by
  unfold readText at h ⊢
  split
  · rfl
  · rename_i hl
    rw [if_neg hl] at h
    split
    · rename_i h2
      rw [h2] at h
      split
      · rename_i h0; simp only [if_pos h0] at h; exact absurd rfl h
      · rfl
    · rfl
end Go.Rm
